/- The text of marks by the program. -/
import Derived.Test.YtjhlcgjhdiheaaaDoorTs
namespace Go.Proofs.YtjhlcgjhdiheaaaDoor
open Go.RowKit
set_option linter.unusedVariables false
set_option linter.unusedSimpArgs false

theorem lens_le (N : Nat) : ∀ xs : List (List UInt8), (∀ x ∈ xs, x.length ≤ N) → Lib.lens xs ≤ N * xs.length
  | [], _ => by simp [Lib.lens]
  | x :: xs, h => by
    have h1 := lens_le N xs fun y hy => h y (by simp [hy])
    have h2 := h x (by simp)
    unfold Lib.lens at *
    rw [List.map_cons, List.sum_cons, List.length_cons, Nat.mul_succ]
    omega
theorem join_len (N c : Nat) (b : UInt8) (xs : List (List UInt8)) (h : ∀ x ∈ xs, x.length ≤ N) (hc : xs.length ≤ c) : (Lib.join xs [b]).length ≤ (N + 1) * c := by
  have h1 := lens_le N xs h
  cases xs with
  | nil => rw [Lib.join_nil]; exact Nat.zero_le _
  | cons x r =>
    have h3 : Lib.lens (x :: r) = x.length + Lib.lens r := by simp [Lib.lens]
    have h4 : (x :: r).length = r.length + 1 := rfl
    have h2 : N * (x :: r).length ≤ N * c := Nat.mul_le_mul_left N hc
    have h5 : ([b] : List UInt8).length * r.length = r.length := by rw [show ([b] : List UInt8).length = 1 from rfl, Nat.one_mul]
    rw [Lib.join_cons, List.length_append, Lib.joinTail_length, h5, Nat.add_mul, Nat.one_mul]
    omega
theorem join_is (A : Option Addr) (n c : Nat) (xs : List ByteArray) (sep : ByteArray) (w : World) (h : Strs w A n xs) (hn : n ≤ 1000) (hnc : n ≤ c) (hlen : (Lib.join (xs.map (·.data.toList)) sep.data.toList).length ≤ 140737488355328) (J : ByteArray) (hJ : bOf (Lib.join (xs.map (·.data.toList)) sep.data.toList) = J) :
    Calls Tryd.prog 20 #[.slice A n c, .string sep] w fun e w' => e = .returned (.string J) ∧ Below w.heap.size w w' := by
  subst hJ
  exact join_any A n c xs sep w h hn hnc hlen
theorem itoa_any (n : Nat) (w : World) (h : n < 100) : Calls Tryd.prog 19 #[.int .i64 n] w fun e w' => e = .returned (.string (decB n)) ∧ ∃ q os', w' = Go.Sort.grow (w.drewN q) os' := by
  refine (strconv_Itoa_small n h w).mono ?_
  rintro e w' ⟨rfl, rfl⟩
  exact ⟨rfl, 0, #[], by simp [Go.Sort.grow, World.drewN]⟩
/-- the texts of marks -/
def txts (ms : List M) : List ByteArray := ms.map fun m => bOf (Mk.textOne m)
theorem txts_go {ms : List M} {m : M} {k : Nat} (hm : ms[k]? = some m) : txts (ms.take (k + 1)) = txts (ms.take k) ++ [bOf (Mk.textOne m)] := by
  unfold txts
  rw [take_snoc hm, List.map_append]; rfl
theorem txts_all (ms : List M) : bOf (Lib.join ((txts ms).map (·.data.toList)) (⟨#[32]⟩ : ByteArray).data.toList) = bOf (Mk.textAll ms) := by
  unfold txts Mk.textAll
  rw [List.map_map]
  rfl
theorem decDigits_len {n : Nat} (h : n < 100) : (Lib.decDigits n).length ≤ 2 := by
  have := decB_size h
  rw [decB, bOf_size] at this
  exact this
theorem textOne_len {ws : List ByteArray} {ms : List M} (hv : valid ws ms = true) {m : M} (hm : m ∈ ms) : (Mk.textOne m).length ≤ 300 := by
  obtain ⟨f1, f2, f3, f4, f5, f6, f7, f8⟩ := fit_of hv hm
  have h1 := decDigits_len (n := m.at_.toNat) (by omega)
  have h2 := decDigits_len (n := m.cut.toNat) (by omega)
  have h3 := join_len 12 20 44 (m.put.map (·.data.toList)) (fun x hx => by
    obtain ⟨y, hy, rfl⟩ := List.mem_map.1 hx
    exact word_size (word_ok hv hm hy)) (by rw [List.length_map]; omega)
  unfold Mk.textOne
  simp only [List.length_append, List.length_cons, List.length_nil]
  omega

set_option maxRecDepth 4000 in
set_option maxHeartbeats 4000000 in
theorem itext_any (A B : Option Addr) (n c m d : Nat) (ws : List ByteArray) (ms : List M) (w : World) (h : PutIn w A n c ws) (k : Mrks w B m ms) (hm : m ≤ 9223372036854775807) :
    Calls Tryd.prog 6 #[.slice A n c, .slice B m d] w fun e w' => e = .returned (.string (textI ws ms)) ∧ Below w.heap.size w w' := by
  have hlen := Lib.hid k.len
  cases hv : valid ws ms with
  | false =>
    have hr := Lib.hid (textI_no hv)
    have hV := Lib.hid hv
    clear hv
    go_enter Tryd.func6, Tryd.ntmps6
    go_wp2_with fail
    refine (ivalid_is A B n c m d ws ms _ h k hm hV.out).mono ?_
    rintro e W ⟨rfl, hb⟩
    go_wp2_with fail
    go_ret
    exact ⟨ret_str hr.out.symm, hb⟩
  | true =>
    have hr := Lib.hid (textI_yes hv)
    have hV := Lib.hid hv
    have hm20 : m ≤ 20 := by rw [← hlen.out]; exact (valid_bound hv).1
    have hWS := Lib.hid (fun (x : M) (hx : x ∈ ms) (y : ByteArray) (hy : y ∈ x.put) => word_size (word_ok hv hx hy))
    have hTL := Lib.hid (fun (x : M) (hx : x ∈ ms) => textOne_len hv hx)
    clear hv
    go_enter Tryd.func6, Tryd.ntmps6
    go_wp2_with fail
    refine (ivalid_is A B n c m d ws ms _ h k hm hV.out).mono ?_
    rintro e W0 ⟨rfl, hb0⟩
    have hE := own_emptyS W0 W0.heap.size (Nat.le_refl _)
    have hb1 : Below w.heap.size w (W0.alloc (.cells #[] 9)) := hb0.alloc hb0.size _
    have hs0 := hb0.size
    have hsz : (W0.alloc (.cells #[] 9)).heap.size = W0.heap.size + 1 := by simp
    have HE := Lib.hid (hE.wide (lo' := w.heap.size) hs0 (Nat.le_refl _) (Nat.le_of_eq hsz.symm))
    have HB1 := Lib.hid hb1
    clear hE hb1 hsz hb0
    go_wp2_with fail
    go_loopw [5, 16] (fun tv iv wr => ∃ (j : Nat) (A' : Option Addr) (c' hi : Nat), j ≤ m ∧ iv = .int .i64 j ∧ tv = .slice A' j c' ∧ OwnS wr w.heap.size hi A' j c' (txts (ms.take j)) ∧ w.heap.size ≤ hi ∧ Below w.heap.size w wr) (fun _ iv _ => m - (intOf iv).toNat)
    case atStart => exact ⟨0, _, _, _, Nat.zero_le _, rfl, rfl, HE.out, by omega, HB1.out⟩
    case round =>
      clear HE HB1
      obtain ⟨j, A2, c2, hi, hj, rfl, rfl, ho, hhi, hbel⟩ := hrel
      have HO := Lib.hid ho
      clear ho
      by_cases hlt : j < m
      · obtain ⟨b, off, x, rfl, hx, x1, x2, d0, d1, A', n', c', d2, hp⟩ := k.at_ hlt
        obtain ⟨f1, f2, f3, f4, f5, f6, f7, f8⟩ := fit_of hV.out (mem_at hx)
        have hW := Lib.hid (hWS.out x (mem_at hx))
        have hTX := Lib.hid (hTL.out x (mem_at hx))
        have hpl := hp.len
        have HPL := Lib.hid hpl
        have hn2 : n' ≤ 20 := by omega
        obtain ⟨q, hq⟩ := Int.eq_ofNat_of_zero_le f1
        obtain ⟨r, hr'⟩ := Int.eq_ofNat_of_zero_le f3
        have q20 : q ≤ 20 := by omega
        have r20 : r ≤ 20 := by omega
        have hG := Lib.hid (txts_go hx)
        have hT : Hid (Mk.textOne x = Lib.decDigits q ++ [45] ++ Lib.decDigits r ++ [43] ++ Lib.join (x.put.map (·.data.toList)) [44]) := Lib.hid (by unfold Mk.textOne; rw [hq, hr']; rfl)
        rw [hq] at d0
        rw [hr'] at d1
        have e0 := (hbel.cell (lt_of_cell d0)).trans d0
        have e1 := (hbel.cell (lt_of_cell d1)).trans d1
        have e2 := (hbel.cell (lt_of_cell d2)).trans d2
        have HP := Lib.hid (hp.below hbel)
        have j1 : (0 : Int) ≤ (j : Int) := by omega
        have j2 : (j : Int) < (m : Int) := by omega
        have sz1 := decB_size (n := q) (by omega)
        have sz2 := decB_size (n := r) (by omega)
        have hJL := Lib.hid (join_len 12 20 44 (x.put.map (·.data.toList)) (fun z hz => by
          obtain ⟨y, hy, rfl⟩ := List.mem_map.1 hz
          exact hW.out y hy) (by rw [List.length_map]; omega))
        clear hx x1 x2 d0 d1 d2 hp f1 f2 f3 f4 f5 f6 f7 f8 hpl hq hr'
        have hXB := Lib.hid (Blk.new wr 46 #[.int .i64 (q : Int), .int .i64 (r : Int), .slice A' n' c'])
        have bB : Below wr.heap.size wr (wr.alloc (.cells #[.int .i64 (q : Int), .int .i64 (r : Int), .slice A' n' c'] 46)) := (Below.refl _ _).alloc (Nat.le_refl _) _
        go_wp2_with fail
        have X0 : ∀ q' os, (Go.Sort.grow ((wr.alloc (.cells #[.int .i64 (q : Int), .int .i64 (r : Int), .slice A' n' c'] 46)).drewN q') os).cell? ⟨wr.heap.size, 0, none⟩ = some (.int .i64 (q : Int)) := cell_grown hXB.out.lt (hXB.out.cell 0)
        have X1 : ∀ q' os, (Go.Sort.grow ((wr.alloc (.cells #[.int .i64 (q : Int), .int .i64 (r : Int), .slice A' n' c'] 46)).drewN q') os).cell? ⟨wr.heap.size, 1, none⟩ = some (.int .i64 (r : Int)) := cell_grown hXB.out.lt (hXB.out.cell 1)
        have X2 : ∀ q' os, (Go.Sort.grow ((wr.alloc (.cells #[.int .i64 (q : Int), .int .i64 (r : Int), .slice A' n' c'] 46)).drewN q') os).cell? ⟨wr.heap.size, 2, none⟩ = some (.slice A' n' c') := cell_grown hXB.out.lt (hXB.out.cell 2)
        have HBQ := Lib.hid (fun q' os => below_grow bB bB.size q' os)
        have hmix := mixed
        have n2 : ¬ 9223372036854775807 < (decB q).size + 1 := by omega
        have n3 : ¬ 9223372036854775807 < (decB q).size + 1 + (decB r).size := by omega
        clear bB hXB e0 e1 e2
        generalize wr.alloc (.cells #[.int .i64 (q : Int), .int .i64 (r : Int), .slice A' n' c'] 46) = Wb at *
        refine wp_region_quiet_grown (by assumption) (by kernel_rfl) ?_
        repeat (go_big_quiet_step (first | (go_at_call 19; refine Calls.grown_of (itoa_any _ _ (by omega)))))
        refine wpQuiet_nil ?_
        intro _ hw'
        obtain ⟨⟨nq, osq⟩, hw9⟩ := hw'
        subst hw9
        have e2 := X2 nq osq
        have bW := HBQ.out nq osq
        clear X0 X1 X2 HBQ
        generalize Go.Sort.grow (Wb.drewN nq) osq = WW at *
        have hbW := hbel.trans (bW.mono hbel.size)
        have HPW := Lib.hid (HP.out.below bW)
        have HOW := Lib.hid (HO.out.below bW)
        have sWW := hbW.size
        clear hbel bW HP HO
        obtain ⟨J, hJ⟩ : ∃ J, Hid (bOf (Lib.join (x.put.map (·.data.toList)) (⟨#[44]⟩ : ByteArray).data.toList) = J) := ⟨_, Lib.hid rfl⟩
        have hJs : J.size ≤ 260 := by rw [← hJ.out, bOf_size]; exact hJL.out
        have HY : Hid (decB q ++ ⟨#[45]⟩ ++ decB r ++ ⟨#[43]⟩ ++ J = bOf (Mk.textOne x)) := Lib.hid (by rw [hT.out, ← hJ.out]; simp [append_bOf, decB, List.append_assoc])
        have hYs : Sz (decB q ++ ⟨#[45]⟩ ++ decB r ++ ⟨#[43]⟩ ++ J) := by rw [HY.out]; show (bOf (Mk.textOne x)).size ≤ 9223372036854775807; rw [bOf_size]; have := hTX.out; omega
        have hYS := Lib.hid hYs
        have n4 : ¬ 9223372036854775807 < (decB q).size + 1 + (decB r).size + 1 := by omega
        have n5 : ¬ 9223372036854775807 < (decB q).size + 1 + (decB r).size + 1 + J.size := by omega
        clear hYs
        go_wp2_with (first
          | (go_at_call 20; refine (join_is A' n' c' x.put ⟨#[44]⟩ _ HPW.out.1 (by omega) HPW.out.2.1 (Nat.le_trans hJL.out (by omega)) J hJ.out).mono ?_; rintro e W2 ⟨rfl, b2⟩; have s2 := b2.size; have B2 := Lib.hid b2; have HO2 := Lib.hid (HOW.out.below b2); clear b2)
          | (at_builtin; go_must (refine wpList_pushS _ rfl (.tmp 28) (.tmp 35) rfl w.heap.size hi A2 j c2 _ rfl (HO2.out.alloc _) (decB q ++ ⟨#[45]⟩ ++ decB r ++ ⟨#[43]⟩ ++ J) W2.heap.size rfl hYS.out ((Blk.new _ _ _).cell 0) (by omega) (by simp; omega) ?_); intro g5 c5 w5 o5 g6 _; rw [HY.out, ← hG.out] at o5; have O5 := Lib.hid o5; have B5 := Lib.hid (below_cat ((hbW.trans (B2.out.mono sWW)).alloc (by omega) (.cells #[.string (decB q ++ ⟨#[45]⟩ ++ decB r ++ ⟨#[43]⟩ ++ J)] 9)) g6 (fun a ha => (HO2.out.lo_le a ha).1)); clear o5 g6))
        go_roundw
        case rel => exact ⟨j + 1, _, _, _, by omega, by go_num, rfl, O5.out, by have := B5.out.size; omega, B5.out⟩
        case measure => simp [intOf]; omega
      · obtain rfl : j = m := by omega
        have hall : txts (ms.take j) = txts ms := by rw [List.take_of_length_le (by rw [hlen.out]; exact Nat.le_refl _)]
        rw [hall] at HO
        have hjl := join_len 300 20 32 ((txts ms).map (·.data.toList)) (fun z hz => by
          obtain ⟨y, hy, rfl⟩ := List.mem_map.1 hz
          obtain ⟨x, hx, rfl⟩ := List.mem_map.1 hy
          exact hTL.out x hx) (by rw [List.length_map, HO.out.len]; omega)
        have HJL := Lib.hid hjl
        clear hall hjl
        go_wp2_with fail
        refine (join_is A2 j c2 (txts ms) ⟨#[32]⟩ _ HO.out.ints (by omega) HO.out.cap_le (Nat.le_trans HJL.out (by omega)) _ (txts_all ms)).mono ?_
        rintro e W2 ⟨rfl, b2⟩
        have hb := hbel.trans (b2.mono hbel.size)
        go_wp2_with fail
        go_ret
        exact ⟨ret_str hr.out.symm, hb⟩
end Go.Proofs.YtjhlcgjhdiheaaaDoor
