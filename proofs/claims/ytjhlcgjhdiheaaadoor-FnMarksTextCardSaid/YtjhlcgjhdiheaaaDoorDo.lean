/- MarksDo of both programs. -/
import Derived.Test.YtjhlcgjhdiheaaaDoorSize
import Derived.Test.YtjhlcgjhdiheaaaDoorVot
namespace Go.Proofs.YtjhlcgjhdiheaaaDoor
open Go.RowKit
set_option linter.unusedVariables false
set_option linter.unusedSimpArgs false

theorem Strs.cut_if {w : World} {A : Option Addr} {n c p q : Nat} {xs : List ByteArray} (h : Strs w A n xs) (hpq : p ≤ q) (hq : q ≤ n) (hc : n ≤ c) : Strs w (if c = p then A else A.map (·.add p)) (q - p) ((xs.drop p).take (q - p)) := by
  rcases Nat.eq_zero_or_pos (q - p) with h0 | h0
  · rw [h0, List.take_zero]; exact Strs.nil
  · rw [if_neg (by omega)]
    obtain ⟨b, off, e, _⟩ := h.2.2 (by omega)
    subst e
    have := h.cut (i := p) (k := q - p) (by omega)
    rw [show (some (⟨b, off, none⟩ : Addr)).map (·.add p) = some ⟨b, off + p, none⟩ by
      unfold Addr.add
      simp only [Option.map_some]
      split
      · rename_i e; subst e; rfl
      · rfl]
    exact this
theorem cut_none {A : Option Addr} {c p : Nat} (hz : A = none → c = 0) : (if c = p then A else A.map (·.add p)) = none → c - p = 0 := by
  intro h
  split at h
  · omega
  · cases A with
    | none => have := hz rfl; omega
    | some a => cases h
theorem next_at {ws : List ByteArray} {ms : List M} {j : Nat} {x : M} (h : valid ws ms = true) (hx : ms[j]? = some x) : Mk.lastEnd (-1) (ms.take j) < x.at_ := by
  have h3 := (Mk.valid_parts wok h).2.2.1
  have e : ms = ms.take j ++ x :: ms.drop (j + 1) := by rw [← Mk.drop_at hx, List.take_append_drop]
  rw [e, Mk.chk_append, Bool.and_eq_true] at h3
  exact (Mk.chk_cons wok h3.2).2.1
/-- the words behind valid marks, if they are -/
def doF (ws : List ByteArray) (ms : List M) : Option (List ByteArray) := if valid ws ms = true then some (Mk.doM ws 0 ms) else none
theorem doF_no {ws : List ByteArray} {ms : List M} (h : valid ws ms = false) : doF ws ms = none := by unfold doF; rw [h]; rfl
theorem doF_yes {ws : List ByteArray} {ms : List M} (h : valid ws ms = true) : doF ws ms = some (Mk.doM ws 0 ms) := by unfold doF; rw [h]; rfl
/-- where the run through the marks is -/
def AtEnd (ms : List M) (j p : Nat) : Prop := (p : Int) = Mk.lastEnd (-1) (ms.take j) ∨ (p = 0 ∧ j = 0)
theorem AtEnd.next {ws : List ByteArray} {ms : List M} {j p : Nat} {x : M} (h : AtEnd ms j p) (hv : valid ws ms = true) (hx : ms[j]? = some x) : (p : Int) ≤ x.at_ := by
  have h1 := next_at hv hx
  have h2 := fit_of hv (mem_at hx)
  rcases h with h | h
  · omega
  · omega
theorem AtEnd.step {ms : List M} {j p : Nat} {x : M} (hx : ms[j]? = some x) (hp : (p : Int) = x.at_ + x.cut) : AtEnd ms (j + 1) p := .inl (by rw [take_snoc hx, Mk.lastEnd_snoc, hp])

set_option maxHeartbeats 2000000 in
theorem ido_any (A B : Option Addr) (n c m d : Nat) (ws : List ByteArray) (ms : List M) (w : World) (hn : n ≤ 9223372036854775807) (hm : m ≤ 9223372036854775807) (hnc : n ≤ c) (hz : A = none → c = 0) (h : Strs w A n ws) (k : Mrks w B m ms) :
    Calls Tryd.prog 8 #[.slice A n c, .slice B m d] w (ListPost w (doF ws ms)) := by
  have hlen := Lib.hid h.len
  have hlen2 := Lib.hid k.len
  cases hv : valid ws ms with
  | false =>
    have hr := Lib.hid (doF_no hv)
    go_enter Tryd.func8, Tryd.ntmps8
    go_wp2_with fail
    refine (ivalidm_any A B n c m d ws ms _ hn hm h k).mono ?_
    rintro e W ⟨rfl, hb⟩
    rw [hv]
    go_wp2_with fail
    go_ret2
    exact ListPost.nil_ hr.out hb
  | true =>
    have hr := Lib.hid (doF_yes hv)
    have hV := Lib.hid hv
    have hn20 : n ≤ 20 := by rw [← hlen.out]; exact (Mk.speech_parts wok (Mk.valid_parts wok hv).1).1
    have hm20 : m ≤ 20 := by rw [← hlen2.out]; exact (Mk.valid_parts wok hv).2.1
    go_enter Tryd.func8, Tryd.ntmps8
    go_wp2_with fail
    refine (ivalidm_any A B n c m d ws ms _ hn hm h k).mono ?_
    rintro e W ⟨rfl, hb⟩
    rw [hv]
    clear hv
    go_wp2_with fail
    go_loopw [6, 7, 17] (fun v pv i wr => ∃ (j p K : Nat) (A' : Option Addr) (c' : Nat) (done : List ByteArray), j ≤ m ∧ i = .int .i64 j ∧ pv = .int .i64 p ∧ v = .slice A' K c' ∧ p ≤ n ∧ K ≤ 40 * j ∧ OwnS wr w.heap.size wr.heap.size A' K c' done ∧ Hid (Mk.doM ws 0 ms = done ++ Mk.doM ws p (ms.drop j)) ∧ Hid (AtEnd ms j p) ∧ Below w.heap.size w wr) (fun _ _ i _ => m - (intOf i).toNat)
    case atStart => exact ⟨0, 0, 0, some ⟨W.heap.size, 0, none⟩, 0, [], Nat.zero_le _, rfl, rfl, rfl, by omega, by omega, by have := own_emptyS W w.heap.size hb.size; simpa using this.wide (Nat.le_refl _) (Nat.le_refl _) (by simp), Lib.hid (by simp), Lib.hid (.inr ⟨rfl, rfl⟩), hb.alloc hb.size _⟩
    case round =>
      obtain ⟨j, p, K, A', c', done, hj, rfl, rfl, rfl, hp1, hK, ho, hD, hE, hbel⟩ := hrel
      by_cases hlt : j < m
      · obtain ⟨b, off, x, rfl, hx, x1, x2, d0, d1, B', n', c2, d2, hp⟩ := k.at_ hlt
        have hf := fit_of hV.out (mem_at hx)
        obtain ⟨f1, f2, f3, f4, f5, f6, f7, f8⟩ := hf
        have hpx := hE.out.next hV.out hx
        have hpl := hp.len
        have hX := Lib.hid hx
        have hn2 : n' ≤ 20 := by omega
        obtain ⟨q, hq⟩ := Int.eq_ofNat_of_zero_le f1
        obtain ⟨r, hr'⟩ := Int.eq_ofNat_of_zero_le f3
        have q1 : p ≤ q := by omega
        have q2 : q ≤ n := by have := hlen.out; omega
        have q3 : q + r ≤ n := by have := hlen.out; omega
        have hD2 : Hid (Mk.doM ws 0 ms = (done ++ (ws.drop p).take (q - p) ++ x.put) ++ Mk.doM ws (q + r) (ms.drop (j + 1))) := Lib.hid (by
          have := Mk.doM_go hX.out hD.out
          rw [hq, hr'] at this
          simpa only [Int.toNat_natCast] using this)
        have hE2 : Hid (AtEnd ms (j + 1) (q + r)) := Lib.hid (AtEnd.step hX.out (by rw [hq, hr']; simp))
        rw [hq] at d0
        rw [hr'] at d1
        have k0 := (hbel.cell (lt_of_cell d0)).trans d0
        have k1 := (hbel.cell (lt_of_cell d1)).trans d1
        have k2 := (hbel.cell (lt_of_cell d2)).trans d2
        have hbx : Below w.heap.size w (wr.alloc (.cells #[.int .i64 (q : Int), .int .i64 (r : Int), .slice B' n' c2] 46)) := hbel.alloc hbel.size _
        have hkx := Blk.new wr 46 #[.int .i64 (q : Int), .int .i64 (r : Int), .slice B' n' c2]
        have hox := ho.alloc (.cells #[.int .i64 (q : Int), .int .i64 (r : Int), .slice B' n' c2] 46)
        have hlx : wr.heap.size < (wr.alloc (.cells #[.int .i64 (q : Int), .int .i64 (r : Int), .slice B' n' c2] 46)).heap.size := by simp
        have HBX := Lib.hid hbx
        have HKX := Lib.hid hkx
        have HOX := Lib.hid hox
        clear hx hpx hpl hq hr' f1 f2 f3 f4 f5 f6 f7 f8 hD hE hbx hkx hox hlx
        go_wp2_with (first
          | (at_builtin; refine wpList_catS _ rfl (.tmp 21) (.tmp 26) rfl w.heap.size wr.heap.size A' K c' done rfl HOX.out _ _ _ _ rfl ((h.below HBX.out).cut_if q1 q2 hnc) (cut_none hz) (by omega) HBX.out.size ?_; intro A2 c4 w2 o2 g2; have hb2 := below_cat HBX.out g2 (fun a ha => (ho.lo_le a ha).1); have y2 := HKX.out.grown g2 (HOX.out.ne_blk HKX.out (by decide)); have v2 := y2.cell 2)
          | (at_builtin; refine wpList_catS _ rfl (.tmp 28) (.tmp 30) rfl w.heap.size w2.heap.size A2 _ c4 _ rfl o2 B' n' c2 x.put rfl (hp.below hb2).1 hp.2.2.2 (by omega) hb2.size ?_; intro A3 c5 w3 o3 g3; have hb3 := below_cat hb2 g3 (fun a ha => (o2.lo_le a ha).1); have y3 := y2.grown g3 (o2.ne_blk y2 (by decide)); have v0 := y3.cell 0; have v1 := y3.cell 1; have v3 := y3.cell 2))
        all_goals
          (first | subst h | skip)
          refine (end_any ⟨(q : Int), (r : Int), x.put⟩ B' n' c2 _ (by simp) (by simp; omega) (by simp) (by simp; omega)).mono ?_
          rintro e w4 ⟨rfl, rfl⟩
          have hb4 := hb3.alloc hb3.size (.cells #[.int .i64 (q : Int), .int .i64 (r : Int), .slice B' n' c2] 46)
          have o4 := (o3.alloc (.cells #[.int .i64 (q : Int), .int .i64 (r : Int), .slice B' n' c2] 46)).wide (hi' := (w3.alloc (.cells #[.int .i64 (q : Int), .int .i64 (r : Int), .slice B' n' c2] 46)).heap.size) (Nat.le_refl _) (by simp) (Nat.le_refl _)
          clear g2 g3 k0 k1 k2 o2 ho hbel v0 v1 v2 v3 y2 y3
          go_wp2_with fail
          go_roundw
          case rel => first | exact ⟨j + 1, q + r, _, A3, c5, _, by omega, by go_num, by go_num, rfl, q3, by omega, o4, hD2, hE2, hb4⟩ | ((repeat apply Exists.intro); exact ⟨⟨j + 1, q + r, _, A3, c5, _, by omega, by go_num, by go_num, rfl, q3, by omega, o4, hD2, hE2, hb4⟩, rfl⟩)
          case measure => simp [intOf]; omega
      · obtain rfl : j = m := by omega
        have h9 := Mk.doM_end (by rw [hlen2.out]; exact Nat.le_refl _) hD.out
        have H9 := Lib.hid h9
        have hdr : (ws.drop p).take (n - p) = ws.drop p := List.take_of_length_le (by rw [List.length_drop, hlen.out]; exact Nat.le_refl _)
        have hc9 := (h.below hbel).cut_if hp1 (Nat.le_refl _) hnc
        rw [hdr] at hc9
        clear h9 hD hdr
        go_wp2_with (at_builtin; refine wpList_catS _ rfl (.tmp 35) (.tmp 38) rfl w.heap.size wr.heap.size A' K c' done rfl ho _ _ _ _ rfl hc9 (cut_none hz) (by omega) hbel.size ?_; intro A2 c4 w2 o2 g2; have hb2 := below_cat hbel g2 (fun a ha => (ho.lo_le a ha).1))
        all_goals
          rw [← H9.out] at o2
          go_ret2
          exact ListPost.some_ hr.out o2 hb2
end Go.Proofs.YtjhlcgjhdiheaaaDoor

