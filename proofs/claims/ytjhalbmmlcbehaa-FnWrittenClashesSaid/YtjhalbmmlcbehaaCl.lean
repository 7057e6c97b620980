/- Clashes of written forms by the reference. -/
import Derived.Test.YtjhalbmmlcbehaaTx
namespace Go.Proofs.Ytjhalbmmlcbehaa
open Go.RowKit Wr
set_option linter.unusedVariables false
set_option linter.unusedSimpArgs false

theorem outF_some {ss : List Sgn} {s : ByteArray} {l : List Stk} (h : outF ss s = some l) : sysOk ss = true ∧ wok s = true ∧ outOk l = true := by
  unfold outF at h
  split at h
  · rename_i h1
    simp only [Bool.and_eq_true] at h1
    split at h
    · split at h
      · rename_i h2
        injection h with h
        subst h
        exact ⟨h1.1, h1.2, h2⟩
      · cases h
    · cases h
  · cases h
theorem posW_range {s : ByteArray} (h : wok s = true) : 0 ≤ posW s ∧ posW s ≤ 2 := by
  unfold posW
  rw [h, if_pos rfl]
  split
  · omega
  · split
    · omega
    · split <;> omega
theorem formF_none {ss : List Sgn} {s : ByteArray} (h : outF ss s = none) : formF ss s = none := by unfold formF; rw [h]; rfl
theorem formF_some {ss : List Sgn} {s : ByteArray} {l : List Stk} (h : outF ss s = some l) : formF ss s = some (l, posW s) := by unfold formF; rw [h]; rfl
theorem form_eq {ss : List Sgn} {s t : ByteArray} {l m : List Stk} (h : outF ss s = some l) (k : outF ss t = some m) : decide (formF ss t = formF ss s) = decide (formT l (posW s) = formT m (posW t)) := by
  obtain ⟨_, w1, o1⟩ := outF_some h
  obtain ⟨_, w2, o2⟩ := outF_some k
  have p1 := posW_range w1
  have p2 := posW_range w2
  rw [formF_some h, formF_some k]
  refine decide_eq_decide.2 ⟨fun e => ?_, fun e => ?_⟩
  · injection e with e
    injection e with e1 e2
    rw [e1, e2]
  · obtain ⟨e1, e2⟩ := formT_inj o1 o2 p1.1 p1.2 p2.1 p2.2 e
    rw [e1, e2]
theorem writtenT_any {A : Option Addr} {n c : Nat} {ss : List Sgn} {s : ByteArray} {l : List Stk} (w : World) (h : KB w A n l) (ho : outF ss s = some l) :
    Calls Try.prog 31 #[fv A n c (posW s)] w fun e w' => e = .returned (.string (formT l (posW s))) ∧ Below w.heap.size w w' := by
  obtain ⟨_, w1, o1⟩ := outF_some ho
  obtain ⟨p0, p2⟩ := posW_range w1
  obtain ⟨p, hp⟩ := Int.eq_ofNat_of_zero_le p0
  rw [hp]
  exact writtenT_nat A n c l p w h o1 (by omega)
theorem cnt_none {α : Type} [DecidableEq α] (l : List (Option α)) : cnt none l = 0 := rfl
theorem cnt_snoc {α : Type} [DecidableEq α] (y : α) (l : List (Option α)) (z : Option α) : cnt (some y) (l ++ [z]) = cnt (some y) l + if z = some y then 1 else 0 := by
  unfold cnt
  simp only [List.countP_append, List.countP_cons, List.countP_nil, Nat.zero_add]
  simp
theorem cnt_go {α : Type} [DecidableEq α] {F : List (Option α)} {j : Nat} {x y : Option α} {v : α} (hx : x = some v) (hy : F[j]? = some y) : cnt x (F.take (j + 1)) = cnt x (F.take j) + if decide (y = x) = true then 1 else 0 := by
  subst hx
  rw [take_snoc hy, cnt_snoc]
  simp
theorem cnt_le {α : Type} [DecidableEq α] (x : Option α) (l : List (Option α)) : cnt x l ≤ l.length := by
  unfold cnt
  split
  · omega
  · exact List.countP_le_length
theorem dict_len {ws : List ByteArray} (h : dictOk ws = true) : ws.length ≤ 20 := by
  unfold dictOk at h
  simp only [Bool.and_eq_true, decide_eq_true_eq] at h
  exact h.1
theorem clash_no {ss : List Sgn} {ws : List ByteArray} (h : (sysOk ss && dictOk ws) = false) : clashN ss ws = -1 := by unfold clashN; rw [h]; rfl
theorem clash_yes {ss : List Sgn} {ws : List ByteArray} (h : (sysOk ss && dictOk ws) = true) : clashN ss ws = ((pairsF [] (ws.map (formF ss)) : Nat) : Int) := by unfold clashN; rw [h]; rfl
set_option maxRecDepth 8000 in
set_option maxHeartbeats 4000000 in
theorem sboth_any (A B : Option Addr) (n c m d : Nat) (ss : List Sgn) (ws : List ByteArray) (w : World) (h : Sgns w A n ss) (hok : ∀ x ∈ ss, OkG x) (hn : n ≤ 9223372036854775807) (k : Strs w B m ws) (hm : m ≤ 9223372036854775807) :
    Calls Try.prog 30 #[.slice A n c, .slice B m d] w fun e w' => e = .returned (.bool (sysOk ss && dictOk ws)) ∧ Below w.heap.size w w' := by
  go_enter Try.func30, Try.ntmps30
  go_wp2_with fail
  refine (ssys_any A n c ss _ h hok hn).mono ?_
  rintro e w1 ⟨rfl, hb⟩
  have HB1 := Lib.hid hb
  clear hb
  cases hs : sysOk ss with
  | false =>
    have HS := Lib.hid hs
    clear hs
    go_wp2_with fail
    go_ret
    exact ⟨ret_bool (by rw [HS.out]; rfl), HB1.out⟩
  | true =>
    have HS := Lib.hid hs
    clear hs
    go_wp2_with fail
    refine (sdict_any B m d ws _ (k.below HB1.out) hm).mono ?_
    rintro e w2 ⟨rfl, hb⟩
    have HB2 := Lib.hid (HB1.out.trans (hb.mono HB1.out.size))
    clear hb HB1
    go_wp2_with fail
    go_ret
    exact ⟨ret_bool (by rw [HS.out]; rfl), HB2.out⟩
theorem load2b {W : World} {b : Nat} {v0 v1 : Value} (h0 : W.cell? ⟨b, 0, none⟩ = some v0) (h1 : W.cell? ⟨b, 1, none⟩ = some v1) :
    Sem.run Try.prog (loadCellsFrom ⟨b, 0, none⟩ 0 2 #[]) W = .ok #[v0, v1] W := load2 h0 h1
set_option maxRecDepth 8000 in
set_option maxHeartbeats 8000000 in
theorem sclash_any (A B : Option Addr) (n c m d : Nat) (ss : List Sgn) (ws : List ByteArray) (w : World) (h : Sgns w A n ss) (hok : ∀ x ∈ ss, OkG x) (hn : n ≤ 9223372036854775807) (k : Strs w B m ws) (hm : m ≤ 9223372036854775807) :
    Calls Try.prog 8 #[.slice A n c, .slice B m d] w fun e w' => e = .returned (.int .i64 (clashN ss ws)) ∧ Below w.heap.size w w' := by
  have hlen := Lib.hid k.len
  cases hb : (sysOk ss && dictOk ws) with
  | false =>
    have hr := Lib.hid (clash_no hb)
    have HB := Lib.hid hb
    clear hb
    go_enter Try.func8, Try.ntmps8
    go_wp2_with fail
    refine (sboth_any A B n c m d ss ws _ h hok hn k hm).mono ?_
    rw [HB.out]
    rintro e w1 ⟨rfl, hb1⟩
    go_wp2_with fail
    go_ret
    exact ⟨ret_int hr.out.symm, hb1⟩
  | true =>
  have hr := Lib.hid (clash_yes hb)
  have HB := Lib.hid hb
  have hm20 : m ≤ 20 := by
    simp only [Bool.and_eq_true] at hb
    have := dict_len hb.2
    rw [hlen.out] at this
    exact this
  clear hb
  have hfl : Hid ((ws.map (formF ss)).length = m) := Lib.hid (by rw [List.length_map]; exact hlen.out)
  go_enter Try.func8, Try.ntmps8
  go_wp2_with fail
  refine (sboth_any A B n c m d ss ws _ h hok hn k hm).mono ?_
  rw [HB.out]
  rintro e w1 ⟨rfl, hb1⟩
  have HB1 := Lib.hid hb1
  clear hb1
  go_wp2_with fail
  go_loopw [5, 6] (fun nv iv wr => ∃ (i t : Nat), i ≤ m ∧ iv = .int .i64 i ∧ nv = .int .i64 t ∧ t ≤ 20 * i ∧ Hid (t = pairsF [] ((ws.map (formF ss)).take i)) ∧ Below w.heap.size w wr) (fun _ iv _ => m - (intOf iv).toNat)
  case atStart => exact ⟨0, 0, Nat.zero_le _, rfl, rfl, Nat.zero_le _, Lib.hid rfl, HB1.out⟩
  case round =>
    clear HB1
    obtain ⟨i, t, hi, rfl, rfl, ht, hT, hbel⟩ := hrel
    by_cases hlt : i < m
    · have k1 : (0 : Int) ≤ (i : Int) := by omega
      have k2 : (i : Int) < (m : Int) := by omega
      obtain ⟨b, off, x, rfl, hx, hx1, hc⟩ := (k.below hbel).at_ hlt
      have hgo := Lib.hid (pairs_go (show (ws.map (formF ss))[i]? = some (formF ss x) by rw [List.getElem?_map, hx]; rfl))
      have HB1 := Lib.hid hbel
      clear hbel hx
      go_wp2_with fail
      refine (swof_any A n c ss x _ (h.below HB1.out) hok hn hx1).mono ?_
      rintro e w2 ⟨A1, n1, c1, p1, rfl, hs1, hs0, hb⟩
      have HB2 := Lib.hid (HB1.out.trans (hb.mono HB1.out.size))
      have hY := Lib.hid (Blk.new w2 30 #[.slice A1 n1 c1, .int .i64 p1])
      have hb3 := Lib.hid (HB2.out.alloc HB2.out.size (.cells #[.slice A1 n1 c1, .int .i64 p1] 30))
      clear hb HB1 hc
      cases ho : outF ss x with
      | none =>
        have hN : Hid (t = pairsF [] ((ws.map (formF ss)).take (i + 1))) := Lib.hid (by rw [hgo.out, formF_none ho, cnt_none]; exact hT.out)
        clear ho hs1 hs0
        go_wp2_with fail
        go_loopw [5, 9] (fun nv jv wr => jv = .int .i64 0 ∧ nv = .int .i64 t ∧ Below w.heap.size w wr) (fun _ _ _ => 0)
        case atStart => exact ⟨rfl, rfl, hb3.out⟩
        case round =>
          obtain ⟨rfl, rfl, hbel⟩ := hrel
          have HB4 := Lib.hid hbel
          clear hbel
          by_cases h0 : i = 0
          · have g1 : ¬ (0 : Int) < (i : Int) := by omega
            clear h0
            go_wp2_with fail
            go_roundw
            case rel => exact ⟨i + 1, t, by omega, by go_num, rfl, by omega, hN, HB4.out⟩
            case measure => simp [intOf]; omega
          · have g1 : (0 : Int) < (i : Int) := by omega
            clear h0
            go_wp2_with fail
            go_roundw
            case rel => exact ⟨i + 1, t, by omega, by go_num, rfl, by omega, hN, HB4.out⟩
            case measure => simp [intOf]; omega
      | some l =>
        obtain ⟨hk1, hn1, hp1⟩ := hs1 l ho
        subst hp1
        have HO := Lib.hid ho
        have HK := Lib.hid (hk1.below ((Below.refl w2.heap.size w2).alloc (Nat.le_refl _) (.cells #[.slice A1 n1 c1, .int .i64 (posW x)] 30)))
        have hfx := Lib.hid (formF_some ho)
        clear ho hs1 hs0 hk1
        rename World => wo
        go_wp2_with fail
        go_loopw [5, 9] (fun nv jv wr => ∃ (j u : Nat), j ≤ i ∧ jv = .int .i64 j ∧ nv = .int .i64 ((t + u : Nat) : Int) ∧ u ≤ j ∧ Hid (u = cnt (formF ss x) ((ws.map (formF ss)).take j)) ∧ KB wr A1 n1 l ∧ Blk wr wo.heap.size 30 #[.slice A1 n1 c1, .int .i64 (posW x)] ∧ Below w.heap.size w wr) (fun _ jv _ => i - (intOf jv).toNat)
        case atStart => exact ⟨0, 0, Nat.zero_le _, rfl, rfl, Nat.le_refl _, Lib.hid (by rw [hfx.out]; rfl), HK.out, hY.out, hb3.out⟩
        case round =>
          clear HK hY hb3
          obtain ⟨j, u, hj, rfl, rfl, hu, hU, hk, hY, hbel⟩ := hrel
          by_cases hjk : j < i
          · obtain ⟨b', off', y, he, hy, hy1, hc⟩ := (k.below hbel).at_ (k := j) (by omega)
            obtain ⟨rfl, rfl⟩ : b = b' ∧ off = off' := by injection he with he; injection he with e1 e2; exact ⟨e1, e2⟩
            have hgo2 := Lib.hid (cnt_go hfx.out (show (ws.map (formF ss))[j]? = some (formF ss y) by rw [List.getElem?_map, hy]; rfl))
            have j1 : (0 : Int) ≤ (j : Int) := by omega
            have j2 : (j : Int) < (m : Int) := by omega
            have j3 : (j : Int) < (i : Int) := by omega
            have HB1 := Lib.hid hbel
            clear he hy hbel
            go_wp2_with fail
            refine (swof_any A n c ss y _ (h.below HB1.out) hok hn hy1).mono ?_
            rintro e w3 ⟨A2, n2, c2, p2, rfl, hs1, hs0, hb⟩
            have HB2 := Lib.hid (HB1.out.trans (hb.mono HB1.out.size))
            have hk3 := hk.below hb
            have hY3 := hY.below hb hY.lt
            have hb3 : Below w3.heap.size w3 (w3.alloc (.cells #[.slice A2 n2 c2, .int .i64 p2] 30)) := (Below.refl _ _).alloc (Nat.le_refl _) _
            have HB4 := Lib.hid (HB2.out.trans (hb3.mono HB2.out.size))
            have hk4 := Lib.hid (hk3.below hb3)
            have hY4 := Lib.hid (hY3.below hb3 hY3.lt)
            have hZ4 := Lib.hid (Blk.new w3 30 #[.slice A2 n2 c2, .int .i64 p2])
            clear hb HB1 hk hY hk3 hY3 hc
            cases ho : outF ss y with
            | none =>
              have hN : Hid (u = cnt (formF ss x) ((ws.map (formF ss)).take (j + 1))) := Lib.hid (by rw [hgo2.out, formF_none ho, hfx.out, ← hfx.out, ← hU.out, hfx.out]; simp)
              clear ho hs1 hs0 hb3
              go_wp2_with fail
              go_quiet (fail)
              go_wp2_with fail
              go_roundw
              case rel => exact ⟨j + 1, u, by omega, by go_num, rfl, by omega, hN, hk4.out, hY4.out.drewN nq, below_drewN HB4.out nq⟩
              case measure => simp [intOf]; omega
            | some l2 =>
              obtain ⟨hk2, hn2, hp2⟩ := hs1 l2 ho
              subst hp2
              have hk5 := Lib.hid (hk2.below hb3)
              have HO2 := Lib.hid ho
              have hfe := Lib.hid (form_eq HO.out ho)
              have X0 : ∀ q os, (afterW (w3.alloc (.cells #[.slice A2 n2 c2, .int .i64 (posW y)] 30)) q os).cell? ⟨wo.heap.size, 0, none⟩ = some (.slice A1 n1 c1) := cell_after hY4.out.lt (hY4.out.cell 0)
              have X1 : ∀ q os, (afterW (w3.alloc (.cells #[.slice A2 n2 c2, .int .i64 (posW y)] 30)) q os).cell? ⟨wo.heap.size, 1, none⟩ = some (.int .i64 (posW x)) := cell_after hY4.out.lt (hY4.out.cell 1)
              have Y0 : ∀ q os, (afterW (w3.alloc (.cells #[.slice A2 n2 c2, .int .i64 (posW y)] 30)) q os).cell? ⟨w3.heap.size, 0, none⟩ = some (.slice A2 n2 c2) := cell_after hZ4.out.lt (hZ4.out.cell 0)
              have Y1 : ∀ q os, (afterW (w3.alloc (.cells #[.slice A2 n2 c2, .int .i64 (posW y)] 30)) q os).cell? ⟨w3.heap.size, 1, none⟩ = some (.int .i64 (posW y)) := cell_after hZ4.out.lt (hZ4.out.cell 1)
              have LX := fun q os => load2b (X0 q os) (X1 q os)
              have LY := fun q os => load2b (Y0 q os) (Y1 q os)
              have hmix := mixed
              obtain ⟨TX, hTX⟩ : ∃ t, t = formT l (posW x) := ⟨_, rfl⟩
              obtain ⟨TY, hTY⟩ : ∃ t, t = formT l2 (posW y) := ⟨_, rfl⟩
              have HTX := Lib.hid hTX
              have HTY := Lib.hid hTY
              have hbe := bytes_eq TX TY
              rw [hTX, hTY, ← hfe.out, ← hTX, ← hTY] at hbe
              cases hq : decide (formF ss y = formF ss x) with
              | true =>
                rw [hq] at hbe
                have hN : Hid (u + 1 = cnt (formF ss x) ((ws.map (formF ss)).take (j + 1))) := Lib.hid (by rw [hgo2.out, hq, ← hU.out]; rfl)
                clear ho hs1 hs0 hb3 hq hk2 hTX hTY
                go_wp2_with fail
                refine wp_region_after (by assumption) (by kernel_rfl) ?_
                repeat (go_big_quiet_step (first | (go_at_call_of 31 A1; refine Calls.after_of ((writtenT_any _ (hk4.out.below (below_after _ _ _)) HO.out).mono fun e w' h => ⟨h.1.trans (ret_str HTX.out.symm), h.2⟩)) | (go_at_call_of 31 A2; refine Calls.after_of ((writtenT_any _ (hk5.out.below (below_after _ _ _)) HO2.out).mono fun e w' h => ⟨h.1.trans (ret_str HTY.out.symm), h.2⟩))))
                refine wpQuiet_nil ?_
                intro _ hw'
                obtain ⟨⟨nq, osq⟩, hw9⟩ := hw'
                subst hw9
                go_wp2_with fail
                go_roundw
                case rel => exact ⟨j + 1, u + 1, by omega, by go_num, by go_num, by omega, hN, hk4.out.below (below_after _ _ _), hY4.out.below (below_after _ _ _) hY4.out.lt, HB4.out.trans ((below_after _ _ _).mono HB4.out.size)⟩
                case measure => simp [intOf]; omega
              | false =>
                rw [hq] at hbe
                have hN : Hid (u = cnt (formF ss x) ((ws.map (formF ss)).take (j + 1))) := Lib.hid (by rw [hgo2.out, hq, ← hU.out]; rfl)
                clear ho hs1 hs0 hb3 hq hk2 hTX hTY
                go_wp2_with fail
                refine wp_region_after (by assumption) (by kernel_rfl) ?_
                repeat (go_big_quiet_step (first | (go_at_call_of 31 A1; refine Calls.after_of ((writtenT_any _ (hk4.out.below (below_after _ _ _)) HO.out).mono fun e w' h => ⟨h.1.trans (ret_str HTX.out.symm), h.2⟩)) | (go_at_call_of 31 A2; refine Calls.after_of ((writtenT_any _ (hk5.out.below (below_after _ _ _)) HO2.out).mono fun e w' h => ⟨h.1.trans (ret_str HTY.out.symm), h.2⟩))))
                refine wpQuiet_nil ?_
                intro _ hw'
                obtain ⟨⟨nq, osq⟩, hw9⟩ := hw'
                subst hw9
                go_wp2_with fail
                go_roundw
                case rel => exact ⟨j + 1, u, by omega, by go_num, rfl, by omega, hN, hk4.out.below (below_after _ _ _), hY4.out.below (below_after _ _ _) hY4.out.lt, HB4.out.trans ((below_after _ _ _).mono HB4.out.size)⟩
                case measure => simp [intOf]; omega
          · obtain hji : j = i := by omega
            have hN : Hid (t + u = pairsF [] ((ws.map (formF ss)).take (i + 1))) := Lib.hid (by rw [hgo.out, hT.out, hU.out, hji])
            have HB1 := Lib.hid hbel
            have hu2 : u ≤ 20 := by omega
            have g1 : ¬ (j : Int) < (i : Int) := by omega
            clear hji hbel hk hY
            go_wp2_with fail
            go_roundw
            case rel => exact ⟨i + 1, t + u, by omega, by go_num, rfl, by omega, hN, HB1.out⟩
            case measure => simp [intOf]; omega
    · obtain rfl : i = m := by omega
      have hF : Hid (clashN ss ws = (t : Int)) := Lib.hid (by rw [hr.out, hT.out, List.take_of_length_le (by rw [hfl.out]; exact Nat.le_refl _)])
      go_wp2_with fail
      go_ret
      exact ⟨ret_int hF.out.symm, hbel⟩
end Go.Proofs.Ytjhalbmmlcbehaa
