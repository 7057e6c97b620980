/- Words with a form, clashes, by the program. -/
import Derived.Test.YtjhalbmmlcbehaaPw
namespace Go.Proofs.Ytjhalbmmlcbehaa
open Go.RowKit Wr Go.Maps
set_option linter.unusedVariables false
set_option linter.unusedSimpArgs false

def encI (x : Int) : List Value := [.int .i64 x]
theorem encI_len (x : Int) : (encI x).length = 1 := rfl
theorem encI_one (x : Int) : ∀ u ∈ encI x, u.oneCell' = true := by
  intro u hu
  simp [encI] at hu
  subst hu; rfl
theorem info3 : (Try.prog.info? 3).map (fun i => (i.zero, i.size, i.bytes)) = some (some (.int .i64 0), 1, 8) := by kernel_rfl
/-- the indexes of the words with a form -/
def ixs (xs : List Pl) (l : List Stk) (p : Int) : List Int := (xs.filter fun x => decide (x.p = p ∧ x.l = l)).map (·.idx)
theorem ixs_go {xs : List Pl} {k : Nat} {x : Pl} {l : List Stk} {p : Int} (hx : xs[k]? = some x) : ixs (xs.take (k + 1)) l p = ixs (xs.take k) l p ++ (if decide (x.p = p ∧ x.l = l) = true then [x.idx] else []) := by
  unfold ixs
  rw [take_snoc hx, List.filter_append, List.map_append]
  congr 1
  rw [List.filter_cons, List.filter_nil]
  show List.map (·.idx) (if decide (x.p = p ∧ x.l = l) = true then [x] else []) = _
  cases decide (x.p = p ∧ x.l = l) <;> rfl
theorem ixs_len (xs : List Pl) (l : List Stk) (p : Int) (k : Nat) : (ixs (xs.take k) l p).length ≤ k := by
  unfold ixs
  rw [List.length_map]
  exact Nat.le_trans (List.length_filter_le _ _) (by rw [List.length_take]; omega)
/-- placed words that read as a list -/
def PlR (w : World) (A : Option Addr) (n : Nat) (xs : List Pl) : Prop := RowR encP 3 w A n xs ∧ Lead w xs
theorem PlR.below {w w' : World} {A : Option Addr} {n : Nat} {xs : List Pl} (h : PlR w A n xs) (hb : Below w.heap.size w w') : PlR w' A n xs := ⟨RowR.below h.1 hb, h.2.below hb⟩
theorem PlR.take {w : World} {A : Option Addr} {n m : Nat} {xs : List Pl} (h : PlR w A n xs) (hm : m ≤ n) : PlR w A m (xs.take m) := ⟨RowR.take h.1 hm, fun x hx => h.2 x (List.mem_of_mem_take hx)⟩
set_option maxRecDepth 8000 in
set_option maxHeartbeats 8000000 in
theorem ix_any (A B : Option Addr) (n c m d : Nat) (xs : List Pl) (l : List Stk) (p : Int) (w : World) (h : PlR w A n xs) (hn : n ≤ 20) (k : Stks w B m l) (hm : m ≤ 1048576) :
    Calls Try.prog 29 #[.slice A n c, fv B m d p] w fun e w' => ∃ A' k' c', e = .returned (.slice A' k' c') ∧ OwnR encI 1 3 w' w.heap.size w'.heap.size A' k' c' (ixs xs l p) ∧ Below w.heap.size w w' := by
  have hlen := Lib.hid (RowR.len h.1)
  obtain ⟨i0, hi0, hz0, hz1, hz2⟩ := info_parts info3
  have hY := Lib.hid (Blk.new w 62 #[.slice B m d, .int .i64 p])
  have hb0 : Below w.heap.size w (w.alloc (.cells #[.slice B m d, .int .i64 p] 62)) := (Below.refl _ _).alloc (Nat.le_refl _) _
  have HB1 := Lib.hid (hb0.alloc hb0.size (.cells #[] 3))
  have HY1 := Lib.hid ((hY.out.alloc (.cells #[] 3)))
  have HE := Lib.hid (own_emptyR (enc := encI) (k := 1) (t := 3) (w.alloc (.cells #[.slice B m d, .int .i64 p] 62)) w.heap.size hb0.size)
  clear hb0 hY
  go_enter Try.func29, Try.ntmps29
  go_wp2_with fail
  go_loopw [5, 11] (fun ov iv wr => ∃ (i K g c' : Nat), i ≤ n ∧ iv = .int .i64 i ∧ ov = .slice (some ⟨g, 0, none⟩) K c' ∧ OwnR encI 1 3 wr w.heap.size wr.heap.size (some ⟨g, 0, none⟩) K c' (ixs (xs.take i) l p) ∧ Blk wr w.heap.size 62 #[.slice B m d, .int .i64 p] ∧ Below w.heap.size w wr) (fun _ iv _ => n - (intOf iv).toNat)
  case atStart => exact ⟨0, 0, _, _, Nat.zero_le _, rfl, rfl, by have := HE.out; simpa [ixs] using this, HY1.out, HB1.out⟩
  case round =>
    clear HE HY1 HB1
    obtain ⟨i, K, g, c', hi, rfl, rfl, hO, hY, hbel⟩ := hrel
    have hKi : K ≤ i := by have h1 := hO.len; have h2 := ixs_len xs l p i; omega
    by_cases hlt : i < n
    · obtain ⟨b, off, x, rfl, hx, c0, c1, c2⟩ := RowR.atP (RowR.below h.1 hbel) hlt
      have hgo := Lib.hid (ixs_go (l := l) (p := p) hx)
      obtain ⟨hkx, hnx⟩ := h.2 x (mem_at hx)
      have HK := Lib.hid (hkx.below hbel)
      have k1 : (0 : Int) ≤ (i : Int) := by omega
      have k2 : (i : Int) < (n : Int) := by omega
      have ba := Lib.hid (Below.alloc (Below.refl wr.heap.size wr) (Nat.le_refl _) (.cells #[.int .i64 x.idx, .slice x.A x.n x.c, .int .i64 x.p] 64))
      have HB := Lib.hid (hbel.trans (ba.out.mono hbel.size))
      have HO := Lib.hid ((hO.below ba.out).wide (Nat.le_refl _) ba.out.size (Nat.le_refl _))
      have HY := Lib.hid (hY.below ba.out hY.lt)
      have HT := Lib.hid (Blk.new wr 64 #[.int .i64 x.idx, .slice x.A x.n x.c, .int .i64 x.p])
      have HK2 := Lib.hid (HK.out.below ba.out)
      have y0 := hY.cell 0
      have y1 := hY.cell 1
      have hyl := hY.lt
      clear hx hkx hbel hO hY HK
      go_wp2_with fail
      refine (formeq_any x.A B x.n x.c m d x.l l x.p p _ HK2.out.1 (k.below HB.out) (by omega) hm).mono ?_
      rintro e w2 ⟨rfl, hb⟩
      have HB2 := Lib.hid (HB.out.trans (hb.mono HB.out.size))
      have HO2 := Lib.hid ((HO.out.below hb).wide (Nat.le_refl _) hb.size (Nat.le_refl _))
      have HY2 := Lib.hid (HY.out.below hb HY.out.lt)
      have hT2 := HT.out.below hb HT.out.lt
      have t0 := hT2.cell 0
      have t2 := hT2.lt
      clear HB HO HY HT hb hT2 c0 c1 c2 y0 y1 hyl HK2 ba
      cases hq : decide (x.p = p ∧ x.l = l) with
      | false =>
        have hN : Hid (ixs (xs.take (i + 1)) l p = ixs (xs.take i) l p) := Lib.hid (by rw [hgo.out, hq]; simp)
        clear hq
        go_wp2_with fail
        go_roundw
        case rel => exact ⟨i + 1, K, g, c', by omega, by go_num, rfl, by rw [hN.out]; exact HO2.out, HY2.out, HB2.out⟩
        case measure => simp [intOf]; omega
      | true =>
        have hN : Hid (ixs (xs.take i) l p ++ [x.idx] = ixs (xs.take (i + 1)) l p) := Lib.hid (by rw [hgo.out, hq]; rfl)
        clear hq
        have HB3 := Lib.hid (HB2.out.alloc HB2.out.size (.cells #[.int .i64 x.idx] 3))
        have HO3 := Lib.hid (HO2.out.alloc (.cells #[.int .i64 x.idx] 3))
        have HY3 := Lib.hid (HY2.out.alloc (.cells #[.int .i64 x.idx] 3))
        go_wp2_with (at_builtin; go_must (refine wpList_pushR _ rfl (.tmp 19) (.tmp 22) 33 rfl i0 _ 8 Try.underlying33 hi0 hz0 hz1 hz2 rfl (by omega) (by omega) encI_len encI_one w.heap.size w2.heap.size _ K c' _ rfl HO3.out x.idx w2.heap.size rfl (fun j' u hu => by rw [(Blk.new w2 3 #[.int .i64 x.idx]).cell]; simpa [encI] using hu) (by omega) HB3.out.size ?_); intro g5 c5 w5 o5 g6; rw [hN.out] at o5; have O5 := Lib.hid o5; have B5 := Lib.hid (below_cat HB3.out g6 (fun a ha => (HO2.out.lo_le a ha).1)); have Y5 := Lib.hid (HY3.out.grown g6 (fun e => by obtain ⟨cs, hcs⟩ := HO3.out.row _ e.symm; exact HY3.out.ne hcs (by decide) rfl)); clear o5 g6)
        go_roundw
        case rel => exact ⟨i + 1, K + 1, g5, c5, by omega, by go_num, rfl, O5.out, Y5.out, B5.out⟩
        case measure => simp [intOf]; omega
    · obtain rfl : i = n := by omega
      have hF : Hid (ixs (xs.take i) l p = ixs xs l p) := Lib.hid (by rw [List.take_of_length_le (by rw [hlen.out]; exact Nat.le_refl _)])
      have HO := Lib.hid hO
      go_wp2_with fail
      go_ret
      exact ⟨_, _, _, rfl, by rw [← hF.out]; exact HO.out, hbel⟩

/-! pairs of written words, plainly -/
def formP (x : Pl) : Option (List Stk × Int) := some (x.l, x.p)
def formW (y : WL) : Option (List Stk × Int) := some (y.2.1, y.2.2)
theorem pairs_wl (ss : List Sgn) : ∀ (ws : List ByteArray) (i : Nat) (s1 s2 : List (Option (List Stk × Int))), (∀ v, cnt (some v) s1 = cnt (some v) s2) → pairsF s1 ((wlF ss i ws).map formW) = pairsF s2 (ws.map (formF ss))
  | [], i, s1, s2, h => rfl
  | a :: r, i, s1, s2, h => by
    rw [wlF, List.map_cons, List.map_append]
    cases ho : outF ss a with
    | none =>
      rw [wlOne_none ho, formF_none ho, List.map_nil, List.nil_append, pairsF, cnt_none, Nat.zero_add]
      exact pairs_wl ss r (i + 1) s1 _ (fun v => by rw [cnt_snoc, h v]; simp)
    | some l =>
      rw [wlOne_some ho, formF_some ho, List.map_cons, List.map_nil, List.singleton_append, pairsF, pairsF]
      show cnt (some (l, posW a)) s1 + pairsF (s1 ++ [some (l, posW a)]) _ = _
      rw [h (l, posW a), pairs_wl ss r (i + 1) _ (s2 ++ [some (l, posW a)]) (fun v => by rw [cnt_snoc, cnt_snoc, h v])]
theorem pairs_key {ss : List Sgn} {ws : List ByteArray} {xs : List Pl} (h : xs.map keyP = wl ss ws) : pairsF [] (xs.map formP) = pairsF [] (ws.map (formF ss)) := by
  rw [← pairs_wl ss ws 0 [] [] (fun _ => rfl)]
  show _ = pairsF [] ((wl ss ws).map formW)
  rw [← h, List.map_map]
  rfl
theorem ix_cnt (l : List Stk) (p : Int) : ∀ xs : List Pl, (ixs xs l p).length = cnt (some (l, p)) (xs.map formP)
  | [] => rfl
  | x :: xs => by
    have ih := ix_cnt l p xs
    unfold ixs at ih ⊢
    unfold cnt at ih ⊢
    simp only at ih ⊢
    rw [List.length_map] at ih ⊢
    rw [List.map_cons, List.countP_cons, ← ih, List.filter_cons]
    have e : decide (formP x = some (l, p)) = decide (x.p = p ∧ x.l = l) := by
      refine decide_eq_decide.2 ⟨fun h => ?_, fun h => ?_⟩
      · injection h with h
        injection h with h1 h2
        exact ⟨h2, h1⟩
      · unfold formP; rw [h.1, h.2]
    rw [e]
    cases decide (x.p = p ∧ x.l = l) <;> simp
theorem PlR.drew {w : World} {A : Option Addr} {n : Nat} {xs : List Pl} (h : PlR w A n xs) : PlR w.drew A n xs := h
theorem Stks.drew {w : World} {A : Option Addr} {n : Nat} {xs : List Stk} (h : Stks w A n xs) : Stks w.drew A n xs := h
set_option maxRecDepth 8000 in
set_option maxHeartbeats 16000000 in
theorem iclash_any (A B : Option Addr) (n c m d : Nat) (ss : List Sgn) (ws : List ByteArray) (w : World) (h : Sgns w A n ss) (hok : ∀ x ∈ ss, OkG x) (hn : n ≤ 9223372036854775807) (k : Strs w B m ws) (hm : m ≤ 9223372036854775807) (hmd : m ≤ d) :
    Calls Try.prog 7 #[.slice A n c, .slice B m d] w fun e w' => e = .returned (.int .i64 (clashN ss ws)) ∧ Below w.heap.size w w' := by
  have hlen := Lib.hid k.len
  go_enter Try.func7, Try.ntmps7
  go_wp2_with fail
  refine (pw_any A B n c m d ss ws _ h hok hn k hm hmd).mono ?_
  rintro e w1 (⟨hr, rfl, hb⟩ | ⟨hr, A1, n1, c1, xs, rfl, hO, hX, hLd, hb⟩)
  · have hr := Lib.hid (clash_no hr)
    have HB := Lib.hid hb
    clear hb
    go_wp2_with fail
    go_ret
    exact ⟨ret_int hr.out.symm, HB.out⟩
  have hcl := Lib.hid ((clash_yes hr).trans (congrArg (fun t : Nat => (t : Int)) (pairs_key hX).symm))
  have hxl := Lib.hid hO.len
  have hn20 : n1 ≤ 20 := by
    have h1 := congrArg List.length hX
    rw [List.length_map, hO.len] at h1
    have h2 := wl_len ss ws
    simp only [Bool.and_eq_true] at hr
    have h3 := dict_len hr.2
    omega
  have hcap := hO.cap_le
  have hcmx := hO.cap_max
  have HP := Lib.hid (show PlR w1 A1 n1 xs from ⟨OwnR.reads encP_len hO, hLd⟩)
  have HB := Lib.hid hb
  clear hr hX hO hLd hb
  go_wp2_with fail
  go_loopw [7, 20] (fun tv iv wr => ∃ (i t : Nat), i ≤ n1 ∧ iv = .int .i64 i ∧ tv = .int .i64 t ∧ t ≤ 20 * i ∧ Hid (t = pairsF [] ((xs.map formP).take i)) ∧ Below w1.heap.size w1 wr) (fun _ iv _ => n1 - (intOf iv).toNat)
  case atStart => exact ⟨0, 0, Nat.zero_le _, rfl, rfl, Nat.zero_le _, Lib.hid rfl, Below.refl _ _⟩
  case round =>
    obtain ⟨i, t, hi, rfl, rfl, ht, hT, hbel⟩ := hrel
    by_cases hlt : i < n1
    · obtain ⟨b, off, x, rfl, hx, c0, c1', c2⟩ := RowR.atP (RowR.below HP.out.1 hbel) hlt
      obtain ⟨hkx, hnx⟩ := HP.out.2 x (mem_at hx)
      have hlx := ixs_len xs x.l x.p i
      have hN : Hid (t + (ixs (xs.take i) x.l x.p).length = pairsF [] ((xs.map formP).take (i + 1))) := Lib.hid (by
        rw [pairs_go (show (xs.map formP)[i]? = some (formP x) by rw [List.getElem?_map, hx]; rfl), ← hT.out, ix_cnt, List.map_take]
        rfl)
      have k1 : (0 : Int) ≤ (i : Int) := by omega
      have k2 : (i : Int) < (n1 : Int) := by omega
      have k3 : (i : Int) ≤ (c1 : Int) := by omega
      have k4 : i ≤ c1 := by omega
      have ba := Below.alloc (Below.refl wr.heap.size wr) (Nat.le_refl _) (.cells #[.int .i64 x.idx, .slice x.A x.n x.c, .int .i64 x.p] 64)
      have hB2 := hbel.trans (ba.mono hbel.size)
      have HB2 := Lib.hid hB2
      have HP2 := Lib.hid ((HP.out.below hB2).take (Nat.le_of_lt hlt))
      have HK2 := Lib.hid ((hkx.below hB2).1)
      have hT2 := Blk.new wr 64 #[.int .i64 x.idx, .slice x.A x.n x.c, .int .i64 x.p]
      have t0 := hT2.cell 0
      have t1 := hT2.cell 1
      have t2 := hT2.cell 2
      have tl := hT2.lt
      clear hx hkx hbel ba hB2 hT2
      go_wp2_with fail
      generalize hWT : wr.alloc (.cells #[.int .i64 x.idx, .slice x.A x.n x.c, .int .i64 x.p] 64) = WT at *
      go_region_with (go_at_call 29; refine (ix_any _ x.A i _ x.n x.c (xs.take i) x.l x.p _ (by first | exact HP2.out | exact HP2.out.drew | exact HP2.out.drew.drew | exact HP2.out.drew.drew.drew) (by omega) (by first | exact HK2.out | exact HK2.out.drew | exact HK2.out.drew.drew | exact HK2.out.drew.drew.drew) (by omega)).mono ?_; rintro e w2 ⟨A5, k5, c5, rfl, hO5, hb5⟩; have hk5 := hO5.len; have HB5 := Lib.hid (show Below WT.heap.size WT w2 from ⟨hb5.os, hb5.tape, hb5.output, hb5.size, hb5.block⟩); clear hO5 hb5)
      all_goals
        have HN : Hid (t + k5 = pairsF [] ((xs.map formP).take (i + 1))) := Lib.hid (by rw [← hN.out, hk5])
        have hk6 : k5 ≤ i := by omega
        have HB6 := Lib.hid (HB2.out.trans (HB5.out.mono HB2.out.size))
        clear hk5
        go_wp2_with fail
        go_roundw
        case rel => exact ⟨i + 1, t + k5, by omega, by go_num, by go_num, by omega, HN, HB6.out⟩
        case measure => simp [intOf]; omega
    · obtain rfl : i = n1 := by omega
      have hF : Hid (clashN ss ws = (t : Int)) := Lib.hid (by rw [hcl.out, hT.out, List.take_of_length_le (by rw [List.length_map, hxl.out]; exact Nat.le_refl _)])
      go_wp2_with fail
      go_ret
      exact ⟨ret_int hF.out.symm, HB.out.trans (hbel.mono HB.out.size)⟩
end Go.Proofs.Ytjhalbmmlcbehaa
