/- The written words of a dictionary, by the program. -/
import Derived.Test.YtjhalbmmlcbehaaEq
namespace Go.Proofs.Ytjhalbmmlcbehaa
open Go.RowKit Wr Go.Maps
set_option linter.unusedVariables false
set_option linter.unusedSimpArgs false

/-! the plain list of written words: index, outline, position -/
abbrev WL := Int × List Stk × Int
def wlOne (ss : List Sgn) (i : Nat) (s : ByteArray) : List WL := match outF ss s with | some l => [(((i : Nat) : Int), l, posW s)] | none => []
def wlF (ss : List Sgn) : Nat → List ByteArray → List WL
  | _, [] => []
  | i, s :: r => wlOne ss i s ++ wlF ss (i + 1) r
theorem wlF_snoc (ss : List Sgn) (x : ByteArray) : ∀ (l : List ByteArray) (i : Nat), wlF ss i (l ++ [x]) = wlF ss i l ++ wlOne ss (i + l.length) x
  | [], i => by simp [wlF]
  | a :: l, i => by
    rw [List.cons_append, wlF, wlF, wlF_snoc ss x l (i + 1), List.append_assoc, List.length_cons, show i + 1 + l.length = i + (l.length + 1) by omega]
def wl (ss : List Sgn) (ws : List ByteArray) : List WL := wlF ss 0 ws
theorem wl_go {ss : List Sgn} {ws : List ByteArray} {k : Nat} {x : ByteArray} (hx : ws[k]? = some x) : wl ss (ws.take (k + 1)) = wl ss (ws.take k) ++ wlOne ss k x := by
  have hk : (ws.take k).length = k := by
    have := (List.getElem?_eq_some_iff.1 hx).1
    rw [List.length_take]; omega
  unfold wl
  rw [take_snoc hx, wlF_snoc, hk, Nat.zero_add]
theorem wlOne_none {ss : List Sgn} {i : Nat} {s : ByteArray} (h : outF ss s = none) : wlOne ss i s = [] := by unfold wlOne; rw [h]
theorem wlOne_some {ss : List Sgn} {i : Nat} {s : ByteArray} {l : List Stk} (h : outF ss s = some l) : wlOne ss i s = [(((i : Nat) : Int), l, posW s)] := by unfold wlOne; rw [h]
theorem wlF_mem {ss : List Sgn} {y : WL} : ∀ {l : List ByteArray} {i : Nat}, y ∈ wlF ss i l → ∃ j s, l[j]? = some s ∧ y.1 = ((i + j : Nat) : Int) ∧ outF ss s = some y.2.1 ∧ y.2.2 = posW s
  | [], i, h => by cases h
  | a :: l, i, h => by
    rw [wlF] at h
    rcases List.mem_append.1 h with h | h
    · cases ho : outF ss a with
      | none => rw [wlOne_none ho] at h; cases h
      | some o =>
        rw [wlOne_some ho, List.mem_singleton] at h
        subst h
        exact ⟨0, a, rfl, rfl, ho, rfl⟩
    · obtain ⟨j, s, h1, h2, h3, h4⟩ := wlF_mem h
      exact ⟨j + 1, s, h1, by rw [h2]; omega, h3, h4⟩
theorem wl_mem {ss : List Sgn} {ws : List ByteArray} {y : WL} (h : y ∈ wl ss ws) : ∃ j s, ws[j]? = some s ∧ y.1 = ((j : Nat) : Int) ∧ outF ss s = some y.2.1 ∧ y.2.2 = posW s := by
  obtain ⟨j, s, h1, h2, h3, h4⟩ := wlF_mem h
  exact ⟨j, s, h1, by rw [h2]; omega, h3, h4⟩
theorem wlF_len (ss : List Sgn) : ∀ (l : List ByteArray) (i : Nat), (wlF ss i l).length ≤ l.length
  | [], i => Nat.le_refl _
  | a :: l, i => by
    have := wlF_len ss l (i + 1)
    rw [wlF, List.length_append, List.length_cons]
    unfold wlOne
    split <;> simp <;> omega
theorem wl_len (ss : List Sgn) (ws : List ByteArray) : (wl ss ws).length ≤ ws.length := wlF_len ss ws 0

/-! lists of such words in memory -/
structure Pl where
  idx : Int
  A : Option Addr
  n : Nat
  c : Nat
  l : List Stk
  p : Int
def encO (x : Pl) : List Value := [.int .i64 x.idx, .slice x.A x.n x.c]
def encP (x : Pl) : List Value := [.int .i64 x.idx, .slice x.A x.n x.c, .int .i64 x.p]
def keyO (x : Pl) : Int × List Stk := (x.idx, x.l)
def keyP (x : Pl) : WL := (x.idx, x.l, x.p)
def keyW (y : WL) : Int × List Stk := (y.1, y.2.1)
theorem encO_len (x : Pl) : (encO x).length = 2 := rfl
theorem encP_len (x : Pl) : (encP x).length = 3 := rfl
theorem encO_one (x : Pl) : ∀ u ∈ encO x, u.oneCell' = true := by
  intro u hu
  simp [encO] at hu
  rcases hu with rfl | rfl <;> rfl
theorem encP_one (x : Pl) : ∀ u ∈ encP x, u.oneCell' = true := by
  intro u hu
  simp [encP] at hu
  rcases hu with rfl | rfl | rfl <;> rfl
theorem info73 : (Try.prog.info? 73).map (fun i => (i.zero, i.size, i.bytes)) = some (some (.agg #[.int .i64 0, .slice none 0 0]), 2, 32) := by kernel_rfl
theorem info64 : (Try.prog.info? 64).map (fun i => (i.zero, i.size, i.bytes)) = some (some (.agg #[.int .i64 0, .slice none 0 0, .int .i64 0]), 3, 40) := by kernel_rfl
theorem OwnR.blk {α : Type} {enc : α → List Value} {k : Nat} {t : TypeId} {w : World} {lo hi : Nat} {A : Option Addr} {n c : Nat} {xs : List α} (h : OwnR enc k t w lo hi A n c xs) : ∀ a, A = some a → ∃ cs, Blk w a.block t cs := fun a ha => by
  subst ha
  rcases h.1.2 with ⟨e, _⟩ | ⟨g, cap, cur, hv, _, hg, _⟩
  · cases e
  · injection hv with e; injection e with e; subst e
    exact ⟨cur, hg⟩
theorem OwnR.row {α : Type} {enc : α → List Value} {k : Nat} {t : TypeId} {w : World} {lo hi : Nat} {A : Option Addr} {n c : Nat} {xs : List α} (h : OwnR enc k t w lo hi A n c xs) : ∀ g, A.map (·.block) = some g → ∃ cs, Blk w g t cs := fun g e => by
  cases A with
  | none => cases e
  | some a =>
    have e : a.block = g := by injection e
    subst e
    exact h.blk a rfl
/-- the outlines that a list leads to -/
def Lead (w : World) (xs : List Pl) : Prop := ∀ x ∈ xs, KB w x.A x.n x.l ∧ x.n ≤ 8
theorem Lead.below {w w' : World} {xs : List Pl} (h : Lead w xs) (hb : Below w.heap.size w w') : Lead w' xs := fun x hx => ⟨(h x hx).1.below hb, (h x hx).2⟩
theorem Lead.grown {w w' : World} {xs : List Pl} {row : Option Nat} {t : TypeId} (h : Lead w xs) (hg : w.grownBy w' row) (hr : ∀ g, row = some g → ∃ cs, Blk w g t cs) (ht : t ≠ 75) : Lead w' xs :=
  fun x hx => ⟨(h x hx).1.grown hg (fun g e => by obtain ⟨cs, hc⟩ := hr g e; exact ⟨t, cs, hc, ht⟩), (h x hx).2⟩
theorem Lead.snoc {w : World} {xs : List Pl} {x : Pl} (h : Lead w xs) (hx : KB w x.A x.n x.l) (hn : x.n ≤ 8) : Lead w (xs ++ [x]) := fun y hy => by
  rcases List.mem_append.1 hy with h1 | h1
  · exact h y h1
  · rw [List.mem_singleton] at h1; subst h1; exact ⟨hx, hn⟩
theorem LetM.grown_row {w w' : World} {M n : Nat} {l : List Sgn} {row : Option Nat} {t : TypeId} (h : LetM w M n l) (hg : w.grownBy w' row) (hr : ∀ g, row = some g → ∃ cs, Blk w g t cs) : LetM w' M n l := by
  refine h.kept hg (fun e => ?_)
  obtain ⟨cs, hc⟩ := hr M e.symm
  obtain ⟨D, ⟨es, ck, hb, _⟩, _⟩ := h
  unfold Blk at hc
  rw [hc] at hb
  cases hb
/-- what writtenWords hands back -/
def WwPost (w : World) (ss : List Sgn) (ws : List ByteArray) (e : Ending) (w' : World) : Prop :=
  ((sysOk ss && dictOk ws) = false ∧ e = .returned (.tuple #[.slice none 0 0, .bool false]) ∧ Below w.heap.size w w') ∨
  ((sysOk ss && dictOk ws) = true ∧ ∃ A n c xs, e = .returned (.tuple #[.slice A n c, .bool true]) ∧ OwnR encO 2 73 w' w.heap.size w'.heap.size A n c xs ∧ xs.map keyO = (wl ss ws).map keyW ∧ Lead w' xs ∧ Below w.heap.size w w')
set_option maxRecDepth 8000 in
set_option maxHeartbeats 8000000 in
theorem ww_any (A B : Option Addr) (n c m d : Nat) (ss : List Sgn) (ws : List ByteArray) (w : World) (h : Sgns w A n ss) (hok : ∀ x ∈ ss, OkG x) (hn : n ≤ 9223372036854775807) (k : Strs w B m ws) (hm : m ≤ 9223372036854775807) (hmd : m ≤ d) :
    Calls Try.prog 33 #[.slice A n c, .slice B m d] w (WwPost w ss ws) := by
  have hlen := Lib.hid k.len
  obtain ⟨i0, hi0, hz0, hz1, hz2⟩ := info_parts info73
  go_enter Try.func33, Try.ntmps33
  go_wp2_with fail
  refine (signs_any A n c ss _ h hok hn).mono ?_
  rintro e w1 (⟨hs, M, rfl, hL, hb, hM⟩ | ⟨hs, rfl, hb⟩)
  rotate_left
  · have hr : Hid ((sysOk ss && dictOk ws) = false) := Lib.hid (by rw [hs]; rfl)
    have HB := Lib.hid hb
    clear hs hb
    go_wp2_with fail
    go_ret2
    exact .inl ⟨hr.out, rfl, HB.out⟩
  cases hd : dictOk ws with
  | false =>
    have hr : Hid ((sysOk ss && dictOk ws) = false) := Lib.hid (by rw [hd, Bool.and_false])
    have HD := Lib.hid hd
    have HB := Lib.hid hb
    clear hs hb hd
    go_wp2_with fail
    refine (idict_any B m d ws _ (k.below HB.out) hm hmd).mono ?_
    rw [HD.out]
    rintro e w' ⟨rfl, hw'⟩
    obtain rfl := hw'.symm
    go_wp2_with fail
    go_ret2
    exact .inl ⟨hr.out, rfl, HB.out⟩
  | true =>
  have hr : Hid ((sysOk ss && dictOk ws) = true) := Lib.hid (by rw [hs, hd]; rfl)
  have hm20 : m ≤ 20 := by have := dict_len hd; rw [hlen.out] at this; exact this
  have HD := Lib.hid hd
  have HS := Lib.hid hs
  have HB := Lib.hid hb
  have HL := Lib.hid hL
  clear hs hb hd hL
  go_wp2_with fail
  refine (idict_any B m d ws _ (k.below HB.out) hm hmd).mono ?_
  rw [HD.out]
  rintro e w' ⟨rfl, hw'⟩
  obtain rfl := hw'.symm
  have HE := Lib.hid (own_emptyR (enc := encO) (k := 2) (t := 73) w1 w.heap.size HB.out.size)
  have HB1 := Lib.hid (HB.out.alloc HB.out.size (.cells #[] 73))
  have HL1 := Lib.hid (HL.out.kept (World.grownBy_alloc w1 (.cells #[] 73) none) (by simp))
  clear HB HL hM
  go_wp2_with fail
  go_loopw [8, 28] (fun ov iv wr => ∃ (i K g c' : Nat) (xs : List Pl), i ≤ m ∧ iv = .int .i64 i ∧ ov = .slice (some ⟨g, 0, none⟩) K c' ∧ K ≤ i ∧ OwnR encO 2 73 wr w.heap.size wr.heap.size (some ⟨g, 0, none⟩) K c' xs ∧ Hid (xs.map keyO = (wl ss (ws.take i)).map keyW) ∧ Hid (Lead wr xs) ∧ LetM wr M n ss ∧ Below w.heap.size w wr) (fun _ iv _ => m - (intOf iv).toNat)
  case atStart => exact ⟨0, 0, _, _, [], Nat.zero_le _, rfl, rfl, Nat.le_refl _, by have := HE.out; simpa using this, Lib.hid rfl, Lib.hid (fun x hx => by cases hx), HL1.out, HB1.out⟩
  case round =>
    clear HE HB1 HL1
    obtain ⟨i, K, g, c', xs, hi, rfl, rfl, hKi, hO, hX, hLd, hL, hbel⟩ := hrel
    by_cases hlt : i < m
    · obtain ⟨b, off, x, rfl, hx, hx1, hc⟩ := (k.below hbel).at_ hlt
      have hgo := Lib.hid (wl_go (ss := ss) hx)
      have k1 : (0 : Int) ≤ (i : Int) := by omega
      have k2 : (i : Int) < (m : Int) := by omega
      have HL := Lib.hid hL
      have HO := Lib.hid hO
      have HB := Lib.hid hbel
      clear hx hL hO hbel
      go_wp2_with fail
      refine (ioutl_any M n ss x _ HL.out HS.out hx1).mono ?_
      rintro e w2 ⟨A2, n2, c2, rfl, h1, hb⟩
      have HL2 := Lib.hid (HL.out.below hb)
      have HO2 := Lib.hid ((HO.out.below hb).wide (Nat.le_refl _) hb.size (Nat.le_refl _))
      have HB2 := Lib.hid (HB.out.trans (hb.mono HB.out.size))
      have HLd2 := Lib.hid (hLd.out.below hb)
      clear HL HO HB hLd hb hc
      cases ho : outF ss x with
      | none =>
        have hN : Hid (xs.map keyO = (wl ss (ws.take (i + 1))).map keyW) := Lib.hid (by rw [hgo.out, wlOne_none ho, List.append_nil]; exact hX.out)
        clear ho h1
        go_wp2_with fail
        go_roundw
        case rel => exact ⟨i + 1, K, g, c', xs, by omega, by go_num, rfl, by omega, HO2.out, hN, HLd2, HL2.out, HB2.out⟩
        case measure => simp [intOf]; omega
      | some l =>
        obtain ⟨hk1, hn1⟩ := h1 l ho
        have hN : Hid ((xs ++ [(⟨((i : Nat) : Int), A2, n2, c2, l, 0⟩ : Pl)]).map keyO = (wl ss (ws.take (i + 1))).map keyW) := Lib.hid (by rw [hgo.out, wlOne_some ho, List.map_append, List.map_append, hX.out]; rfl)
        have HK := Lib.hid hk1
        clear ho h1 hk1
        have HB3 := Lib.hid (HB2.out.alloc HB2.out.size (.cells #[.int .i64 (i : Int), .slice A2 n2 c2] 73))
        have HO3 := Lib.hid (HO2.out.alloc (.cells #[.int .i64 (i : Int), .slice A2 n2 c2] 73))
        go_wp2_with (at_builtin; go_must (refine wpList_pushR _ rfl (.tmp 40) (.tmp 44) 69 rfl i0 _ 32 Try.underlying69 hi0 hz0 hz1 hz2 rfl (by omega) (by omega) encO_len encO_one w.heap.size w2.heap.size _ K c' xs rfl HO3.out ⟨((i : Nat) : Int), A2, n2, c2, l, 0⟩ w2.heap.size rfl (fun j u hu => by rw [(Blk.new w2 73 #[.int .i64 (i : Int), .slice A2 n2 c2]).cell]; simpa [encO] using hu) (by omega) HB3.out.size ?_); intro g5 c5 w5 o5 g6; have O5 := Lib.hid o5; have B5 := Lib.hid (below_cat HB3.out g6 (fun a ha => (HO2.out.lo_le a ha).1)); have ba := Below.alloc (Below.refl w2.heap.size w2) (Nat.le_refl _) (.cells #[.int .i64 (i : Int), .slice A2 n2 c2] 73); have L5 := Lib.hid ((HL2.out.below ba).grown_row g6 HO3.out.row); have D5 := Lib.hid (Lead.snoc (x := ⟨((i : Nat) : Int), A2, n2, c2, l, 0⟩) ((HLd2.out.below ba).grown g6 HO3.out.row (by decide)) ((HK.out.below ba).grown g6 (fun g e => by obtain ⟨cs, hcs⟩ := HO3.out.row g e; exact ⟨73, cs, hcs, by decide⟩)) hn1); clear o5 g6 ba)
        go_roundw
        case rel => exact ⟨i + 1, K + 1, g5, c5, _, by omega, by go_num, rfl, by omega, O5.out, hN, D5, L5.out, B5.out⟩
        case measure => simp [intOf]; omega
    · obtain rfl : i = m := by omega
      have hF : Hid (xs.map keyO = (wl ss ws).map keyW) := Lib.hid (by have := hX.out; rwa [List.take_of_length_le (by rw [hlen.out]; exact Nat.le_refl _)] at this)
      have HO := Lib.hid hO
      go_wp2_with fail
      go_ret2
      exact .inr ⟨hr.out, _, _, _, xs, rfl, HO.out, hF.out, hLd.out, hbel⟩
end Go.Proofs.Ytjhalbmmlcbehaa
