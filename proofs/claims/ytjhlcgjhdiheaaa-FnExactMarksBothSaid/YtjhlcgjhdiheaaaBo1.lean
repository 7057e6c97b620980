/- slices.Concat at two lists of marks. -/
import Derived.Test.YtjhlcgjhdiheaaaDraw3
import Derived.Test.YtjhlcgjhdiheaaaLay
import Derived.Shelf.Spec.SlicesGrow
import Derived.Deep.LoopGhost
namespace Go.Proofs.Ytjhlcgjhdiheaaa
open Go.RowKit
set_option linter.unusedVariables false
set_option linter.unusedSimpArgs false

/-- where the words of marks lie that read -/
def Places (w : World) (ms : List M) (ps : List SlV) : Prop := ps.length = ms.length ∧ ∀ (j : Nat) (m : M) (p : SlV), ms[j]? = some m → ps[j]? = some p → I64 m.at_ ∧ I64 m.cut ∧ PutIn w p.a p.n p.c m.put
theorem Places.below {w w' : World} {ms : List M} {ps : List SlV} (h : Places w ms ps) (hb : Below w.heap.size w w') : Places w' ms ps := ⟨h.1, fun j m p hm hp => by
  obtain ⟨i1, i2, i3⟩ := h.2 j m p hm hp
  exact ⟨i1, i2, i3.below hb⟩⟩
theorem Places.append {w : World} {ms ns : List M} {ps qs : List SlV} (h : Places w ms ps) (k : Places w ns qs) : Places w (ms ++ ns) (ps ++ qs) := by
  refine ⟨by simp [h.1, k.1], fun j m p hm hp => ?_⟩
  rw [List.getElem?_append] at hm hp
  rw [h.1] at hp
  split at hm
  · rename_i hj
    rw [if_pos hj] at hp
    exact h.2 j m p hm hp
  · rename_i hj
    rw [if_neg hj] at hp
    exact k.2 _ m p hm hp
theorem flat_append : ∀ (ms : List M) (ps : List SlV) (ns : List M) (qs : List SlV), ms.length = ps.length → flat (ms ++ ns) (ps ++ qs) = flat ms ps ++ flat ns qs
  | [], [], ns, qs, _ => rfl
  | [], _ :: _, _, _, h => by simp at h
  | _ :: _, [], _, _, h => by simp at h
  | m :: ms, p :: ps, ns, qs, h => by
    have := flat_append ms ps ns qs (by simpa using h)
    simp only [List.cons_append, flat, this]
theorem flat_one : ∀ (ms : List M) (ps : List SlV), ∀ u ∈ flat ms ps, u.oneCell' = true
  | [], [], u, h => by simp [flat] at h
  | [], _ :: _, u, h => by simp [flat] at h
  | _ :: _, [], u, h => by simp [flat] at h
  | m :: ms, p :: ps, u, h => by
    simp only [flat, List.mem_cons] at h
    rcases h with rfl | rfl | rfl | h
    · rfl
    · rfl
    · rfl
    · exact flat_one ms ps u h
theorem add_off (b off k : Nat) : (⟨b, off, none⟩ : Addr).add k = ⟨b, off + k, none⟩ := by
  unfold Addr.add
  split
  · rename_i h0; subst h0; rfl
  · rfl
theorem Mrks.places {w : World} {A : Option Addr} {n : Nat} {ms : List M} (h : Mrks w A n ms) : ∃ ps, Places w ms ps ∧ ∀ ad, A = some ad → ∀ t u, (flat ms ps)[t]? = some u → w.cell? (ad.add t) = some u := by
  rcases Nat.eq_zero_or_pos n with h0 | h0
  · have : ms = [] := List.eq_nil_of_length_eq_zero (by rw [h.1, h0])
    subst this
    exact ⟨[], ⟨rfl, fun j m p hm => by simp at hm⟩, fun ad _ t u hu => by simp [flat] at hu⟩
  obtain ⟨b, off, rfl, hb, hc⟩ := h.2 h0
  have ex : ∀ j : Nat, ∃ p : SlV, ∀ m, ms[j]? = some m → I64 m.at_ ∧ I64 m.cut ∧ w.cell? ⟨b, off + j * 3, none⟩ = some (.int .i64 m.at_) ∧ w.cell? ⟨b, off + j * 3 + 1, none⟩ = some (.int .i64 m.cut) ∧ w.cell? ⟨b, off + j * 3 + 2, none⟩ = some (.slice p.a p.n p.c) ∧ PutIn w p.a p.n p.c m.put := by
    intro j
    cases hj : ms[j]? with
    | none => exact ⟨⟨none, 0, 0⟩, fun m hm => by cases hm⟩
    | some x =>
      obtain ⟨i1, i2, k0, k1, A', n', c', k2, hp⟩ := hc j x hj
      refine ⟨⟨A', n', c'⟩, fun m hm => ?_⟩
      injection hm with hm
      subst hm
      exact ⟨i1, i2, k0, k1, k2, hp⟩
  obtain ⟨f, hf⟩ := Classical.axiomOfChoice ex
  refine ⟨(List.range ms.length).map f, ⟨by simp, fun j m p hm hp => ?_⟩, fun ad e t u hu => ?_⟩
  · have hj : j < ms.length := (List.getElem?_eq_some_iff.1 hm).1
    simp [hj] at hp
    subst hp
    obtain ⟨i1, i2, _, _, _, i3⟩ := hf j m hm
    exact ⟨i1, i2, i3⟩
  · injection e with e
    subst e
    rw [add_off]
    have ht : t < (flat ms ((List.range ms.length).map f)).length := (List.getElem?_eq_some_iff.1 hu).1
    rw [flat_len _ _ (by simp)] at ht
    obtain ⟨j, c, hc3, rfl⟩ : ∃ j c, c < 3 ∧ t = j * 3 + c := ⟨t / 3, t % 3, by omega, by omega⟩
    have hj : j < ms.length := by omega
    have e1 := List.getElem?_eq_getElem hj
    have e2 : ((List.range ms.length).map f)[j]? = some (f j) := by simp [hj]
    obtain ⟨g0, g1, g2⟩ := flat_get _ _ _ _ _ e1 e2
    obtain ⟨_, _, k0, k1, k2, _⟩ := hf j _ e1
    match c, hc3 with
    | 0, _ => rw [Nat.add_zero] at hu ⊢; rw [g0] at hu; rw [k0]; exact hu
    | 1, _ => rw [g1] at hu; rw [← Nat.add_assoc, k1]; exact hu
    | 2, _ => rw [g2] at hu; rw [← Nat.add_assoc, k2]; exact hu
/-- a list of marks that reads is appended to a row of marks -/
theorem wpList_catM {ops : Array Oper} {rest : List Oper} {o : Oper} {a : Act} {Q : Exit → Act → World → Prop} (w : World) (hgd : o.guard = none) (s x : Operand)
    (ho : o.op = .call { callee := .builtin .append, args := #[s, x], argTypes := #[29, 29] })
    (lo : Nat) (A : Option Addr) (n c : Nat) (ms : List M) (ps : List SlV) (hs : a.eval s = .slice A n c) (hrow : w.ownsRow lo 58 3 (.slice A n c) n (flat ms ps)) (p1 : ps.length = n) (p2 : ms.length = n)
    (B : Option Addr) (m d : Nat) (ys : List M) (qs : List SlV) (hx : a.eval x = .slice B m d) (hl : ys.length = m) (hq : qs.length = m) (hd : B = none → d = 0) (hbn : B = none → m = 0)
    (hnews : ∀ ad, B = some ad → ∀ t u, (flat ys qs)[t]? = some u → w.cell? (ad.add t) = some u) (hn : n + m ≤ 1000) (hlo : lo ≤ w.heap.size)
    (h : ∀ A' c' w', w'.ownsRow lo 58 3 (.slice A' (n + m) c') (n + m) (flat (ms ++ ys) (ps ++ qs)) → w.grownBy w' (A.map (·.block)) → wpList Try.prog ops Q rest (a.put o.dst (.slice A' (n + m) c')) w') :
    wpList Try.prog ops Q (o :: rest) a w := by
  obtain ⟨i0, hi0, hz0, hz1, hz2⟩ := info_parts Try.infoMark
  cases B with
  | none =>
    obtain rfl : m = 0 := hbn rfl
    obtain rfl : d = 0 := hd rfl
    obtain rfl : ys = [] := List.eq_nil_of_length_eq_zero hl
    obtain rfl : qs = [] := List.eq_nil_of_length_eq_zero hq
    refine wpList_append_own_none hgd s x 29 ho lo 58 i0 3 Try.underlying29 hi0 (.slice A n c) n _ hs hrow hx ?_
    have := h A c w (by simpa using hrow) (World.grownBy.refl _ _)
    simpa using this
  | some ad =>
    refine wpList_append_own w hgd s x 29 ho lo 58 i0 _ 3 40 Try.underlying29 hi0 hz0 hz1 hz2 rfl (by omega) (.slice A n c) n (flat ms ps) hs hrow
      ad m d (flat ys qs) hx (by rw [flat_len _ _ (by rw [hl, hq]), hl]) (hnews ad rfl) (flat_one _ _) (by unfold maxLen; omega) (by omega) hlo ?_
    intro v' w' hown' hg _
    rw [← flat_append _ _ _ _ (by rw [p1, p2])] at hown'
    obtain ⟨A', c', rfl⟩ : ∃ A' c', v' = .slice A' (n + m) c' := by
      rcases hown'.2 with ⟨e, e2⟩ | ⟨g, cap, cur, rfl, _⟩
      · exact ⟨none, 0, by rw [e, e2]⟩
      · exact ⟨_, _, rfl⟩
    rw [ownBlock_slice] at hg
    exact h A' c' w' hown' hg
theorem grow105_any (n : Nat) (w : World) (hn : n ≤ 1000) : Calls Try.prog 105 #[.slice none 0 0, .int .i64 n] w fun e w' => ∃ A c, e = .returned (.slice A 0 c) ∧ w'.ownsRow w.heap.size 58 3 (.slice A 0 c) 0 [] ∧ Below w.heap.size w w' := by
  rcases Nat.eq_zero_or_pos n with h0 | h0
  · subst h0
    refine (Any8.slices_Grow_room growL none 0 0 0 w (Nat.le_refl _) (by omega) (by omega) (Nat.le_refl _)).mono ?_
    rintro e w' ⟨rfl, rfl⟩
    exact ⟨none, 0, rfl, World.ownsRow_nil _ _ _ _, Below.refl _ _⟩
  · obtain ⟨i0, hi0, hz0, hz1, hz2⟩ := info_parts Try.infoMark
    have hcap := grownCap_ge w (0 + n) 0 58
    have hmax := grownCap_le_maxLen w (0 + n) 0 58 (by unfold maxLen; omega)
    refine (Any8.slices_Grow_grow growL i0 _ hi0 hz0 (by rw [hz1]; omega) none 0 0 n [] w (Nat.le_refl _) (by omega) (by rw [hz2]; omega) (by omega) (by simp) (fun _ => rfl) (fun a ha => by cases ha)).mono ?_
    rintro e w' ⟨rfl, rfl⟩
    refine ⟨_, _, rfl, ?_, (below_drewN (Below.refl _ _) 1).alloc (Nat.le_refl _) _⟩
    refine World.ownsRow_made w.drew _ _ (Nat.le_refl _) hmax ?_
    show (#[] ++ Builtin.zeroCells _ (0 + n - 0) ++ Builtin.zeroCells _ (grownCap w (0 + n) 0 58 - (0 + n))).size = grownCap w (0 + n) 0 58 * 3
    have hc3 : (Value.agg #[.int .i64 0, .int .i64 0, .slice none 0 0]).cells.size = 3 := rfl
    rw [Array.size_append, Array.size_append, size_zeroCells, size_zeroCells, hc3]
    simp only [List.size_toArray, List.length_nil]
    omega
set_option maxHeartbeats 1000000 in
theorem concat79_any (T m d l e : Nat) (B C : Option Addr) (xs ys : List M) (w : World) (hT0 : w.cell? ⟨T, 0, none⟩ = some (.slice B m d)) (hT1 : w.cell? ⟨T, 1, none⟩ = some (.slice C l e)) (hm : m ≤ 100) (hl : l ≤ 100) (h : MrkIn w B m d xs) (k : MrkIn w C l e ys) :
    Calls Try.prog 79 #[.slice (some ⟨T, 0, none⟩) 2 2] w fun e w' => ∃ A' c', e = .returned (.slice A' (m + l) c') ∧ Mrks w' A' (m + l) (xs ++ ys) ∧ Below w.heap.size w w' := by
  obtain ⟨ps, hps, hpc⟩ := h.1.places
  obtain ⟨qs, hqs, hqc⟩ := k.1.places
  have hlx := h.1.len
  have hly := k.1.len
  have hbn : B = none → m = 0 := fun e => by have := h.2.2.2 e; have := h.2.1; omega
  have hcn : C = none → l = 0 := fun e => by have := k.2.2.2 e; have := k.2.1; omega
  have HX := Lib.hid hlx
  have HY := Lib.hid hly
  have HP := Lib.hid (hps.1.trans hlx)
  have HQ := Lib.hid (hqs.1.trans hly)
  have PS := Lib.hid hps
  have QS := Lib.hid hqs
  have PC := Lib.hid hpc
  have QC := Lib.hid hqc
  have BN := Lib.hid hbn
  have CN := Lib.hid hcn
  have BD := Lib.hid h.2.2.2
  have CD := Lib.hid k.2.2.2
  have tl := lt_of_cell hT0
  clear hps hqs hpc hqc hbn hcn hlx hly h k
  have n0 : decide ((m : Int) < 0) = false := by first | (simp; done) | (simp; omega)
  have n1 : decide (((m + l : Nat) : Int) < 0) = false := by first | (simp; done) | (simp; omega)
  have u1 : IntKind.i64.wrap (m : Int) = (m : Int) := IntWalk.i64_in _ (by omega)
  have u2 : IntKind.i64.wrap ((m : Int) + (l : Int)) = ((m + l : Nat) : Int) := by rw [IntWalk.i64_in _ (by omega)]; rfl
  go_enter Try.func79, Try.ntmps79
  go_wp2_with fail
  go_loopg [3, 11] 2 (fun g1 sv iv wr => wr = w ∧ ((g1 = 2 ∧ sv = .int .i64 0 ∧ iv = .int .i64 0) ∨ (g1 = 1 ∧ sv = .int .i64 (m : Int) ∧ iv = .int .i64 1) ∨ (g1 = 0 ∧ sv = .int .i64 ((m + l : Nat) : Int) ∧ iv = .int .i64 2)))
  case atStart => exact ⟨rfl, .inl ⟨rfl, rfl, rfl⟩⟩
  case round =>
    obtain ⟨hw, hrel⟩ := hrel
    obtain rfl : w = wr := hw.symm
    rcases hrel with ⟨rfl, rfl, rfl⟩ | ⟨rfl, rfl, rfl⟩ | ⟨rfl, rfl, rfl⟩
    · go_wp2_with fail
      go_roundg 1
      case measure => omega
      case rel => exact ⟨rfl, .inr (.inl ⟨rfl, rfl, rfl⟩)⟩
    · go_wp2_with fail
      go_roundg 0
      case measure => omega
      case rel => exact ⟨rfl, .inr (.inr ⟨rfl, rfl, rfl⟩)⟩
    · go_wp2_with fail
      refine (grow105_any (m + l) _ (by omega)).mono ?_
      rintro e W ⟨A0, c0, rfl, hrow, hbW⟩
      have HR := Lib.hid hrow
      clear hrow
      go_wp2_with fail
      go_loopg [6, 27] 2 (fun g1 nv iv wx => Below w.heap.size w wx ∧ ((g1 = 2 ∧ iv = .int .i64 0 ∧ ∃ A' c', nv = .slice A' 0 c' ∧ Hid (wx.ownsRow w.heap.size 58 3 (.slice A' 0 c') 0 (flat [] []))) ∨ (g1 = 1 ∧ iv = .int .i64 1 ∧ ∃ A' c', nv = .slice A' m c' ∧ Hid (wx.ownsRow w.heap.size 58 3 (.slice A' m c') m (flat xs ps))) ∨ (g1 = 0 ∧ iv = .int .i64 2 ∧ ∃ A' c', nv = .slice A' (m + l) c' ∧ Hid (wx.ownsRow w.heap.size 58 3 (.slice A' (m + l) c') (m + l) (flat (xs ++ ys) (ps ++ qs))))))
      case atStart => exact ⟨hbW, .inl ⟨rfl, rfl, _, _, rfl, HR⟩⟩
      case round =>
        clear hbW HR
        obtain ⟨hbx, hrel⟩ := hrel
        have t0 := (hbx.cell tl).trans hT0
        have t1 := (hbx.cell tl).trans hT1
        rcases hrel with ⟨rfl, rfl, A', c', rfl, hr⟩ | ⟨rfl, rfl, A', c', rfl, hr⟩ | ⟨rfl, rfl, A', c', rfl, hr⟩
        · go_wp2_with (at_builtin; refine wpList_catM _ rfl (.tmp 31) (.tmp 32) rfl w.heap.size A' 0 c' [] [] rfl hr.out rfl rfl B m d xs ps rfl HX.out HP.out BD.out BN.out (fun ad ha t u hu => (hbx.cell (lt_of_cell (PC.out ad ha t u hu))).trans (PC.out ad ha t u hu)) (by omega) hbx.size ?_; intro A2 c2 w2 o2 g2; rw [Nat.zero_add] at o2; have h2 := Lib.hid o2; have hb2 := Lib.hid (below_cat hbx g2 (fun a ha => by have := (hr.out.lt a.block (by rw [ownBlock_slice, ha]; rfl)).1; exact this)); clear o2 g2)
          go_roundg 1
          case measure => omega
          case rel => exact ⟨hb2.out, .inr (.inl ⟨rfl, rfl, _, _, rfl, h2⟩)⟩
        · go_wp2_with (at_builtin; refine wpList_catM _ rfl (.tmp 31) (.tmp 32) rfl w.heap.size A' m c' xs ps rfl hr.out HP.out HX.out C l e ys qs rfl HY.out HQ.out CD.out CN.out (fun ad ha t u hu => (hbx.cell (lt_of_cell (QC.out ad ha t u hu))).trans (QC.out ad ha t u hu)) (by omega) hbx.size ?_; intro A2 c2 w2 o2 g2; have h2 := Lib.hid o2; have hb2 := Lib.hid (below_cat hbx g2 (fun a ha => by have := (hr.out.lt a.block (by rw [ownBlock_slice, ha]; rfl)).1; exact this)); clear o2 g2)
          go_roundg 0
          case measure => omega
          case rel => exact ⟨hb2.out, .inr (.inr ⟨rfl, rfl, _, _, rfl, h2⟩)⟩
        · have hpl := (PS.out.append QS.out).below hbx
          have hM := Lib.hid (mrks_row hr.out (by simp [HP.out, HQ.out]) (by simp [HX.out, HY.out]) hpl.2)
          go_wp2_with fail
          go_ret
          exact ⟨_, _, rfl, hM.out, hbx⟩
end Go.Proofs.Ytjhlcgjhdiheaaa
