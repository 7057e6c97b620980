/- MarksMake of the program. -/
import Derived.Test.YtjhlcgjhdiheaaaMk4
import Derived.Deep.DeepCutAuto
namespace Go.Proofs.Ytjhlcgjhdiheaaa
open Go.RowKit
set_option linter.unusedVariables false
set_option linter.unusedSimpArgs false


theorem Blk.newAt {w : World} {g : Nat} (t : TypeId) (cs : Array Value) (hg : w.heap.size = g) : Blk (w.alloc (.cells cs t)) g t cs := by subst hg; exact Blk.new w t cs
theorem own_ne3 {w : World} {lo hi n c g : Nat} {A : Option Addr} {ms : List M} {cs : Array Value} (h : OwnM w lo hi A n c ms) (hb : Blk w g 3 cs) : some g ≠ A.map (·.block) := by
  obtain ⟨ps, _, _, h1, _⟩ := h
  exact own_ne h1 hb (by decide)
theorem OwnM.set_int {w : World} {lo hi n c g k : Nat} {A : Option Addr} {ms : List M} {cs : Array Value} (h : OwnM w lo hi A n c ms) (hb : Blk w g 3 cs) (u : Value) : OwnM (w.setCell ⟨g, k, none⟩ u) lo hi A n c ms := by
  have hne := own_ne3 h hb
  obtain ⟨ps, p1, p2, h1, h2, h3, h4, h5⟩ := h
  refine ⟨ps, p1, p2, ?_, fun j m p hm hp => ?_, h3, by simpa [World.setCell] using h4, h5⟩
  · refine h1.kept (grown_setCell w g k u) ?_
    cases A with
    | none => exact .inl rfl
    | some a => exact .inr fun e => hne e.symm
  · obtain ⟨i1, i2, i3⟩ := h2 j m p hm hp
    exact ⟨i1, i2, i3.set_far g k (i3.ne_blk hb (by decide)) u⟩
/-- the boxes of the local variables: the marks, where the open mark begins, where the walk is -/
structure Boxes (w : World) (X1 X2 X3 X4 X5 fa fb i j : Nat) (v : Value) : Prop where
  m : Blk w X1 29 #[v]
  fa : Blk w X2 3 #[.int .i64 (fa : Int)]
  fb : Blk w X3 3 #[.int .i64 (fb : Int)]
  i : Blk w X4 3 #[.int .i64 (i : Int)]
  j : Blk w X5 3 #[.int .i64 (j : Int)]
section
variable {w w' : World} {X1 X2 X3 X4 X5 fa fb i j : Nat} {v : Value}
theorem Boxes.drewN (h : Boxes w X1 X2 X3 X4 X5 fa fb i j v) (k : Nat) : Boxes (w.drewN k) X1 X2 X3 X4 X5 fa fb i j v := ⟨h.m, h.fa, h.fb, h.i, h.j⟩
theorem Boxes.drew (h : Boxes w X1 X2 X3 X4 X5 fa fb i j v) : Boxes w.drew X1 X2 X3 X4 X5 fa fb i j v := ⟨h.m, h.fa, h.fb, h.i, h.j⟩
theorem put3 {g : Nat} {u : Value} (h : Blk w g 3 #[u]) (z : Value) : Blk (w.setCell ⟨g, 0, none⟩ z) g 3 #[z] := by simpa using h.put 0 z
theorem Boxes.setI (h : Boxes w X1 X2 X3 X4 X5 fa fb i j v) (h1 : X1 ≠ X4) (h2 : X2 ≠ X4) (h3 : X3 ≠ X4) (h5 : X5 ≠ X4) (i' : Nat) : Boxes (w.setCell ⟨X4, 0, none⟩ (.int .i64 (i' : Int))) X1 X2 X3 X4 X5 fa fb i' j v :=
  ⟨h.m.far (h1) _, h.fa.far (h2) _, h.fb.far (h3) _, put3 h.i _, h.j.far (h5) _⟩
theorem Boxes.setJ (h : Boxes w X1 X2 X3 X4 X5 fa fb i j v) (h1 : X1 ≠ X5) (h2 : X2 ≠ X5) (h3 : X3 ≠ X5) (h4 : X4 ≠ X5) (j' : Nat) : Boxes (w.setCell ⟨X5, 0, none⟩ (.int .i64 (j' : Int))) X1 X2 X3 X4 X5 fa fb i j' v :=
  ⟨h.m.far (h1) _, h.fa.far (h2) _, h.fb.far (h3) _, h.i.far (h4) _, put3 h.j _⟩
theorem Boxes.setFA (h : Boxes w X1 X2 X3 X4 X5 fa fb i j v) (h1 : X1 ≠ X2) (h3 : X3 ≠ X2) (h4 : X4 ≠ X2) (h5 : X5 ≠ X2) (f : Nat) : Boxes (w.setCell ⟨X2, 0, none⟩ (.int .i64 (f : Int))) X1 X2 X3 X4 X5 f fb i j v :=
  ⟨h.m.far (h1) _, put3 h.fa _, h.fb.far (h3) _, h.i.far (h4) _, h.j.far (h5) _⟩
theorem Boxes.setFB (h : Boxes w X1 X2 X3 X4 X5 fa fb i j v) (h1 : X1 ≠ X3) (h2 : X2 ≠ X3) (h4 : X4 ≠ X3) (h5 : X5 ≠ X3) (f : Nat) : Boxes (w.setCell ⟨X3, 0, none⟩ (.int .i64 (f : Int))) X1 X2 X3 X4 X5 fa f i j v :=
  ⟨h.m.far (h1) _, h.fa.far (h2) _, put3 h.fb _, h.i.far (h4) _, h.j.far (h5) _⟩
theorem Boxes.end_ {lo hi K c' : Nat} {A' : Option Addr} {L : List M} {v' : Value} (h : Boxes w X1 X2 X3 X4 X5 fa fb i j (.slice A' K c')) (hO : OwnM w lo hi A' K c' L) (hv : Blk w' X1 29 #[v']) (hc : Chg w w' (fun g => g = X1 ∨ some g = A'.map (·.block))) (h2 : X2 ≠ X1) (h3 : X3 ≠ X1) (h4 : X4 ≠ X1) (h5 : X5 ≠ X1) : Boxes w' X1 X2 X3 X4 X5 fa fb i j v' := by
  have go : ∀ g cs, Blk w g 3 cs → g ≠ X1 → Blk w' g 3 cs := fun g cs hb hne => hb.chg hc (fun hS => by
    rcases hS with e | e
    · exact hne e
    · exact own_ne3 hO hb e)
  exact ⟨hv, go _ _ h.fa h2, go _ _ h.fb h3, go _ _ h.i h4, go _ _ h.j h5⟩
end
/-- the mark that finish appends is the open one -/
theorem fin_open {P g fa i fb j : Nat} {b : List ByteArray} (hP : P + g = fa) (hj : j ≤ b.length) (hfa : fa ≤ i) (hfb : fb ≤ j) :
    (if fa < i ∨ fb < j then [(⟨(fa : Int), ((i - fa : Nat) : Int), (b.drop fb).take (j - fb)⟩ : M)] else []) = Mk.openM P g (i - fa) ((b.drop fb).take (j - fb)) := by
  have hl : ((b.drop fb).take (j - fb)).length = j - fb := by rw [List.length_take, List.length_drop]; omega
  unfold Mk.openM
  rw [hl, hP]
  by_cases h : fa < i ∨ fb < j
  · rw [if_pos h, if_pos (by omega)]
  · rw [if_neg h, if_neg (by omega)]
theorem put_more {b : List ByteArray} {fb j : Nat} {y : ByteArray} (hy : b[j]? = some y) (hfb : fb ≤ j) : (b.drop fb).take (j - fb) ++ [y] = (b.drop fb).take (j + 1 - fb) := by
  rw [show j + 1 - fb = j - fb + 1 by omega, Mk.snoc_at (x := y)]
  rw [List.getElem?_drop, show fb + (j - fb) = j by omega]; exact hy
/-- where the walk is -/
def At (a b : List ByteArray) (L : List M) (fa fb i j : Nat) : Prop := ∃ P g, P + g = fa ∧ fa ≤ i ∧ fb ≤ j ∧ Mk.Way a b L P g (i - fa) ((b.drop fb).take (j - fb)) i j
section
variable {a b : List ByteArray} {L : List M} {fa fb i j : Nat}
theorem at_start (a b : List ByteArray) : At a b [] 0 0 0 0 := ⟨0, 0, rfl, Nat.le_refl _, Nat.le_refl _, Mk.way_start a b⟩
theorem at_end (h : At a b L fa fb i j) (hi : a.length ≤ i) (hj : b.length ≤ j) : L ++ (if fa < i ∨ fb < j then [(⟨(fa : Int), ((i - fa : Nat) : Int), (b.drop fb).take (j - fb)⟩ : M)] else []) = Mk.abs 0 (Mk.made a b) := by
  obtain ⟨P, g, h1, h2, h3, h4⟩ := h
  rw [fin_open h1 h4.2.2.2.1 h2 h3]
  exact (Mk.way_end h4 hi hj).symm
theorem at_keep (h : At a b L fa fb i j) {x : ByteArray} (hx : a[i]? = some x) (hy : b[j]? = some x) : At a b (L ++ (if fa < i ∨ fb < j then [(⟨(fa : Int), ((i - fa : Nat) : Int), (b.drop fb).take (j - fb)⟩ : M)] else [])) (i + 1) (j + 1) (i + 1) (j + 1) := by
  obtain ⟨P, g, h1, h2, h3, h4⟩ := h
  rw [fin_open h1 h4.2.2.2.1 h2 h3]
  obtain ⟨P', g', e, h5⟩ := Mk.way_keep h4 hx hy
  exact ⟨P', g', e, Nat.le_refl _, Nat.le_refl _, by rw [Nat.sub_self, Nat.sub_self, List.take_zero]; exact h5⟩
theorem at_cut (h : At a b L fa fb i j) (hi : i < a.length) (hne : ∀ x, a[i]? = some x → b[j]? ≠ some x) (hf : V a b (i + 1) j < V a b i j) : At a b L fa fb (i + 1) j := by
  obtain ⟨P, g, h1, h2, h3, h4⟩ := h
  refine ⟨P, g, h1, by omega, h3, ?_⟩
  rw [show i + 1 - fa = i - fa + 1 by omega]
  exact Mk.way_cut h4 hi hne (by rw [V_farAt, V_farAt] at hf; omega)
theorem at_put (h : At a b L fa fb i j) (hd : i < a.length ∨ j < b.length) (hne : ∀ x, a[i]? = some x → b[j]? ≠ some x) (hf : ¬ (i < a.length ∧ V a b (i + 1) j < V a b i j)) : At a b L fa fb i (j + 1) ∧ j < b.length := by
  obtain ⟨P, g, h1, h2, h3, h4⟩ := h
  obtain ⟨y, hy, h5⟩ := Mk.way_put h4 hd hne (fun e => hf ⟨e.1, by rw [V_farAt, V_farAt]; have := e.2; omega⟩)
  rw [put_more hy h3] at h5
  exact ⟨⟨P, g, h1, h2, by omega, h5⟩, (List.getElem?_eq_some_iff.1 hy).1⟩
end
set_option maxRecDepth 20000 in
set_option maxHeartbeats 16000000 in
theorem imake_any (A B : Option Addr) (n c0 m d : Nat) (a b : List ByteArray) (w : World) (hn : n ≤ 9223372036854775807) (hm : m ≤ 9223372036854775807) (hmd : m ≤ d) (hdm : d ≤ 9223372036854775807) (hz : B = none → d = 0) (h : Strs w A n a) (kb : Strs w B m b) :
    Calls Try.prog 64 #[.slice A n c0, .slice B m d] w (MrkPost w (makeF a b)) := by
  have ha := Lib.hid h.len
  have hb := Lib.hid kb.len
  have b0 : Below w.heap.size w (w.alloc (.cells #[.slice B m d] 22)) := (Below.refl _ _).alloc (Nat.le_refl _) _
  have x0 := Lib.hid (Blk.new w 22 #[.slice B m d])
  cases h1 : speak a with
  | false =>
    have hr := Lib.hid (makeF_no (a := a) (b := b) (by rw [h1]; rfl))
    have H1 := Lib.hid h1
    clear h1
    go_enter Try.func64, Try.ntmps64
    go_wp2_with fail
    refine (ispeech_any A n c0 a _ hn (h.below b0)).mono ?_
    rw [H1.out]
    rintro e w' ⟨rfl, rfl⟩
    go_wp2_with fail
    go_ret2
    exact MrkPost.nil_ hr.out b0
  | true =>
    cases h2 : speak b with
    | false =>
      have hr := Lib.hid (makeF_no (a := a) (b := b) (by rw [h1, h2]; rfl))
      have H1 := Lib.hid h1
      have H2 := Lib.hid h2
      clear h1 h2
      go_enter Try.func64, Try.ntmps64
      go_wp2_with fail
      refine (ispeech_any A n c0 a _ hn (h.below b0)).mono ?_
      rw [H1.out]
      rintro e w' ⟨rfl, rfl⟩
      go_wp2_with fail
      refine (ispeech_any B m d b _ hm (kb.below b0)).mono ?_
      rw [H2.out]
      rintro e w' ⟨rfl, rfl⟩
      go_wp2_with fail
      go_ret2
      exact MrkPost.nil_ hr.out b0
    | true =>
      have hr := Lib.hid (makeF_yes h1 h2)
      have hn2 : n ≤ 20 := by have := speak_len h1; rw [ha.out] at this; exact this
      have hm2 : m ≤ 20 := by have := speak_len h2; rw [hb.out] at this; exact this
      have H1 := Lib.hid h1
      have H2 := Lib.hid h2
      clear h1 h2
      go_enter Try.func64, Try.ntmps64
      go_wp2_with fail
      refine (ispeech_any A n c0 a _ hn (h.below b0)).mono ?_
      rw [H1.out]
      rintro e w' ⟨rfl, rfl⟩
      go_wp2_with fail
      refine (ispeech_any B m d b _ hm (kb.below b0)).mono ?_
      rw [H2.out]
      rintro e w' ⟨rfl, rfl⟩
      go_wp2_with fail
      refine (itable_any A B n c0 m d a b _ hn2 hm2 (h.below b0) (kb.below b0)).mono ?_
      rintro e W ⟨G, R, cs, rfl, hT, hb1⟩
      have xB := x0.out.below hb1 x0.out.lt
      have hbW := b0.trans (hb1.mono b0.size)
      obtain ⟨lo, hlo⟩ : ∃ l, (w.alloc (.cells #[.slice B m d] 22)).heap.size = l := ⟨_, rfl⟩
      rw [hlo] at hT
      have hWay := Lib.hid (Mk.way_start a b)
      clear b0 hb1 hlo x0
      have cB := xB.cell 0
      simp at cB
      go_wp2_with fail
      have k0 := own_emptyM W W.heap.size (Nat.le_refl _)
      have k1 : Blk ((W.alloc (.cells #[] 58)).alloc (.cells #[.slice (some ⟨W.heap.size, 0, none⟩) 0 0] 29)) (W.heap.size + 1) 29 #[.slice (some ⟨W.heap.size, 0, none⟩) 0 0] := Blk.newAt _ _ (by simp)
      have k2 : Blk (((W.alloc (.cells #[] 58)).alloc (.cells #[.slice (some ⟨W.heap.size, 0, none⟩) 0 0] 29)).alloc (.cells #[.int .i64 0] 3)) (W.heap.size + 1 + 1) 3 #[.int .i64 ((0 : Nat) : Int)] := Blk.newAt _ _ (by simp)
      have k3 : Blk ((((W.alloc (.cells #[] 58)).alloc (.cells #[.slice (some ⟨W.heap.size, 0, none⟩) 0 0] 29)).alloc (.cells #[.int .i64 0] 3)).alloc (.cells #[.int .i64 0] 3)) (W.heap.size + 1 + 1 + 1) 3 #[.int .i64 ((0 : Nat) : Int)] := Blk.newAt _ _ (by simp)
      have k4 : Blk (((((W.alloc (.cells #[] 58)).alloc (.cells #[.slice (some ⟨W.heap.size, 0, none⟩) 0 0] 29)).alloc (.cells #[.int .i64 0] 3)).alloc (.cells #[.int .i64 0] 3)).alloc (.cells #[.int .i64 0] 3)) (W.heap.size + 1 + 1 + 1 + 1) 3 #[.int .i64 ((0 : Nat) : Int)] := Blk.newAt _ _ (by simp)
      have k5 : Blk ((((((W.alloc (.cells #[] 58)).alloc (.cells #[.slice (some ⟨W.heap.size, 0, none⟩) 0 0] 29)).alloc (.cells #[.int .i64 0] 3)).alloc (.cells #[.int .i64 0] 3)).alloc (.cells #[.int .i64 0] 3)).alloc (.cells #[.int .i64 0] 3)) (W.heap.size + 1 + 1 + 1 + 1 + 1) 3 #[.int .i64 ((0 : Nat) : Int)] := Blk.newAt _ _ (by simp)
      have bx : Boxes ((((((W.alloc (.cells #[] 58)).alloc (.cells #[.slice (some ⟨W.heap.size, 0, none⟩) 0 0] 29)).alloc (.cells #[.int .i64 0] 3)).alloc (.cells #[.int .i64 0] 3)).alloc (.cells #[.int .i64 0] 3)).alloc (.cells #[.int .i64 0] 3)) (W.heap.size + 1) (W.heap.size + 1 + 1) (W.heap.size + 1 + 1 + 1) (W.heap.size + 1 + 1 + 1 + 1) (W.heap.size + 1 + 1 + 1 + 1 + 1) 0 0 0 0 (.slice (some ⟨W.heap.size, 0, none⟩) 0 0) := ⟨(((k1.alloc _).alloc _).alloc _).alloc _, ((k2.alloc _).alloc _).alloc _, (k3.alloc _).alloc _, k4.alloc _, k5⟩
      have ow : OwnM ((((((W.alloc (.cells #[] 58)).alloc (.cells #[.slice (some ⟨W.heap.size, 0, none⟩) 0 0] 29)).alloc (.cells #[.int .i64 0] 3)).alloc (.cells #[.int .i64 0] 3)).alloc (.cells #[.int .i64 0] 3)).alloc (.cells #[.int .i64 0] 3)) W.heap.size (W.heap.size + 1) (some ⟨W.heap.size, 0, none⟩) 0 0 [] := (((((k0.alloc _).alloc _).alloc _).alloc _).alloc _)
      have bl : Below W.heap.size W ((((((W.alloc (.cells #[] 58)).alloc (.cells #[.slice (some ⟨W.heap.size, 0, none⟩) 0 0] 29)).alloc (.cells #[.int .i64 0] 3)).alloc (.cells #[.int .i64 0] 3)).alloc (.cells #[.int .i64 0] 3)).alloc (.cells #[.int .i64 0] 3)) := ((((((Below.refl W.heap.size W).alloc (Nat.le_refl _) _).alloc (by first | (simp; done) | (simp; omega)) _).alloc (by first | (simp; done) | (simp; omega)) _).alloc (by first | (simp; done) | (simp; omega)) _).alloc (by first | (simp; done) | (simp; omega)) _).alloc (by first | (simp; done) | (simp; omega)) _
      clear k0 k1 k2 k3 k4 k5
      generalize ((((((W.alloc (.cells #[] 58)).alloc (.cells #[.slice (some ⟨W.heap.size, 0, none⟩) 0 0] 29)).alloc (.cells #[.int .i64 0] 3)).alloc (.cells #[.int .i64 0] 3)).alloc (.cells #[.int .i64 0] 3)).alloc (.cells #[.int .i64 0] 3)) = w6 at *
      generalize hX1 : W.heap.size + 1 = X1 at *
      generalize hX2 : X1 + 1 = X2 at *
      generalize hX3 : X2 + 1 = X3 at *
      generalize hX4 : X3 + 1 = X4 at *
      generalize hX5 : X4 + 1 = X5 at *
      have o0 : W.heap.size < X1 := by omega
      have o1 : X1 < X2 := by omega
      have o2 : X2 < X3 := by omega
      have o3 : X3 < X4 := by omega
      have o4 : X4 < X5 := by omega
      have hAt := Lib.hid (at_start a b)
      clear hX1 hX2 hX3 hX4 hX5 hWay cB
      go_loopg [] (n + m) (fun g1 wr => ∃ (i j fa fb K c' hi : Nat) (L : List M) (A' : Option Addr), i ≤ n ∧ j ≤ m ∧ n + m ≤ g1 + i + j ∧ K ≤ i + j ∧ Boxes wr X1 X2 X3 X4 X5 fa fb i j (.slice A' K c') ∧ OwnM wr W.heap.size hi A' K c' L ∧ W.heap.size ≤ hi ∧ Hid (At a b L fa fb i j) ∧ Below W.heap.size W wr)
      case atStart => exact ⟨0, 0, 0, 0, 0, 0, _, [], _, Nat.zero_le _, Nat.zero_le _, by omega, Nat.le_refl _, bx, ow, by omega, hAt, bl⟩
      case round =>
        clear bx ow bl hAt
        obtain ⟨i, j, fa, fb, K, c', hi, L, A', hin, hjm, hg1, hK, hB, hO, hhi, hAt, hbel⟩ := hrel
        have c1 := hB.m.cell 0
        have c2 := hB.fa.cell 0
        have c3 := hB.fb.cell 0
        have c4 := hB.i.cell 0
        have c5 := hB.j.cell 0
        have xBr := xB.below hbel xB.lt
        have cB := xBr.cell 0
        simp at c1 c2 c3 c4 c5 cB
        have hsA := h.below (hbW.trans (hbel.mono hbW.size))
        have hsB := kb.below (hbW.trans (hbel.mono hbW.size))
        have hfa : fa ≤ i := by obtain ⟨P, g, e1, e2, e3, e4⟩ := hAt.out; exact e2
        have hfb : fb ≤ j := by obtain ⟨P, g, e1, e2, e3, e4⟩ := hAt.out; exact e3
        by_cases hend : i = n ∧ j = m
        · have e1 : decide ((i : Int) < (n : Int)) = false := by simp; omega
          have e2 : decide ((j : Int) < (m : Int)) = false := by simp; omega
          have e3 : decide (i < n) = false := by simp; omega
          have e4 : decide (j < m) = false := by simp; omega
          have hfin := at_end hAt.out (by rw [ha.out]; omega) (by rw [hb.out]; omega)
          have HF := Lib.hid hfin
          clear hend hfin
          go_wp2_with fail
          refine (finish_any X4 X2 X5 X3 w.heap.size X1 i fa j fb m d K c' W.heap.size hi B A' b L _ hB.i hB.fa hB.j hB.fb xBr hB.m hfa (by omega) hfb hjm hm2 hmd hdm hz hsB hO (by omega) hhi).mono ?_
          rw [HF.out]
          rintro e w' ⟨rfl, A2, K2, c2', hv, hO2, hC⟩
          have hb2 : Below W.heap.size W w' := hbel.trans (hC.below hbel.size (fun k hk hS => by
            rcases hS with e | e
            · omega
            · cases A' with
              | none => cases e
              | some ad =>
                have := (hO.lo_le ad rfl).1
                have e : k = ad.block := by injection e
                omega))
          have c9 := hv.cell 0
          simp at c9
          have HO2 := Lib.hid hO2
          have HB2 := Lib.hid hb2
          clear hO2 hb2 hv hC
          go_wp2_with fail
          go_ret2
          exact MrkPost.some_ hr.out (HO2.out.wide hbW.size (Nat.le_refl _) (Nat.le_refl _)) (hbW.trans (HB2.out.mono hbW.size))
        · by_cases hlt1 : i < n
          · obtain ⟨ab, ao, x, rfl, hx, hxs, cx0⟩ := hsA.at_ hlt1
            by_cases hlt2 : j < m
            · obtain ⟨bb, bo, y, rfl, hy, hys, cy0⟩ := hsB.at_ hlt2
              by_cases hxy : x = y
              · have e3 : (x.toList == y.toList) = true := by rw [bytes_eq]; simp [hxy]
                have hK2 := Lib.hid (at_keep hAt.out hx (by rw [hxy]; exact hy))
                have HX := Lib.hid hx
                have e1 : decide ((i : Int) < (n : Int)) = true := by simp; omega
                have e1' : decide (i < n) = true := by simp; omega
                have e2 : decide ((j : Int) < (m : Int)) = true := by simp; omega
                have e2' : decide (j < m) = true := by simp; omega
                clear hx hy hxy hend
                go_wp2_with fail
                go_quiet (fail)
                have hBq := hB.drewN nq
                have hOq := hO.drewN nq
                have hbq := below_drewN hbel nq
                have xBq := xBr.drewN nq
                have hsBq := hsB.drewN nq
                clear hB hO hbel xBr hsB c1 c2 c3 c4 c5 cB cx0 cy0 hsA
                generalize wr.drewN nq = Wq at *
                go_wp2_with fail
                refine (finish_any X4 X2 X5 X3 w.heap.size X1 i fa j fb m d K c' W.heap.size hi _ A' b L _ hBq.i hBq.fa hBq.j hBq.fb xBq hBq.m hfa (by omega) hfb hjm hm2 hmd hdm hz hsBq hOq (by omega) hhi).mono ?_
                have hL2 : (L ++ (if fa < i ∨ fb < j then [(⟨(fa : Int), ((i - fa : Nat) : Int), (b.drop fb).take (j - fb)⟩ : M)] else [])).length ≤ K + 1 := by
                  have h1 := hOq.len
                  rw [List.length_append]
                  split <;> simp <;> omega
                have HL2 := Lib.hid hL2
                clear hL2
                generalize (L ++ (if fa < i ∨ fb < j then [(⟨(fa : Int), ((i - fa : Nat) : Int), (b.drop fb).take (j - fb)⟩ : M)] else [])) = L2 at *
                rintro e w' ⟨rfl, A2, K2, c2', hv, hO2, hC⟩
                have hK3 : K2 ≤ i + j + 1 := by have h1 := hO2.len; have h2 := HL2.out; omega
                have hb2 : Below W.heap.size W w' := hbq.trans (hC.below hbq.size (fun k hk hS => by
                  rcases hS with e | e
                  · omega
                  · cases A' with
                    | none => cases e
                    | some ad =>
                      have := (hOq.lo_le ad rfl).1
                      have e : k = ad.block := by injection e
                      omega))
                have hB2 := hBq.end_ hOq hv hC (by omega) (by omega) (by omega) (by omega)
                clear hBq hOq hbq xBq hsBq hC hv
                have c4 := hB2.i.cell 0
                have c5 := hB2.j.cell 0
                simp at c4 c5
                have l4 := hB2.i.lt
                have l5 := hB2.j.lt
                have u1 : IntKind.i64.wrap ((i : Int) + 1) = (i : Int) + 1 := IntWalk.i64_in _ (by omega)
                have u2 : IntKind.i64.wrap ((j : Int) + 1) = (j : Int) + 1 := IntWalk.i64_in _ (by omega)
                have f4 := hB2.i.free 0
                have f5 := hB2.j.free 0
                have n45 : ¬ X4 = X5 := by omega
                have n54 : ¬ X5 = X4 := by omega
                go_wp2_with fail
                go_region
                have hB3 := ((hB2.setI (by omega) (by omega) (by omega) (by omega) (i + 1)).setJ (by omega) (by omega) (by omega) (by omega) (j + 1)).drew
                have hO3 := (hO2.set_int hB2.i (k := 0) (.int .i64 ((i + 1 : Nat) : Int))).set_int (hB2.setI (by omega) (by omega) (by omega) (by omega) (i + 1)).j (k := 0) (.int .i64 ((j + 1 : Nat) : Int))
                replace hO3 := hO3.drewN 1
                have hb3 := below_drewN ((hb2.setCell (p := ⟨X4, 0, none⟩) (by show W.heap.size ≤ X4; omega) (.int .i64 ((i + 1 : Nat) : Int))).setCell (p := ⟨X5, 0, none⟩) (by show W.heap.size ≤ X5; omega) (.int .i64 ((j + 1 : Nat) : Int))) 1
                have hh3 := hO2.top
                have hs3 : ((w'.setCell ⟨X4, 0, none⟩ (.int .i64 ((i + 1 : Nat) : Int))).setCell ⟨X5, 0, none⟩ (.int .i64 ((j + 1 : Nat) : Int))).drew.heap.size = w'.heap.size := by simp [World.setCell, World.drew]
                clear hB2 hb2 c4 c5 f4 f5 l4 l5
                change Boxes ((w'.setCell ⟨X4, 0, none⟩ (.int .i64 ((i : Int) + 1))).setCell ⟨X5, 0, none⟩ (.int .i64 ((j : Int) + 1))).drew X1 X2 X3 X4 X5 fa fb (i + 1) (j + 1) (.slice A2 K2 c2') at hB3
                change OwnM ((w'.setCell ⟨X4, 0, none⟩ (.int .i64 ((i : Int) + 1))).setCell ⟨X5, 0, none⟩ (.int .i64 ((j : Int) + 1))).drew W.heap.size w'.heap.size A2 K2 c2' L2 at hO3
                change Below W.heap.size W ((w'.setCell ⟨X4, 0, none⟩ (.int .i64 ((i : Int) + 1))).setCell ⟨X5, 0, none⟩ (.int .i64 ((j : Int) + 1))).drew at hb3
                have hlen3 := Lib.hid hO3.len
                have ht3 : W.heap.size ≤ w'.heap.size := by have := hb3.size; change ((w'.setCell ⟨X4, 0, none⟩ (.int .i64 ((i : Int) + 1))).setCell ⟨X5, 0, none⟩ (.int .i64 ((j : Int) + 1))).drew.heap.size = w'.heap.size at hs3; rw [hs3] at this; exact this
                clear hO2 hs3
                generalize ((w'.setCell ⟨X4, 0, none⟩ (.int .i64 ((i : Int) + 1))).setCell ⟨X5, 0, none⟩ (.int .i64 ((j : Int) + 1))).drew = W3 at *
                generalize w'.heap.size = hi3 at *
                have c4 := hB3.i.cell 0
                have c5 := hB3.j.cell 0
                have c2 := hB3.fa.cell 0
                have c3 := hB3.fb.cell 0
                simp at c4 c5 c2 c3
                have l2 := hB3.fa.lt
                have l3 := hB3.fb.lt
                have f2 := hB3.fa.free 0
                have f3 := hB3.fb.free 0
                have n23 : ¬ X2 = X3 := by omega
                have n32 : ¬ X3 = X2 := by omega
                go_wp2_with fail
                go_region
                have hB4 := ((hB3.setFA (by omega) (by omega) (by omega) (by omega) (i + 1)).setFB (by omega) (by omega) (by omega) (by omega) (j + 1)).drew
                have hO4 := (hO3.set_int hB3.fa (k := 0) (.int .i64 ((i + 1 : Nat) : Int))).set_int (hB3.setFA (by omega) (by omega) (by omega) (by omega) (i + 1)).fb (k := 0) (.int .i64 ((j + 1 : Nat) : Int))
                have hb4 := below_drewN ((hb3.setCell (p := ⟨X2, 0, none⟩) (by show W.heap.size ≤ X2; omega) (.int .i64 ((i + 1 : Nat) : Int))).setCell (p := ⟨X3, 0, none⟩) (by show W.heap.size ≤ X3; omega) (.int .i64 ((j + 1 : Nat) : Int))) 1
                have HB4 := Lib.hid hB4
                have HO4 := Lib.hid hO4
                have Hb4 := Lib.hid hb4
                clear hB3 hO3 hb3 hB4 hO4 hb4 c4 c5 c2 c3
                go_wp2_with fail
                go_roundg (gk - 2)
                case measure => omega
                case rel => exact ⟨i + 1, j + 1, i + 1, j + 1, K2, c2', hi3, L2, A2, by omega, by omega, by omega, by omega, HB4.out, HO4.out.drewN 1, by omega, hK2, Hb4.out⟩
              · have hne : ∀ z, a[i]? = some z → b[j]? ≠ some z := by intro z h1 h2; rw [hx] at h1; rw [hy] at h2; injection h1 with h1; injection h2 with h2; exact hxy (h1.trans h2.symm)
                have e3 : (x.toList == y.toList) = false := by rw [bytes_eq]; simp [hxy]
                clear hx hy hxy
                have e1 : decide ((i : Int) < (n : Int)) = true := by simp; omega
                have e1' : decide (i < n) = true := by simp; omega
                have e2 : decide ((j : Int) < (m : Int)) = true := by simp; omega
                have e2' : decide (j < m) = true := by simp; omega
                by_cases hc : V a b (i + 1) j < V a b i j
                · have HW := Lib.hid (at_cut hAt.out (by rw [ha.out]; exact hlt1) hne hc)
                  clear hne
                  have hTr := hT.below (show Below W.heap.size W wr from hbel)
                  obtain ⟨t1, t2⟩ := hTr.cells (i := i + 1) (j := j) (by omega) hjm
                  obtain ⟨t3, t4⟩ := hTr.cells (i := i) (j := j) hin hjm
                  clear hTr
                  have u3 : IntKind.i64.wrap ((i : Int) + 1) = (i : Int) + 1 := IntWalk.i64_in _ (by omega)
                  have e5 : decide (V a b (i + 1) j < V a b i j) = true := by simp [hc]
                  clear hc
                  generalize V a b (i + 1) j = va at *
                  generalize V a b i j = vb at *
                  generalize R (i + 1) = r1 at *
                  generalize R i = r2 at *
                  have u1 : IntKind.i64.wrap ((i : Int) + 1) = (i : Int) + 1 := IntWalk.i64_in _ (by omega)
                  have u2 : IntKind.i64.wrap ((j : Int) + 1) = (j : Int) + 1 := IntWalk.i64_in _ (by omega)
                  have HB := Lib.hid hB
                  have HO := Lib.hid hO
                  have HE := Lib.hid hbel
                  have l4 := hB.i.lt
                  have l5 := hB.j.lt
                  have f4 := hB.i.free 0
                  have f5 := hB.j.free 0
                  clear hB hO hbel xBr hsA hsB hend
                  go_wp2_with fail
                  go_quiet (fail)
                  go_wp2_with fail
                  go_quiet (fail)
                  go_wp2_with fail
                  go_roundg (gk - 1)
                  case measure => omega
                  case rel => exact ⟨i + 1, j, fa, fb, K, c', hi, L, A', by omega, by omega, by omega, by omega, (HB.out.drewN _).setI (by omega) (by omega) (by omega) (by omega) (i + 1), (OwnM.set_int (k := 0) (HO.out.drewN _) (HB.out.drewN _).i (.int .i64 ((i + 1 : Nat) : Int))), hhi, HW, (below_drewN HE.out _).setCell (p := ⟨X4, 0, none⟩) (by show W.heap.size ≤ X4; omega) (.int .i64 ((i + 1 : Nat) : Int))⟩
                · obtain ⟨hw, _⟩ := at_put hAt.out (by rw [ha.out, hb.out]; omega) hne (fun e => hc e.2)
                  have HW := Lib.hid hw
                  clear hne hw
                  have hTr := hT.below (show Below W.heap.size W wr from hbel)
                  obtain ⟨t1, t2⟩ := hTr.cells (i := i + 1) (j := j) (by omega) hjm
                  obtain ⟨t3, t4⟩ := hTr.cells (i := i) (j := j) hin hjm
                  clear hTr
                  have u3 : IntKind.i64.wrap ((i : Int) + 1) = (i : Int) + 1 := IntWalk.i64_in _ (by omega)
                  have e5 : decide (V a b (i + 1) j < V a b i j) = false := by simp [hc]
                  clear hc
                  generalize V a b (i + 1) j = va at *
                  generalize V a b i j = vb at *
                  generalize R (i + 1) = r1 at *
                  generalize R i = r2 at *
                  have u1 : IntKind.i64.wrap ((i : Int) + 1) = (i : Int) + 1 := IntWalk.i64_in _ (by omega)
                  have u2 : IntKind.i64.wrap ((j : Int) + 1) = (j : Int) + 1 := IntWalk.i64_in _ (by omega)
                  have HB := Lib.hid hB
                  have HO := Lib.hid hO
                  have HE := Lib.hid hbel
                  have l4 := hB.i.lt
                  have l5 := hB.j.lt
                  have f4 := hB.i.free 0
                  have f5 := hB.j.free 0
                  clear hB hO hbel xBr hsA hsB hend
                  go_wp2_with fail
                  go_quiet (fail)
                  go_wp2_with fail
                  go_quiet (fail)
                  go_wp2_with fail
                  go_roundg (gk - 1)
                  case measure => omega
                  case rel => exact ⟨i, j + 1, fa, fb, K, c', hi, L, A', by omega, by omega, by omega, by omega, (HB.out.drewN _).setJ (by omega) (by omega) (by omega) (by omega) (j + 1), (OwnM.set_int (k := 0) (HO.out.drewN _) (HB.out.drewN _).j (.int .i64 ((j + 1 : Nat) : Int))), hhi, HW, (below_drewN HE.out _).setCell (p := ⟨X5, 0, none⟩) (by show W.heap.size ≤ X5; omega) (.int .i64 ((j + 1 : Nat) : Int))⟩
            · have hne : ∀ z, a[i]? = some z → b[j]? ≠ some z := by intro z _ h2; rw [List.getElem?_eq_none (by rw [hb.out]; omega)] at h2; cases h2
              have hc : V a b (i + 1) j < V a b i j := by rw [show j = m by omega, V_side ha.out hb.out (by omega), V_side ha.out hb.out (by omega)]; omega
              have e1 : decide ((i : Int) < (n : Int)) = true := by simp; omega
              have e1' : decide (i < n) = true := by simp; omega
              have e2 : decide ((j : Int) < (m : Int)) = false := by simp; omega
              have e2' : decide (j < m) = false := by simp; omega
              have HW := Lib.hid (at_cut hAt.out (by rw [ha.out]; exact hlt1) hne hc)
              clear hx hne
              have hTr := hT.below (show Below W.heap.size W wr from hbel)
              obtain ⟨t1, t2⟩ := hTr.cells (i := i + 1) (j := j) (by omega) hjm
              obtain ⟨t3, t4⟩ := hTr.cells (i := i) (j := j) hin hjm
              clear hTr
              have u3 : IntKind.i64.wrap ((i : Int) + 1) = (i : Int) + 1 := IntWalk.i64_in _ (by omega)
              have e5 : decide (V a b (i + 1) j < V a b i j) = true := by simp [hc]
              clear hc
              generalize V a b (i + 1) j = va at *
              generalize V a b i j = vb at *
              generalize R (i + 1) = r1 at *
              generalize R i = r2 at *
              have u1 : IntKind.i64.wrap ((i : Int) + 1) = (i : Int) + 1 := IntWalk.i64_in _ (by omega)
              have u2 : IntKind.i64.wrap ((j : Int) + 1) = (j : Int) + 1 := IntWalk.i64_in _ (by omega)
              have HB := Lib.hid hB
              have HO := Lib.hid hO
              have HE := Lib.hid hbel
              have l4 := hB.i.lt
              have l5 := hB.j.lt
              have f4 := hB.i.free 0
              have f5 := hB.j.free 0
              clear hB hO hbel xBr hsA hsB hend
              go_wp2_with fail
              go_quiet (fail)
              go_wp2_with fail
              go_quiet (fail)
              go_wp2_with fail
              go_roundg (gk - 1)
              case measure => omega
              case rel => exact ⟨i + 1, j, fa, fb, K, c', hi, L, A', by omega, by omega, by omega, by omega, (HB.out.drewN _).setI (by omega) (by omega) (by omega) (by omega) (i + 1), (OwnM.set_int (k := 0) (HO.out.drewN _) (HB.out.drewN _).i (.int .i64 ((i + 1 : Nat) : Int))), hhi, HW, (below_drewN HE.out _).setCell (p := ⟨X4, 0, none⟩) (by show W.heap.size ≤ X4; omega) (.int .i64 ((i + 1 : Nat) : Int))⟩
          · have hne : ∀ z, a[i]? = some z → b[j]? ≠ some z := by intro z h2 _; rw [List.getElem?_eq_none (by rw [ha.out]; omega)] at h2; cases h2
            obtain ⟨hw, hw2⟩ := at_put hAt.out (by rw [ha.out, hb.out]; omega) hne (fun e => by have := e.1; rw [ha.out] at this; omega)
            rw [hb.out] at hw2
            have e1 : decide ((i : Int) < (n : Int)) = false := by simp; omega
            have e1' : decide (i < n) = false := by simp; omega
            have e2 : decide ((j : Int) < (m : Int)) = true := by simp; omega
            have e2' : decide (j < m) = true := by simp; omega
            have HW := Lib.hid hw
            clear hne hw
            have u1 : IntKind.i64.wrap ((i : Int) + 1) = (i : Int) + 1 := IntWalk.i64_in _ (by omega)
            have u2 : IntKind.i64.wrap ((j : Int) + 1) = (j : Int) + 1 := IntWalk.i64_in _ (by omega)
            have HB := Lib.hid hB
            have HO := Lib.hid hO
            have HE := Lib.hid hbel
            have l4 := hB.i.lt
            have l5 := hB.j.lt
            have f4 := hB.i.free 0
            have f5 := hB.j.free 0
            clear hB hO hbel xBr hsA hsB hend
            go_wp2_with fail
            go_quiet (fail)
            go_wp2_with fail
            go_quiet (fail)
            go_wp2_with fail
            go_roundg (gk - 1)
            case measure => omega
            case rel => exact ⟨i, j + 1, fa, fb, K, c', hi, L, A', by omega, by omega, by omega, by omega, (HB.out.drewN _).setJ (by omega) (by omega) (by omega) (by omega) (j + 1), (OwnM.set_int (k := 0) (HO.out.drewN _) (HB.out.drewN _).j (.int .i64 ((j + 1 : Nat) : Int))), hhi, HW, (below_drewN HE.out _).setCell (p := ⟨X5, 0, none⟩) (by show W.heap.size ≤ X5; omega) (.int .i64 ((j + 1 : Nat) : Int))⟩
end Go.Proofs.Ytjhlcgjhdiheaaa
