/- MarksMake of the program: the function that ends an open mark. -/
import Derived.Test.YtjhlcgjhdiheaaaMk3
import Derived.BigRegion
import Derived.StillTailTactics
import Derived.Deep.CutRange
namespace Go.Proofs.Ytjhlcgjhdiheaaa
open Go.RowKit
set_option linter.unusedVariables false
set_option linter.unusedSimpArgs false

abbrev ptr (g : Nat) : Value := .pointer (some ⟨g, 0, none⟩)
def EndPost (w : World) (Mm lo : Nat) (A' : Option Addr) (L : List M) (e : Ending) (w' : World) : Prop :=
  e = .returned (.tuple #[]) ∧ ∃ A2 K2 c2, Blk w' Mm 29 #[.slice A2 K2 c2] ∧ OwnM w' lo w'.heap.size A2 K2 c2 L ∧ Chg w w' (fun g => g = Mm ∨ some g = A'.map (·.block))
theorem own_ne' {w : World} {lo hi n c g : Nat} {A : Option Addr} {ms : List M} {cs : Array Value} (h : OwnM w lo hi A n c ms) (hb : Blk w g 29 cs) : some g ≠ A.map (·.block) := by
  obtain ⟨ps, _, _, h1, _⟩ := h
  exact own_ne h1 hb (by decide)
theorem OwnM.set_box {w : World} {lo hi n c g k : Nat} {A : Option Addr} {ms : List M} {cs : Array Value} (h : OwnM w lo hi A n c ms) (hb : Blk w g 29 cs) (u : Value) : OwnM (w.setCell ⟨g, k, none⟩ u) lo hi A n c ms := by
  have hne := own_ne' h hb
  obtain ⟨ps, p1, p2, h1, h2, h3, h4, h5⟩ := h
  refine ⟨ps, p1, p2, ?_, fun j m p hm hp => ?_, h3, by simpa [World.setCell] using h4, h5⟩
  · refine h1.kept (grown_setCell w g k u) ?_
    cases A with
    | none => exact .inl rfl
    | some a => exact .inr fun e => hne e.symm
  · obtain ⟨i1, i2, i3⟩ := h2 j m p hm hp
    exact ⟨i1, i2, i3.set_far g k (i3.ne_blk hb (by decide)) u⟩
set_option maxRecDepth 20000 in
set_option maxHeartbeats 40000000 in
def seqR : Code → Code
  | .seq _ b => b
  | c => c
def condT : Code → Code
  | .cond _ t _ => t
  | c => c
def bodyOf (f : Func) : Code := f.body.getD .skip
set_option maxRecDepth 20000 in
set_option maxHeartbeats 40000000 in
/-- the statement 'marks = append(marks, changeOf(m).mark())' -/
theorem fin2 (u0 u1 u2 u3 u4 u7 u8 u9 u10 u11 u12 u13 u14 u15 u16 u17 u18 u19 u20 u21 u22 u23 u24 u25 u26 u27 u28 u29 : Value) (Mm X lo hi K c' nb cb : Nat) (A' A9 : Option Addr) (L : List M) (x y : Int) (ys : List ByteArray) (W : World) (Q : Exit → Act → World → Prop)
    (q0 : W.cell? ⟨X, 0, none⟩ = some (.int .i64 x)) (q1 : W.cell? ⟨X, 1, none⟩ = some (.int .i64 y)) (q2 : W.cell? ⟨X, 2, none⟩ = some (.slice A9 nb cb))
    (h6 : Blk W Mm 29 #[.slice A' K c']) (hP : PutIn W A9 nb cb ys) (hO : OwnM W lo hi A' K c' L) (hK : K ≤ 100) (hlo : lo ≤ hi) (hnb : nb ≤ 1000) (i1 : I64 x) (i2 : I64 y) (hsome : nb ≠ 0 ∨ ys = [])
    (hQ : ∀ (W' : World) (A5 : Option Addr) (c5 : Nat) (v24 v25 v26 v27 v28 v29 : Value), Blk W' Mm 29 #[.slice A5 (K + 1) c5] → OwnM W' lo W'.heap.size A5 (K + 1) c5 (L ++ [⟨x, y, ys⟩]) → Chg W W' (fun g => g = Mm ∨ some g = A'.map (·.block)) → Q .normal { tmps := #[u0, u1, u2, u3, u4, ptr Mm, ptr X, u7, u8, u9, u10, u11, u12, u13, u14, u15, u16, u17, u18, u19, u20, u21, u22, u23, v24, v25, v26, v27, v28, v29], defers := [] } W') :
    (seqR (condT (seqR (bodyOf Try.f100)))).wp Try.prog Q { tmps := #[u0, u1, u2, u3, u4, ptr Mm, ptr X, u7, u8, u9, u10, u11, u12, u13, u14, u15, u16, u17, u18, u19, u20, u21, u22, u23, u24, u25, u26, u27, u28, u29], defers := [] } W := by
  simp only [seqR, condT, bodyOf, Try.f100, Option.getD]
  have c6 := h6.cell 0
  have f6 := h6.free 0
  simp at c6 f6
  have l6 := h6.lt
  have lX := lt_of_cell q0
  have bw : Below W.heap.size W ((W.alloc (.cells #[.int .i64 x, .int .i64 y, .slice A9 nb cb] 58)).drew) := below_drewN ((Below.refl _ _).alloc (Nat.le_refl _) _) 1
  have HP := Lib.hid (hP.below bw)
  have HO := Lib.hid (hO.below bw)
  have BW := Lib.hid bw
  have HQ := Lib.hid hQ
  have I1 := Lib.hid i1
  have I2 := Lib.hid i2
  have y6 := h6.below bw h6.lt
  have H6 := Lib.hid h6
  have HS := Lib.hid hsome
  have topw := bw.size
  clear hP hO bw hQ i1 i2 h6 hsome
  go_region_law (first
    | (refine step_change rfl (.tmp 25) _ rfl ⟨x, y, ys⟩ A9 nb cb (by simp [Act.eval, Act.put, mv]) (by omega) ?_)
    | (refine step_mark rfl (.tmp 26) rfl ⟨x, y, ys⟩ A9 nb cb (by simp [Act.eval, Act.put]) (by omega) HP.out HS.out ?_; intro A4 n4 c4 w4 o4 b4; have y4 := y6.below b4 y6.lt; have d6 := y4.cell 0; have g6 := y4.free 0; simp at d6; have l64 := y4.lt; have y4a := y4.alloc (.cells #[.int .i64 x, .int .i64 y, .slice A4 n4 c4] 58); have d6a := y4a.cell 0; simp at d6a; have O4 := Lib.hid ((HO.out.below b4).alloc (.cells #[.int .i64 x, .int .i64 y, .slice A4 n4 c4] 58)); have P4 := Lib.hid ((o4.alloc (.cells #[.int .i64 x, .int .i64 y, .slice A4 n4 c4] 58)).wide (lo' := hi) (by have := HO.out.top; exact this) (Nat.le_refl _) (by simp)); have B4 := Lib.hid b4; clear o4 b4)
    | (refine step_pushM rfl (.tmp 24) (.tmp 28) rfl lo hi A' K c' L (by simp [Act.eval, Act.put]) O4.out ⟨x, y, ys⟩ ⟨A4, n4, c4⟩ w4.heap.size w4.heap.size (by simp [Act.eval, Act.put, mv]) I1.out I2.out P4.out (new_cell _ 58 #[.int .i64 x, .int .i64 y, .slice A4 n4 c4] rfl 0) (new_cell _ 58 #[.int .i64 x, .int .i64 y, .slice A4 n4 c4] rfl 1) (new_cell _ 58 #[.int .i64 x, .int .i64 y, .slice A4 n4 c4] rfl 2) (by omega) hlo ?_; intro A5 c5 w5 o5 g5; have hne := own_ne' O4.out y4a; have y5 := y4a.grown g5 hne; have d65 := y5.cell 0; have g65 := y5.free 0; simp at d65))
  all_goals
    have yM := y5.put 0 (.slice A5 (K + 1) c5)
    have oM := OwnM.set_box (k := 0) o5 y5 (.slice A5 (K + 1) c5)
    have cM := ((((Chg.of_below BW.out (fun g => g = Mm ∨ some g = A'.map (·.block))).trans (Chg.of_below B4.out (fun _ => False)) (fun _ _ e => e.elim)).alloc (.cells #[.int .i64 x, .int .i64 y, .slice A4 n4 c4] 58)).trans (Chg.of_grown g5) (fun g _ e => .inr e)).set_ Mm 0 (.slice A5 (K + 1) c5) (fun _ => .inl rfl)
    refine HQ.out _ A5 c5 _ _ _ _ _ _ (by simpa using yM) (by simpa [World.setCell] using oM) cM
set_option maxRecDepth 20000 in
set_option maxHeartbeats 40000000 in
theorem finish_any (I FA J FB Bb Mm i fa j fb m d K c' lo hi : Nat) (B A' : Option Addr) (b : List ByteArray) (L : List M) (w : World) (h1 : Blk w I 3 #[.int .i64 (i : Int)]) (h2 : Blk w FA 3 #[.int .i64 (fa : Int)]) (h3 : Blk w J 3 #[.int .i64 (j : Int)]) (h4 : Blk w FB 3 #[.int .i64 (fb : Int)]) (h5 : Blk w Bb 22 #[.slice B m d]) (h6 : Blk w Mm 29 #[.slice A' K c'])
    (hfi : fa ≤ i) (hi20 : i ≤ 20) (hfj : fb ≤ j) (hjm : j ≤ m) (hm : m ≤ 20) (hmd : m ≤ d) (hdm : d ≤ 9223372036854775807) (hz : B = none → d = 0) (hb : Strs w B m b) (hO : OwnM w lo hi A' K c' L) (hK : K ≤ 100) (hlo : lo ≤ hi) :
    Calls Try.prog 100 #[ptr I, ptr FA, ptr J, ptr FB, ptr Bb, ptr Mm] w (EndPost w Mm lo A' (L ++ (if fa < i ∨ fb < j then [⟨(fa : Int), ((i - fa : Nat) : Int), (b.drop fb).take (j - fb)⟩] else []))) := by
  have c1 := h1.cell 0
  have c2 := h2.cell 0
  have c3 := h3.cell 0
  have c4 := h4.cell 0
  have c5 := h5.cell 0
  have c6 := h6.cell 0
  simp at c1 c2 c3 c4 c5 c6
  have l1 := h1.lt
  have l2 := h2.lt
  have l3 := h3.lt
  have l4 := h4.lt
  have l5 := h5.lt
  have l6 := h6.lt
  have hjd : j ≤ d := by omega
  obtain ⟨A9, hA9⟩ : ∃ A9, (if d = fb then B else B.map (·.add fb)) = A9 := ⟨_, rfl⟩
  obtain ⟨T, hT⟩ : ∃ T : List M, T = (if fa < i ∨ fb < j then [⟨(fa : Int), ((i - fa : Nat) : Int), (b.drop fb).take (j - fb)⟩] else []) := ⟨_, rfl⟩
  rw [← hT]
  have HT := Lib.hid hT
  obtain ⟨op, hop⟩ : ∃ op : Bool, Hid (op = decide (fa < i ∨ fb < j)) := ⟨_, rfl⟩
  have H6 := Lib.hid h6
  have HB := Lib.hid hb
  have HO := Lib.hid hO
  have HZ := Lib.hid hz
  clear hT h1 h2 h3 h4 h5 h6 hb hO hz
  go_enter Try.func100, Try.ntmps100
  go_upto_region 0 with fail
  go_cut [14] from 7 to 14 (fun c wx => c = .bool op ∧ w = wx)
  case first =>
    clear hA9
    by_cases hA : fa < i
    · have e1 : decide ((fa : Int) < (i : Int)) = true := by simp; omega
      have e1' : decide (fa < i) = true := by simp; omega
      have e9 := Lib.hid (show op = true by rw [hop.out]; simp [hA])
      go_wp2_with fail
      go_meet
      case rel => exact ⟨by rw [e9.out], rfl⟩
    · have e1 : decide ((fa : Int) < (i : Int)) = false := by simp; omega
      have e1' : decide (fa < i) = false := by simp; omega
      by_cases hB : fb < j
      · have e2 : decide ((fb : Int) < (j : Int)) = true := by simp; omega
        have e2' : decide (fb < j) = true := by simp; omega
        have e9 := Lib.hid (show op = true by rw [hop.out]; simp [hB])
        go_wp2_with fail
        go_meet
        case rel => exact ⟨by rw [e9.out], rfl⟩
      · have e2 : decide ((fb : Int) < (j : Int)) = false := by simp; omega
        have e2' : decide (fb < j) = false := by simp; omega
        have e9 := Lib.hid (show op = false by rw [hop.out]; simp; omega)
        go_wp2_with fail
        go_meet
        case rel => exact ⟨by rw [e9.out], rfl⟩
  case rest =>
    obtain ⟨rfl, rfl⟩ := hcut
    cases op with
    | true =>
      have u1 : IntKind.i64.wrap ((i : Int) - (fa : Int)) = (i : Int) - (fa : Int) := IntWalk.i64_in _ (by omega)
      go_wp2_with fail
      go_region
      go_wp2_with fail
      have x0 := Blk.new w 58 #[.int .i64 (fa : Int), .int .i64 ((i : Int) - (fa : Int)), .slice A9 (j - fb) (d - fb)]
      have q0 : ((w.alloc (.cells #[.int .i64 (fa : Int), .int .i64 ((i : Int) - (fa : Int)), .slice A9 (j - fb) (d - fb)] 58)).drew).cell? ⟨w.heap.size, 0, none⟩ = some (.int .i64 (fa : Int)) := (x0.cell 0).trans rfl
      have q1 : ((w.alloc (.cells #[.int .i64 (fa : Int), .int .i64 ((i : Int) - (fa : Int)), .slice A9 (j - fb) (d - fb)] 58)).drew).cell? ⟨w.heap.size, 1, none⟩ = some (.int .i64 ((i : Int) - (fa : Int))) := (x0.cell 1).trans rfl
      have q2 : ((w.alloc (.cells #[.int .i64 (fa : Int), .int .i64 ((i : Int) - (fa : Int)), .slice A9 (j - fb) (d - fb)] 58)).drew).cell? ⟨w.heap.size, 2, none⟩ = some (.slice A9 (j - fb) (d - fb)) := (x0.cell 2).trans rfl
      have hP0 : PutIn w A9 (j - fb) (d - fb) ((b.drop fb).take (j - fb)) := by
        rw [← hA9]
        refine ⟨HB.out.cut_if hfj hjm hmd, by omega, by omega, cut_none HZ.out⟩
      have bw : Below w.heap.size w (w.alloc (.cells #[.int .i64 (fa : Int), .int .i64 ((i : Int) - (fa : Int)), .slice A9 (j - fb) (d - fb)] 58)).drew := below_drewN ((Below.refl _ _).alloc (Nat.le_refl _) _) 1
      have hsome : j - fb ≠ 0 ∨ (b.drop fb).take (j - fb) = [] := by
        by_cases h0 : j - fb = 0
        · exact .inr (by rw [h0, List.take_zero])
        · exact .inl h0
      have hop2 : fa < i ∨ fb < j := by have := hop.out; simpa using this.symm
      have hT := HT.out
      rw [if_pos hop2, show ((i - fa : Nat) : Int) = (i : Int) - (fa : Int) by omega] at hT
      clear hop2
      refine fin2 _ _ _ _ _ _ _ _ _ _ _ _ _ _ _ _ _ _ _ _ _ _ _ _ _ _ _ _ Mm w.heap.size lo hi K c' (j - fb) (d - fb) A' A9 L (fa : Int) ((i : Int) - (fa : Int)) ((b.drop fb).take (j - fb)) _ _ q0 q1 q2 (H6.out.below bw H6.out.lt) (hP0.below bw) (HO.out.below bw) hK hlo (by omega) (by unfold I64; omega) (by unfold I64; omega) hsome ?_
      intro W' A5 c5 v24 v25 v26 v27 v28 v29 yM oM cM
      rw [← hT] at oM
      have cM2 := (Chg.of_below bw (fun g => g = Mm ∨ some g = A'.map (·.block))).trans cM (fun _ _ e => e)
      have YM := Lib.hid yM
      have OM := Lib.hid oM
      have CM := Lib.hid cM2
      clear yM oM cM cM2 hT hP0 bw x0 q0 q1 q2 hA9
      go_wp2_with fail
      refine bodyPost_ret (v := .tuple #[]) ?_ rfl ⟨rfl, A5, K + 1, c5, YM.out, OM.out, CM.out⟩
      simp [results, Try.results100, go_sem]
    | false =>
      have ho := HO.out.wide (Nat.le_refl _) HO.out.top (Nat.le_refl _)
      have hop2 : ¬ (fa < i ∨ fb < j) := by have := hop.out; simpa using this.symm
      have hT := HT.out
      rw [if_neg hop2] at hT
      subst hT
      go_wp2_with fail
      refine bodyPost_ret (v := .tuple #[]) ?_ rfl ⟨rfl, A', K, c', H6.out, by simpa using ho, Chg.refl _ _⟩
      simp [results, Try.results100, go_sem]
end Go.Proofs.Ytjhlcgjhdiheaaa
