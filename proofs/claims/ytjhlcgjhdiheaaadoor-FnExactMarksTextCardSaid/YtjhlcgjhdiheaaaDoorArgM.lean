/- A law's arguments: lists of marks that came in. -/
import Derived.Test.YtjhlcgjhdiheaaaDoorArg
import Derived.Test.YtjhlcgjhdiheaaaDoorMemM
import Derived.Deep.Slices
import Derived.Deep.Fields
namespace Go.Proofs.YtjhlcgjhdiheaaaDoor
open Go.ChangeShapes Go.WideShapes Go.ChangeAt Go.RowKit
set_option linter.unusedVariables false

theorem put_in {H : Type} {enc : TypeId × Value → H} {W : World} {base : Nat} {spare : Nat → Bool} {held : Bool} {fuel : Nat} {v : Value} {x : DataW H × List MemPlace} (hf : DataW.trod enc Tryd.prog W base spare held fuel 23 [v] = some x) :
    ∃ A n c xs, v = .slice A n c ∧ PutIn W A n c xs := by
  have h0 : ∃ A n c, v = .slice A n c := by
    rcases open_strings Tryd.underlying23 Tryd.underlying9 (by kernel_rfl) hf with ⟨hcs, _⟩ | ⟨x, l, c, zs, hcs, _⟩
    · injection hcs with hcs; exact ⟨_, _, _, hcs⟩
    · injection hcs with hcs; exact ⟨_, _, _, hcs⟩
  obtain ⟨A, n, c, rfl⟩ := h0
  obtain ⟨⟨xs, h1⟩, h2, h3, h4⟩ := strs_in hf
  exact ⟨A, n, c, xs, rfl, h1, h2, h3, h4⟩
theorem i64_wf {x : Int} (h : (Lit.int .i64 x).wf = true) : I64 x := bounds_i64 h

theorem three {α : Type} : ∀ {cs : List α}, cs.length = 3 → ∃ a b c, cs = [a, b, c]
  | [a, b, c], _ => ⟨a, b, c, rfl⟩

theorem mrks_in {H : Type} {enc : TypeId × Value → H} {W : World} {base : Nat} {spare : Nat → Bool} {held : Bool} {fuel : Nat} {a : Option Addr} {len cap : Nat} {x : DataW H × List MemPlace} (hf : DataW.trod enc Tryd.prog W base spare held fuel 33 [.slice a len cap] = some x) :
    (∃ ms, Mrks W a len ms) ∧ len ≤ cap ∧ cap ≤ 9223372036854775807 ∧ (a = none → cap = 0) := by
  have hC : Tryd.prog.cellsOf 56 = 3 := by kernel_rfl
  rcases Go.Deep.open_slice Tryd.underlying33 hf with ⟨hcs, _⟩ | ⟨x, l, c, m, n, D, Pl, hcs, _, hl, hm, hmm, _, hel⟩
  · injection hcs with hcs
    injection hcs with e1 e2 e3
    subst e1 e2 e3
    exact ⟨⟨[], Mrks.nil⟩, by omega, by omega, fun _ => rfl⟩
  · injection hcs with hcs
    injection hcs with e1 e2 e3
    subst e1 e2 e3
    unfold maxLen at hm
    have hlm : len ≤ m := by rw [hmm]; split <;> omega
    rw [hC] at hel
    have one : ∀ i, i < len → ∃ mk : M, I64 mk.at_ ∧ I64 mk.cut ∧ W.cell? (x.add (i * 3)) = some (.int .i64 mk.at_) ∧ W.cell? (x.add (i * 3 + 1)) = some (.int .i64 mk.cut) ∧ ∃ A n c, W.cell? (x.add (i * 3 + 2)) = some (.slice A n c) ∧ PutIn W A n c mk.put := by
      intro i hi
      obtain ⟨cs, hc, ht⟩ := hel i (by omega)
      obtain ⟨_, hcl, hat⟩ := World.cells?_some hc
      obtain ⟨ys, n', _, _, _, hyl, hfd⟩ := DataW.trod_struct Tryd.underlying56 ht
      obtain ⟨v0, v1, v2, rfl⟩ := three hcl
      have k3 : Tryd.prog.cellsOf 3 = 1 := by kernel_rfl
      have k22 : Tryd.prog.cellsOf 23 = 1 := by kernel_rfl
      have f0 : DataW.trod enc Tryd.prog W base spare held n' 3 (([v0, v1, v2].drop 0).take (Tryd.prog.cellsOf 3)) = ys[0]? := hfd 0 _ rfl
      have f1 : DataW.trod enc Tryd.prog W base spare held n' 3 (([v0, v1, v2].drop 1).take (Tryd.prog.cellsOf 3)) = ys[1]? := hfd 1 _ rfl
      have f2 : DataW.trod enc Tryd.prog W base spare held n' 23 (([v0, v1, v2].drop 2).take (Tryd.prog.cellsOf 23)) = ys[2]? := hfd 2 _ rfl
      rw [k3] at f0 f1
      rw [k22] at f2
      change DataW.trod enc Tryd.prog W base spare held n' 3 [v0] = ys[0]? at f0
      change DataW.trod enc Tryd.prog W base spare held n' 3 [v1] = ys[1]? at f1
      change DataW.trod enc Tryd.prog W base spare held n' 23 [v2] = ys[2]? at f2
      have g : ∀ i, i < 3 → ∃ y, ys[i]? = some y := fun i hi => ⟨ys[i]'(by rw [hyl]; exact hi), List.getElem?_eq_getElem _⟩
      obtain ⟨y0, g0⟩ := g 0 (by omega)
      obtain ⟨y1, g1⟩ := g 1 (by omega)
      obtain ⟨y2, g2⟩ := g 2 (by omega)
      rw [g0] at f0
      rw [g1] at f1
      rw [g2] at f2
      obtain ⟨z0, e0, _, w0⟩ := DataW.trod_int Tryd.underlying3 f0
      obtain ⟨z1, e1, _, w1⟩ := DataW.trod_int Tryd.underlying3 f1
      obtain ⟨A, n2, c2, xs, e2, hp⟩ := put_in f2
      injection e0 with e0
      injection e1 with e1
      subst e0 e1 e2
      refine ⟨⟨z0, z1, xs⟩, i64_wf w0, i64_wf w1, ?_, ?_, A, n2, c2, ?_, hp⟩
      · have := hat 0 (by omega)
        rwa [Go.Deep.add_add] at this
      · have := hat 1 (by omega)
        rwa [Go.Deep.add_add] at this
      · have := hat 2 (by omega)
        rwa [Go.Deep.add_add] at this
    obtain ⟨F, hF⟩ : ∃ F : Nat → M, ∀ i, i < len → I64 (F i).at_ ∧ I64 (F i).cut ∧ W.cell? (x.add (i * 3)) = some (.int .i64 (F i).at_) ∧ W.cell? (x.add (i * 3 + 1)) = some (.int .i64 (F i).cut) ∧ ∃ A n c, W.cell? (x.add (i * 3 + 2)) = some (.slice A n c) ∧ PutIn W A n c (F i).put := by
      refine ⟨fun i => if h : i < len then (one i h).choose else ⟨0, 0, []⟩, fun i hi => ?_⟩
      simp only [dif_pos hi]
      exact (one i hi).choose_spec
    refine ⟨⟨(List.range len).map F, by simp, fun hn => ?_⟩, hl, hm, fun e => by cases e⟩
    obtain ⟨b, off, spot⟩ := x
    have hc := (hF 0 hn).2.2.1
    have hspot : spot = none := by simpa [Addr.add] using World.cell?_spot hc
    subst hspot
    have ad : ∀ k, (⟨b, off, none⟩ : Addr).add k = ⟨b, off + k, none⟩ := fun k => by
      unfold Addr.add
      split <;> simp_all
    refine ⟨b, off, rfl, by have := lt_of_cell hc; simpa [ad] using this, fun j m hj => ?_⟩
    have hjl : j < len := by
      have := (List.getElem?_eq_some_iff.1 hj).1
      simpa using this
    obtain rfl : F j = m := by simpa [hjl] using hj
    obtain ⟨i1, i2, c0, c1, A, n2, c2, c3, hp⟩ := hF j hjl
    rw [ad] at c0 c1 c3
    exact ⟨i1, i2, c0, by rw [Nat.add_assoc]; exact c1, A, n2, c2, by rw [Nat.add_assoc]; exact c3, hp⟩
end Go.Proofs.YtjhlcgjhdiheaaaDoor

