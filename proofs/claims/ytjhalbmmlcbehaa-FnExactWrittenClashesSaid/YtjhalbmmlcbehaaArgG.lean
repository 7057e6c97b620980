/- A law's arguments: lists of signs that came in. -/
import Derived.Test.YtjhalbmmlcbehaaArg
import Derived.Test.YtjhalbmmlcbehaaMemW
import Derived.Deep.Slices
import Derived.Deep.Fields
namespace Go.Proofs.Ytjhalbmmlcbehaa
open Go.ChangeShapes Go.WideShapes Go.ChangeAt Go.RowKit Wr
set_option linter.unusedVariables false

theorem i64_wf {x : Int} (h : (Lit.int .i64 x).wf = true) : I64 x := bounds_i64 h
theorem three {α : Type} : ∀ {cs : List α}, cs.length = 3 → ∃ a b c, cs = [a, b, c]
  | [a, b, c], _ => ⟨a, b, c, rfl⟩
theorem two {α : Type} : ∀ {cs : List α}, cs.length = 2 → ∃ a b, cs = [a, b]
  | [a, b], _ => ⟨a, b, rfl⟩
theorem str_in {H : Type} {enc : TypeId × Value → H} {W : World} {base : Nat} {spare : Nat → Bool} {held : Bool} {fuel : Nat} {v : Value} {x : DataW H × List MemPlace} (hf : DataW.trod enc Try.prog W base spare held fuel 9 [v] = some x) :
    ∃ s : ByteArray, v = .string s ∧ s.size ≤ 9223372036854775807 := by
  obtain ⟨s, e, hx, hs⟩ := DataW.trod_string Try.underlying9 hf
  injection e with e
  exact ⟨s, e, hs⟩
theorem sgns_in {H : Type} {enc : TypeId × Value → H} {W : World} {base : Nat} {spare : Nat → Bool} {held : Bool} {fuel : Nat} {a : Option Addr} {len cap : Nat} {x : DataW H × List MemPlace} (hf : DataW.trod enc Try.prog W base spare held fuel 45 [.slice a len cap] = some x) :
    (∃ ss, Sgns W a len ss ∧ ∀ x ∈ ss, OkG x) ∧ len ≤ cap ∧ cap ≤ 9223372036854775807 ∧ (a = none → cap = 0) := by
  have hC : Try.prog.cellsOf 87 = 3 := by kernel_rfl
  rcases Go.Deep.open_slice Try.underlying45 hf with ⟨hcs, _⟩ | ⟨x, l, c, m, n, D, Pl, hcs, _, hl, hm, hmm, _, hel⟩
  · injection hcs with hcs
    injection hcs with e1 e2 e3
    subst e1 e2 e3
    exact ⟨⟨[], RowR.nil _, by simp⟩, by omega, by omega, fun _ => rfl⟩
  · injection hcs with hcs
    injection hcs with e1 e2 e3
    subst e1 e2 e3
    unfold maxLen at hm
    have hlm : len ≤ m := by rw [hmm]; split <;> omega
    rw [hC] at hel
    have one : ∀ i, i < len → ∃ mk : Sgn, OkG mk ∧ W.cell? (x.add (i * 3)) = some (.string mk.letter) ∧ W.cell? (x.add (i * 3 + 1)) = some (.int .i64 mk.stk.dir) ∧ W.cell? (x.add (i * 3 + 2)) = some (.int .i64 mk.stk.size) := by
      intro i hi
      obtain ⟨cs, hc, ht⟩ := hel i (by omega)
      obtain ⟨_, hcl, hat⟩ := World.cells?_some hc
      obtain ⟨ys, n', _, _, _, hyl, hfd⟩ := DataW.trod_struct Try.underlying87 ht
      obtain ⟨v0, v1, v2, rfl⟩ := three hcl
      have k9 : Try.prog.cellsOf 9 = 1 := by kernel_rfl
      have k85 : Try.prog.cellsOf 85 = 2 := by kernel_rfl
      have k3 : Try.prog.cellsOf 3 = 1 := by kernel_rfl
      have f0 : DataW.trod enc Try.prog W base spare held n' 9 (([v0, v1, v2].drop 0).take (Try.prog.cellsOf 9)) = ys[0]? := hfd 0 _ rfl
      have f1 : DataW.trod enc Try.prog W base spare held n' 85 (([v0, v1, v2].drop 1).take (Try.prog.cellsOf 85)) = ys[1]? := hfd 1 _ rfl
      rw [k9] at f0
      rw [k85] at f1
      change DataW.trod enc Try.prog W base spare held n' 9 [v0] = ys[0]? at f0
      change DataW.trod enc Try.prog W base spare held n' 85 [v1, v2] = ys[1]? at f1
      have g : ∀ i, i < 2 → ∃ y, ys[i]? = some y := fun i hi => ⟨ys[i]'(by rw [hyl]; exact hi), List.getElem?_eq_getElem _⟩
      obtain ⟨y0, g0⟩ := g 0 (by omega)
      obtain ⟨y1, g1⟩ := g 1 (by omega)
      rw [g0] at f0
      rw [g1] at f1
      obtain ⟨s, rfl, hs⟩ := str_in f0
      obtain ⟨zs, n2, _, _, _, hzl, hfz⟩ := DataW.trod_struct Try.underlying85 f1
      have h1 : DataW.trod enc Try.prog W base spare held n2 3 (([v1, v2].drop 0).take (Try.prog.cellsOf 3)) = zs[0]? := hfz 0 _ rfl
      have h2 : DataW.trod enc Try.prog W base spare held n2 3 (([v1, v2].drop 1).take (Try.prog.cellsOf 3)) = zs[1]? := hfz 1 _ rfl
      rw [k3] at h1 h2
      change DataW.trod enc Try.prog W base spare held n2 3 [v1] = zs[0]? at h1
      change DataW.trod enc Try.prog W base spare held n2 3 [v2] = zs[1]? at h2
      have gz : ∀ i, i < 2 → ∃ y, zs[i]? = some y := fun i hi => ⟨zs[i]'(by rw [hzl]; exact hi), List.getElem?_eq_getElem _⟩
      obtain ⟨z0, p0⟩ := gz 0 (by omega)
      obtain ⟨z1, p1⟩ := gz 1 (by omega)
      rw [p0] at h1
      rw [p1] at h2
      obtain ⟨d, e0, _, w0⟩ := DataW.trod_int Try.underlying3 h1
      obtain ⟨z, e1, _, w1⟩ := DataW.trod_int Try.underlying3 h2
      injection e0 with e0
      injection e1 with e1
      subst e0 e1
      refine ⟨⟨s, ⟨d, z⟩⟩, ⟨hs, i64_wf w0, i64_wf w1⟩, ?_, ?_, ?_⟩
      · have := hat 0 (by omega)
        rwa [Go.Deep.add_add] at this
      · have := hat 1 (by omega)
        rwa [Go.Deep.add_add] at this
      · have := hat 2 (by omega)
        rwa [Go.Deep.add_add] at this
    obtain ⟨F, hF⟩ : ∃ F : Nat → Sgn, ∀ i, i < len → OkG (F i) ∧ W.cell? (x.add (i * 3)) = some (.string (F i).letter) ∧ W.cell? (x.add (i * 3 + 1)) = some (.int .i64 (F i).stk.dir) ∧ W.cell? (x.add (i * 3 + 2)) = some (.int .i64 (F i).stk.size) := by
      refine ⟨fun i => if h : i < len then (one i h).choose else ⟨⟨#[]⟩, ⟨0, 0⟩⟩, fun i hi => ?_⟩
      simp only [dif_pos hi]
      exact (one i hi).choose_spec
    refine ⟨⟨(List.range len).map F, ⟨by simp, fun hn => ?_⟩, fun y hy => ?_⟩, hl, hm, fun e => by cases e⟩
    · obtain ⟨b, off, spot⟩ := x
      have hc := (hF 0 hn).2.1
      have hspot : spot = none := by simpa [Addr.add] using World.cell?_spot hc
      subst hspot
      have ad : ∀ k, (⟨b, off, none⟩ : Addr).add k = ⟨b, off + k, none⟩ := fun k => by
        unfold Addr.add
        split <;> simp_all
      refine ⟨b, off, rfl, by have := lt_of_cell hc; simpa [ad] using this, fun j m hj => ?_⟩
      have hjl : j < len := by
        have := (List.getElem?_eq_some_iff.1 hj).1
        simpa using this
      obtain rfl : F j = m := by simpa [hjl] using hj
      obtain ⟨_, c0, c1, c2⟩ := hF j hjl
      rw [ad] at c0 c1 c2
      intro c v hv
      match c, hv with
      | 0, hv => obtain rfl : Value.string (F j).letter = v := (by simpa [encG] using hv); exact c0
      | 1, hv => obtain rfl : Value.int .i64 (F j).stk.dir = v := (by simpa [encG] using hv); rw [Nat.add_assoc]; exact c1
      | 2, hv => obtain rfl : Value.int .i64 (F j).stk.size = v := (by simpa [encG] using hv); rw [Nat.add_assoc]; exact c2
      | c + 3, hv => simp [encG] at hv
    · simp only [List.mem_map, List.mem_range] at hy
      obtain ⟨i, hi, rfl⟩ := hy
      exact (hF i hi).1
end Go.Proofs.Ytjhalbmmlcbehaa
