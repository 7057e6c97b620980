/- Words for MarksMake: the table while rows of marks and of words change; a step of a region that appends a word. -/
import Derived.Test.YtjhlcgjhdiheaaaUse
import Derived.Test.YtjhlcgjhdiheaaaDraw3
import Derived.Deep.RegionLaw
namespace Go.Proofs.Ytjhlcgjhdiheaaa
open Go.RowKit
set_option linter.unusedVariables false

/-- the marks that are made, if both are transcripts -/
def makeF (a b : List ByteArray) : Option (List M) := if (speak a && speak b) = true then some (Mk.abs 0 (Mk.made a b)) else none
theorem makeF_no {a b : List ByteArray} (h : (speak a && speak b) = false) : makeF a b = none := by unfold makeF; rw [h]; rfl
theorem makeF_yes {a b : List ByteArray} (h1 : speak a = true) (h2 : speak b = true) : makeF a b = some (Mk.abs 0 (Mk.made a b)) := by unfold makeF; rw [h1, h2]; rfl

/-- a row that is no part of the table -/
def Alien (w : World) (row : Option Nat) : Prop := ∀ g t cs, Blk w g t cs → t = 65 ∨ t = 3 → some g ≠ row
theorem Alien.none (w : World) : Alien w none := fun g t cs _ _ e => by cases e
theorem Tab.grown {w w' : World} {lo G n m p : Nat} {a b : List ByteArray} {R : Nat → Nat} {cs : Array Value} {row : Option Nat} (h : Tab w lo G n m p a b R cs) (hg : w.grownBy w' row) (hr : Alien w row) : Tab w' lo G n m p a b R cs :=
  ⟨h.blk.grown hg (hr _ _ _ h.blk (.inl rfl)), h.size, h.lo, fun r h1 h2 => by
    obtain ⟨r1, r2, r3⟩ := h.rows r h1 h2
    exact ⟨r1, r2, r3.grown hg (hr _ _ _ r3 (.inr rfl))⟩⟩
theorem Tab.below {w w' : World} {lo G n m p : Nat} {a b : List ByteArray} {R : Nat → Nat} {cs : Array Value} (h : Tab w lo G n m p a b R cs) (hb : Below w.heap.size w w') : Tab w' lo G n m p a b R cs := h.grown (only_of_below hb Option.none) (Alien.none w)
theorem Tab.cells {w : World} {lo G n m : Nat} {a b : List ByteArray} {R : Nat → Nat} {cs : Array Value} (h : Tab w lo G n m 0 a b R cs) {i j : Nat} (hi : i ≤ n) (hj : j ≤ m) :
    w.cell? ⟨G, i, none⟩ = some (.slice (some ⟨R i, 0, none⟩) (m + 1 : Nat) (m + 1 : Nat)) ∧ w.cell? ⟨R i, j, none⟩ = some (.int .i64 (V a b i j)) := by
  obtain ⟨r1, r2, r3⟩ := h.rows i (Nat.zero_le _) hi
  exact ⟨(h.blk.cell i).trans r1, (r3.cell j).trans (rowF_cell _ m j hj)⟩
theorem OwnM.alien {w : World} {lo hi n c : Nat} {A : Option Addr} {ms : List M} (h : OwnM w lo hi A n c ms) : Alien w (A.map (·.block)) := by
  obtain ⟨ps, _, _, h1, _⟩ := h
  exact fun g t cs hb ht => own_ne h1 hb (by rcases ht with rfl | rfl <;> decide)
theorem OwnS.alien {w : World} {lo hi n c : Nat} {A : Option Addr} {xs : List ByteArray} (h : OwnS w lo hi A n c xs) : Alien w (A.map (·.block)) :=
  fun g t cs hb ht => h.ne_blk hb (by rcases ht with rfl | rfl <;> decide)
theorem V_farAt (a b : List ByteArray) (i j : Nat) : V a b i j = (Mk.farAt a b i j : Nat) := rfl

/-- one string appended to a row of the call's own, as a step of a region that draws its order -/
theorem step_pushS {ops : Array Oper} {o : Oper} {a : Act} {K : Act → World → Prop} {Q : Exit → Act → World → Prop} {E : Prop} {w : World} (hgd : o.guard = none) (s x : Operand)
    (ho : o.op = .call { callee := .builtin .append, args := #[s, x], argTypes := #[22, 22] })
    (lo hi : Nat) (A : Option Addr) (n c : Nat) (xs : List ByteArray) (hs : a.eval s = .slice A n c) (hown : OwnS w lo hi A n c xs)
    (y : ByteArray) (b : Nat) (hx : a.eval x = .slice (some ⟨b, 0, none⟩) 1 1) (hy : Sz y) (hc : w.cell? ⟨b, 0, none⟩ = some (.string y)) (hn : n ≤ 4194304) (hlo : lo ≤ w.heap.size)
    (h : ∀ g c' w', OwnS w' lo w'.heap.size (some ⟨g, 0, none⟩) (n + 1) c' (xs ++ [y]) → w.grownBy w' (A.map (·.block)) → (A.map (·.block) = some g ∨ g = w.heap.size) → K (a.put o.dst (.slice (some ⟨g, 0, none⟩) (n + 1) c')) w') :
    if Region.wanted o (yielded ops a.tmps) = true then Oper.wp Try.prog o a w K Q else E := by
  obtain ⟨i0, hi0, hz0, hz1, hz2⟩ := info_parts Try.infoStr
  refine step_append_lies w hgd s x 22 ho lo 9 i0 (.string ⟨#[]⟩) 1 16 Try.underlying22 hi0 hz0 hz1 hz2 rfl (by omega) (.slice A n c) n (xs.map (Value.string)) hs hown.1
    ⟨b, 0, none⟩ 1 1 [.string y] hx rfl ?_ (by simp [Value.oneCell']) (by omega) (by unfold maxLen; omega) (by omega) hlo w.heap.size rfl ?_
  · intro j u hu
    cases j with
    | zero => simp at hu; subst hu; rw [add_none]; exact hc
    | succ j => simp at hu
  · intro g cap w' hown' hg hat hlt
    rw [ownBlock_slice] at hg hat
    refine h g cap w' ⟨?_, ?_, Nat.le_refl _, fun a ha => by injection ha with ha; subst ha; exact hlt⟩ hg hat
    · simpa using hown'
    · intro z hz
      rcases List.mem_append.1 hz with h1 | h1
      · exact hown.2.1 z h1
      · rw [List.mem_singleton.1 h1]; exact hy
theorem openM_none (P g : Nat) : Mk.openM (α := ByteArray) P g 0 [] = [] := rfl
theorem openM_some {P g c : Nat} {p : List ByteArray} (h : 0 < c + p.length) : Mk.openM P g c p = [⟨((P + g : Nat) : Int), (c : Int), p⟩] := if_pos h
theorem set_last {α : Type} (xs : List α) (x y : α) : (xs ++ [x]).set xs.length y = xs ++ [y] := by
  rw [List.set_append, if_neg (Nat.lt_irrefl _), Nat.sub_self]; rfl
theorem get_last {α : Type} (xs : List α) (x : α) : (xs ++ [x])[xs.length]? = some x := by
  rw [List.getElem?_append, if_neg (Nat.lt_irrefl _), Nat.sub_self]; rfl
theorem alien_blk {w : World} {g : Nat} {cs : Array Value} (h : Blk w g 58 cs) : Alien w (some g) := fun g' t cs' hb ht e => by
  injection e with e
  subst e
  exact hb.ne h (by rcases ht with rfl | rfl <;> decide) rfl
/-- a word more in the last mark's words -/
theorem OwnMp.pushPut {W w5 : World} {lo hi n c g0 q g5 n5 c5 : Nat} {L : List M} {ps : List SlV} {m : M} {p1 : SlV} {ys : List ByteArray} (h : OwnMp W lo hi (some ⟨g0, 0, none⟩) n c L ps) (hq : q < n) (hm : L[q]? = some m) (hp : ps[q]? = some p1)
    (gr : W.grownBy w5 (p1.a.map (·.block))) (o5 : OwnS w5 lo w5.heap.size (some ⟨g5, 0, none⟩) n5 c5 ys) (at5 : p1.a.map (·.block) = some g5 ∨ g5 = W.heap.size) :
    w5.frozen? ⟨g0, q * 3 + 2, none⟩ = false ∧ (∃ v, w5.cell? ⟨g0, q * 3 + 2, none⟩ = some v) ∧ OwnMp (w5.setCell ⟨g0, q * 3 + 2, none⟩ (.slice (some ⟨g5, 0, none⟩) n5 c5)) lo w5.heap.size (some ⟨g0, 0, none⟩) n c (L.set q ⟨m.at_, m.cut, ys⟩) (ps.set q ⟨some ⟨g5, 0, none⟩, n5, c5⟩) ∧ Alien w5 (some g0) := by
  obtain ⟨cs, hb⟩ := ownsRow_blk h.2.2.1
  obtain ⟨g0', m', p', e, l1, l2, hm', hp', i1, i2, i3, ne, z0, z1, z2, f0, f1, f2⟩ := h.get hq
  injection e with e
  injection e with e
  subst e
  rw [hp] at hp'
  injection hp' with hp'
  subst hp'
  have hb5 := hb.grown gr ne
  have ht := h.2.2.2.2.2.1
  refine ⟨hb5.free _, ⟨_, (hb5.cell _).trans ((hb.cell _).symm.trans z2)⟩, ?_, alien_blk hb5⟩
  exact h.putNew (q := ⟨some ⟨g5, 0, none⟩, n5, c5⟩) hm hp gr o5 (fun b hb' => by
    injection hb' with hb'
    subst hb'
    rcases at5 with e | e
    · left
      cases hpa : p1.a with
      | none => rw [hpa] at e; cases e
      | some a => rw [hpa] at e; exact ⟨a, rfl, by injection e⟩
    · right; show hi ≤ g5; omega)
theorem OwnMp.drewN {w : World} {lo hi n c : Nat} {A : Option Addr} {ms : List M} {ps : List SlV} (h : OwnMp w lo hi A n c ms ps) (k : Nat) : OwnMp (w.drewN k) lo hi A n c ms ps := h
theorem OwnMp.drew {w : World} {lo hi n c : Nat} {A : Option Addr} {ms : List M} {ps : List SlV} (h : OwnMp w lo hi A n c ms ps) : OwnMp w.drew lo hi A n c ms ps := h
theorem Tab.drewN {w : World} {lo G n m p : Nat} {a b : List ByteArray} {R : Nat → Nat} {cs : Array Value} (h : Tab w lo G n m p a b R cs) (k : Nat) : Tab (w.drewN k) lo G n m p a b R cs := h.grown (only_drewN (World.grownBy.refl _ Option.none) _) (Alien.none _)
end Go.Proofs.Ytjhlcgjhdiheaaa
