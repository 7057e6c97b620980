/- Appends: strings to a row of strings of the call's own, marks to a row of marks of the call's own. -/
import Derived.Test.YtjhalbmmlcbehaaBase2
import Derived.Laws.AppendOwnNone
import Derived.Deep.AppendLies
namespace Go.Proofs.Ytjhalbmmlcbehaa
open Go.RowKit
set_option linter.unusedVariables false
theorem ownBlock_slice (A : Option Addr) (n c : Nat) : Value.ownBlock (.slice A n c) = A.map (·.block) := by cases A <;> rfl

theorem Strs.news {w : World} {ad : Addr} {m : Nat} {ys : List ByteArray} (hy : Strs w (some ad) m ys) : ∀ j u, (ys.map (Value.string))[j]? = some u → w.cell? (ad.add j) = some u := by
  intro j u hu
  simp only [List.getElem?_map, Option.map_eq_some_iff] at hu
  obtain ⟨z, hz, rfl⟩ := hu
  have hj : j < ys.length := (List.getElem?_eq_some_iff.1 hz).1
  obtain ⟨b, off, e, _, hc⟩ := hy.2.2 (by have := hy.len; omega)
  injection e with e
  subst e
  have := hc j z hz
  rw [← this]
  congr 1
  unfold Addr.add
  split
  · rename_i h0; subst h0; rfl
  · rfl
/-- a slice of strings appended to a row of the call's own -/
theorem wpList_catS {ops : Array Oper} {rest : List Oper} {o : Oper} {a : Act} {Q : Exit → Act → World → Prop} (w : World) (hgd : o.guard = none) (s x : Operand)
    (ho : o.op = .call { callee := .builtin .append, args := #[s, x], argTypes := #[24, 24] })
    (lo hi : Nat) (A : Option Addr) (n c : Nat) (xs : List ByteArray) (hs : a.eval s = .slice A n c) (hown : OwnS w lo hi A n c xs)
    (B : Option Addr) (m d : Nat) (ys : List ByteArray) (hx : a.eval x = .slice B m d) (hy : Strs w B m ys) (hd : B = none → d = 0) (hn : n + m ≤ 4194304) (hlo : lo ≤ w.heap.size)
    (h : ∀ A' c' w', OwnS w' lo w'.heap.size A' (n + m) c' (xs ++ ys) → w.grownBy w' (A.map (·.block)) → wpList Try.prog ops Q rest (a.put o.dst (.slice A' (n + m) c')) w') :
    wpList Try.prog ops Q (o :: rest) a w := by
  obtain ⟨i0, hi0, hz0, hz1, hz2⟩ := info_parts Try.infoStr
  have hwf : ∀ z ∈ xs ++ ys, Sz z := fun z hz => by
    rcases List.mem_append.1 hz with h1 | h1
    · exact hown.2.1 z h1
    · exact hy.wf z h1
  cases B with
  | none =>
    have hm : m = 0 := by
      rcases Nat.eq_zero_or_pos m with h0 | h0
      · exact h0
      · obtain ⟨b, off, e, _⟩ := hy.2.2 h0
        cases e
    subst hm
    obtain rfl : ys = [] := List.eq_nil_of_length_eq_zero hy.len
    obtain rfl := hd rfl
    refine wpList_append_own_none hgd s x 24 ho lo 9 i0 1 Try.underlying24 hi0 (.slice A n c) n _ hs hown.1 hx ?_
    have := h A c w (by simpa using hown.wide (Nat.le_refl _) hown.2.2.1 (Nat.le_refl _)) (World.grownBy.refl _ _)
    simpa using this
  | some ad =>
    refine wpList_append_own w hgd s x 24 ho lo 9 i0 (.string ⟨#[]⟩) 1 16 Try.underlying24 hi0 hz0 hz1 hz2 rfl (by omega) (.slice A n c) n (xs.map (Value.string)) hs hown.1
      ad m d (ys.map (Value.string)) hx (by simp [hy.len]) hy.news (by simp [Value.oneCell']) (by unfold maxLen; omega) (by omega) hlo ?_
    intro v' w' hown' hg _
    rw [← List.map_append] at hown'
    obtain ⟨A', c', rfl, ho'⟩ := own_valueS hown' hwf
    refine h A' c' w' ho' ?_
    rw [ownBlock_slice] at hg
    exact hg
/-- one string appended to a row of the call's own -/
theorem wpList_pushS {ops : Array Oper} {rest : List Oper} {o : Oper} {a : Act} {Q : Exit → Act → World → Prop} (w : World) (hgd : o.guard = none) (s x : Operand)
    (ho : o.op = .call { callee := .builtin .append, args := #[s, x], argTypes := #[24, 24] })
    (lo hi : Nat) (A : Option Addr) (n c : Nat) (xs : List ByteArray) (hs : a.eval s = .slice A n c) (hown : OwnS w lo hi A n c xs)
    (y : ByteArray) (b : Nat) (hx : a.eval x = .slice (some ⟨b, 0, none⟩) 1 1) (hy : Sz y) (hc : w.cell? ⟨b, 0, none⟩ = some (.string y)) (hn : n ≤ 4194304) (hlo : lo ≤ w.heap.size)
    (h : ∀ g c' w', OwnS w' lo w'.heap.size (some ⟨g, 0, none⟩) (n + 1) c' (xs ++ [y]) → w.grownBy w' (A.map (·.block)) → (A.map (·.block) = some g ∨ g = w.heap.size) → wpList Try.prog ops Q rest (a.put o.dst (.slice (some ⟨g, 0, none⟩) (n + 1) c')) w') :
    wpList Try.prog ops Q (o :: rest) a w := by
  obtain ⟨i0, hi0, hz0, hz1, hz2⟩ := info_parts Try.infoStr
  refine wpList_append_lies w hgd s x 24 ho lo 9 i0 (.string ⟨#[]⟩) 1 16 Try.underlying24 hi0 hz0 hz1 hz2 rfl (by omega) (.slice A n c) n (xs.map (Value.string)) hs hown.1
    ⟨b, 0, none⟩ 1 1 [.string y] hx rfl ?_ (by simp [Value.oneCell']) (by omega) (by unfold maxLen; omega) (by omega) hlo w.heap.size rfl ?_
  · intro j u hu
    cases j with
    | zero => simp at hu; subst hu; rw [add_none]; exact hc
    | succ j => simp at hu
  · intro g cap w' hown' hg hat hlt
    rw [ownBlock_slice] at hg hat
    refine h g cap w' ⟨?_, ?_, Nat.le_refl _, fun a ha => by injection ha with ha; subst ha; exact hlt⟩ hg hat
    · simpa using hown'
    · intro z hz
      rcases List.mem_append.1 hz with h1 | h1
      · exact hown.2.1 z h1
      · rw [List.mem_singleton.1 h1]; exact hy

end Go.Proofs.Ytjhalbmmlcbehaa

