/- Steps of a region that draws its order: the change of a mark, the mark of a change, a mark appended. -/
import Derived.Test.YtjhlcgjhdiheaaaMk1
namespace Go.Proofs.Ytjhlcgjhdiheaaa
open Go.RowKit
set_option linter.unusedVariables false

theorem exec82 (o : Oper) (a : Act) (x : Operand) (v : Value) (t : Array TypeId) (w : World) (ho : o.op = .call { callee := .value (.func 82), args := #[x], argTypes := t }) (hx : a.eval x = v) :
    (execOp a.eval o).run Try.prog w = .ok (.enter 82 #[v]) w := by
  simp only [execOp, ho, resolve, List.map_toArray, List.map_cons, List.map_nil, hx]
  kernel_rfl
/-- the call of changeOf as a step -/
theorem step_change {ops : Array Oper} {o : Oper} {a : Act} {K : Act → World → Prop} {Q : Exit → Act → World → Prop} {E : Prop} {w : World} (hgd : o.guard = none) (x : Operand) (t : Array TypeId)
    (ho : o.op = .call { callee := .value (.func 82), args := #[x], argTypes := t }) (m : M) (A : Option Addr) (n c : Nat) (hx : a.eval x = mv m A n c) (hn : n ≤ 1000)
    (h : K (a.put o.dst (chgV m A n c)) (w.alloc (.cells #[.int .i64 m.at_, .int .i64 m.cut, .slice A n c] 58))) :
    if Region.wanted o (yielded ops a.tmps) = true then Oper.wp Try.prog o a w K Q else E := by
  rw [if_pos (by simp [Region.wanted, hgd])]
  unfold Oper.wp
  rw [exec82 o a x _ t w ho hx, Oper.upon_enter]
  refine (change_any m A n c w hn).mono ?_
  rintro e w' ⟨rfl, rfl⟩
  exact h
/-- the mark of a change as a step -/
theorem step_mark {ops : Array Oper} {o : Oper} {a : Act} {K : Act → World → Prop} {Q : Exit → Act → World → Prop} {E : Prop} {w : World} (hgd : o.guard = none) (t : Operand)
    (ho : o.op = .call { callee := .invoke t "loop.example/shorthand/impl.mark", args := #[], argTypes := #[] }) (m : M) (A : Option Addr) (n c : Nat) (ht : a.eval t = chgV m A n c) (hn : n ≤ 1000) (h : PutIn w A n c m.put) (hs : n ≠ 0 ∨ m.put = [])
    (k : ∀ A' n' c' w', OwnS w' w.heap.size w'.heap.size A' n' c' m.put → Below w.heap.size w w' → K (a.put o.dst (mv m A' n' c')) w') :
    if Region.wanted o (yielded ops a.tmps) = true then Oper.wp Try.prog o a w K Q else E := by
  rw [if_pos (by simp [Region.wanted, hgd])]
  unfold Oper.wp
  rw [exec_invoke ho, ht]
  have fin : ∀ e w', MarkPost w m e w' → (match e, w' with
    | .returned v, w'' => K (a.put o.dst v) w''
    | .panicked chain, w'' => Q (.panic chain) a w''
    | .outgrown, _ => LetsOut Q) := by
    rintro e w' ⟨A', n', c', rfl, h1, h2⟩
    exact k A' n' c' w' h1 h2
  by_cases h1 : n = 0
  · have hp : m.put = [] := by
      rcases hs with h | h
      · exact absurd h1 h
      · exact h
    rw [chgV_leave h1, call3, Oper.upon_enter]
    have := leaving_any m.at_ m.cut w
    rw [show (⟨m.at_, m.cut, []⟩ : M) = m by rw [← hp]] at this
    exact this.mono fin
  · by_cases h2 : m.cut = 0
    · rw [chgV_put h1 h2, call5, Oper.upon_enter]
      have := putting_any m.at_ A n c m.put w hn h
      rw [show (⟨m.at_, 0, m.put⟩ : M) = m by rw [← h2]] at this
      exact this.mono fin
    · rw [chgV_both h1 h2, call7, Oper.upon_enter]
      exact (replacing_any m.at_ m.cut A n c m.put w hn h).mono fin
/-- a mark appended as a step -/
theorem step_pushM {ops : Array Oper} {o : Oper} {a : Act} {K : Act → World → Prop} {Q : Exit → Act → World → Prop} {E : Prop} {w : World} (hgd : o.guard = none) (s x : Operand)
    (ho : o.op = .call { callee := .builtin .append, args := #[s, x], argTypes := #[29, 29] })
    (lo hi : Nat) (A : Option Addr) (n c : Nat) (ms : List M) (hs : a.eval s = .slice A n c) (hown : OwnM w lo hi A n c ms)
    (m : M) (p : SlV) (hi2 b : Nat) (hx : a.eval x = .slice (some ⟨b, 0, none⟩) 1 1) (h1 : I64 m.at_) (h2 : I64 m.cut) (hp : OwnS w hi hi2 p.a p.n p.c m.put)
    (c0 : w.cell? ⟨b, 0, none⟩ = some (.int .i64 m.at_)) (c1 : w.cell? ⟨b, 1, none⟩ = some (.int .i64 m.cut)) (c2 : w.cell? ⟨b, 2, none⟩ = some (.slice p.a p.n p.c)) (hn : n ≤ 1000000) (hlo : lo ≤ hi)
    (h : ∀ A' c' w', OwnM w' lo w'.heap.size A' (n + 1) c' (ms ++ [m]) → w.grownBy w' (A.map (·.block)) → K (a.put o.dst (.slice A' (n + 1) c')) w') :
    if Region.wanted o (yielded ops a.tmps) = true then Oper.wp Try.prog o a w K Q else E := by
  obtain ⟨i0, hi0, hz0, hz1, hz2⟩ := info_parts Try.infoMark
  obtain ⟨ps, hM⟩ := hown
  have ht := hM.2.2.2.2.2.1
  refine step_append_lies w hgd s x 29 ho lo 58 i0 _ 3 40 Try.underlying29 hi0 hz0 hz1 hz2 rfl (by omega) (.slice A n c) n (flat ms ps) hs hM.2.2.1
    ⟨b, 0, none⟩ 1 1 [.int .i64 m.at_, .int .i64 m.cut, .slice p.a p.n p.c] hx rfl ?_ (by simp [Value.oneCell']) (by omega) (by unfold maxLen; omega) (by omega) (by omega) w.heap.size rfl ?_
  · intro j u hu
    match j, hu with
    | 0, hu => simp at hu; subst hu; rw [add_none]; exact c0
    | 1, hu => simp at hu; subst hu; rw [add_none]; exact c1
    | 2, hu => simp at hu; subst hu; rw [add_none]; exact c2
    | j + 3, hu => simp at hu
  · intro g cap w' hown' hg _ _
    obtain ⟨A', c', e, ho'⟩ := hM.snoc hown' hg h1 h2 hp hlo
    rw [ownBlock_slice] at hg
    rw [e]
    exact h A' c' w' ho' hg
end Go.Proofs.Ytjhlcgjhdiheaaa
