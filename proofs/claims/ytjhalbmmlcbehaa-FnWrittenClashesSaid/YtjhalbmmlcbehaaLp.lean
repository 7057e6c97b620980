/- Pairs that are counted from each word, and pairs of outlines, in plain Lean. -/
import Derived.Test.YtjhalbmmlcbehaaDc
namespace Go.Proofs.Ytjhalbmmlcbehaa
open Go.RowKit Wr Go.Maps
set_option linter.unusedVariables false
set_option linter.unusedSectionVars false

section
variable {α β : Type} [DecidableEq α] [DecidableEq β]
theorem list_snoc {γ : Type} {P : List γ → Prop} (h0 : P []) (h1 : ∀ l x, P l → P (l ++ [x])) (l : List γ) : P l := by
  have h : ∀ m : List γ, P m.reverse := fun m => by
    induction m with
    | nil => exact h0
    | cons a m ih => rw [List.reverse_cons]; exact h1 _ _ ih
  have := h l.reverse
  rwa [List.reverse_reverse] at this
theorem cnt_cons (y : α) (z : Option α) (l : List (Option α)) : cnt (some y) (z :: l) = cnt (some y) l + if z = some y then 1 else 0 := by
  unfold cnt
  simp only [List.countP_cons]
  simp
/-- how often the others of one element stand in a list -/
def oneN (F : List (Option α)) (x : Option α) : Nat := cnt x F - 1
def sumN (F : List (Option α)) : List (Option α) → Nat
  | [] => 0
  | x :: r => oneN F x + sumN F r
theorem sumN_app (F : List (Option α)) : ∀ a b : List (Option α), sumN F (a ++ b) = sumN F a + sumN F b
  | [], b => by simp [sumN]
  | x :: a, b => by rw [List.cons_append, sumN, sumN_app F a b, sumN, Nat.add_assoc]
theorem sumN_go {F : List (Option α)} {k : Nat} {x : Option α} (hx : F[k]? = some x) : sumN F (F.take (k + 1)) = sumN F (F.take k) + oneN F x := by
  rw [take_snoc hx, sumN_app]
  rfl
def someN (x : Option α) : Nat := if x = none then 0 else 1
def sumC (F : List (Option α)) : List (Option α) → Nat
  | [] => 0
  | x :: r => cnt x F + sumC F r
def sumS : List (Option α) → Nat
  | [] => 0
  | x :: r => someN x + sumS r
theorem sumC_app (F : List (Option α)) : ∀ a b : List (Option α), sumC F (a ++ b) = sumC F a + sumC F b
  | [], b => by simp [sumC]
  | x :: a, b => by rw [List.cons_append, sumC, sumC_app F a b, sumC, Nat.add_assoc]
theorem sumS_app : ∀ a b : List (Option α), sumS (a ++ b) = sumS a + sumS b
  | [], b => by simp [sumS]
  | x :: a, b => by rw [List.cons_append, sumS, sumS_app a b, sumS, Nat.add_assoc]
/-- one more element in the list that is counted in -/
theorem sumC_more (F : List (Option α)) (y : Option α) : ∀ G : List (Option α), sumC (F ++ [y]) G = sumC F G + cnt y G
  | [] => by cases y <;> rfl
  | x :: G => by
    rw [sumC, sumC, sumC_more F y G]
    have h : cnt x (F ++ [y]) + cnt y G = cnt x F + cnt y (x :: G) := by
      cases x with
      | none =>
        cases y with
        | none => rfl
        | some v =>
          rw [cnt_cons]
          show 0 + _ = 0 + (_ + _)
          simp
      | some u =>
        rw [cnt_snoc]
        cases y with
        | none => simp [cnt]
        | some v =>
          rw [cnt_cons]
          by_cases e : u = v
          · subst e; simp; omega
          · have e2 : ¬ v = u := fun h => e h.symm
            simp [e, e2]
    omega
theorem cnt_self (y : Option α) : cnt y [y] = someN y := by
  cases y with
  | none => rfl
  | some v => simp [cnt, someN]
theorem cnt_add (y : Option α) (a b : List (Option α)) : cnt y (a ++ b) = cnt y a + cnt y b := by
  cases y with
  | none => rfl
  | some v => simp [cnt, List.countP_append]
theorem sumC_pairs (F : List (Option α)) : sumC F F = 2 * pairsF [] F + sumS F := by
  refine list_snoc (P := fun F => sumC F F = 2 * pairsF [] F + sumS F) rfl (fun l x ih => ?_) F
  rw [sumC_app, sumC_more, ih, sumS_app, pairs_snoc, List.nil_append]
  show _ + (cnt x (l ++ [x]) + 0) = _ + (_ + (someN x + 0))
  rw [cnt_add, cnt_self]
  omega
theorem cnt_mem {F : List (Option α)} {v : α} (h : some v ∈ F) : 1 ≤ cnt (some v) F := by
  unfold cnt
  exact List.countP_pos_iff.2 ⟨_, h, by simp⟩
theorem oneN_some {F : List (Option α)} {x : Option α} (h : x ∈ F) : oneN F x + someN x = cnt x F := by
  unfold oneN someN
  cases x with
  | none => rfl
  | some v =>
    have := cnt_mem h
    simp
    omega
theorem sumN_C (F : List (Option α)) : ∀ G : List (Option α), (∀ x ∈ G, x ∈ F) → sumN F G + sumS G = sumC F G
  | [], _ => rfl
  | x :: G, h => by
    have ih := sumN_C F G (fun y hy => h y (List.mem_cons_of_mem _ hy))
    have := oneN_some (h x (by simp))
    rw [sumN, sumS, sumC]
    omega
/-- each pair is counted from both sides -/
theorem sum_pairs (F : List (Option α)) : sumN F F = 2 * pairsF [] F := by
  have h1 := sumN_C F F (fun x h => h)
  have h2 := sumC_pairs F
  omega
theorem cnt_map (f : α → β) (x : Option α) : ∀ F : List (Option α), cnt x F ≤ cnt (x.map f) (F.map (Option.map f)) := by
  intro F
  cases x with
  | none => exact Nat.zero_le _
  | some v =>
    unfold cnt
    simp only [Option.map_some]
    rw [List.countP_map]
    refine List.countP_mono_left fun y _ h => ?_
    simp only [decide_eq_true_eq] at h
    subst h
    simp
theorem pairs_map (f : α → β) : ∀ (F s : List (Option α)), pairsF s F ≤ pairsF (s.map (Option.map f)) (F.map (Option.map f))
  | [], s => Nat.le_refl _
  | x :: F, s => by
    have ih := pairs_map f F (s ++ [x])
    have := cnt_map f x s
    rw [List.map_append] at ih
    rw [List.map_cons, pairsF, pairsF]
    exact Nat.add_le_add this ih
end
theorem form_fst (ss : List Sgn) (s : ByteArray) : (formF ss s).map Prod.fst = outF ss s := by
  unfold formF
  cases outF ss s <;> rfl
/-- positions lessen clashes -/
theorem clash_le (ss : List Sgn) (ws : List ByteArray) : pairsF [] (ws.map (formF ss)) ≤ pairsF [] (ws.map (outF ss)) := by
  have h := pairs_map (Prod.fst : List Stk × Int → List Stk) (ws.map (formF ss)) []
  rw [List.map_map] at h
  have e : (Option.map (Prod.fst : List Stk × Int → List Stk)) ∘ formF ss = outF ss := funext fun s => form_fst ss s
  rw [e] at h
  exact h
/-- what is read, counted -/
theorem ixW_len (ss : List Sgn) (l : List Stk) (p : Int) : ∀ (ws : List ByteArray) (i : Nat), (ixW (wlF ss i ws) l p).length = cnt (some (l, p)) (ws.map (formF ss))
  | [], i => rfl
  | a :: r, i => by
    have ih := ixW_len ss l p r (i + 1)
    have e : ∀ xs ys : List WL, (ixW (xs ++ ys) l p).length = (ixW xs l p).length + (ixW ys l p).length := fun xs ys => by
      unfold ixW
      rw [List.filter_append, List.map_append, List.length_append]
    rw [wlF, e, ih, List.map_cons]
    have h : cnt (some (l, p)) (formF ss a :: r.map (formF ss)) = cnt (some (l, p)) [formF ss a] + cnt (some (l, p)) (r.map (formF ss)) := cnt_add _ [formF ss a] _
    rw [h]
    congr 1
    cases ho : outF ss a with
    | none => rw [wlOne_none ho, formF_none ho]; rfl
    | some q =>
      rw [wlOne_some ho, formF_some ho]
      rw [cnt_cons]
      unfold ixW
      rw [List.length_map, List.filter_cons]
      show (if decide (posW a = p ∧ q = l) = true then _ else _ : List WL).length = _
      by_cases hq : posW a = p ∧ q = l
      · obtain ⟨rfl, rfl⟩ := hq
        simp [cnt]
      · have h2 : ¬ (some (q, posW a) : Option (List Stk × Int)) = some (l, p) := fun h => by
          injection h with h
          injection h with h1 h2
          exact hq ⟨h2, h1⟩
        rw [if_neg h2, decide_eq_false hq]
        simp [cnt]
theorem read_len {ss : List Sgn} {ws : List ByteArray} {s : ByteArray} {l : List Stk} (ho : outF ss s = some l) (hm : s ∈ ws) :
    (ixW (wl ss ws) l (posW s)).length = oneN (ws.map (formF ss)) (formF ss s) + 1 := by
  have h1 : (ixW (wl ss ws) l (posW s)).length = cnt (formF ss s) (ws.map (formF ss)) := by
    rw [formF_some ho]
    exact ixW_len ss l (posW s) ws 0
  have h2 : formF ss s ∈ ws.map (formF ss) := List.mem_map_of_mem hm
  have h3 := oneN_some h2
  rw [h1, ← h3, formF_some ho]
  rfl
theorem oneN_none (F : List (Option (List Stk × Int))) : oneN F none = 0 := rfl
theorem oneN_le (F : List (Option (List Stk × Int))) (x : Option (List Stk × Int)) : oneN F x ≤ F.length := by
  have := cnt_le x F
  unfold oneN
  omega
theorem sumN_le (F : List (Option (List Stk × Int))) (h : F.length ≤ 20) : ∀ G : List (Option (List Stk × Int)), sumN F G ≤ 20 * G.length
  | [] => Nat.le_refl _
  | x :: G => by
    have ih := sumN_le F h G
    have := oneN_le F x
    rw [sumN, List.length_cons]
    omega
/-- there are few pairs -/
theorem pairs_few {ss : List Sgn} {ws : List ByteArray} (h : ws.length ≤ 20) : pairsF [] (ws.map (formF ss)) ≤ 400 := by
  have h1 := sumN_le (ws.map (formF ss)) (by rw [List.length_map]; exact h) (ws.map (formF ss))
  rw [sum_pairs, List.length_map] at h1
  omega
end Go.Proofs.Ytjhalbmmlcbehaa
