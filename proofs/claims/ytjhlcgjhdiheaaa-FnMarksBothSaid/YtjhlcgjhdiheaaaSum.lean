/- Plain facts: the size of two lists of marks together, the words that are in both, the first marks of valid ones. -/
import Derived.Test.YtjhlcgjhdiheaaaBo2
namespace Go.Proofs.Ytjhlcgjhdiheaaa
open Go.RowKit
set_option linter.unusedVariables false

def szM (x : M) : Int := x.cut + x.put.length
theorem sizeM_cons (x : M) (xs : List M) : Mk.sizeM (x :: xs) = szM x + Mk.sizeM xs := rfl
/-- the sizes of the marks of a list that equal a mark -/
def comm1 (x : M) : List M → Int
  | [] => 0
  | y :: ys => (if Mk.sameM x y = true then szM x else 0) + comm1 x ys
/-- the sizes of the marks that are in both lists -/
def commL : List M → List M → Int
  | [], _ => 0
  | x :: xs, ys => comm1 x ys + commL xs ys
theorem comm1_snoc (x y : M) : ∀ ys : List M, comm1 x (ys ++ [y]) = comm1 x ys + (if Mk.sameM x y = true then szM x else 0)
  | [] => by simp [comm1]
  | z :: ys => by simp only [List.cons_append, comm1, comm1_snoc x y ys]; omega
theorem commL_snoc (x : M) (ys : List M) : ∀ xs : List M, commL (xs ++ [x]) ys = commL xs ys + comm1 x ys
  | [] => by simp [commL]
  | z :: xs => by simp only [List.cons_append, commL, commL_snoc x ys xs]; omega
theorem comm1_go {x y : M} {ys : List M} {k : Nat} (hy : ys[k]? = some y) : comm1 x (ys.take (k + 1)) = comm1 x (ys.take k) + (if Mk.sameM x y = true then szM x else 0) := by
  rw [take_snoc hy, comm1_snoc]
theorem commL_go {x : M} {xs ys : List M} {k : Nat} (hx : xs[k]? = some x) : commL (xs.take (k + 1)) ys = commL (xs.take k) ys + comm1 x ys := by
  rw [take_snoc hx, commL_snoc]
theorem comm1_zero {x : M} : ∀ {ys : List M}, x ∉ ys → comm1 x ys = 0
  | [], _ => rfl
  | y :: ys, h => by
    have h1 : x ≠ y := fun e => h (by simp [e])
    rw [comm1, Mk.sameM_false h1, comm1_zero (fun e => h (by simp [e]))]; rfl
theorem commL_skip {y : M} {ys : List M} : ∀ {xs : List M}, y ∉ xs → commL xs (y :: ys) = commL xs ys
  | [], _ => rfl
  | x :: xs, h => by
    have h1 : x ≠ y := fun e => h (by simp [e])
    rw [commL, commL, comm1, Mk.sameM_false h1, commL_skip (fun e => h (by simp [e]))]; simp
theorem commL_nil : ∀ xs : List M, commL xs [] = 0
  | [] => rfl
  | x :: xs => by rw [commL, commL_nil xs]; rfl
theorem not_after {x : M} {xs : List M} (h : Mk.Asc (x :: xs)) (hp : Mk.Pos (x :: xs)) : x ∉ xs := fun e => by
  have := (List.pairwise_cons.1 h).1 x e
  have := hp x (by simp)
  omega
theorem ahead_not {a b : M} {vs : List M} (h : Mk.Asc (b :: vs)) (hp : Mk.Pos (b :: vs)) (hlt : a.at_ < b.at_) : a ∉ b :: vs := fun e => by
  rcases List.mem_cons.1 e with e | e
  · rw [e] at hlt; omega
  · have := (List.pairwise_cons.1 h).1 a e
    have := hp b (by simp)
    omega
theorem size_merge (n : Nat) : ∀ us vs : List M, us.length + vs.length ≤ n → Mk.Asc us → Mk.Asc vs → Mk.Pos us → Mk.Pos vs → (∀ a ∈ us, ∀ b ∈ vs, a = b ∨ a.at_ + a.cut < b.at_ ∨ b.at_ + b.cut < a.at_) →
    Mk.sizeM (Mk.merge us vs) = Mk.sizeM us + Mk.sizeM vs - commL us vs := by
  induction n with
  | zero =>
    intro us vs h _ _ _ _ _
    obtain rfl : us = [] := List.eq_nil_of_length_eq_zero (by omega)
    obtain rfl : vs = [] := List.eq_nil_of_length_eq_zero (by omega)
    rw [Mk.merge_nil]; rfl
  | succ n ih =>
    intro us vs h ha hb pa pb hc
    cases us with
    | nil => rw [Mk.merge_nil]; simp [commL, Mk.sizeM]
    | cons a us =>
      cases vs with
      | nil => rw [Mk.merge_nil', commL_nil]; simp [Mk.sizeM]
      | cons b vs =>
        simp only [List.length_cons] at h
        have a1 := List.pairwise_cons.1 ha
        have b1 := List.pairwise_cons.1 hb
        have ca := pa a (by simp)
        have cb := pb b (by simp)
        have pa' : Mk.Pos us := fun m hm => pa m (by simp [hm])
        have pb' : Mk.Pos vs := fun m hm => pb m (by simp [hm])
        rw [Mk.merge_cons]
        split
        · rename_i e
          have e := (Mk.sameM_iff a b).1 e
          subst e
          have := ih us vs (by omega) a1.2 b1.2 pa' pb' (fun x hx y hy => hc x (by simp [hx]) y (by simp [hy]))
          rw [sizeM_cons, sizeM_cons, sizeM_cons, commL, comm1, Mk.sameM_self, if_pos rfl, comm1_zero (not_after hb pb), commL_skip (not_after ha pa)]
          omega
        · rename_i e
          have hne : a ≠ b := fun e2 => e ((Mk.sameM_iff a b).2 e2)
          have hab := hc a (by simp) b (by simp)
          split
          · rename_i hlt
            have := ih us (b :: vs) (by simp; omega) a1.2 hb pa' pb (fun x hx y hy => hc x (by simp [hx]) y hy)
            rw [sizeM_cons, sizeM_cons, commL, comm1_zero (ahead_not hb pb hlt)]
            omega
          · rename_i hlt
            have hlt2 : b.at_ < a.at_ := by
              rcases hab with h1 | h1 | h1
              · exact absurd h1 hne
              · omega
              · omega
            have := ih (a :: us) vs (by simp; omega) ha b1.2 pa pb' (fun x hx y hy => hc x hx y (by simp [hy]))
            rw [sizeM_cons, sizeM_cons b vs, commL_skip (ahead_not ha pa hlt2)]
            omega
theorem both_size {ws : List ByteArray} {xs ys : List M} (h1 : valid ws xs = true) (h2 : valid ws ys = true) (hc : clash xs ys = false) : Mk.sizeM (Mk.merge xs ys) = Mk.sizeM xs + Mk.sizeM ys - commL xs ys := by
  obtain ⟨a1, p1, _⟩ := Mk.chk_asc wok _ xs _ (Mk.valid_parts wok h1).2.2.1
  obtain ⟨a2, p2, _⟩ := Mk.chk_asc wok _ ys _ (Mk.valid_parts wok h2).2.2.1
  exact size_merge _ xs ys (Nat.le_refl _) a1 a2 p1 p2 (Mk.clashL_false hc)
/-- what MarksBoth's marks say -/
theorem both_some {ws : List ByteArray} {xs ys out : List M} (h : bothF ws xs ys = some out) :
    out = Mk.merge xs ys ∧ valid ws xs = true ∧ valid ws ys = true ∧ valid ws out = true ∧ bothF ws ys xs = some out ∧ sizeI ws out = sizeI ws xs + sizeI ws ys - commL xs ys := by
  unfold bothF at h
  split at h
  · rename_i hv
    simp only [Bool.and_eq_true, Bool.not_eq_true'] at hv
    obtain ⟨⟨⟨v1, v2⟩, hc⟩, v3⟩ := hv
    injection h with h
    subst h
    have hm := Mk.merge_comm wok v1 v2 hc
    refine ⟨rfl, v1, v2, v3, ?_, ?_⟩
    · rw [bothF_yes v2 v1 ((Mk.clashL_symm ys xs).trans hc) (by rw [hm]; exact v3), hm]
    · rw [sizeI_yes v1, sizeI_yes v2, sizeI_yes v3, both_size v1 v2 hc]
  · cases h
theorem both_self {ws : List ByteArray} {ms : List M} (h : valid ws ms = true) : bothF ws ms ms = some ms := by
  obtain ⟨a1, p1, _⟩ := Mk.chk_asc wok _ ms _ (Mk.valid_parts wok h).2.2.1
  rw [bothF_yes h h (Mk.no_self_clash a1) (by rw [Mk.merge_self]; exact h), Mk.merge_self]
theorem clash_self {ws : List ByteArray} {ms : List M} (h : valid ws ms = true) : clashI ws ms ms = false := by
  obtain ⟨a1, p1, _⟩ := Mk.chk_asc wok _ ms _ (Mk.valid_parts wok h).2.2.1
  unfold clashI
  rw [h, show clash ms ms = false from Mk.no_self_clash a1]; rfl
theorem chk_take {n : Nat} (k : Nat) : ∀ (ms : List M) (e : Int), Mk.chk wok n e ms = true → Mk.chk wok n e (ms.take k) = true := by
  intro ms e h
  have := Mk.chk_append wok n (ms.take k) (ms.drop k) e
  rw [List.take_append_drop, h] at this
  have := this.symm
  rw [Bool.and_eq_true] at this
  exact this.1
theorem valid_take {ws : List ByteArray} {ms : List M} (h : valid ws ms = true) (k : Nat) : valid ws (ms.take k) = decide ((ws.length : Int) + Mk.grow (ms.take k) ≤ 20) := by
  obtain ⟨h1, h2, h3, h4⟩ := Mk.valid_parts wok h
  exact Mk.valid_end wok h1 (by rw [List.length_take]; omega) (chk_take k ms _ h3)
theorem doF_some (ws : List ByteArray) (ms : List M) : (doF ws ms).isSome = valid ws ms := by
  unfold doF
  cases valid ws ms <;> rfl
/-- how far the words have grown behind some marks is a small number -/
theorem grow_bnd {ws : List ByteArray} {ms : List M} (h : valid ws ms = true) (j : Nat) (hj : j ≤ ms.length) : -20 * (j : Int) ≤ Mk.grow (ms.take j) ∧ Mk.grow (ms.take j) ≤ 20 * (j : Int) := by
  induction j with
  | zero => simp [Mk.grow]
  | succ j ih =>
    obtain ⟨i1, i2⟩ := ih (by omega)
    have hx := List.getElem?_eq_getElem (l := ms) (i := j) (by omega)
    rw [grow_go hx]
    have := fit_of h (mem_at hx)
    omega
theorem ido_is (A B : Option Addr) (n c m d : Nat) (ws : List ByteArray) (ms : List M) (w : World) (h : PutIn w A n c ws) (k : Mrks w B m ms) (hm : m ≤ 9223372036854775807) (b : Bool) (hv : valid ws ms = b) :
    Calls Try.prog 54 #[.slice A n c, .slice B m d] w fun e w' => ∃ A' n' c', e = .returned (.tuple #[.slice A' n' c', .bool b]) ∧ Below w.heap.size w w' := by
  cases b with
  | true => exact (ido_yes A B n c m d ws ms w h k hm hv).mono fun e w' hp => by obtain ⟨A', n', c', rfl, _, hb⟩ := hp; exact ⟨A', n', c', rfl, hb⟩
  | false => exact (ido_no A B n c m d ws ms w h k hm hv).mono fun e w' hp => by obtain ⟨A', n', c', rfl, _, hb⟩ := hp; exact ⟨A', n', c', rfl, hb⟩
theorem comm1_bound (x : M) (hx : Small x) : ∀ ys : List M, 0 ≤ comm1 x ys ∧ comm1 x ys ≤ 40 * (ys.length : Int)
  | [] => by simp [comm1]
  | y :: ys => by
    obtain ⟨i1, i2⟩ := comm1_bound x hx ys
    unfold Small at hx
    rw [comm1]
    unfold szM
    simp only [List.length_cons]
    split <;> omega
theorem comm1_small {ws : List ByteArray} {xs ys : List M} {x : M} (h1 : valid ws xs = true) (h2 : valid ws ys = true) (hx : x ∈ xs) (k : Nat) : 0 ≤ comm1 x (ys.take k) ∧ comm1 x (ys.take k) ≤ 800 := by
  have hl := (valid_bound h2).1
  have := comm1_bound x (small_of h1 x hx) (ys.take k)
  rw [List.length_take] at this
  omega
theorem commL_small {ws : List ByteArray} {xs ys : List M} (h1 : valid ws xs = true) (h2 : valid ws ys = true) (j : Nat) (hj : j ≤ xs.length) : 0 ≤ commL (xs.take j) ys ∧ commL (xs.take j) ys ≤ 800 * (j : Int) := by
  induction j with
  | zero => simp [commL]
  | succ j ih =>
    obtain ⟨i1, i2⟩ := ih (by omega)
    have hx := List.getElem?_eq_getElem (l := xs) (i := j) (by omega)
    have hs := comm1_small h1 h2 (mem_at hx) ys.length
    rw [List.take_of_length_le (Nat.le_refl _)] at hs
    rw [commL_go hx]
    omega
theorem sizeM_small : ∀ ms : List M, (∀ x ∈ ms, Small x) → 0 ≤ Mk.sizeM ms ∧ Mk.sizeM ms ≤ 40 * (ms.length : Int)
  | [], _ => by simp [Mk.sizeM]
  | x :: ms, h => by
    obtain ⟨i1, i2⟩ := sizeM_small ms fun y hy => h y (by simp [hy])
    have := h x (by simp)
    unfold Small at this
    rw [sizeM_cons]
    unfold szM
    simp only [List.length_cons]
    omega
theorem sizeI_small {ws : List ByteArray} {ms : List M} (h : valid ws ms = true) : 0 ≤ sizeI ws ms ∧ sizeI ws ms ≤ 800 := by
  have hl := (valid_bound h).1
  have := sizeM_small ms (small_of h)
  rw [sizeI_yes h]
  omega
theorem mem_both {xs ys : List M} {y : M} (h : y ∈ xs ∨ y ∈ ys) : (Mk.merge xs ys).any (fun z => Mk.sameM z y) = true := by
  rw [List.any_eq_true]
  exact ⟨y, (Mk.mem_merge xs ys y).2 h, Mk.sameM_self y⟩
section
variable (A B C : Option Addr) (n c m d l e0 : Nat) (ws : List ByteArray) (xs ys : List M) (w : World) (h : PutIn w A n c ws) (k : MrkIn w B m d xs) (q : MrkIn w C l e0 ys)
include h k q
theorem iboth_yes (zs : List M) (hb : bothF ws xs ys = some zs) : Calls Try.prog 33 #[.slice A n c, .slice B m d, .slice C l e0] w (GetM w true zs) := (iboth_any A B C n c m d l e0 ws xs ys w h k q).mono fun e w' hp => hp.yes hb
theorem iboth_no (hb : bothF ws xs ys = none) : Calls Try.prog 33 #[.slice A n c, .slice B m d, .slice C l e0] w (GetM w false []) := (iboth_any A B C n c m d l e0 ws xs ys w h k q).mono fun e w' hp => hp.no hb
end
end Go.Proofs.Ytjhlcgjhdiheaaa
