/- Rows of structs without slices: what reads as them, what is the call's own, appends. -/
import Derived.Test.YtjhalbmmlcbehaaWr
import Derived.Test.YtjhalbmmlcbehaaDraw1
namespace Go.Proofs.Ytjhalbmmlcbehaa
open Go.RowKit
set_option linter.unusedVariables false
set_option linter.unusedSimpArgs false

section
variable {α : Type} (enc : α → List Value) (k : Nat)
/-- what reads as a list of structs of k cells -/
def RowR (w : World) (A : Option Addr) (n : Nat) (xs : List α) : Prop :=
  xs.length = n ∧ (0 < n → ∃ b off, A = some ⟨b, off, none⟩ ∧ b < w.heap.size ∧ ∀ j x, xs[j]? = some x → ∀ c v, (enc x)[c]? = some v → w.cell? ⟨b, off + j * k + c, none⟩ = some v)
/-- a row of the call's own -/
def OwnR (t : TypeId) (w : World) (lo hi : Nat) (A : Option Addr) (n c : Nat) (xs : List α) : Prop :=
  w.ownsRow lo t k (.slice A n c) n (xs.flatMap enc) ∧ xs.length = n ∧ hi ≤ w.heap.size ∧ ∀ a, A = some a → a.block < hi
end
section
variable {α : Type} {enc : α → List Value} {k : Nat} {w w' : World} {A : Option Addr} {n c : Nat} {xs : List α} {t : TypeId} {lo hi : Nat}
theorem RowR.len (h : RowR enc k w A n xs) : xs.length = n := h.1
theorem RowR.below (h : RowR enc k w A n xs) (hb : Below w.heap.size w w') : RowR enc k w' A n xs := ⟨h.1, fun hn => by
  obtain ⟨b, off, e, h1, h2⟩ := h.2 hn
  have := hb.size
  exact ⟨b, off, e, by omega, fun j x hx c v hv => (hb.cell h1).trans (h2 j x hx c v hv)⟩⟩
theorem RowR.grown {row : Option Nat} (h : RowR enc k w A n xs) (hg : w.grownBy w' row) (hr : ∀ a, A = some a → some a.block ≠ row) : RowR enc k w' A n xs :=
  ⟨h.1, fun hn => by
    obtain ⟨b, off, e, hb, hc⟩ := h.2 hn
    have := hg.size
    exact ⟨b, off, e, by omega, fun j x hx c v hv => (World.cell?_of_block (hg.block b hb (hr _ e))).trans (hc j x hx c v hv)⟩⟩
theorem RowR.at_ {j : Nat} (h : RowR enc k w A n xs) (hj : j < n) : ∃ b off x, A = some ⟨b, off, none⟩ ∧ xs[j]? = some x ∧ ∀ c v, (enc x)[c]? = some v → w.cell? ⟨b, off + j * k + c, none⟩ = some v := by
  obtain ⟨b, off, e, _, hc⟩ := h.2 (by omega)
  have hl : j < xs.length := by have := h.1; omega
  exact ⟨b, off, xs[j], e, List.getElem?_eq_getElem hl, hc j _ (List.getElem?_eq_getElem hl)⟩
theorem RowR.nil (A : Option Addr) : RowR enc k w A 0 ([] : List α) := ⟨rfl, fun h => by omega⟩
theorem RowR.take {m : Nat} (h : RowR enc k w A n xs) (hm : m ≤ n) : RowR enc k w A m (xs.take m) := ⟨by rw [List.length_take, h.1]; omega, fun h0 => by
  obtain ⟨b, off, e, hb, hc⟩ := h.2 (by omega)
  refine ⟨b, off, e, hb, fun j x hx => hc j x ?_⟩
  rw [List.getElem?_take] at hx
  split at hx
  · exact hx
  · cases hx⟩
theorem flat_at (hk : ∀ x, (enc x).length = k) : ∀ (xs : List α) (j c : Nat) (x : α), c < k → xs[j]? = some x → (xs.flatMap enc)[j * k + c]? = (enc x)[c]?
  | [], j, c, x, _, hx => by simp at hx
  | y :: ys, 0, c, x, hc, hx => by
    simp at hx; subst hx
    rw [List.flatMap_cons, Nat.zero_mul, Nat.zero_add, List.getElem?_append_left (by rw [hk]; exact hc)]
  | y :: ys, j + 1, c, x, hc, hx => by
    simp only [List.getElem?_cons_succ] at hx
    rw [List.flatMap_cons, List.getElem?_append_right (by rw [hk, Nat.succ_mul]; omega), hk, show (j + 1) * k + c - k = j * k + c by rw [Nat.succ_mul]; omega]
    exact flat_at hk ys j c x hc hx
theorem flat_size (hk : ∀ x, (enc x).length = k) : ∀ xs : List α, (xs.flatMap enc).length = xs.length * k
  | [] => by simp
  | x :: xs => by rw [List.flatMap_cons, List.length_append, hk, flat_size hk xs, List.length_cons, Nat.succ_mul]; omega
theorem OwnR.len (h : OwnR enc k t w lo hi A n c xs) : xs.length = n := h.2.1
theorem OwnR.reads (hk : ∀ x, (enc x).length = k) (h : OwnR enc k t w lo hi A n c xs) : RowR enc k w A n xs := by
  refine ⟨h.2.1, fun hn => ?_⟩
  rcases h.1.2 with ⟨_, h0⟩ | ⟨g, cap, cur, hv, hb, _⟩
  · omega
  · injection hv with hA
    have hl := (h.1.lt g (by rw [hA]; rfl)).2
    refine ⟨g, 0, hA, hl, fun j x hx c v hv => ?_⟩
    subst hA
    have hj : j < xs.length := (List.getElem?_eq_some_iff.1 hx).1
    have hc : c < k := by have := (List.getElem?_eq_some_iff.1 hv).1; rwa [hk] at this
    have hlen := h.2.1
    have hle : (j + 1) * k ≤ n * k := Nat.mul_le_mul_right k (by omega)
    rw [Nat.succ_mul] at hle
    rw [Nat.zero_add, h.1.cellAt (j * k + c) (by omega), flat_at hk xs j c x hc hx]
    exact hv
theorem OwnR.far {row : Option Nat} (h : OwnR enc k t w lo hi A n c xs) (hg : w.grownBy w' row) (hr : ∀ g, row = some g → g < lo ∨ hi ≤ g) : OwnR enc k t w' lo hi A n c xs := by
  refine ⟨?_, h.2.1, Nat.le_trans h.2.2.1 hg.size, h.2.2.2⟩
  rcases A with _ | a
  · exact h.1.kept hg (.inl rfl)
  · refine h.1.kept hg (.inr fun e => ?_)
    have h1 := h.1.lt a.block rfl
    have h2 := h.2.2.2 a rfl
    have := hr a.block (by rw [← e]; rfl)
    omega
theorem OwnR.below (h : OwnR enc k t w lo hi A n c xs) (hb : Below w.heap.size w w') : OwnR enc k t w' lo hi A n c xs := h.far (only_of_below hb none) (fun _ e => by cases e)
theorem OwnR.alloc (h : OwnR enc k t w lo hi A n c xs) (o : Obj) : OwnR enc k t (w.alloc o) lo hi A n c xs := h.far (World.grownBy_alloc w o none) (fun _ e => by cases e)
theorem OwnR.drewN (h : OwnR enc k t w lo hi A n c xs) (m : Nat) : OwnR enc k t (w.drewN m) lo hi A n c xs := h
theorem OwnR.wide {lo' hi' : Nat} (h : OwnR enc k t w lo hi A n c xs) (h1 : lo' ≤ lo) (h2 : hi ≤ hi') (h3 : hi' ≤ w.heap.size) : OwnR enc k t w lo' hi' A n c xs := by
  refine ⟨⟨h.1.1, ?_⟩, h.2.1, h3, fun a ha => by have := h.2.2.2 a ha; omega⟩
  rcases h.1.2 with e | ⟨g, cap, cur, hv, hb, r⟩
  · exact .inl e
  · exact .inr ⟨g, cap, cur, hv, by omega, r⟩
theorem OwnR.lo_le (h : OwnR enc k t w lo hi A n c xs) : ∀ a, A = some a → lo ≤ a.block ∧ a.block < hi := fun a ha => by
  subst ha
  exact ⟨(h.1.lt a.block rfl).1, h.2.2.2 a rfl⟩
theorem OwnR.cap_le (h : OwnR enc k t w lo hi A n c xs) : n ≤ c := by
  rcases h.1.2 with ⟨e, h0⟩ | ⟨g, cap, cur, hv, _, _, hc, _⟩
  · omega
  · injection hv with _ _ e; omega
theorem OwnR.cap_max (h : OwnR enc k t w lo hi A n c xs) : c ≤ 9223372036854775807 := by
  rcases h.1.2 with ⟨e, h0⟩ | ⟨g, cap, cur, hv, _, _, _, hc, _⟩
  · injection e with _ _ e; omega
  · injection hv with _ _ e; unfold maxLen at hc; omega
theorem OwnR.nil (hh : hi ≤ w.heap.size) : OwnR enc k t w lo hi none 0 0 ([] : List α) := ⟨World.ownsRow_nil _ _ _ _, rfl, hh, fun _ e => by cases e⟩
theorem own_emptyR (w : World) (lo : Nat) (hlo : lo ≤ w.heap.size) : OwnR enc k t (w.alloc (.cells #[] t)) lo (w.heap.size + 1) (some ⟨w.heap.size, 0, none⟩) 0 0 ([] : List α) :=
  ⟨⟨by simp, .inr ⟨w.heap.size, 0, #[], rfl, hlo, heap_alloc_new w _, Nat.le_refl _, by unfold maxLen; omega, by simp, by simp⟩⟩, rfl, by simp, fun a ha => by injection ha with ha; subst ha; exact Nat.lt_succ_self _⟩
/-- one struct appended to a row of the call's own -/
theorem wpList_pushR {ops : Array Oper} {rest : List Oper} {o : Oper} {a : Act} {Q : Exit → Act → World → Prop} (w : World) (hgd : o.guard = none) (s x : Operand) (T : TypeId)
    (ho : o.op = .call { callee := .builtin .append, args := #[s, x], argTypes := #[T, T] })
    (i0 : TypeInfo) (z : Value) (bytes : Nat) (hT : Try.prog.underlying T = some (.slice t)) (hi0 : Try.prog.info? t = some i0) (hz0 : i0.zero = some z) (hz1 : i0.size = k) (hz2 : i0.bytes = bytes) (hzs : z.cells.size = k) (hk0 : 0 < k) (hby : bytes ≤ 1000)
    (hk : ∀ x, (enc x).length = k) (h1c : ∀ x, ∀ u ∈ enc x, u.oneCell' = true)
    (lo hi : Nat) (A : Option Addr) (n c : Nat) (xs : List α) (hs : a.eval s = .slice A n c) (hown : OwnR enc k t w lo hi A n c xs)
    (y : α) (b : Nat) (hx : a.eval x = .slice (some ⟨b, 0, none⟩) 1 1) (hc : ∀ j u, (enc y)[j]? = some u → w.cell? ⟨b, j, none⟩ = some u) (hn : n ≤ 4194304) (hlo : lo ≤ w.heap.size)
    (h : ∀ g c' w', OwnR enc k t w' lo w'.heap.size (some ⟨g, 0, none⟩) (n + 1) c' (xs ++ [y]) → w.grownBy w' (A.map (·.block)) → wpList Try.prog ops Q rest (a.put o.dst (.slice (some ⟨g, 0, none⟩) (n + 1) c')) w') :
    wpList Try.prog ops Q (o :: rest) a w := by
  refine wpList_append_lies w hgd s x T ho lo t i0 z k bytes hT hi0 hz0 hz1 hz2 hzs hk0 (.slice A n c) n (xs.flatMap enc) hs hown.1
    ⟨b, 0, none⟩ 1 1 (enc y) hx (by rw [hk, Nat.one_mul]) ?_ (h1c y) (by omega) (by unfold maxLen; omega) (Nat.le_trans (Nat.mul_le_mul_left _ hby) (by omega)) hlo w.heap.size rfl ?_
  · intro j u hu
    rw [add_none]
    exact hc j u hu
  · intro g cap w' hown' hg hat hlt
    rw [ownBlock_slice] at hg
    refine h g cap w' ⟨?_, by rw [List.length_append, hown.2.1]; rfl, Nat.le_refl _, fun a ha => by injection ha with ha; subst ha; exact hlt⟩ hg
    rw [List.flatMap_append]
    simpa using hown'
end
/-- strokes and signs in memory -/
def encK (x : Wr.Stk) : List Value := [.int .i64 x.dir, .int .i64 x.size]
def encG (x : Wr.Sgn) : List Value := [.string x.letter, .int .i64 x.stk.dir, .int .i64 x.stk.size]
def OkK (x : Wr.Stk) : Prop := I64 x.dir ∧ I64 x.size
def OkG (x : Wr.Sgn) : Prop := Sz x.letter ∧ OkK x.stk
abbrev Stks (w : World) (A : Option Addr) (n : Nat) (xs : List Wr.Stk) : Prop := RowR encK 2 w A n xs
abbrev Sgns (w : World) (A : Option Addr) (n : Nat) (xs : List Wr.Sgn) : Prop := RowR encG 3 w A n xs
abbrev OwnK (w : World) (lo hi : Nat) (A : Option Addr) (n c : Nat) (xs : List Wr.Stk) : Prop := OwnR encK 2 75 w lo hi A n c xs
abbrev OwnG (w : World) (lo hi : Nat) (A : Option Addr) (n c : Nat) (xs : List Wr.Sgn) : Prop := OwnR encG 3 89 w lo hi A n c xs
theorem Stks.at2 {w : World} {A : Option Addr} {n j : Nat} {xs : List Wr.Stk} (h : Stks w A n xs) (hj : j < n) :
    ∃ b off x, A = some ⟨b, off, none⟩ ∧ xs[j]? = some x ∧ w.cell? ⟨b, off + j * 2, none⟩ = some (.int .i64 x.dir) ∧ w.cell? ⟨b, off + j * 2 + 1, none⟩ = some (.int .i64 x.size) := by
  obtain ⟨b, off, x, e, hx, hc⟩ := RowR.at_ h hj
  exact ⟨b, off, x, e, hx, hc 0 _ rfl, hc 1 _ rfl⟩
theorem Sgns.at3 {w : World} {A : Option Addr} {n j : Nat} {xs : List Wr.Sgn} (h : Sgns w A n xs) (hj : j < n) :
    ∃ b off x, A = some ⟨b, off, none⟩ ∧ xs[j]? = some x ∧ w.cell? ⟨b, off + j * 3, none⟩ = some (.string x.letter) ∧ w.cell? ⟨b, off + j * 3 + 1, none⟩ = some (.int .i64 x.stk.dir) ∧ w.cell? ⟨b, off + j * 3 + 2, none⟩ = some (.int .i64 x.stk.size) := by
  obtain ⟨b, off, x, e, hx, hc⟩ := RowR.at_ h hj
  exact ⟨b, off, x, e, hx, hc 0 _ rfl, hc 1 _ rfl, hc 2 _ rfl⟩
end Go.Proofs.Ytjhalbmmlcbehaa
