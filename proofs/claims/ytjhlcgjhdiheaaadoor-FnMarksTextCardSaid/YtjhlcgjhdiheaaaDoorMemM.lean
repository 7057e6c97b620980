/- Words for memory that holds lists of marks: marks that are read, marks of the call's own. -/
import Derived.Test.YtjhlcgjhdiheaaaDoorBase2
namespace Go.Proofs.YtjhlcgjhdiheaaaDoor
open Go.RowKit
set_option linter.unusedVariables false

abbrev M := Mk.Mark ByteArray

/-- a slice of strings that came in or was made: it reads as the list xs -/
def PutIn (w : World) (A : Option Addr) (n c : Nat) (xs : List ByteArray) : Prop := Strs w A n xs ∧ n ≤ c ∧ c ≤ 9223372036854775807 ∧ (A = none → c = 0)
section
variable {w w' : World} {A : Option Addr} {n c : Nat} {xs : List ByteArray}
theorem PutIn.below (h : PutIn w A n c xs) (hb : Below w.heap.size w w') : PutIn w' A n c xs := ⟨h.1.below hb, h.2⟩
theorem PutIn.len (h : PutIn w A n c xs) : xs.length = n := h.1.len
theorem PutIn.max (h : PutIn w A n c xs) : n ≤ 9223372036854775807 := by have := h.2.1; have := h.2.2.1; omega
theorem OwnS.putIn {lo hi : Nat} (h : OwnS w lo hi A n c xs) : PutIn w A n c xs := ⟨h.ints, h.cap_le, h.cap_max, h.cap0⟩
end

/-- the cells from ⟨b, o⟩ on hold the mark m -/
def Mrk1 (w : World) (b o : Nat) (m : M) : Prop :=
  I64 m.at_ ∧ I64 m.cut ∧ w.cell? ⟨b, o, none⟩ = some (.int .i64 m.at_) ∧ w.cell? ⟨b, o + 1, none⟩ = some (.int .i64 m.cut) ∧ ∃ A n c, w.cell? ⟨b, o + 2, none⟩ = some (.slice A n c) ∧ PutIn w A n c m.put
theorem Mrk1.below {w w' : World} {b o : Nat} {m : M} (h : Mrk1 w b o m) (hb : Below w.heap.size w w') : Mrk1 w' b o m := by
  obtain ⟨h1, h2, h3, h4, A, n, c, h5, h6⟩ := h
  exact ⟨h1, h2, (hb.cell (lt_of_cell h3)).trans h3, (hb.cell (lt_of_cell h4)).trans h4, A, n, c, (hb.cell (lt_of_cell h5)).trans h5, h6.below hb⟩

/-- the slice value '.slice A n c' reads as the list ms of marks -/
def Mrks (w : World) (A : Option Addr) (n : Nat) (ms : List M) : Prop :=
  ms.length = n ∧ (0 < n → ∃ b off, A = some ⟨b, off, none⟩ ∧ b < w.heap.size ∧ ∀ j m, ms[j]? = some m → Mrk1 w b (off + j * 3) m)
section
variable {w w' : World} {A : Option Addr} {n : Nat} {ms : List M}
theorem Mrks.len (h : Mrks w A n ms) : ms.length = n := h.1
theorem Mrks.nil : Mrks w A 0 [] := ⟨rfl, fun h => absurd h (by omega)⟩
theorem Mrks.below (h : Mrks w A n ms) (hb : Below w.heap.size w w') : Mrks w' A n ms :=
  ⟨h.1, fun hn => by
    obtain ⟨b, off, e, hl, hc⟩ := h.2 hn
    exact ⟨b, off, e, Nat.lt_of_lt_of_le hl hb.size, fun j m hm => (hc j m hm).below hb⟩⟩
theorem Mrks.drewN (h : Mrks w A n ms) (k : Nat) : Mrks (w.drewN k) A n ms := h
theorem Mrks.at_ {k : Nat} (h : Mrks w A n ms) (hk : k < n) :
    ∃ b off m, A = some ⟨b, off, none⟩ ∧ ms[k]? = some m ∧ I64 m.at_ ∧ I64 m.cut ∧ w.cell? ⟨b, off + k * 3, none⟩ = some (.int .i64 m.at_) ∧ w.cell? ⟨b, off + k * 3 + 1, none⟩ = some (.int .i64 m.cut) ∧ ∃ A' n' c', w.cell? ⟨b, off + k * 3 + 2, none⟩ = some (.slice A' n' c') ∧ PutIn w A' n' c' m.put := by
  obtain ⟨b, off, e, _, hc⟩ := h.2 (by omega)
  have hl : k < ms.length := by have := h.1; omega
  obtain ⟨h1, h2, h3, h4, h5⟩ := hc k _ (List.getElem?_eq_getElem hl)
  exact ⟨b, off, ms[k], e, List.getElem?_eq_getElem hl, h1, h2, h3, h4, h5⟩
theorem Mrks.take {k : Nat} (h : Mrks w A n ms) (hk : k ≤ n) : Mrks w A k (ms.take k) := by
  refine ⟨by rw [List.length_take, h.len]; omega, fun hn => ?_⟩
  obtain ⟨b, off, e, hb, hc⟩ := h.2 (by omega)
  refine ⟨b, off, e, hb, fun j x hx => hc j x ?_⟩
  have hj : j < k := by
    have := (List.getElem?_eq_some_iff.1 hx).1
    rw [List.length_take] at this; omega
  rwa [List.getElem?_take_of_lt hj] at hx
theorem Mrks.cut {b off i k : Nat} (h : Mrks w (some ⟨b, off, none⟩) n ms) (hk : i + k ≤ n) : Mrks w (some ⟨b, off + i * 3, none⟩) k ((ms.drop i).take k) := by
  refine ⟨by rw [List.length_take, List.length_drop, h.len]; omega, fun hn => ?_⟩
  obtain ⟨b', off', e, hb, hc⟩ := h.2 (by omega)
  injection e with e
  injection e with e1 e2
  subst e1 e2
  refine ⟨b, off + i * 3, rfl, hb, fun j x hx => ?_⟩
  have hj : j < k := by
    have := (List.getElem?_eq_some_iff.1 hx).1
    rw [List.length_take] at this; omega
  rw [List.getElem?_take_of_lt hj, List.getElem?_drop] at hx
  have := hc _ x hx
  rwa [Nat.add_mul, ← Nat.add_assoc] at this
end

/-- a slice value of strings -/
structure SlV where
  a : Option Addr
  n : Nat
  c : Nat
/-- no two of these share a block -/
def Apart (ps : List SlV) : Prop := ∀ (i j : Nat) (p q : SlV) (a b : Addr), i ≠ j → ps[i]? = some p → ps[j]? = some q → p.a = some a → q.a = some b → a.block ≠ b.block
def flat : List M → List SlV → List Value
  | m :: ms, p :: ps => .int .i64 m.at_ :: .int .i64 m.cut :: .slice p.a p.n p.c :: flat ms ps
  | _, _ => []
theorem flat_len : ∀ (ms : List M) (ps : List SlV), ms.length = ps.length → (flat ms ps).length = ms.length * 3
  | [], ps, h => by cases ps <;> simp [flat]
  | m :: ms, [], h => by simp at h
  | m :: ms, p :: ps, h => by
    have := flat_len ms ps (by simpa using h)
    simp only [flat, List.length_cons, this]; omega
theorem flat_get : ∀ (ms : List M) (ps : List SlV) (j : Nat) (m : M) (p : SlV), ms[j]? = some m → ps[j]? = some p →
    (flat ms ps)[j * 3]? = some (.int .i64 m.at_) ∧ (flat ms ps)[j * 3 + 1]? = some (.int .i64 m.cut) ∧ (flat ms ps)[j * 3 + 2]? = some (.slice p.a p.n p.c)
  | [], ps, j, m, p, h, _ => by simp at h
  | m :: ms, [], j, _, p, _, h => by simp at h
  | m :: ms, p :: ps, 0, m', p', h, h' => by
    simp only [List.getElem?_cons_zero, Option.some.injEq] at h h'
    subst h h'
    exact ⟨rfl, rfl, rfl⟩
  | m :: ms, p :: ps, j + 1, m', p', h, h' => by
    simp only [List.getElem?_cons_succ] at h h'
    have := flat_get ms ps j m' p' h h'
    rw [show (j + 1) * 3 = j * 3 + 1 + 1 + 1 by omega]
    simpa only [flat, List.getElem?_cons_succ, Nat.add_assoc] using this
theorem flat_snoc : ∀ (ms : List M) (ps : List SlV) (m : M) (p : SlV), ms.length = ps.length → flat (ms ++ [m]) (ps ++ [p]) = flat ms ps ++ [.int .i64 m.at_, .int .i64 m.cut, .slice p.a p.n p.c]
  | [], [], m, p, _ => rfl
  | [], _ :: _, _, _, h => by simp at h
  | _ :: _, [], _, _, h => by simp at h
  | m :: ms, p :: ps, m', p', h => by
    have := flat_snoc ms ps m' p' (by simpa using h)
    simp only [List.cons_append, flat, this]
theorem flat_set : ∀ (ms : List M) (ps : List SlV) (j : Nat) (m : M) (p : SlV), ms[j]? = some m → ps[j]? = some p →
    (∀ x : Int, (flat ms ps).set (j * 3) (.int .i64 x) = flat (ms.set j ⟨x, m.cut, m.put⟩) ps) ∧ (∀ x : Int, (flat ms ps).set (j * 3 + 1) (.int .i64 x) = flat (ms.set j ⟨m.at_, x, m.put⟩) ps) ∧ (∀ (q : SlV) (ys : List ByteArray), (flat ms ps).set (j * 3 + 2) (.slice q.a q.n q.c) = flat (ms.set j ⟨m.at_, m.cut, ys⟩) (ps.set j q))
  | [], ps, j, m, p, h, _ => by simp at h
  | m :: ms, [], j, _, p, _, h => by simp at h
  | m :: ms, p :: ps, 0, m', p', h, h' => by
    simp only [List.getElem?_cons_zero, Option.some.injEq] at h h'
    subst h h'
    exact ⟨fun _ => rfl, fun _ => rfl, fun _ _ => rfl⟩
  | m :: ms, p :: ps, j + 1, m', p', h, h' => by
    simp only [List.getElem?_cons_succ] at h h'
    have := flat_set ms ps j m' p' h h'
    refine ⟨fun x => ?_, fun x => ?_, fun q ys => ?_⟩
    · rw [show (j + 1) * 3 = j * 3 + 1 + 1 + 1 by omega]
      simp only [flat, List.set_cons_succ, this.1]
    · rw [show (j + 1) * 3 + 1 = (j * 3 + 1) + 1 + 1 + 1 by omega]
      simp only [flat, List.set_cons_succ, this.2.1]
    · rw [show (j + 1) * 3 + 2 = (j * 3 + 2) + 1 + 1 + 1 by omega]
      simp only [flat, List.set_cons_succ, this.2.2 q ys]

/-- A row of marks of the call's own: its block and the blocks of its words lie from lo on and below hi, no two share one, all may be written. -/
def OwnMp (w : World) (lo hi : Nat) (A : Option Addr) (n c : Nat) (ms : List M) (ps : List SlV) : Prop :=
  ps.length = n ∧ ms.length = n ∧ w.ownsRow lo 46 3 (.slice A n c) n (flat ms ps) ∧ (∀ (j : Nat) (m : M) (p : SlV), ms[j]? = some m → ps[j]? = some p → I64 m.at_ ∧ I64 m.cut ∧ OwnS w lo hi p.a p.n p.c m.put) ∧ Apart ps ∧ hi ≤ w.heap.size ∧ ∀ a, A = some a → a.block < hi
def OwnM (w : World) (lo hi : Nat) (A : Option Addr) (n c : Nat) (ms : List M) : Prop := ∃ ps : List SlV, OwnMp w lo hi A n c ms ps

section
variable {w w' : World} {lo hi n c : Nat} {A : Option Addr} {ms : List M}
theorem OwnM.len (h : OwnM w lo hi A n c ms) : ms.length = n := by obtain ⟨ps, _, h2, _⟩ := h; exact h2
theorem OwnM.top (h : OwnM w lo hi A n c ms) : hi ≤ w.heap.size := by obtain ⟨ps, _, _, _, _, _, h6, _⟩ := h; exact h6
theorem OwnM.root (h : OwnM w lo hi A n c ms) : (A = none ∧ c = 0) ∨ ∃ g, A = some ⟨g, 0, none⟩ := by
  obtain ⟨ps, _, _, h1, _⟩ := h
  rcases h1.2 with ⟨e, _⟩ | ⟨g, cap, cur, hv, _⟩
  · injection e with e1 _ e3; exact .inl ⟨e1, e3⟩
  · injection hv with hv; exact .inr ⟨g, hv⟩
theorem OwnM.cap_le (h : OwnM w lo hi A n c ms) : n ≤ c := by
  obtain ⟨ps, _, _, h1, _⟩ := h
  rcases h1.2 with ⟨e, h0⟩ | ⟨g, cap, cur, hv, _, _, hc, _⟩
  · omega
  · injection hv with _ _ e; omega
theorem OwnM.cap_max (h : OwnM w lo hi A n c ms) : c ≤ 9223372036854775807 := by
  obtain ⟨ps, _, _, h1, _⟩ := h
  rcases h1.2 with ⟨e, h0⟩ | ⟨g, cap, cur, hv, _, _, _, hm, _⟩
  · injection e with _ _ e; omega
  · injection hv with _ _ e; subst e; unfold maxLen at hm; omega
theorem OwnM.lo_le (h : OwnM w lo hi A n c ms) : ∀ a, A = some a → lo ≤ a.block ∧ a.block < hi := fun a ha => by
  obtain ⟨ps, _, _, h1, _, _, _, h7⟩ := h
  subst ha
  exact ⟨(h1.lt a.block rfl).1, h7 a rfl⟩
theorem ownsRow_blk {lo t s : Nat} {g n c : Nat} {xs : List Value} (h : w.ownsRow lo t s (.slice (some ⟨g, 0, none⟩) n c) n xs) : ∃ cs, Blk w g t cs := by
  rcases h.2 with ⟨e, _⟩ | ⟨g', cap, cur, hv, _, hg, _⟩
  · cases e
  · injection hv with hv
    injection hv with hv
    injection hv with hv
    subst hv
    exact ⟨cur, hg⟩
theorem OwnM.at_ {k : Nat} (h : OwnM w lo hi A n c ms) (hk : k < n) :
    ∃ (g : Nat) (m : M) (p : SlV), A = some ⟨g, 0, none⟩ ∧ lo ≤ g ∧ g < hi ∧ ms[k]? = some m ∧ I64 m.at_ ∧ I64 m.cut ∧ OwnS w lo hi p.a p.n p.c m.put ∧ some g ≠ p.a.map (·.block) ∧
      w.cell? ⟨g, k * 3, none⟩ = some (.int .i64 m.at_) ∧ w.cell? ⟨g, k * 3 + 1, none⟩ = some (.int .i64 m.cut) ∧ w.cell? ⟨g, k * 3 + 2, none⟩ = some (.slice p.a p.n p.c) ∧
      w.frozen? ⟨g, k * 3, none⟩ = false ∧ w.frozen? ⟨g, k * 3 + 1, none⟩ = false ∧ w.frozen? ⟨g, k * 3 + 2, none⟩ = false := by
  have hl := h.lo_le
  obtain ⟨ps, p1, p2, h1, h2, h3, h4, h5⟩ := h
  obtain ⟨g, rfl⟩ : ∃ g, A = some ⟨g, 0, none⟩ := by
    rcases h1.2 with ⟨_, h0⟩ | ⟨g, cap, cur, hv, _⟩
    · omega
    · injection hv with hv; exact ⟨g, hv⟩
  have l1 : k < ms.length := by omega
  have l2 : k < ps.length := by omega
  have e1 := List.getElem?_eq_getElem l1
  have e2 := List.getElem?_eq_getElem l2
  obtain ⟨f1, f2, f3⟩ := flat_get ms ps k _ _ e1 e2
  obtain ⟨i1, i2, i3⟩ := h2 k _ _ e1 e2
  obtain ⟨cs, hb⟩ := ownsRow_blk h1
  have hL := hl _ rfl
  refine ⟨g, ms[k], ps[k], rfl, hL.1, hL.2, e1, i1, i2, i3, i3.ne_blk hb (by decide), ?_, ?_, ?_, h1.frozenAt _, h1.frozenAt _, h1.frozenAt _⟩
  · rw [h1.cellAt _ (by omega)]; exact f1
  · rw [h1.cellAt _ (by omega)]; exact f2
  · rw [h1.cellAt _ (by omega)]; exact f3
theorem OwnM.ints (h : OwnM w lo hi A n c ms) : Mrks w A n ms := by
  refine ⟨h.len, fun hn => ?_⟩
  have ht := h.top
  obtain ⟨g, m0, p0, rfl, g1, g2, _⟩ := h.at_ hn
  refine ⟨g, 0, rfl, by omega, fun j m hm => ?_⟩
  have hj : j < n := by have := (List.getElem?_eq_some_iff.1 hm).1; have := h.len; omega
  obtain ⟨g', m', p, e, _, _, hm', i1, i2, i3, _, c1, c2, c3, _⟩ := h.at_ hj
  injection e with e
  injection e with e
  subst e
  rw [hm] at hm'
  injection hm' with hm'
  subst hm'
  rw [Nat.zero_add]
  exact ⟨i1, i2, c1, c2, p.a, p.n, p.c, c3, i3.putIn⟩
theorem OwnM.nil (w : World) (lo hi : Nat) (hh : hi ≤ w.heap.size) : OwnM w lo hi none 0 0 [] := ⟨[], rfl, rfl, World.ownsRow_nil _ _ _ _, fun j m p hm => by simp at hm, fun i j p q a b _ hp => by simp at hp, hh, fun _ e => by cases e⟩
theorem own_emptyM (w : World) (lo : Nat) (hlo : lo ≤ w.heap.size) : OwnM (w.alloc (.cells #[] 46)) lo (w.heap.size + 1) (some ⟨w.heap.size, 0, none⟩) 0 0 [] :=
  ⟨[], rfl, rfl, ⟨rfl, .inr ⟨w.heap.size, 0, #[], rfl, hlo, heap_alloc_new w _, Nat.le_refl _, by unfold maxLen; omega, rfl, rfl⟩⟩, fun j m p hm => by simp at hm, fun i j p q a b _ hp => by simp at hp, by simp, fun a ha => by injection ha with ha; subst ha; exact Nat.lt_succ_self _⟩
/-- nothing in the row's range has changed -/
theorem OwnS.chg {w w' : World} {lo hi n c : Nat} {A : Option Addr} {xs : List ByteArray} {S : Nat → Prop} (h : OwnS w lo hi A n c xs) (hg : Chg w w' S) (hS : ∀ i, S i → i < lo ∨ hi ≤ i) : OwnS w' lo hi A n c xs := by
  refine ⟨?_, h.2.1, Nat.le_trans h.2.2.1 hg.size, h.2.2.2⟩
  refine ⟨h.1.1, ?_⟩
  rcases h.1.2 with e | ⟨g, cap, cur, hv, hb, hgg, r⟩
  · exact .inl e
  · refine .inr ⟨g, cap, cur, hv, hb, ?_, r⟩
    rw [hg.block g (Array.getElem?_eq_some_iff.1 hgg).1 (fun hs => ?_)]
    · exact hgg
    · injection hv with hv
      have := h.2.2.2 _ hv
      have := hS g hs
      dsimp only at *
      omega
theorem OwnM.chg {S : Nat → Prop} (h : OwnM w lo hi A n c ms) (hg : Chg w w' S) (hS : ∀ i, S i → i < lo ∨ hi ≤ i) : OwnM w' lo hi A n c ms := by
  obtain ⟨ps, p1, p2, h1, h2, h3, h4, h5⟩ := h
  refine ⟨ps, p1, p2, ⟨h1.1, ?_⟩, fun j m p hm hp => ?_, h3, Nat.le_trans h4 hg.size, h5⟩
  · rcases h1.2 with e | ⟨g, cap, cur, hv, hb, hgg, r⟩
    · exact .inl e
    · refine .inr ⟨g, cap, cur, hv, hb, ?_, r⟩
      rw [hg.block g (Array.getElem?_eq_some_iff.1 hgg).1 (fun hs => ?_)]
      · exact hgg
      · injection hv with hv
        have := h5 _ hv
        have := hS g hs
        dsimp only at *
        omega
  · obtain ⟨i1, i2, i3⟩ := h2 j m p hm hp
    exact ⟨i1, i2, i3.chg hg hS⟩
theorem OwnM.below (h : OwnM w lo hi A n c ms) (hb : Below w.heap.size w w') : OwnM w' lo hi A n c ms := h.chg (Chg.of_below hb (fun _ => False)) (fun _ e => e.elim)
theorem OwnM.alloc (h : OwnM w lo hi A n c ms) (o : Obj) : OwnM (w.alloc o) lo hi A n c ms := h.below ((Below.refl _ _).alloc (Nat.le_refl _) o)
theorem OwnM.drewN (h : OwnM w lo hi A n c ms) (k : Nat) : OwnM (w.drewN k) lo hi A n c ms := h
theorem OwnM.far {row : Option Nat} (h : OwnM w lo hi A n c ms) (hg : w.grownBy w' row) (hr : ∀ g, row = some g → g < lo ∨ hi ≤ g) : OwnM w' lo hi A n c ms := h.chg (Chg.of_grown hg) (fun i e => hr i e.symm)
theorem OwnM.wide {lo' hi' : Nat} (h : OwnM w lo hi A n c ms) (h1 : lo' ≤ lo) (h2 : hi ≤ hi') (h3 : hi' ≤ w.heap.size) : OwnM w lo' hi' A n c ms := by
  obtain ⟨ps, p1, p2, k1, k2, k3, k4, k5⟩ := h
  refine ⟨ps, p1, p2, ⟨k1.1, ?_⟩, fun j m p hm hp => ?_, k3, h3, fun a ha => by have := k5 a ha; omega⟩
  · rcases k1.2 with e | ⟨g, cap, cur, hv, hb, r⟩
    · exact .inl e
    · exact .inr ⟨g, cap, cur, hv, by omega, r⟩
  · obtain ⟨i1, i2, i3⟩ := k2 j m p hm hp
    exact ⟨i1, i2, i3.wide h1 h2 h3⟩
end

section
variable {w w' : World} {lo hi n c g : Nat} {ms : List M}
theorem set_same {α : Type} {xs : List α} {k : Nat} {x : α} (h : xs[k]? = some x) : xs.set k x = xs := by
  obtain ⟨h1, h2⟩ := List.getElem?_eq_some_iff.1 h
  rw [← h2]; exact List.set_getElem_self h1
theorem set_at {α : Type} {xs : List α} {j k : Nat} {x y : α} (h : (xs.set k x)[j]? = some y) : (j = k ∧ y = x ∧ k < xs.length) ∨ (j ≠ k ∧ xs[j]? = some y) := by
  rw [List.getElem?_set] at h
  split at h
  · rename_i e
    split at h
    · injection h with h; exact .inl ⟨e.symm, h.symm, by omega⟩
    · cases h
  · rename_i e; exact .inr ⟨fun e' => e e'.symm, h⟩
/-- a number of a mark is written -/
theorem OwnMp.setAt {k : Nat} {m : M} {x : Int} {ps : List SlV} (h : OwnMp w lo hi (some ⟨g, 0, none⟩) n c ms ps) (hm : ms[k]? = some m) (hx : I64 x) : OwnMp (w.setCell ⟨g, k * 3, none⟩ (.int .i64 x)) lo hi (some ⟨g, 0, none⟩) n c (ms.set k ⟨x, m.cut, m.put⟩) ps := by
  obtain ⟨p1, p2, h1, h2, h3, h4, h5⟩ := h
  have hl : k < ms.length := (List.getElem?_eq_some_iff.1 hm).1
  have hp := List.getElem?_eq_getElem (l := ps) (i := k) (by omega)
  obtain ⟨cs, hb⟩ := ownsRow_blk h1
  refine ⟨p1, by rw [List.length_set]; exact p2, ?_, fun j m' p hm' hp' => ?_, h3, by simpa [World.setCell] using h4, h5⟩
  · rw [← (flat_set ms ps k m _ hm hp).1 x]
    exact (h1.stored _ _).1
  · rcases set_at hm' with ⟨rfl, rfl, _⟩ | ⟨_, e⟩
    · obtain ⟨i1, i2, i3⟩ := h2 _ m p hm hp'
      exact ⟨hx, i2, i3.set_far g _ (i3.ne_blk hb (by decide)) _⟩
    · obtain ⟨i1, i2, i3⟩ := h2 j m' p e hp'
      exact ⟨i1, i2, i3.set_far g _ (i3.ne_blk hb (by decide)) _⟩
theorem OwnMp.setCut {k : Nat} {m : M} {x : Int} {ps : List SlV} (h : OwnMp w lo hi (some ⟨g, 0, none⟩) n c ms ps) (hm : ms[k]? = some m) (hx : I64 x) : OwnMp (w.setCell ⟨g, k * 3 + 1, none⟩ (.int .i64 x)) lo hi (some ⟨g, 0, none⟩) n c (ms.set k ⟨m.at_, x, m.put⟩) ps := by
  obtain ⟨p1, p2, h1, h2, h3, h4, h5⟩ := h
  have hl : k < ms.length := (List.getElem?_eq_some_iff.1 hm).1
  have hp := List.getElem?_eq_getElem (l := ps) (i := k) (by omega)
  obtain ⟨cs, hb⟩ := ownsRow_blk h1
  refine ⟨p1, by rw [List.length_set]; exact p2, ?_, fun j m' p hm' hp' => ?_, h3, by simpa [World.setCell] using h4, h5⟩
  · rw [← (flat_set ms ps k m _ hm hp).2.1 x]
    exact (h1.stored _ _).1
  · rcases set_at hm' with ⟨rfl, rfl, _⟩ | ⟨_, e⟩
    · obtain ⟨i1, i2, i3⟩ := h2 _ m p hm hp'
      exact ⟨i1, hx, i3.set_far g _ (i3.ne_blk hb (by decide)) _⟩
    · obtain ⟨i1, i2, i3⟩ := h2 j m' p e hp'
      exact ⟨i1, i2, i3.set_far g _ (i3.ne_blk hb (by decide)) _⟩
end
section
variable {w w' : World} {lo hi n c : Nat} {A : Option Addr} {ms : List M} {ps : List SlV}
theorem OwnMp.own (h : OwnMp w lo hi A n c ms ps) : OwnM w lo hi A n c ms := ⟨ps, h⟩
theorem OwnMp.get {k : Nat} (h : OwnMp w lo hi A n c ms ps) (hk : k < n) :
    ∃ (g : Nat) (m : M) (p : SlV), A = some ⟨g, 0, none⟩ ∧ lo ≤ g ∧ g < hi ∧ ms[k]? = some m ∧ ps[k]? = some p ∧ I64 m.at_ ∧ I64 m.cut ∧ OwnS w lo hi p.a p.n p.c m.put ∧ some g ≠ p.a.map (·.block) ∧
      w.cell? ⟨g, k * 3, none⟩ = some (.int .i64 m.at_) ∧ w.cell? ⟨g, k * 3 + 1, none⟩ = some (.int .i64 m.cut) ∧ w.cell? ⟨g, k * 3 + 2, none⟩ = some (.slice p.a p.n p.c) ∧
      w.frozen? ⟨g, k * 3, none⟩ = false ∧ w.frozen? ⟨g, k * 3 + 1, none⟩ = false ∧ w.frozen? ⟨g, k * 3 + 2, none⟩ = false := by
  have hl := h.own.lo_le
  obtain ⟨p1, p2, h1, h2, h3, h4, h5⟩ := h
  obtain ⟨g, rfl⟩ : ∃ g, A = some ⟨g, 0, none⟩ := by
    rcases h1.2 with ⟨_, h0⟩ | ⟨g, cap, cur, hv, _⟩
    · omega
    · injection hv with hv; exact ⟨g, hv⟩
  have l1 : k < ms.length := by omega
  have l2 : k < ps.length := by omega
  have e1 := List.getElem?_eq_getElem l1
  have e2 := List.getElem?_eq_getElem l2
  obtain ⟨f1, f2, f3⟩ := flat_get ms ps k _ _ e1 e2
  obtain ⟨i1, i2, i3⟩ := h2 k _ _ e1 e2
  obtain ⟨cs, hb⟩ := ownsRow_blk h1
  have hL := hl _ rfl
  refine ⟨g, ms[k], ps[k], rfl, hL.1, hL.2, e1, e2, i1, i2, i3, i3.ne_blk hb (by decide), ?_, ?_, ?_, h1.frozenAt _, h1.frozenAt _, h1.frozenAt _⟩
  · rw [h1.cellAt _ (by omega)]; exact f1
  · rw [h1.cellAt _ (by omega)]; exact f2
  · rw [h1.cellAt _ (by omega)]; exact f3
theorem ownBlock_slice (A : Option Addr) (n c : Nat) : Value.ownBlock (.slice A n c) = A.map (·.block) := by cases A <;> rfl
theorem OwnS.keepRow {lo' n' c' l2 : Nat} {B : Option Addr} {hi' : Nat} {ys : List ByteArray} {xs : List Value} (h : OwnS w lo' hi' B n' c' ys) (hr : w.ownsRow l2 46 3 (.slice A n c) n xs) (hg : w.grownBy w' (A.map (·.block))) : OwnS w' lo' hi' B n' c' ys := by
  refine ⟨h.1.kept hg ?_, h.2.1, Nat.le_trans h.2.2.1 hg.size, h.2.2.2⟩
  rw [ownBlock_slice]
  rcases B with _ | b
  · exact .inl rfl
  · right
    rcases hr.2 with ⟨e, _⟩ | ⟨g, cap, cur, hv, hb⟩
    · injection e with e; subst e; simp
    · injection hv with hv
      subst hv
      obtain ⟨cs, hb⟩ := ownsRow_blk hr
      exact fun e => h.ne_blk hb (by decide) e.symm
/-- one mark more -/
theorem OwnMp.snoc {hi2 : Nat} {p : SlV} {m : M} {v : Value} (h : OwnMp w lo hi A n c ms ps) (hr : w'.ownsRow lo 46 3 v (n + 1) (flat ms ps ++ [.int .i64 m.at_, .int .i64 m.cut, .slice p.a p.n p.c])) (hg : w.grownBy w' (Value.ownBlock (.slice A n c)))
    (h1 : I64 m.at_) (h2 : I64 m.cut) (hp : OwnS w hi hi2 p.a p.n p.c m.put) (hlo : lo ≤ hi) : ∃ A' c', v = .slice A' (n + 1) c' ∧ OwnM w' lo w'.heap.size A' (n + 1) c' (ms ++ [m]) := by
  rw [ownBlock_slice] at hg
  have hrow := h.2.2.1
  have hsz := hg.size
  have hlt : ∀ k, v.ownBlock = some k → k < w'.heap.size := fun k hk => (hr.lt k hk).2
  obtain ⟨A', c', rfl⟩ : ∃ A' c', v = .slice A' (n + 1) c' := by
    rcases hr.2 with ⟨_, e⟩ | ⟨g, cap, cur, rfl, _⟩
    · omega
    · exact ⟨_, _, rfl⟩
  refine ⟨A', c', rfl, ps ++ [p], by simp [h.1], by simp [h.2.1], ?_, fun j m' q hm' hq => ?_, ?_, Nat.le_refl _, fun a ha => hlt _ (by rw [ownBlock_slice, ha]; rfl)⟩
  · rw [flat_snoc _ _ _ _ (by rw [h.1, h.2.1])]; exact hr
  · rw [List.getElem?_append] at hm' hq
    rw [h.1] at hq
    rw [h.2.1] at hm'
    split at hm'
    · rename_i hj
      rw [if_pos hj] at hq
      obtain ⟨i1, i2, i3⟩ := h.2.2.2.1 j m' q hm' hq
      have := i3.keepRow hrow hg
      exact ⟨i1, i2, this.wide (Nat.le_refl _) (Nat.le_trans h.2.2.2.2.2.1 hsz) (Nat.le_refl _)⟩
    · rename_i hj
      rw [if_neg hj] at hq
      obtain ⟨e1, rfl⟩ : j - n = 0 ∧ m = m' := by
        rw [List.getElem?_singleton] at hm'
        split at hm'
        · rename_i e; injection hm' with hm'; exact ⟨e, hm'⟩
        · cases hm'
      obtain rfl : p = q := by rw [e1] at hq; simpa using hq
      have h3 := hp.keepRow hrow hg
      exact ⟨h1, h2, h3.wide hlo h3.2.2.1 (Nat.le_refl _)⟩
  · intro i j q r a b hij hq hr' ha hb
    rw [List.getElem?_append, h.1] at hq hr'
    have h5 := h.2.2.2.1
    have sing : ∀ {k : Nat} {r : SlV}, ([p] : List SlV)[k]? = some r → k = 0 ∧ p = r := fun {k r} e => by
      rw [List.getElem?_singleton] at e
      split at e
      · rename_i e1; injection e with e; exact ⟨e1, e⟩
      · cases e
    have old : ∀ {k : Nat} {r : SlV} {a : Addr}, ps[k]? = some r → r.a = some a → a.block < hi := fun {k r a} e ea => by
      have hk : k < ms.length := by have := (List.getElem?_eq_some_iff.1 e).1; have := h.1; have := h.2.1; omega
      obtain ⟨_, _, i3⟩ := h5 k _ r (List.getElem?_eq_getElem hk) e
      exact i3.2.2.2 a ea
    split at hq <;> split at hr'
    · exact h.2.2.2.2.1 i j q r a b hij hq hr' ha hb
    · obtain ⟨_, rfl⟩ := sing hr'
      have := old hq ha
      have := (hp.lo_le b hb).1
      omega
    · obtain ⟨_, rfl⟩ := sing hq
      have := old hr' hb
      have := (hp.lo_le a ha).1
      omega
    · obtain ⟨e1, _⟩ := sing hq
      obtain ⟨e2, _⟩ := sing hr'
      omega
/-- the words of a mark change in their own block -/
theorem OwnMp.putIn {k : Nat} {m : M} {p : SlV} {ys : List ByteArray} (h : OwnMp w lo hi A n c ms ps) (hm : ms[k]? = some m) (hp : ps[k]? = some p) (hg : w.grownBy w' (p.a.map (·.block))) (hy : OwnS w' lo hi p.a p.n p.c ys) : OwnMp w' lo hi A n c (ms.set k ⟨m.at_, m.cut, ys⟩) ps := by
  obtain ⟨p1, p2, h1, h2, h3, h4, h5⟩ := h
  have hk : k < ms.length := (List.getElem?_eq_some_iff.1 hm).1
  have i0 := h2 k m p hm hp
  have hne : A.map (·.block) ≠ p.a.map (·.block) ∨ A = none := by
    rcases A with _ | a
    · exact .inr rfl
    · left
      rcases h1.2 with ⟨e, _⟩ | ⟨g, cap, cur, hv, _⟩
      · cases e
      · injection hv with hv
        rw [hv] at h1 ⊢
        obtain ⟨cs, hb⟩ := ownsRow_blk h1
        exact i0.2.2.ne_blk hb (by decide)
  have hfl : flat (ms.set k ⟨m.at_, m.cut, ys⟩) ps = flat ms ps := by
    have := (flat_set ms ps k m p hm hp).2.2 p ys
    rw [set_same hp] at this
    rw [← this]
    exact set_same (flat_get ms ps k m p hm hp).2.2
  refine ⟨p1, by rw [List.length_set]; exact p2, ?_, fun j m' q hm' hq => ?_, h3, Nat.le_trans h4 hg.size, h5⟩
  · rw [hfl]
    refine h1.kept hg ?_
    rw [ownBlock_slice]
    rcases hne with e | e
    · exact .inr e
    · subst e; exact .inl rfl
  · rcases set_at hm' with ⟨rfl, rfl, _⟩ | ⟨hj, e⟩
    · rw [hp] at hq; injection hq with hq; subst hq
      exact ⟨i0.1, i0.2.1, hy⟩
    · obtain ⟨i1, i2, i3⟩ := h2 j m' q e hq
      refine ⟨i1, i2, ⟨i3.1.kept hg ?_, i3.2.1, Nat.le_trans i3.2.2.1 hg.size, i3.2.2.2⟩⟩
      rw [ownBlock_slice]
      rcases hqa : q.a with _ | a
      · exact .inl rfl
      · right
        rcases hpa : p.a with _ | b
        · simp
        · intro e'
          simp only [Option.map_some, Option.some.injEq] at e'
          exact h3 j k q p a b hj hq hp hqa hpa e'
end
section
variable {w w' : World} {lo hi n c g : Nat} {ms : List M} {ps : List SlV}
/-- a mark gets new words -/
theorem OwnMp.putNew {k : Nat} {m : M} {p q : SlV} {ys : List ByteArray} (h : OwnMp w lo hi (some ⟨g, 0, none⟩) n c ms ps) (hm : ms[k]? = some m) (hp : ps[k]? = some p) (hg : w.grownBy w' (p.a.map (·.block))) (hq : OwnS w' lo w'.heap.size q.a q.n q.c ys)
    (hfar : ∀ b, q.a = some b → (∃ a, p.a = some a ∧ a.block = b.block) ∨ hi ≤ b.block) : OwnMp (w'.setCell ⟨g, k * 3 + 2, none⟩ (.slice q.a q.n q.c)) lo w'.heap.size (some ⟨g, 0, none⟩) n c (ms.set k ⟨m.at_, m.cut, ys⟩) (ps.set k q) := by
  obtain ⟨p1, p2, h1, h2, h3, h4, h5⟩ := h
  have hsz := hg.size
  have hkl : k < ms.length := (List.getElem?_eq_some_iff.1 hm).1
  have i0 := h2 k m p hm hp
  obtain ⟨cs, hb⟩ := ownsRow_blk h1
  have hne := i0.2.2.ne_blk hb (by decide)
  have h1' : w'.ownsRow lo 46 3 (.slice (some ⟨g, 0, none⟩) n c) n (flat ms ps) := h1.kept hg (.inr hne)
  obtain ⟨cs', hb'⟩ := ownsRow_blk h1'
  have old : ∀ {j : Nat} {r : SlV} {a : Addr}, ps[j]? = some r → r.a = some a → a.block < hi := fun {j r a} e ea => by
    have hk : j < ms.length := by have := (List.getElem?_eq_some_iff.1 e).1; omega
    obtain ⟨_, _, i3⟩ := h2 j _ r (List.getElem?_eq_getElem hk) e
    exact i3.2.2.2 a ea
  refine ⟨by rw [List.length_set]; exact p1, by rw [List.length_set]; exact p2, ?_, fun j m' r hm' hr => ?_, ?_, by simp [World.setCell], fun a ha => by have := h5 a ha; omega⟩
  · rw [← (flat_set ms ps k m p hm hp).2.2 q ys]
    exact (h1'.stored _ _).1
  · rcases set_at hm' with ⟨rfl, rfl, _⟩ | ⟨hj, e⟩
    · rw [List.getElem?_set, if_pos rfl, if_pos (by omega)] at hr
      injection hr with hr
      subst hr
      exact ⟨i0.1, i0.2.1, hq.set_far g _ (hq.ne_blk hb' (by decide)) _⟩
    · rw [List.getElem?_set, if_neg (fun e' => hj e'.symm)] at hr
      obtain ⟨i1, i2, i3⟩ := h2 j m' r e hr
      have i4 : OwnS w' lo hi r.a r.n r.c m'.put := by
        refine ⟨i3.1.kept hg ?_, i3.2.1, Nat.le_trans i3.2.2.1 hsz, i3.2.2.2⟩
        rw [ownBlock_slice]
        rcases hqa : r.a with _ | a
        · exact .inl rfl
        · right
          rcases hpa : p.a with _ | b
          · simp
          · intro e'
            simp only [Option.map_some, Option.some.injEq] at e'
            exact h3 j k r p a b hj hr hp hqa hpa e'
      have i5 := i4.wide (Nat.le_refl _) (Nat.le_trans h4 hsz) (Nat.le_refl _)
      exact ⟨i1, i2, i5.set_far g _ (i5.ne_blk hb' (by decide)) _⟩
  · intro i j r s a b hij hr hs ha hb2
    rw [List.getElem?_set] at hr hs
    have new : ∀ {l : Nat} {t : SlV} {x y : Addr}, l ≠ k → ps[l]? = some t → t.a = some x → q.a = some y → x.block ≠ y.block := fun {l t x y} hl ht hx hy e => by
      have h6 := old ht hx
      rcases hfar y hy with ⟨z, hz, e2⟩ | h7
      · exact h3 l k t p x z hl ht hp hx hz (by omega)
      · omega
    by_cases e1 : k = i
    · rw [if_pos e1] at hr
      rw [if_neg (by omega)] at hs
      split at hr
      · injection hr with hr
        subst hr
        exact fun e => new (by omega) hs hb2 ha e.symm
      · cases hr
    · rw [if_neg e1] at hr
      by_cases e2 : k = j
      · rw [if_pos e2] at hs
        split at hs
        · injection hs with hs
          subst hs
          exact new (by omega) hr ha hb2
        · cases hs
      · rw [if_neg e2] at hs
        exact h3 i j r s a b hij hr hs ha hb2
end
/-- a row of empty marks -/
theorem own_madeM (w1 : World) (lo n : Nat) (hm : w1.ownsRow lo 46 3 (.slice (some ⟨lo, 0, none⟩) n n) n (madeCells (Value.agg #[.int .i64 0, .int .i64 0, .slice none 0 0]).cells (n * 3)).toList) :
    OwnMp w1 lo (lo + 1) (some ⟨lo, 0, none⟩) n n (List.replicate n ⟨0, 0, []⟩) (List.replicate n ⟨none, 0, 0⟩) := by
  have h1 := hm.lt lo rfl
  refine ⟨by simp, by simp, ?_, fun j m p hj hp => ?_, fun i j p q a b hij hp hq ha hb => ?_, by omega, fun a ha => by injection ha with ha; subst ha; exact Nat.lt_succ_self _⟩
  · have : (madeCells (Value.agg #[.int .i64 0, .int .i64 0, .slice none 0 0]).cells (n * 3)).toList = flat (List.replicate n ⟨0, 0, []⟩) (List.replicate n ⟨none, 0, 0⟩) := by
      show (madeCells #[.int .i64 0, .int .i64 0, .slice none 0 0] (n * 3)).toList = _
      apply List.ext_getElem?
      intro t
      have hfl := flat_len (List.replicate n ⟨0, 0, []⟩) (List.replicate n ⟨none, 0, 0⟩) (by simp)
      rw [List.length_replicate] at hfl
      by_cases ht : t < n * 3
      · have hq : t / 3 < n := by omega
        have hg := flat_get (List.replicate n ⟨0, 0, []⟩) (List.replicate n ⟨none, 0, 0⟩) (t / 3) ⟨0, 0, []⟩ ⟨none, 0, 0⟩ (by simp [hq]) (by simp [hq])
        have h3 : t % 3 = 0 ∨ t % 3 = 1 ∨ t % 3 = 2 := by omega
        rcases h3 with h3 | h3 | h3
        · rw [show t / 3 * 3 = t by omega] at hg
          rw [hg.1]
          simp [madeCells, ht, h3]
        · rw [show t / 3 * 3 + 1 = t by omega] at hg
          rw [hg.2.1]
          simp [madeCells, ht, h3]
        · rw [show t / 3 * 3 + 2 = t by omega] at hg
          rw [hg.2.2]
          simp [madeCells, ht, h3]
      · rw [List.getElem?_eq_none (by simp [madeCells]; omega), List.getElem?_eq_none (by rw [hfl]; omega)]
    rwa [this] at hm
  · rw [List.getElem?_replicate] at hj hp
    split at hj
    · rename_i hlt
      rw [if_pos hlt] at hp
      injection hj with hj
      injection hp with hp
      subst hj hp
      exact ⟨⟨by decide, by decide⟩, ⟨by decide, by decide⟩, OwnS.nil w1 lo (lo + 1) (by omega)⟩
    · cases hj
  · rw [List.getElem?_replicate] at hp
    split at hp
    · injection hp with hp
      subst hp
      cases ha
    · cases hp
/-- a whole mark is written; its words lie behind the row -/
theorem OwnMp.store {w : World} {lo hi hi2 n c g k : Nat} {ms : List M} {ps : List SlV} {m m' : M} {p q : SlV} (h : OwnMp w lo hi (some ⟨g, 0, none⟩) n c ms ps) (hm : ms[k]? = some m) (hp : ps[k]? = some p) (h1 : I64 m'.at_) (h2 : I64 m'.cut) (hq : OwnS w hi hi2 q.a q.n q.c m'.put) (hlo : lo ≤ hi) :
    OwnMp (((w.setCell ⟨g, k * 3, none⟩ (.int .i64 m'.at_)).setCell ⟨g, k * 3 + 1, none⟩ (.int .i64 m'.cut)).setCell ⟨g, k * 3 + 2, none⟩ (.slice q.a q.n q.c)) lo w.heap.size (some ⟨g, 0, none⟩) n c (ms.set k m') (ps.set k q) := by
  obtain ⟨cs, hb⟩ := ownsRow_blk h.2.2.1
  have hkl : k < ms.length := (List.getElem?_eq_some_iff.1 hm).1
  have s1 := h.setAt hm h1
  have s2 := s1.setCut (k := k) (m := ⟨m'.at_, m.cut, m.put⟩) (x := m'.cut) (by rw [List.getElem?_set, if_pos rfl, if_pos hkl]) h2
  have q2 := (hq.set_far g (k * 3) (hq.ne_blk hb (by decide)) (.int .i64 m'.at_)).set_far g (k * 3 + 1) (hq.ne_blk hb (by decide)) (.int .i64 m'.cut)
  have hsz : ((w.setCell ⟨g, k * 3, none⟩ (.int .i64 m'.at_)).setCell ⟨g, k * 3 + 1, none⟩ (.int .i64 m'.cut)).heap.size = w.heap.size := by simp [World.setCell]
  have s3 := s2.putNew (k := k) (m := ⟨m'.at_, m'.cut, m.put⟩) (p := p) (q := q) (ys := m'.put) (by rw [List.getElem?_set, if_pos rfl, if_pos (by rw [List.length_set]; exact hkl)]) hp (World.grownBy.refl _ _)
    (q2.wide hlo q2.2.2.1 (Nat.le_refl _)) (fun b hb => .inr (hq.lo_le b hb).1)
  rw [hsz, List.set_set, List.set_set] at s3
  exact s3
end Go.Proofs.YtjhlcgjhdiheaaaDoor

