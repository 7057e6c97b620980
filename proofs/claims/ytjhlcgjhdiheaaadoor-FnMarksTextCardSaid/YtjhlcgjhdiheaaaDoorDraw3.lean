/- Marks that are drawn: words for memory. -/
import Derived.Test.YtjhlcgjhdiheaaaDoorDraw2
namespace Go.Proofs.YtjhlcgjhdiheaaaDoor
open Go.RowKit
set_option linter.unusedVariables false
set_option linter.unusedSimpArgs false

/-- a list of marks that reads, with what a slice has -/
def MrkIn (w : World) (A : Option Addr) (n c : Nat) (ms : List M) : Prop := Mrks w A n ms ∧ n ≤ c ∧ c ≤ 9223372036854775807 ∧ (A = none → c = 0)
theorem MrkIn.below {w w' : World} {A : Option Addr} {n c : Nat} {ms : List M} (h : MrkIn w A n c ms) (hb : Below w.heap.size w w') : MrkIn w' A n c ms := ⟨h.1.below hb, h.2⟩
theorem OwnM.cap0 {w : World} {lo hi n c : Nat} {A : Option Addr} {ms : List M} (h : OwnM w lo hi A n c ms) : A = none → c = 0 := by
  rintro rfl
  rcases h.root with ⟨_, e⟩ | ⟨g, e⟩
  · exact e
  · cases e
theorem OwnM.mrkIn {w : World} {lo hi n c : Nat} {A : Option Addr} {ms : List M} (h : OwnM w lo hi A n c ms) : MrkIn w A n c ms := ⟨h.ints, h.cap_le, h.cap_max, h.cap0⟩
theorem mrks_row {w : World} {lo n c : Nat} {A : Option Addr} {ms : List M} {ps : List SlV} (hr : w.ownsRow lo 46 3 (.slice A n c) n (flat ms ps)) (p1 : ps.length = n) (p2 : ms.length = n)
    (hp : ∀ (j : Nat) (m : M) (p : SlV), ms[j]? = some m → ps[j]? = some p → I64 m.at_ ∧ I64 m.cut ∧ PutIn w p.a p.n p.c m.put) : Mrks w A n ms := by
  refine ⟨p2, fun hn => ?_⟩
  obtain ⟨g, rfl⟩ : ∃ g, A = some ⟨g, 0, none⟩ := by
    rcases hr.2 with ⟨_, h0⟩ | ⟨g, cap, cur, hv, _⟩
    · omega
    · injection hv with hv; exact ⟨g, hv⟩
  refine ⟨g, 0, rfl, (hr.lt g rfl).2, fun j m hm => ?_⟩
  have hk : j < n := by have := (List.getElem?_eq_some_iff.1 hm).1; omega
  have l2 : j < ps.length := by omega
  have e2 := List.getElem?_eq_getElem l2
  obtain ⟨f1, f2, f3⟩ := flat_get ms ps j _ _ hm e2
  obtain ⟨i1, i2, i3⟩ := hp j _ _ hm e2
  rw [Nat.zero_add]
  refine ⟨i1, i2, ?_, ?_, ps[j].a, ps[j].n, ps[j].c, ?_, i3⟩
  · rw [hr.cellAt _ (by omega)]; exact f1
  · rw [hr.cellAt _ (by omega)]; exact f2
  · rw [hr.cellAt _ (by omega)]; exact f3
/-- a list of marks that reads does not lie where the reader lies -/
theorem Mrks.rd {w w' : World} {R n : Nat} {K : Int} {A : Option Addr} {ms : List M} (h : Mrks w A n ms) (hr : RdB w R K) (hg : w.grownBy w' (some R)) : Mrks w' A n ms := by
  refine ⟨h.1, fun hn => ?_⟩
  obtain ⟨b, off, e, hl, hc⟩ := h.2 hn
  have hr' := hr
  obtain ⟨p, ⟨_, B, q, d, hb, _⟩, _⟩ := hr'
  have hne : b ≠ R := by
    rintro rfl
    have h0 : 0 < ms.length := by have := h.1; omega
    obtain ⟨_, _, c1, c2, _⟩ := hc 0 _ (List.getElem?_eq_getElem h0)
    rw [hb.cell] at c1 c2
    rw [Nat.zero_mul, Nat.add_zero] at c1 c2
    match off, c1, c2 with
    | 0, c1, _ => simp at c1
    | 1, _, c2 => simp at c2
    | k + 2, c1, _ => simp at c1
  have keep : ∀ i v, w.cell? ⟨b, i, none⟩ = some v → w'.cell? ⟨b, i, none⟩ = some v := fun i v hv => (World.cell?_of_block (hg.block b hl (fun e => by injection e with e; exact hne e))).trans hv
  refine ⟨b, off, e, Nat.lt_of_lt_of_le hl hg.size, fun j m hm => ?_⟩
  obtain ⟨i1, i2, c1, c2, A', n', c', c3, hp⟩ := hc j m hm
  exact ⟨i1, i2, keep _ _ c1, keep _ _ c2, A', n', c', keep _ _ c3, hp.1.rd hr hg, hp.2⟩
theorem PutIn.rd {w w' : World} {R n c : Nat} {K : Int} {A : Option Addr} {xs : List ByteArray} (h : PutIn w A n c xs) (hr : RdB w R K) (hg : w.grownBy w' (some R)) : PutIn w' A n c xs := ⟨h.1.rd hr hg, h.2⟩
theorem MrkIn.rd {w w' : World} {R n c : Nat} {K : Int} {A : Option Addr} {ms : List M} (h : MrkIn w A n c ms) (hr : RdB w R K) (hg : w.grownBy w' (some R)) : MrkIn w' A n c ms := ⟨h.1.rd hr hg, h.2⟩
theorem MrkIn.take {w : World} {A : Option Addr} {n c k : Nat} {ms : List M} (h : MrkIn w A n c ms) (hk : k ≤ n) : MrkIn w A k c (ms.take k) := ⟨h.1.take hk, by have := h.2.1; omega, h.2.2⟩

/-- marks that are drawn, in the world; hi: where they end -/
def DrawnM (w : World) (R : Nat) (K : Int) (n : Nat) (A : Option Addr) (c hi : Nat) (wr : World) : Prop :=
  ∃ ms, OwnM wr w.heap.size hi A n c ms ∧ RdB wr R K ∧ w.grownBy wr (some R) ∧ w.heap.size ≤ hi
section
variable {w wr w1 : World} {R n c hi : Nat} {K K' : Int} {A : Option Addr}
theorem DrawnM.pick (h : DrawnM w R K n A c hi wr) (hR : R < w.heap.size) (hr : RdB w1 R K') (hg : wr.grownBy w1 (some R)) : DrawnM w R K' n A c hi w1 := by
  obtain ⟨ms, ho, _, hg0, hh⟩ := h
  exact ⟨ms, ho.far hg (fun g e => by injection e with e; omega), hr, only_again hg0 hg, hh⟩
theorem DrawnM.alloc (h : DrawnM w R K n A c hi wr) (o : Obj) : DrawnM w R K n A c hi (wr.alloc o) := by
  obtain ⟨ms, ho, hr, hg0, hh⟩ := h
  exact ⟨ms, ho.alloc o, hr.alloc o, only_alloc hg0 o, hh⟩
theorem DrawnM.mono (h : DrawnM w R K n A c hi wr) (hk : K ≤ K') : DrawnM w R K' n A c hi wr := by
  obtain ⟨ms, ho, hr, hg0, hh⟩ := h
  exact ⟨ms, ho, hr.mono hk, hg0, hh⟩
theorem DrawnM.rd (h : DrawnM w R K n A c hi wr) : RdB wr R K := by obtain ⟨ms, ho, hr, hg0, hh⟩ := h; exact hr
theorem DrawnM.size (h : DrawnM w R K n A c hi wr) : w.heap.size ≤ wr.heap.size := by obtain ⟨ms, ho, hr, hg0, hh⟩ := h; exact hg0.size
theorem DrawnM.top (h : DrawnM w R K n A c hi wr) : hi ≤ wr.heap.size := by obtain ⟨ms, ho, hr, hg0, hh⟩ := h; exact ho.top
theorem DrawnM.lo (h : DrawnM w R K n A c hi wr) : w.heap.size ≤ hi := by obtain ⟨ms, ho, hr, hg0, hh⟩ := h; exact hh
theorem DrawnM.drew (h : DrawnM w R K n A c hi wr) : DrawnM w R K n A c hi wr.drew := by
  obtain ⟨ms, ho, hr, hg0, hh⟩ := h
  exact ⟨ms, ho, hr, only_drewN hg0 1, hh⟩
/-- a store to a block behind -/
theorem DrawnM.store (h : DrawnM w R K n A c hi wr) (hR : R < w.heap.size) (g k : Nat) (u : Value) (hg : hi ≤ g) : DrawnM w R K n A c hi (wr.setCell ⟨g, k, none⟩ u) := by
  obtain ⟨ms, ho, hr, hg0, hh⟩ := h
  have hs := grown_setCell wr g k u
  exact ⟨ms, ho.far hs (fun g' e => by injection e with e; omega), hr.grown hs (fun g' e => by injection e with e; omega), only_then hg0 hs (fun g' e => by injection e with e; exact .inr (by omega)), hh⟩
end
theorem drawnM_start {w : World} {R : Nat} {K : Int} (h : RdB w R K) : DrawnM w R K 0 (some ⟨w.heap.size, 0, none⟩) 0 (w.heap.size + 1) (w.alloc (.cells #[] 46)) :=
  ⟨[], own_emptyM w w.heap.size (Nat.le_refl _), h.alloc _, World.grownBy_alloc _ _ _, by omega⟩
/-- a mark is pushed onto drawn ones -/
theorem drawnM_push {ops : Array Oper} {rest : List Oper} {o : Oper} {a : Act} {Q : Exit → Act → World → Prop} (w wr : World) (hgd : o.guard = none) (s x : Operand)
    (ho : o.op = .call { callee := .builtin .append, args := #[s, x], argTypes := #[24, 24] })
    (R n c hi : Nat) (K : Int) (A : Option Addr) (hs : a.eval s = .slice A n c) (hd : DrawnM w R K n A c hi wr) (hR : R < w.heap.size)
    (m : M) (p : SlV) (hi2 b : Nat) (hx : a.eval x = .slice (some ⟨b, 0, none⟩) 1 1) (h1 : I64 m.at_) (h2 : I64 m.cut) (hp : OwnS wr hi hi2 p.a p.n p.c m.put)
    (c0 : wr.cell? ⟨b, 0, none⟩ = some (.int .i64 m.at_)) (c1 : wr.cell? ⟨b, 1, none⟩ = some (.int .i64 m.cut)) (c2 : wr.cell? ⟨b, 2, none⟩ = some (.slice p.a p.n p.c)) (hn : n ≤ 1000)
    (h : ∀ A' c' w', DrawnM w R K (n + 1) A' c' w'.heap.size w' → wr.grownBy w' (A.map (·.block)) → (∀ g, A.map (·.block) = some g → g < hi) → wpList Tryd.prog ops Q rest (a.put o.dst (.slice A' (n + 1) c')) w') :
    wpList Tryd.prog ops Q (o :: rest) a wr := by
  obtain ⟨ms, hown, hr, hg0, hh⟩ := hd
  refine wpList_pushM wr hgd s x ho w.heap.size hi A n c ms hs hown m p hi2 b hx h1 h2 hp c0 c1 c2 (by omega) hh ?_
  intro A' c' w' ho' hg'
  have hlo : ∀ g, A.map (·.block) = some g → w.heap.size ≤ g := by
    intro g e
    cases A with
    | none => cases e
    | some a =>
      have e : a.block = g := by injection e
      have := hown.lo_le a rfl
      omega
  exact h A' c' w' ⟨ms ++ [m], ho', hr.grown hg' (fun g e => by have := hlo g e; omega), only_then hg0 hg' (fun g e => .inr (hlo g e)), Nat.le_trans hg0.size hg'.size⟩ hg' (fun g e => by
    cases A with
    | none => cases e
    | some a =>
      have e : a.block = g := by injection e
      have := (hown.lo_le a rfl).2
      omega)
def SomePost (w : World) (R : Nat) (K : Int) (m : Nat) (e : Ending) (w' : World) : Prop := ∃ A n c ms, e = .returned (.slice A n c) ∧ n ≤ m ∧ MrkIn w' A n c ms ∧ RdB w' R K ∧ w.grownBy w' (some R)
theorem DrawnM.post {w wr : World} {R n c hi m : Nat} {K K' : Int} {A : Option Addr} (h : DrawnM w R K n A c hi wr) (hn : n ≤ m) (hk : K ≤ K') : SomePost w R K' m (.returned (.slice A n c)) wr := by
  obtain ⟨ms, ho, hr, hg, _⟩ := h
  exact ⟨A, n, c, ms, rfl, hn, ho.mrkIn, hr.mono hk, hg⟩
/-- the first mark once more: two marks share their words -/
theorem drawnM_dup {ops : Array Oper} {rest : List Oper} {o : Oper} {a : Act} {Q : Exit → Act → World → Prop} (w wr : World) (hgd : o.guard = none) (s x : Operand)
    (ho : o.op = .call { callee := .builtin .append, args := #[s, x], argTypes := #[24, 24] })
    (R n c hi : Nat) (K : Int) (A : Option Addr) (hs : a.eval s = .slice A n c) (ms : List M) (ps : List SlV) (hown : OwnMp wr w.heap.size hi A n c ms ps) (hr : RdB wr R K) (hg0 : w.grownBy wr (some R)) (hR : R < w.heap.size) (hh : w.heap.size ≤ hi)
    (m : M) (p : SlV) (hm : ms[0]? = some m) (hp : ps[0]? = some p) (b : Nat) (hx : a.eval x = .slice (some ⟨b, 0, none⟩) 1 1)
    (c0 : wr.cell? ⟨b, 0, none⟩ = some (.int .i64 m.at_)) (c1 : wr.cell? ⟨b, 1, none⟩ = some (.int .i64 m.cut)) (c2 : wr.cell? ⟨b, 2, none⟩ = some (.slice p.a p.n p.c)) (hn : n ≤ 1000)
    (h : ∀ A' c' w', SomePost w R K (n + 1) (.returned (.slice A' (n + 1) c')) w' → wpList Tryd.prog ops Q rest (a.put o.dst (.slice A' (n + 1) c')) w') :
    wpList Tryd.prog ops Q (o :: rest) a wr := by
  obtain ⟨i0, hi0, hz0, hz1, hz2⟩ := info_parts Tryd.infoMark
  have ht := hown.2.2.2.2.2.1
  have hl := hown.own.lo_le
  refine wpList_append_own wr hgd s x 24 ho w.heap.size 46 i0 _ 3 40 Tryd.underlying24 hi0 hz0 hz1 hz2 rfl (by omega) (.slice A n c) n (flat ms ps) hs hown.2.2.1
    ⟨b, 0, none⟩ 1 1 [.int .i64 m.at_, .int .i64 m.cut, .slice p.a p.n p.c] hx rfl ?_ (by simp [Value.oneCell']) (by unfold maxLen; omega) (by omega) (by omega) ?_
  · intro j u hu
    match j, hu with
    | 0, hu => simp at hu; subst hu; rw [add_none]; exact c0
    | 1, hu => simp at hu; subst hu; rw [add_none]; exact c1
    | 2, hu => simp at hu; subst hu; rw [add_none]; exact c2
    | j + 3, hu => simp at hu
  · intro v' w' hown' hg _
    obtain ⟨A', c', rfl⟩ : ∃ A' c', v' = .slice A' (n + 1) c' := by
      rcases hown'.2 with ⟨_, e⟩ | ⟨g, cap, cur, rfl, _⟩
      · omega
      · exact ⟨_, _, rfl⟩
    have hrow := hown.2.2.1
    have p1 := hown.1
    have p2 := hown.2.1
    have hg' := hg
    rw [ownBlock_slice] at hg'
    rw [← flat_snoc _ _ _ _ (by rw [p1, p2])] at hown'
    have hput : ∀ (j : Nat) (m : M) (p : SlV), ms[j]? = some m → ps[j]? = some p → I64 m.at_ ∧ I64 m.cut ∧ PutIn w' p.a p.n p.c m.put := fun j m p hm hp => by
      obtain ⟨i1, i2, i3⟩ := hown.2.2.2.1 j m p hm hp
      exact ⟨i1, i2, (i3.keepRow hrow hg').putIn⟩
    have hM : Mrks w' A' (n + 1) (ms ++ [m]) := mrks_row hown' (by simp [p1]) (by simp [p2]) (fun j m' q hm' hq => by
      rw [List.getElem?_append] at hm' hq
      rw [p1] at hq
      rw [p2] at hm'
      split at hm'
      · rename_i hj
        rw [if_pos hj] at hq
        exact hput j m' q hm' hq
      · rename_i hj
        rw [if_neg hj] at hq
        rw [List.getElem?_singleton] at hm' hq
        split at hm'
        · rename_i e
          rw [if_pos e] at hq
          injection hm' with hm'
          injection hq with hq
          subst hm' hq
          exact hput 0 m p hm hp
        · cases hm')
    have hin : MrkIn w' A' (n + 1) c' (ms ++ [m]) := by
      refine ⟨hM, ?_⟩
      rcases hown'.2 with ⟨e, h0⟩ | ⟨g, cap, cur, hv, _, _, hc, hm', _⟩
      · omega
      · injection hv with e1 _ e3
        subst e1 e3
        refine ⟨by omega, by unfold maxLen at hm'; omega, fun e => by cases e⟩
    have hlo : ∀ g, A.map (·.block) = some g → w.heap.size ≤ g := by
      intro g e
      cases A with
      | none => cases e
      | some a =>
        have e : a.block = g := by injection e
        have := hl a rfl
        omega
    exact h A' c' w' ⟨A', n + 1, c', ms ++ [m], rfl, Nat.le_refl _, hin, hr.grown hg' (fun g e => by have := hlo g e; omega), only_then hg0 hg' (fun g e => .inr (hlo g e))⟩
theorem OwnMp.alloc {w : World} {lo hi n c : Nat} {A : Option Addr} {ms : List M} {ps : List SlV} (h : OwnMp w lo hi A n c ms ps) (o : Obj) : OwnMp (w.alloc o) lo hi A n c ms ps := by
  obtain ⟨p1, p2, h1, h2, h3, h4, h5⟩ := h
  refine ⟨p1, p2, ?_, fun j m p hm hp => ?_, h3, by simp; omega, h5⟩
  · refine h1.kept (World.grownBy_alloc w o none) ?_
    cases A with
    | none => exact .inl rfl
    | some a => exact .inr fun e => by cases e
  · obtain ⟨i1, i2, i3⟩ := h2 j m p hm hp
    exact ⟨i1, i2, i3.alloc o⟩
theorem new_cell (w : World) (t : TypeId) (cs : Array Value) {g : Nat} (hg : w.heap.size = g) (i : Nat) : (w.alloc (.cells cs t)).cell? ⟨g, i, none⟩ = cs[i]? := by
  subst hg; exact (Blk.new w t cs).cell i
/-- a row of one word -/
theorem own_one (w : World) (lo : Nat) (hlo : lo ≤ w.heap.size) (y : ByteArray) (hy : Sz y) : OwnS (w.alloc (.cells #[.string y] 9)) lo (w.heap.size + 1) (some ⟨w.heap.size, 0, none⟩) 1 1 [y] :=
  ⟨⟨rfl, .inr ⟨w.heap.size, 1, #[.string y], rfl, hlo, heap_alloc_new w _, Nat.le_refl _, by unfold maxLen; omega, rfl, rfl⟩⟩, fun x hx => by rw [List.mem_singleton.1 hx]; exact hy, by simp, fun a ha => by injection ha with ha; subst ha; exact Nat.lt_succ_self _⟩
end Go.Proofs.YtjhlcgjhdiheaaaDoor

