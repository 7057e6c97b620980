/- The maps of a system: letters with their strokes, strokes with their letters. -/
import Derived.Test.YtjhalbmmlcbehaaSo
import Derived.Maps.OwnSet
import Derived.DeepKeys4
namespace Go.Proofs.Ytjhalbmmlcbehaa
open Go.RowKit Wr Go.Maps
set_option linter.unusedVariables false
set_option linter.unusedSimpArgs false

theorem laidAll : laidOutB Try.prog = true := by kernel_rfl
theorem lawB5 : Keyed Try.prog 5 := int_keyed Try.underlying5
theorem wide75 : (match Try.prog.underlying 75 with | some (.array _ _) | some (.struct _) => true | _ => false) = true := by kernel_rfl
theorem row75 : (75 : TypeId) < Try.prog.types.size := of_decide_eq_true (by kernel_rfl)
theorem keyAt75 : Try.prog.keyTypeAt 3 75 = true := by kernel_rfl
set_option maxRecDepth 100000 in
theorem lawK75 : Keyed Try.prog 75 := Keyed.of_law (deep_law_laid laidAll (m := 3) (by omega) row75 keyAt75 wide75)
theorem cells75 : Try.prog.cellsOf 75 = 2 := by kernel_rfl
theorem cells3 : Try.prog.cellsOf 3 = 1 := by kernel_rfl
theorem keyT75 : Try.prog.keyType 75 = true := by kernel_rfl
/-- a letter as a key -/
def kB (c : UInt8) : Lit := .int .u8 ((c.toNat : Nat) : Int)
theorem kB_of (c : UInt8) : keyOf Try.prog 5 (bV c) = some (kB c) := keyOf_int_mk Try.underlying5 (by
  have := c.toNat_lt
  exact WalkArith.wf_u8 ⟨by omega, by omega⟩)
theorem kB_inj {a b : UInt8} (h : kB a = kB b) : a = b := by
  have h1 := lawB5.inj (kB_of a) (h ▸ kB_of b)
  injection h1 with _ h2
  exact UInt8.toNat_inj.1 (by omega)
theorem I64.wf {x : Int} (h : I64 x) : (Lit.int .i64 x).wf = true := WalkArith.wf_i64 ⟨h.1, h.2⟩
/-- a stroke as a key -/
theorem kS_of (s : Stk) (h : OkK s) : ∃ l, keyOf Try.prog 75 (kv s) = some l := by
  have e : ∀ P : Program, ∀ k, (match P.underlying k with | some (.array _ _) | some (.struct _) => true | _ => false) = true → P.keyType k = true → (kv s).formed P k = true → ∀ ls, P.keyLits (P.types.size + 1) k (kv s).cells.toList = some ls → ∃ l, keyOf P k (kv s) = some l := by
    intro P k h1 h2 h3 ls h4
    unfold keyOf
    split at h1
    · rename_i hu; rw [hu]; simp [h2, h3, h4]
    · rename_i hu; rw [hu]; simp [h2, h3, h4]
    · cases h1
  refine e _ _ wide75 keyT75 ?_ [.int .i64 s.dir, .int .i64 s.size] ?_
  · simp [Value.formed, Try.underlying75, cells75]
  · have w1 := h.1.wf
    have w2 := h.2.wf
    obtain ⟨m, hm⟩ : ∃ m, Try.prog.types.size + 1 = m + 1 + 1 := ⟨149, by kernel_rfl⟩
    rw [hm]
    simp [Program.keyLits, Try.underlying75, Try.underlying3, Value.cells, cells75, cells3, w1, w2]

def encD (s : Stk) : DataW Unit := .agg [.lit (.int .i64 s.dir), .lit (.int .i64 s.size)]
/-- how a stroke reads -/
def stkE : Value → Option (DataW Unit × List MemPlace)
  | .agg cs => match cs.toList with | [.int .i64 a, .int .i64 b] => some (encD ⟨a, b⟩, []) | _ => none
  | _ => none
theorem stkE_mk (s : Stk) : stkE (kv s) = some (encD s, []) := rfl
theorem stkE_inv {v : Value} {s : Stk} {ps : List MemPlace} (h : stkE v = some (encD s, ps)) : v = kv s := by
  unfold stkE at h
  split at h
  · rename_i cs
    split at h
    · rename_i a b hc
      injection h with h
      injection h with h _
      unfold encD at h
      injection h with h
      injection h with h1 h2
      injection h1 with h1
      injection h1 with _ h1
      injection h2 with h2 _
      injection h2 with h2
      injection h2 with _ h2
      subst h1 h2
      have : cs = #[.int .i64 s.dir, .int .i64 s.size] := Array.toList_inj.1 hc
      rw [this]
    · cases h
  · cases h
/-- block B is the map of the letters of l -/
def LetM (w : World) (B n : Nat) (l : List Sgn) : Prop := ∃ D, w.ownsMap Try.prog 5 stkE B n D ∧ ∀ (c : UInt8) (z : DataW Unit), D.atKey (kB c) z = match findS l c with | some s => encD s | none => z
/-- block B is the map of the strokes of l -/
def StkM (w : World) (B n : Nat) (l : List Sgn) : Prop := ∃ D, w.ownsMap (H := Unit) Try.prog 75 (plainElem Try.prog 5) B n D ∧ ∀ (s : Stk) (k : Lit), keyOf Try.prog 75 (kv s) = some k → Maps.has D k = l.any fun x => decide (x.stk = s)
theorem zero75 (w : World) : (zeroValue 75).run Try.prog w = .ok (kv ⟨0, 0⟩) w := by kernel_rfl
theorem zero5 (w : World) : (zeroValue 5).run Try.prog w = .ok (.int .u8 0) w := by kernel_rfl
theorem letM_made (w : World) : LetM (w.alloc (.map #[] 0)) w.heap.size 0 [] := ⟨_, World.ownsMap_made w Try.prog 5 stkE, fun c z => rfl⟩
theorem stkM_made (w : World) : StkM (w.alloc (.map #[] 0)) w.heap.size 0 [] := ⟨_, World.ownsMap_made w Try.prog 75 _, fun s k _ => rfl⟩
theorem LetM.kept {w w' : World} {B n : Nat} {l : List Sgn} {row : Option Nat} (h : LetM w B n l) (hg : w.grownBy w' row) (hne : some B ≠ row) : LetM w' B n l := by
  obtain ⟨D, h1, h2⟩ := h
  exact ⟨D, h1.kept hg hne, h2⟩
theorem LetM.below {w w' : World} {B n : Nat} {l : List Sgn} (h : LetM w B n l) (hb : Below w.heap.size w w') : LetM w' B n l := h.kept (only_of_below hb none) (by simp)
theorem LetM.lt {w : World} {B n : Nat} {l : List Sgn} (h : LetM w B n l) : B < w.heap.size := by obtain ⟨D, h1, _⟩ := h; exact h1.lt
theorem StkM.kept {w w' : World} {B n : Nat} {l : List Sgn} {row : Option Nat} (h : StkM w B n l) (hg : w.grownBy w' row) (hne : some B ≠ row) : StkM w' B n l := by
  obtain ⟨D, h1, h2⟩ := h
  exact ⟨D, h1.kept hg hne, h2⟩
theorem StkM.below {w w' : World} {B n : Nat} {l : List Sgn} (h : StkM w B n l) (hb : Below w.heap.size w w') : StkM w' B n l := h.kept (only_of_below hb none) (by simp)
theorem StkM.lt {w : World} {B n : Nat} {l : List Sgn} (h : StkM w B n l) : B < w.heap.size := by obtain ⟨D, h1, _⟩ := h; exact h1.lt
/-- 'stroke, ok := signs[c]' -/
theorem LetM.look {w : World} {B n : Nat} {l : List Sgn} (h : LetM w B n l) (c : UInt8) : (Instr.lookup 77 (.map (some B)) (bV c) true).run Try.prog w = .ok (.tuple #[stkV (findS l c), .bool (findS l c).isSome]) w := by
  obtain ⟨D, h1, h2⟩ := h
  obtain ⟨v, ps, hr, hv⟩ := h1.look_ok (t := 77) lawB5 Try.underlying77 (zero75 w) (stkE_mk ⟨0, 0⟩) (kB_of c)
  rw [hr]
  rw [h2 c] at hv
  cases hf : findS l c with
  | none =>
    rw [hf] at hv
    have e1 := stkE_inv hv
    have e2 : Maps.has D (kB c) = false := Maps.has_false_of_atKey (fun z => by rw [h2 c, hf])
    rw [e1, e2]; rfl
  | some s =>
    rw [hf] at hv
    have e1 := stkE_inv hv
    have e2 : Maps.has D (kB c) = true := Maps.has_true_of_atKey (y := encD s) (fun z => by rw [h2 c, hf])
    rw [e1, e2]; rfl
/-- '_, ok := letters[s]' -/
theorem StkM.look {w : World} {B n : Nat} {l : List Sgn} (h : StkM w B n l) (s : Stk) (hs : OkK s) : ∃ x : Int, (Instr.lookup 103 (.map (some B)) (kv s) true).run Try.prog w = .ok (.tuple #[.int .u8 x, .bool (l.any fun x => decide (x.stk = s))]) w := by
  obtain ⟨D, h1, h2⟩ := h
  obtain ⟨k, hk⟩ := kS_of s hs
  obtain ⟨v, ps, hr, hv⟩ := h1.look_ok (t := 103) lawK75 Try.underlying103 (zero5 w) (plainElem_int Try.underlying5 (WalkArith.wf_u8 ⟨by omega, by omega⟩)) hk
  obtain ⟨c, rfl, _, _⟩ := plainElem_int_inv Try.underlying5 hv
  exact ⟨c, by rw [hr, h2 s k hk]⟩
theorem findS_snoc (l : List Sgn) (x : Sgn) (c d : UInt8) (hx : x.letter = bS [d]) (hn : findS l d = none) : findS (l ++ [x]) c = if c = d then some x.stk else findS l c := by
  rw [findS_eq, List.find?_append]
  by_cases h : c = d
  · subst h
    have : l.find? (isL c) = none := by
      rw [findS_eq] at hn
      cases hq : l.find? (isL c) with
      | none => rfl
      | some y => rw [hq] at hn; cases hn
    rw [this, if_pos rfl, List.find?_cons, show isL c x = true from decide_eq_true hx]
    rfl
  · have e : isL c x = false := decide_eq_false fun e => h (by
      have := hx.symm.trans e
      have := congrArg (fun b : ByteArray => b.data.toList) this
      simp at this
      exact this.symm)
    rw [if_neg h, List.find?_cons, e, List.find?_nil, Option.or_none]
    rfl
/-- 'signs[c] = stroke' of a letter that is not there -/
theorem wpList_letM (w : World) {ops : Array Oper} {rest : List Oper} {o : Oper} {a : Act} {Q : Exit → Act → World → Prop}
    (hg : o.guard = none) (m x v : Operand) (hop : o.op = Op.mapUpdate 77 m x v) (B n : Nat) (l : List Sgn) (s : Sgn) (c : UInt8)
    (hm : a.eval m = .map (some B)) (hown : LetM w B n l) (hn : n < 100) (hx : a.eval x = bV c) (hv : a.eval v = kv s.stk) (hs : s.letter = bS [c]) (hf : findS l c = none)
    (hK : ∀ w', LetM w' B (n + 1) (l ++ [s]) → w.grownBy w' (some B) → wpList Try.prog ops Q rest (a.put o.dst undef) w') :
    wpList Try.prog ops Q (o :: rest) a w := by
  obtain ⟨D, h1, h2⟩ := hown
  refine wpList_mapUpdate_own w hg m x v 77 hop 5 75 lawB5 Try.underlying77 stkE B n D hm h1 (by unfold maxLen; omega) _ _ (kB c) hx hv (kB_of c) (encD s.stk) [] (stkE_mk s.stk) ?_
  intro w' ho hgr
  refine hK w' ⟨_, ho, fun d z => ?_⟩ hgr
  rw [findS_snoc l s d c hs hf]
  by_cases e : d = c
  · subst e
    rw [if_pos rfl, Maps.atKey_put_same h1.isMap (lawB5.key (kB_of d))]
  · rw [if_neg e, Maps.atKey_put_other (fun e2 => e (kB_inj e2)), h2]
/-- 'letters[s] = c' -/
theorem wpList_stkM (w : World) {ops : Array Oper} {rest : List Oper} {o : Oper} {a : Act} {Q : Exit → Act → World → Prop}
    (hg : o.guard = none) (m x v : Operand) (hop : o.op = Op.mapUpdate 103 m x v) (B n : Nat) (l : List Sgn) (s : Sgn) (c : UInt8)
    (hm : a.eval m = .map (some B)) (hown : StkM w B n l) (hn : n < 100) (hx : a.eval x = kv s.stk) (hv : a.eval v = bV c) (hs : OkK s.stk)
    (hK : ∀ w', StkM w' B (n + 1) (l ++ [s]) → w.grownBy w' (some B) → wpList Try.prog ops Q rest (a.put o.dst undef) w') :
    wpList Try.prog ops Q (o :: rest) a w := by
  obtain ⟨D, h1, h2⟩ := hown
  obtain ⟨k, hk⟩ := kS_of s.stk hs
  have hw : (Lit.int .u8 ((c.toNat : Nat) : Int)).wf = true := by
    have := c.toNat_lt
    exact WalkArith.wf_u8 ⟨by omega, by omega⟩
  refine wpList_mapUpdate_own w hg m x v 103 hop 75 5 lawK75 Try.underlying103 (plainElem Try.prog 5) B n D hm h1 (by unfold maxLen; omega) _ _ k hx hv hk _ [] (plainElem_int Try.underlying5 hw) ?_
  intro w' ho hgr
  refine hK w' ⟨_, ho, fun t q hq => ?_⟩ hgr
  rw [List.any_append, List.any_cons, List.any_nil, Bool.or_false]
  by_cases e : q = k
  · subst e
    have e2 : s.stk = t := by
      have := lawK75.inj hk hq
      have h3 := congrArg Array.toList (Value.agg.inj this)
      simp only [List.cons.injEq, Value.int.injEq, true_and, and_true] at h3
      obtain ⟨h4, h5⟩ := h3
      exact stk_of h4 h5
    rw [Maps.has_put_same h1.isMap (lawK75.key hk), decide_eq_true e2, Bool.or_true]
  · have e2 : ¬ s.stk = t := fun e2 => e (by rw [e2] at hk; exact Option.some.inj (hq.symm.trans hk))
    rw [Maps.has_put_other e, h2 t q hq, decide_eq_false e2, Bool.or_false]
theorem run_makeMap_hint {P : Program} (t : TypeId) (k e : TypeId) (hu : P.underlying t = some (.map k e)) (n : Nat) (w : World) : (Instr.makeMap t (some (.int .i64 (n : Int)))).run P w = .ok (.map (some w.heap.size)) (w.alloc (.map #[] 0)) := by
  simp [Instr.makeMap, run_underlying hu, asInt, asIntOf, Result.andThen, Sem.run_bind]
end Go.Proofs.Ytjhalbmmlcbehaa
