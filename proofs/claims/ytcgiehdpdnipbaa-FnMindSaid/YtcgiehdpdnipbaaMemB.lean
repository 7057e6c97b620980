/- Words for memory, second part: blocks that are known whole, changes of one block, an int pushed onto a row of the call's own. -/
import Derived.Test.YtcgiehdpdnipbaaBase2
import Derived.Laws.Rows
import Derived.Deep.LoopGhost
namespace Go.Proofs.Ytcgiehdpdnipbaa
open Go.RowKit

/-- block g is just the cells cs of type t, none frozen -/
def Blk (w : World) (g : Nat) (t : TypeId) (cs : Array Value) : Prop := w.heap[g]? = some (.cells cs t (0, 0))
section
variable {w w' : World} {g : Nat} {t : TypeId} {cs : Array Value}
theorem Blk.lt (h : Blk w g t cs) : g < w.heap.size := by
  rcases Nat.lt_or_ge g w.heap.size with hlt | hge
  · exact hlt
  · unfold Blk at h; rw [Array.getElem?_eq_none hge] at h; cases h
theorem Blk.cell (h : Blk w g t cs) (i : Nat) : w.cell? ⟨g, i, none⟩ = cs[i]? := cell_of_row w g i cs t (0, 0) h
theorem Blk.free (h : Blk w g t cs) (i : Nat) : w.frozen? ⟨g, i, none⟩ = false := by
  unfold Blk at h
  simp [World.frozen?, h]
theorem Blk.new (w : World) (t : TypeId) (cs : Array Value) : Blk (w.alloc (.cells cs t)) w.heap.size t cs := heap_alloc_new w _
theorem Blk.alloc (h : Blk w g t cs) (o : Obj) : Blk (w.alloc o) g t cs := (Below.heap_alloc w o g h.lt).trans h
theorem Blk.put (h : Blk w g t cs) (i : Nat) (u : Value) : Blk (w.setCell ⟨g, i, none⟩ u) g t (cs.setIfInBounds i u) := by
  unfold Blk at h ⊢
  simp [World.setCell, Array.getElem?_modify, h]
theorem Blk.far (h : Blk w g t cs) {p : Addr} (hp : g ≠ p.block) (u : Value) : Blk (w.setCell p u) g t cs := (Below.heap_setCell w p u g hp).trans h
theorem Blk.below {B : Nat} (h : Blk w g t cs) (hb : Below B w w') (hg : g < B) : Blk w' g t cs := (hb.block g hg).trans h
theorem Blk.grown {row : Option Nat} (h : Blk w g t cs) (hb : w.grownBy w' row) (hg : some g ≠ row) : Blk w' g t cs := (hb.block g h.lt hg).trans h
theorem Blk.drewN (h : Blk w g t cs) (n : Nat) : Blk (w.drewN n) g t cs := h
end

theorem only_drewN {a w : World} {row : Option Nat} (h : a.grownBy w row) (n : Nat) : a.grownBy (w.drewN n) row := ⟨h.os, h.tape, h.output, h.size, h.block⟩
theorem only_then {a b c : World} {R : Option Nat} {row : Option Nat} (h : a.grownBy b R) (k : b.grownBy c row) (hr : ∀ g, row = some g → some g = R ∨ a.heap.size ≤ g) : a.grownBy c R :=
  ⟨k.os.trans h.os, k.tape.trans h.tape, k.output.trans h.output, Nat.le_trans h.size k.size, fun i hi hne => (k.block i (Nat.lt_of_lt_of_le hi h.size) (fun e => by
    rcases hr i e.symm with h1 | h1
    · exact hne h1
    · omega)).trans (h.block i hi hne)⟩
theorem only_alloc {a w : World} {row : Option Nat} (h : a.grownBy w row) (o : Obj) : a.grownBy (w.alloc o) row := only_then h (World.grownBy_alloc w o none) (fun _ e => by cases e)
theorem only_below {a b c : World} {R : Option Nat} (h : a.grownBy b R) (k : Below b.heap.size b c) : a.grownBy c R := only_then h (only_of_below k none) (fun _ e => by cases e)
theorem below_only {a b c : World} {R : Option Nat} (h : Below a.heap.size a b) (k : b.grownBy c R) (hR : ∀ g, R = some g → a.heap.size ≤ g) : Below a.heap.size a c :=
  (h.grown k h.size hR)

theorem Ints.grown {w w' : World} {A : Option Addr} {n : Nat} {xs : List Int} {row : Option Nat} (h : Ints w A n xs) (hg : w.grownBy w' row) (hr : ∀ a, A = some a → some a.block ≠ row) : Ints w' A n xs :=
  ⟨h.1, h.2.1, fun hn => by
    obtain ⟨b, off, e, hb, hc⟩ := h.2.2 hn
    have := hg.size
    exact ⟨b, off, e, by omega, fun j x hx => (World.cell?_of_block (hg.block b hb (hr _ e))).trans (hc j x hx)⟩⟩

theorem OwnI.lo_le {w : World} {lo hi n c : Nat} {A : Option Addr} {xs : List Int} (h : OwnI w lo hi A n c xs) : ∀ a, A = some a → lo ≤ a.block ∧ a.block < hi := fun a ha => by
  subst ha
  exact ⟨(h.1.lt a.block rfl).1, h.2.2.2 a rfl⟩
theorem OwnI.cap_le {w : World} {lo hi n c : Nat} {A : Option Addr} {xs : List Int} (h : OwnI w lo hi A n c xs) : n ≤ c := by
  rcases h.1.2 with ⟨e, h0⟩ | ⟨g, cap, cur, hv, _, _, hc, _⟩
  · omega
  · injection hv with _ _ e; omega
/-- an empty row in a block of its own -/
theorem own_empty (w : World) (lo : Nat) (hlo : lo ≤ w.heap.size) : OwnI (w.alloc (.cells #[] 3)) lo (w.heap.size + 1) (some ⟨w.heap.size, 0, none⟩) 0 0 [] :=
  ⟨⟨rfl, .inr ⟨w.heap.size, 0, #[], rfl, hlo, heap_alloc_new w _, Nat.le_refl _, by unfold maxLen; omega, rfl, rfl⟩⟩, by simp, by simp, fun a ha => by injection ha with ha; subst ha; exact Nat.lt_succ_self _⟩

/-- one int appended to a row of the call's own -/
theorem wpList_push {ops : Array Oper} {rest : List Oper} {o : Oper} {a : Act} {Q : Exit → Act → World → Prop} (w : World) (hgd : o.guard = none) (s x : Operand)
    (ho : o.op = .call { callee := .builtin .append, args := #[s, x], argTypes := #[22, 22] })
    (lo hi : Nat) (A : Option Addr) (n c : Nat) (xs : List Int) (hs : a.eval s = .slice A n c) (hown : OwnI w lo hi A n c xs)
    (y : Int) (b : Nat) (hx : a.eval x = .slice (some ⟨b, 0, none⟩) 1 1) (hy : I64 y) (hc : w.cell? ⟨b, 0, none⟩ = some (.int .i64 y)) (hn : n ≤ 4194304) (hlo : lo ≤ w.heap.size)
    (h : ∀ g c' w', OwnI w' lo w'.heap.size (some ⟨g, 0, none⟩) (n + 1) c' (xs ++ [y]) → w.grownBy w' (A.map (·.block)) → wpList Try.prog ops Q rest (a.put o.dst (.slice (some ⟨g, 0, none⟩) (n + 1) c')) w') :
    wpList Try.prog ops Q (o :: rest) a w := by
  obtain ⟨i0, hi0, hz0, hz1, hz2⟩ := info_parts Try.infoInt
  refine wpList_append_lies w hgd s x 22 ho lo 3 i0 (.int .i64 0) 1 8 Try.underlying22 hi0 hz0 hz1 hz2 rfl (by omega) (.slice A n c) n (xs.map (Value.int .i64)) hs hown.1
    ⟨b, 0, none⟩ 1 1 [.int .i64 y] hx rfl ?_ (by simp [Value.oneCell']) (by omega) (by unfold maxLen; omega) (by omega) hlo w.heap.size rfl ?_
  · intro j u hu
    cases j with
    | zero => simp at hu; subst hu; rw [add_none]; exact hc
    | succ j => simp at hu
  · intro g cap w' hown' hg hat hlt
    refine h g cap w' ⟨?_, ?_, Nat.le_refl _, fun a ha => by injection ha with ha; subst ha; exact hlt⟩ ?_
    · simpa using hown'
    · intro z hz
      rcases List.mem_append.1 hz with h1 | h1
      · exact hown.2.1 z h1
      · rw [List.mem_singleton.1 h1]; exact hy
    · cases A with
      | none => exact hg
      | some a => exact hg

/-- the drawing reader: bytes below its own block, and the place -/
def Bytes (w : World) (B : Nat) (A : Option Addr) (n : Nat) : Prop :=
  0 < n → ∃ b off, A = some ⟨b, off, none⟩ ∧ b < B ∧ ∀ j, j < n → ∃ v : Int, 0 ≤ v ∧ v ≤ 255 ∧ w.cell? ⟨b, off + j, none⟩ = some (.int .u8 v)
def Rd (w : World) (R : Nat) (p : Int) : Prop := 0 ≤ p ∧ ∃ A n c, Blk w R 65 #[.slice A n c, .int .i64 p] ∧ n ≤ 2000 ∧ Bytes w R A n
theorem Bytes.keep {w w' : World} {B : Nat} {A : Option Addr} {n : Nat} (h : Bytes w B A n) (hk : ∀ i, i < B → w'.heap[i]? = w.heap[i]?) : Bytes w' B A n := fun hn => by
  obtain ⟨b, off, e, hb, hc⟩ := h hn
  refine ⟨b, off, e, hb, fun j hj => ?_⟩
  obtain ⟨v, h0, h1, h2⟩ := hc j hj
  exact ⟨v, h0, h1, (World.cell?_of_block (hk b hb)).trans h2⟩
theorem Rd.lt {w : World} {R : Nat} {p : Int} (h : Rd w R p) : R < w.heap.size := by
  obtain ⟨_, A, n, c, hb, _⟩ := h
  exact hb.lt
theorem Rd.keep {w w' : World} {R : Nat} {p : Int} (h : Rd w R p) (hk : ∀ i, i ≤ R → w'.heap[i]? = w.heap[i]?) : Rd w' R p := by
  obtain ⟨h0, A, n, c, hb, hn, hby⟩ := h
  exact ⟨h0, A, n, c, (hk R (Nat.le_refl _)).trans hb, hn, hby.keep fun i hi => hk i (by omega)⟩
theorem Rd.grown {w w' : World} {R : Nat} {p : Int} {row : Option Nat} (h : Rd w R p) (hg : w.grownBy w' row) (hr : ∀ g, row = some g → R < g) : Rd w' R p :=
  h.keep fun i hi => hg.block i (Nat.lt_of_le_of_lt hi h.lt) (fun e => by have := hr i e.symm; omega)
theorem Rd.below {w w' : World} {R : Nat} {p : Int} (h : Rd w R p) (hb : Below w.heap.size w w') : Rd w' R p := h.grown (only_of_below hb none) (fun _ e => by cases e)
theorem Rd.alloc {w : World} {R : Nat} {p : Int} (h : Rd w R p) (o : Obj) : Rd (w.alloc o) R p := h.grown (World.grownBy_alloc w o none) (fun _ e => by cases e)
end Go.Proofs.Ytcgiehdpdnipbaa
