/- The stages of a second (closures) and the queue they wait in: what each call returns and what becomes of memory. -/
import Derived.Test.YtcgiehdpdnipbaaMemB
import Derived.Test.YtcgiehdpdnipbaaPlainC
namespace Go.Proofs.Ytcgiehdpdnipbaa
open Go.RowKit
set_option linter.unusedVariables false

/-- the value of a stage: its closure over one box -/
def stageV (a : Nat × Int) (pb : Nat) : Value := .func (.func (95 + a.1)) #[] #[.pointer (some ⟨pb, 0, none⟩)]
def wrV (m l : Int) (A : Option Addr) (n c : Nat) : Value := .agg #[.int .i64 m, .int .i64 l, .slice A n c]

theorem OwnI.alloc {w : World} {lo hi n c : Nat} {A : Option Addr} {xs : List Int} (h : OwnI w lo hi A n c xs) (o : Obj) : OwnI (w.alloc o) lo hi A n c xs := h.far (World.grownBy_alloc w o none) (fun _ e => by cases e)
theorem OwnI.ne_blk {w : World} {lo hi n c S : Nat} {t : TypeId} {cs : Array Value} {A : Option Addr} {xs : List Int} (h : OwnI w lo hi A n c xs) (hb : Blk w S t cs) (ht : t ≠ 3) : some S ≠ A.map (·.block) := by
  rcases h.1.2 with ⟨e, _⟩ | ⟨g, cap, cur, hv, _, hg, _⟩
  · injection e with e; subst e; simp
  · injection hv with hv
    subst hv
    intro e
    injection e with e
    subst e
    unfold Blk at hb
    rw [hb] at hg
    injection hg with hg
    injection hg with _ ht'
    exact ht ht'
theorem OwnI.set_far {w : World} {lo hi n c : Nat} {A : Option Addr} {xs : List Int} (h : OwnI w lo hi A n c xs) (S k : Nat) (hne : some S ≠ A.map (·.block)) (u : Value) : OwnI (w.setCell ⟨S, k, none⟩ u) lo hi A n c xs := by
  refine ⟨?_, h.2.1, by simpa [World.setCell] using h.2.2.1, h.2.2.2⟩
  refine h.1.kept (grown_setCell w S k u) ?_
  cases A with
  | none => exact .inl rfl
  | some a => exact .inr fun e => hne e.symm

set_option maxHeartbeats 400000 in
theorem hears_any (m l x : Int) (A : Option Addr) (n c b : Nat) (w : World) (hb : w.cell? ⟨b, 0, none⟩ = some (.int .i64 x)) (m0 : 0 ≤ m) (m1 : m ≤ 100000) (x0 : 0 ≤ x) (x1 : x ≤ 50) :
    Calls Try.prog 95 #[wrV m l A n c, .pointer (some ⟨b, 0, none⟩)] w fun e w' => e = .returned (wrV (m + x) l A n c) ∧ Below w.heap.size w w' := by
  have hlt := lt_of_cell hb
  have hne : b ≠ w.heap.size := by simp only at hlt; omega
  unfold wrV
  go_enter Try.func95, Try.ntmps95
  go_wp2
  exact bodyPost_ret (v := .agg #[.int .i64 (m + x), .int .i64 l, .slice A n c]) (by simp [results, Try.results95, go_sem]) rfl ⟨rfl, ((Below.refl _ _).alloc (Nat.le_refl _) _).alloc (by simp) _⟩

set_option maxHeartbeats 400000 in
theorem writes_any (m l x : Int) (A : Option Addr) (n c b : Nat) (w : World) (hb : w.cell? ⟨b, 0, none⟩ = some (.int .i64 x)) (m0 : 0 ≤ m) (m1 : m ≤ 100000) (x0 : 0 ≤ x) (x1 : x ≤ 50) :
    Calls Try.prog 96 #[wrV m l A n c, .pointer (some ⟨b, 0, none⟩)] w fun e w' => e = .returned (wrV (m - min m x) l A n c) ∧ Below w.heap.size w w' := by
  have hlt := lt_of_cell hb
  have hne : b ≠ w.heap.size := by simp only at hlt; omega
  by_cases h : m ≤ x
  · have hm : m - min m x = 0 := by omega
    rw [hm]
    clear hm
    unfold wrV
    go_enter Try.func96, Try.ntmps96
    go_wp2
    exact bodyPost_ret (v := .agg #[.int .i64 0, .int .i64 l, .slice A n c]) (by simp [results, Try.results96, go_sem]) rfl ⟨rfl, ((Below.refl _ _).alloc (Nat.le_refl _) _).alloc (by simp) _⟩
  · have hm : m - min m x = m - x := by omega
    rw [hm]
    clear hm
    unfold wrV
    go_enter Try.func96, Try.ntmps96
    go_wp2
    exact bodyPost_ret (v := .agg #[.int .i64 (m - x), .int .i64 l, .slice A n c]) (by simp [results, Try.results96, go_sem]) rfl ⟨rfl, ((Below.refl _ _).alloc (Nat.le_refl _) _).alloc (by simp) _⟩

/-- what the third stage leaves: the words that are kept, what is lost, one mind more -/
def HoldPost (w : World) (lo : Nat) (k l2 : Int) (A : Option Addr) (n : Nat) (ls : List Int) (e : Ending) (w' : World) : Prop :=
  ∃ g c', e = .returned (wrV k l2 (some ⟨g, 0, none⟩) (n + 1) c') ∧ OwnI w' lo w'.heap.size (some ⟨g, 0, none⟩) (n + 1) c' (ls ++ [k]) ∧ w.grownBy w' (A.map (·.block))

theorem Blk.three {w : World} {g : Nat} {t : TypeId} {a b c : Value} (h : Blk w g t #[a, b, c]) :
    w.cell? ⟨g, 0, none⟩ = some a ∧ w.cell? ⟨g, 1, none⟩ = some b ∧ w.cell? ⟨g, 2, none⟩ = some c ∧ w.frozen? ⟨g, 0, none⟩ = false ∧ w.frozen? ⟨g, 1, none⟩ = false ∧ w.frozen? ⟨g, 2, none⟩ = false :=
  ⟨h.cell 0, h.cell 1, h.cell 2, h.free 0, h.free 1, h.free 2⟩

/-- the end of the third stage: what the stores leave -/
theorem hold_end {w w1 : World} {lo g c' : Nat} {n : Nat} {A : Option Addr} {ls : List Int} {u1 u2 u3 u4 : Value} {S R : Nat} {cs cr : Array Value} (hg : w.grownBy w1 (A.map (·.block))) (hS : w.heap.size ≤ S) (hR : w.heap.size ≤ R)
    (ho : OwnI w1 lo w1.heap.size (some ⟨g, 0, none⟩) n c' ls) (bS : Blk w1 S 59 cs) (bR : Blk w1 R 59 cr) :
    OwnI ((((w1.setCell ⟨S, 2, none⟩ u1).setCell ⟨R, 0, none⟩ u2).setCell ⟨R, 1, none⟩ u3).setCell ⟨R, 2, none⟩ u4) lo ((((w1.setCell ⟨S, 2, none⟩ u1).setCell ⟨R, 0, none⟩ u2).setCell ⟨R, 1, none⟩ u3).setCell ⟨R, 2, none⟩ u4).heap.size (some ⟨g, 0, none⟩) n c' ls ∧
    w.grownBy ((((w1.setCell ⟨S, 2, none⟩ u1).setCell ⟨R, 0, none⟩ u2).setCell ⟨R, 1, none⟩ u3).setCell ⟨R, 2, none⟩ u4) (A.map (·.block)) := by
  have n1 := ho.ne_blk bS (by decide)
  have n2 := ho.ne_blk bR (by decide)
  refine ⟨?_, ?_⟩
  · have := (((ho.set_far S 2 n1 u1).set_far R 0 n2 u2).set_far R 1 n2 u3).set_far R 2 n2 u4
    simpa [World.setCell] using this
  · refine only_then (only_then (only_then (only_then hg (grown_setCell _ _ _ _) ?_) (grown_setCell _ _ _ _) ?_) (grown_setCell _ _ _ _) ?_) (grown_setCell _ _ _ _) ?_
    all_goals (intro i hi; injection hi with hi; subst hi; exact .inr (by assumption))

theorem hold_mid {w w1 : World} {A : Option Addr} {n c lo hi : Nat} {ls : List Int} {cs cr : Array Value} {o : Obj} (ho : OwnI w lo hi A n c ls) (hg : (((w.alloc (.cells cs 59)).alloc (.cells cr 59)).alloc o).grownBy w1 (A.map (·.block))) :
    Blk w1 w.heap.size 59 cs ∧ Blk w1 (w.heap.size + 1) 59 cr ∧ w.grownBy w1 (A.map (·.block)) := by
  have b1 : Blk (w.alloc (.cells cs 59)) w.heap.size 59 cs := Blk.new w 59 cs
  have b2 : Blk ((w.alloc (.cells cs 59)).alloc (.cells cr 59)) (w.heap.size + 1) 59 cr := by have := Blk.new (w.alloc (.cells cs 59)) 59 cr; simpa using this
  have n1 := (((ho.alloc (.cells cs 59)).alloc (.cells cr 59)).alloc o).ne_blk ((b1.alloc _).alloc o) (by decide)
  have n2 := (((ho.alloc (.cells cs 59)).alloc (.cells cr 59)).alloc o).ne_blk (b2.alloc o) (by decide)
  exact ⟨((b1.alloc _).alloc o).grown hg n1, (b2.alloc o).grown hg n2, only_then (only_alloc (only_alloc (only_alloc (World.grownBy.refl w _) _) _) _) hg (fun g e => .inl e.symm)⟩

set_option maxHeartbeats 1000000 in
theorem holds_le (m l x : Int) (A : Option Addr) (n c b lo hi : Nat) (ls : List Int) (w : World) (hb : w.cell? ⟨b, 0, none⟩ = some (.int .i64 x)) (ho : OwnI w lo hi A n c ls) (hlo : lo ≤ w.heap.size) (hn : n ≤ 1000) (m0 : 0 ≤ m) (m1 : m ≤ 100000) (x0 : 0 ≤ x) (x1 : x ≤ 50) (l0 : 0 ≤ l) (l1 : l ≤ 100000000) (hle : m ≤ x) :
    Calls Try.prog 97 #[wrV m l A n c, .pointer (some ⟨b, 0, none⟩)] w (HoldPost w lo m l A n ls) := by
  have hlt := lt_of_cell hb
  have hne : b ≠ w.heap.size := by simp only at hlt; omega
  have i64 : I64 m := ⟨by omega, by omega⟩
  unfold wrV
  go_enter Try.func97, Try.ntmps97
  go_wp2_with (at_builtin; go_must (refine wpList_push _ rfl (.tmp 20) (.tmp 23) rfl lo hi A n c ls rfl (((ho.alloc _).alloc _).alloc _) m (w.heap.size + 1 + 1) rfl i64 (by go_simp) (by omega) (by simp; omega) ?_); go_must (intro g c' w1 ho1 hg1; obtain ⟨bS, bR, hgw⟩ := hold_mid ho hg1; clear hg1; obtain ⟨s0, s1, s2, t0, t1, t2⟩ := bS.three; obtain ⟨r0, r1, r2, q0, q1, q2⟩ := bR.three))
  refine bodyPost_ret (v := .agg #[.int .i64 m, .int .i64 l, .slice (some ⟨g, 0, none⟩) (n + 1) c']) (by simp [results, Try.results97, go_sem, r0, r1, r2]) rfl ⟨g, c', rfl, ?_⟩
  exact hold_end hgw (Nat.le_refl _) (Nat.le_succ _) ho1 bS bR

set_option maxHeartbeats 1000000 in
theorem holds_gt (m l x : Int) (A : Option Addr) (n c b lo hi : Nat) (ls : List Int) (w : World) (hb : w.cell? ⟨b, 0, none⟩ = some (.int .i64 x)) (ho : OwnI w lo hi A n c ls) (hlo : lo ≤ w.heap.size) (hn : n ≤ 1000) (m0 : 0 ≤ m) (m1 : m ≤ 100000) (x0 : 0 ≤ x) (x1 : x ≤ 50) (l0 : 0 ≤ l) (l1 : l ≤ 100000000) (hle : x < m) :
    Calls Try.prog 97 #[wrV m l A n c, .pointer (some ⟨b, 0, none⟩)] w (HoldPost w lo x (l + (m - x)) A n ls) := by
  have hlt := lt_of_cell hb
  have hne : b ≠ w.heap.size := by simp only at hlt; omega
  have i64 : I64 x := ⟨by omega, by omega⟩
  unfold wrV
  go_enter Try.func97, Try.ntmps97
  go_wp2_with (at_builtin; go_must (refine wpList_push _ rfl (.tmp 20) (.tmp 23) rfl lo hi A n c ls rfl (((ho.alloc _).alloc _).alloc _) x (w.heap.size + 1 + 1) rfl i64 (by go_simp) (by omega) (by simp; omega) ?_); go_must (intro g c' w1 ho1 hg1; obtain ⟨bS, bR, hgw⟩ := hold_mid ho hg1; clear hg1; obtain ⟨s0, s1, s2, t0, t1, t2⟩ := bS.three; obtain ⟨r0, r1, r2, q0, q1, q2⟩ := bR.three))
  refine bodyPost_ret (v := .agg #[.int .i64 x, .int .i64 (l + (m - x)), .slice (some ⟨g, 0, none⟩) (n + 1) c']) (by simp [results, Try.results97, go_sem, r0, r1, r2]) rfl ⟨g, c', rfl, ?_⟩
  exact hold_end hgw (Nat.le_refl _) (Nat.le_succ _) ho1 bS bR

end Go.Proofs.Ytcgiehdpdnipbaa
