/- The queue of stages: stages are added, and run in turn; the writer behind a talk. -/
import Derived.Test.YtcgiehdpdnipbaaStage
namespace Go.Proofs.Ytcgiehdpdnipbaa
open Go.RowKit
set_option linter.unusedVariables false

/-- only blocks in S have changed, and new ones are there -/
structure Chg (w w' : World) (S : Nat → Prop) : Prop where
  os : w'.os = w.os
  tape : w'.tape = w.tape
  output : w'.output = w.output
  size : w.heap.size ≤ w'.heap.size
  block : ∀ i, i < w.heap.size → ¬ S i → w'.heap[i]? = w.heap[i]?
theorem Chg.refl (w : World) (S : Nat → Prop) : Chg w w S := ⟨rfl, rfl, rfl, Nat.le_refl _, fun _ _ _ => rfl⟩
theorem Chg.trans {a b c : World} {S T : Nat → Prop} (h : Chg a b S) (k : Chg b c T) (hT : ∀ i, i < a.heap.size → T i → S i) : Chg a c S :=
  ⟨k.os.trans h.os, k.tape.trans h.tape, k.output.trans h.output, Nat.le_trans h.size k.size, fun i hi hne => (k.block i (Nat.lt_of_lt_of_le hi h.size) (fun e => hne (hT i hi e))).trans (h.block i hi hne)⟩
theorem Chg.of_grown {a b : World} {row : Option Nat} (h : a.grownBy b row) : Chg a b (fun i => some i = row) := ⟨h.os, h.tape, h.output, h.size, h.block⟩
theorem Chg.of_below {a b : World} (h : Below a.heap.size a b) (S : Nat → Prop) : Chg a b S := ⟨h.os, h.tape, h.output, h.size, fun i hi _ => h.block i hi⟩
theorem Chg.set_ {a b : World} {S : Nat → Prop} (h : Chg a b S) (g k : Nat) (u : Value) (hg : g < a.heap.size → S g) : Chg a (b.setCell ⟨g, k, none⟩ u) S :=
  h.trans (Chg.of_grown (grown_setCell b g k u)) (fun i hi e => by injection e with e; subst e; exact hg hi)
theorem Chg.alloc {a b : World} {S : Nat → Prop} (h : Chg a b S) (o : Obj) : Chg a (b.alloc o) S := h.trans (Chg.of_grown (World.grownBy_alloc b o none)) (fun i _ e => by cases e)
theorem Chg.below {a b : World} {S : Nat → Prop} {B : Nat} (h : Chg a b S) (hB : B ≤ a.heap.size) (hS : ∀ i, i < B → ¬ S i) : Below B a b := ⟨h.os, h.tape, h.output, h.size, fun i hi => h.block i (by omega) (hS i hi)⟩
theorem Blk.chg {w w' : World} {g : Nat} {t : TypeId} {cs : Array Value} {S : Nat → Prop} (h : Blk w g t cs) (k : Chg w w' S) (hS : ¬ S g) : Blk w' g t cs := (k.block g h.lt hS).trans h
theorem Blk.ne {w : World} {g g' : Nat} {t t' : TypeId} {cs cs' : Array Value} (h : Blk w g t cs) (h' : Blk w g' t' cs') (hne : t ≠ t') : g ≠ g' := by
  rintro rfl
  unfold Blk at h h'
  rw [h] at h'
  injection h' with h'
  injection h' with _ ht
  exact hne ht
theorem own_ne {w : World} {lo e size n g : Nat} {t : TypeId} {cs : Array Value} {A : Option Addr} {m c : Nat} {xs : List Value} (h : w.ownsRow lo e size (.slice A m c) n xs) (hb : Blk w g t cs) (ht : t ≠ e) : some g ≠ A.map (·.block) := by
  rcases h.2 with ⟨e0, _⟩ | ⟨g', cap, cur, hv, _, hg, _⟩
  · injection e0 with e0; subst e0; simp
  · injection hv with hv
    subst hv
    intro e0
    injection e0 with e0
    subst e0
    exact hb.ne (cs' := cur) hg ht rfl

theorem Try.infoFn : (Try.prog.info? 74).map (fun i => (i.zero, i.size, i.bytes)) = some (some .nilFunc, 1, 8) := by kernel_rfl

def SecPost (w : World) (x r h : Int) (e : Ending) (w' : World) : Prop :=
  e = .returned (.slice (some ⟨w.heap.size + 3, 0, none⟩) 3 3) ∧ Blk w' w.heap.size 3 #[.int .i64 x] ∧ Blk w' (w.heap.size + 1) 3 #[.int .i64 r] ∧ Blk w' (w.heap.size + 2) 3 #[.int .i64 h] ∧
  Blk w' (w.heap.size + 3) 74 #[stageV (0, x) w.heap.size, stageV (1, r) (w.heap.size + 1), stageV (2, h) (w.heap.size + 2)] ∧ Below w.heap.size w w' ∧ w'.heap.size = w.heap.size + 4

theorem sec_blocks (w : World) (x r h : Int) (u : Array Value) :
    let W := (((w.alloc (.cells #[.int .i64 x] 3)).alloc (.cells #[.int .i64 r] 3)).alloc (.cells #[.int .i64 h] 3)).alloc (.cells u 74)
    Blk W w.heap.size 3 #[.int .i64 x] ∧ Blk W (w.heap.size + 1) 3 #[.int .i64 r] ∧ Blk W (w.heap.size + 2) 3 #[.int .i64 h] ∧ Blk W (w.heap.size + 3) 74 u ∧ Below w.heap.size w W ∧ W.heap.size = w.heap.size + 4 := by
  intro W
  have b1 : Blk (w.alloc (.cells #[.int .i64 x] 3)) w.heap.size 3 #[.int .i64 x] := Blk.new w 3 _
  have b2 : Blk ((w.alloc (.cells #[.int .i64 x] 3)).alloc (.cells #[.int .i64 r] 3)) (w.heap.size + 1) 3 #[.int .i64 r] := by have := Blk.new (w.alloc (.cells #[.int .i64 x] 3)) 3 #[.int .i64 r]; simpa using this
  have b3 : Blk (((w.alloc (.cells #[.int .i64 x] 3)).alloc (.cells #[.int .i64 r] 3)).alloc (.cells #[.int .i64 h] 3)) (w.heap.size + 2) 3 #[.int .i64 h] := by have := Blk.new ((w.alloc (.cells #[.int .i64 x] 3)).alloc (.cells #[.int .i64 r] 3)) 3 #[.int .i64 h]; simpa using this
  have b4 : Blk W (w.heap.size + 3) 74 u := by have := Blk.new (((w.alloc (.cells #[.int .i64 x] 3)).alloc (.cells #[.int .i64 r] 3)).alloc (.cells #[.int .i64 h] 3)) 74 u; simpa using this
  refine ⟨((b1.alloc _).alloc _).alloc _, (b2.alloc _).alloc _, b3.alloc _, b4, ?_, by simp [W]⟩
  exact ((((Below.refl _ _).alloc (Nat.le_refl _) _).alloc (by simp) _).alloc (by simp; omega) _).alloc (by simp; omega) _

theorem second_any (x r h : Int) (w : World) : Calls Try.prog 92 #[.int .i64 x, .int .i64 r, .int .i64 h] w (SecPost w x r h) := by
  go_enter Try.func92, Try.ntmps92
  go_wp2
  go_ret
  exact ⟨rfl, sec_blocks w x r h _⟩

def AddPost (w : World) (Q lo wn : Nat) (WA : Option Addr) (vs news : List Value) (e : Ending) (w' : World) : Prop :=
  ∃ g cap, e = .returned (.tuple #[]) ∧ Blk w' Q 69 #[.slice (some ⟨g, 0, none⟩) (wn + 3) cap] ∧ w'.ownsRow lo 74 1 (.slice (some ⟨g, 0, none⟩) (wn + 3) cap) (wn + 3) (vs ++ news) ∧ Chg w w' (fun i => i = Q ∨ some i = WA.map (·.block))

set_option maxHeartbeats 400000 in
theorem add_any (Q g0 wn wc lo : Nat) (WA : Option Addr) (vs : List Value) (f1 f2 f3 : Value) (w : World) (hQ : Blk w Q 69 #[.slice WA wn wc]) (ho : w.ownsRow lo 74 1 (.slice WA wn wc) wn vs) (hg : Blk w g0 74 #[f1, f2, f3])
    (hone : ∀ u ∈ [f1, f2, f3], u.oneCell' = true) (hn : wn ≤ 1000) (hlo : lo ≤ w.heap.size) :
    Calls Try.prog 91 #[.pointer (some ⟨Q, 0, none⟩), .slice (some ⟨g0, 0, none⟩) 3 3] w (AddPost w Q lo wn WA vs [f1, f2, f3]) := by
  obtain ⟨i0, hi0, hz0, hz1, hz2⟩ := info_parts Try.infoFn
  have hnews : ∀ j u, [f1, f2, f3][j]? = some u → w.cell? ((⟨g0, 0, none⟩ : Addr).add j) = some u := by
    intro j u hu
    rw [add_none, hg.cell j]
    simpa using hu
  have c0 : w.cell? ⟨Q, 0, none⟩ = some (.slice WA wn wc) := hQ.cell 0
  have hne := own_ne ho hQ (by decide)
  go_enter Try.func91, Try.ntmps91
  go_wp2_with (at_builtin; go_must (refine wpList_append_lies _ rfl (.tmp 8) (.tmp 9) 67 rfl lo 74 i0 .nilFunc 1 8 Try.underlying67 hi0 hz0 hz1 hz2 rfl (by omega) (.slice WA wn wc) wn vs rfl ho ⟨g0, 0, none⟩ 3 3 [f1, f2, f3] rfl rfl hnews hone (by omega) (by unfold maxLen; omega) (by omega) hlo w.heap.size rfl ?_); go_must (intro g cap w1 hown1 hgrow hat hlt; have bQ := hQ.grown hgrow (by cases WA <;> exact hne); have q0 : w1.cell? ⟨Q, 0, none⟩ = some (.slice WA wn wc) := bQ.cell 0; have q1 := bQ.free 0))
  go_end0
  have hgQ := own_ne hown1 bQ (by decide)
  refine ⟨g, cap, rfl, bQ.put 0 _, hown1.kept (grown_setCell w1 Q 0 _) (.inr fun e => hgQ e.symm), ?_⟩
  refine Chg.set_ ((Chg.refl w _).trans (Chg.of_grown hgrow) (fun i _ e => .inr ?_)) Q 0 _ (fun _ => .inl rfl)
  cases WA with
  | none => exact e
  | some a => exact e

/-- a row of stages that wait, below L and not in block Q; each has a box below L -/
def Waits (w : World) (L Q : Nat) (WA : Option Addr) (ts : List (Nat × Int)) : Prop :=
  ∀ j a, ts[j]? = some a → ∃ b off pb, WA = some ⟨b, off, none⟩ ∧ b < L ∧ b ≠ Q ∧ w.cell? ⟨b, off + j, none⟩ = some (stageV a pb) ∧ pb < L ∧ pb ≠ Q ∧ w.cell? ⟨pb, 0, none⟩ = some (.int .i64 a.2)
theorem Waits.chg {w w' : World} {L Q : Nat} {WA : Option Addr} {ts : List (Nat × Int)} {S : Nat → Prop} (h : Waits w L Q WA ts) (k : Chg w w' S) (hS : ∀ i, i < L → i ≠ Q → ¬ S i) : Waits w' L Q WA ts := by
  intro j a ha
  obtain ⟨b, off, pb, e, h1, h2, h3, h4, h5, h6⟩ := h j a ha
  refine ⟨b, off, pb, e, h1, h2, ?_, h4, h5, ?_⟩
  · exact (World.cell?_of_block (k.block b (lt_of_cell h3) (hS b h1 h2))).trans h3
  · exact (World.cell?_of_block (k.block pb (lt_of_cell h6) (hS pb h4 h5))).trans h6
theorem Waits.tail {w : World} {L Q b off : Nat} {a : Nat × Int} {ts : List (Nat × Int)} (h : Waits w L Q (some ⟨b, off, none⟩) (a :: ts)) : Waits w L Q (some ⟨b, off + 1, none⟩) ts := by
  intro j c hc
  obtain ⟨b', off', pb, e, h1, h2, h3, h4⟩ := h (j + 1) c (by simpa using hc)
  injection e with e
  injection e with e1 e2
  subst e1 e2
  exact ⟨b, off + 1, pb, rfl, h1, h2, by rw [Nat.add_assoc, Nat.add_comm 1 j]; exact h3, h4⟩

/-- what holds at the head of a round of the queue's run -/
def RunRel (w : World) (Q L : Nat) (M Lo : Int) (As : List Int) (k : Nat) (wr : World) : Prop :=
  ∃ (ts : List (Nat × Int)) (WA : Option Addr) (wc : Nat) (m l : Int) (A : Option Addr) (n c : Nat) (ls : List Int) (cr : Array Value),
    ts.length = k ∧ k ≤ wc ∧ wc ≤ 9223372036854775807 ∧ Blk wr Q 69 #[.slice WA k wc] ∧ Waits wr L Q WA ts ∧ (∀ a ∈ ts, Talk.Small a) ∧ Blk wr w.heap.size 59 #[.int .i64 m, .int .i64 l, .slice A n c] ∧ Blk wr (w.heap.size + 1) 59 #[.int .i64 0, .int .i64 0, .slice none 0 0] ∧
    OwnI wr L wr.heap.size A n c ls ∧ 0 ≤ m ∧ m + 50 * k ≤ 5000 ∧ 0 ≤ l ∧ l + 6000 * k ≤ 1000000 ∧ n + k ≤ 1000 ∧
    Talk.runM m ts = M ∧ Talk.runL m l ts = Lo ∧ Talk.runA m ls ts = As ∧ Chg w wr (fun i => i = Q ∨ L ≤ i)

def RunPost (w : World) (Q L : Nat) (M Lo : Int) (As : List Int) (e : Ending) (w' : World) : Prop :=
  ∃ A c, e = .returned (wrV M Lo A As.length c) ∧ OwnI w' L w'.heap.size A As.length c As ∧ Chg w w' (fun i => i = Q ∨ L ≤ i)

theorem holds_any (m l x : Int) (A : Option Addr) (n c b lo hi : Nat) (ls : List Int) (w : World) (hb : w.cell? ⟨b, 0, none⟩ = some (.int .i64 x)) (ho : OwnI w lo hi A n c ls) (hlo : lo ≤ w.heap.size) (hn : n ≤ 1000) (m0 : 0 ≤ m) (m1 : m ≤ 100000) (x0 : 0 ≤ x) (x1 : x ≤ 50) (l0 : 0 ≤ l) (l1 : l ≤ 100000000) :
    Calls Try.prog 97 #[wrV m l A n c, .pointer (some ⟨b, 0, none⟩)] w (HoldPost w lo (min m x) (l + (m - min m x)) A n ls) := by
  by_cases h : m ≤ x
  · rw [show min m x = m by omega, show l + (m - m) = l by omega]
    exact holds_le m l x A n c b lo hi ls w hb ho hlo hn m0 m1 x0 x1 l0 l1 h
  · rw [show min m x = x by omega]
    exact holds_gt m l x A n c b lo hi ls w hb ho hlo hn m0 m1 x0 x1 l0 l1 (by omega)

theorem run_box {wr w2 : World} {Q n c : Nat} {ls : List Int} {lo hi : Nat} {A : Option Addr} {v : Value} {cs : Array Value} {S : Nat} (bS : Blk wr S 59 cs) (ho : OwnI wr lo hi A n c ls) (hne : S ≠ Q)
    (h2 : Chg (wr.setCell ⟨Q, 0, none⟩ v) w2 (fun i => some i = A.map (·.block))) : Blk w2 S 59 cs :=
  (bS.far (p := ⟨Q, 0, none⟩) hne v).chg h2 (ho.ne_blk bS (by decide))
theorem run_own {wr w2 : World} {Q n c : Nat} {ls : List Int} {lo : Nat} {A : Option Addr} {v u : Value} (ho : OwnI wr lo wr.heap.size A n c ls) (bQ : Blk wr Q 69 #[u]) (hb : Below (wr.setCell ⟨Q, 0, none⟩ v).heap.size (wr.setCell ⟨Q, 0, none⟩ v) w2) : OwnI w2 lo w2.heap.size A n c ls :=
  ((ho.set_far Q 0 (ho.ne_blk bQ (by decide)) v).below hb).wide (Nat.le_refl _) (by have := hb.size; simpa [World.setCell] using this) (Nat.le_refl _)

theorem run_next {w wr w2 : World} {Q L k wc' n n' c c' : Nat} {M Lo m' l' : Int} {As ls ls' : List Int} {WA' A A' : Option Addr} {ts' : List (Nat × Int)} {v x0 x1 x2 : Value}
    (ch : Chg w wr (fun i => i = Q ∨ L ≤ i)) (hQL : Q < L) (hL : L ≤ w.heap.size) (bQ : Blk wr Q 69 #[v]) (bS : Blk wr w.heap.size 59 #[x0, x1, x2]) (bR : Blk wr (w.heap.size + 1) 59 #[.int .i64 0, .int .i64 0, .slice none 0 0]) (hw : Waits wr L Q WA' ts')
    (ho : OwnI wr L wr.heap.size A n c ls) (h2 : Chg (wr.setCell ⟨Q, 0, none⟩ (.slice WA' k wc')) w2 (fun i => some i = A.map (·.block))) (ho2 : OwnI w2 L w2.heap.size A' n' c' ls')
    (a1 : ts'.length = k) (a2 : k ≤ wc') (a3 : wc' ≤ 9223372036854775807) (a4 : ∀ a ∈ ts', Talk.Small a) (a5 : 0 ≤ m') (a6 : m' + 50 * k ≤ 5000) (a7 : 0 ≤ l') (a8 : l' + 6000 * k ≤ 1000000) (a9 : n' + k ≤ 1000)
    (e1 : Talk.runM m' ts' = M) (e2 : Talk.runL m' l' ts' = Lo) (e3 : Talk.runA m' ls' ts' = As) :
    RunRel w Q L M Lo As k (((w2.setCell ⟨w.heap.size, 0, none⟩ (.int .i64 m')).setCell ⟨w.heap.size, 1, none⟩ (.int .i64 l')).setCell ⟨w.heap.size, 2, none⟩ (.slice A' n' c')) := by
  have nQ := ho.ne_blk bQ (by decide)
  have nS := ho.ne_blk bS (by decide)
  have nR := ho.ne_blk bR (by decide)
  have cQ : Chg w (wr.setCell ⟨Q, 0, none⟩ (.slice WA' k wc')) (fun i => i = Q ∨ L ≤ i) := ch.set_ Q 0 _ (fun _ => .inl rfl)
  have lA : ∀ i, some i = A.map (·.block) → L ≤ i := by
    intro i hi
    cases A with
    | none => cases hi
    | some a => injection hi with hi; subst hi; exact (ho.lo_le a rfl).1
  have c2 : Chg w w2 (fun i => i = Q ∨ L ≤ i) := cQ.trans h2 (fun i _ e => .inr (lA i e))
  have bQ1 : Blk (wr.setCell ⟨Q, 0, none⟩ (.slice WA' k wc')) Q 69 #[.slice WA' k wc'] := bQ.put 0 _
  have bQ2 := bQ1.chg h2 nQ
  have bS2 := (bS.far (p := ⟨Q, 0, none⟩) (by simp; omega) (.slice WA' k wc')).chg h2 nS
  have bR2 := (bR.far (p := ⟨Q, 0, none⟩) (by simp; omega) (.slice WA' k wc')).chg h2 nR
  have hw2 : Waits w2 L Q WA' ts' := by
    have w1 : Waits (wr.setCell ⟨Q, 0, none⟩ (.slice WA' k wc')) L Q WA' ts' := hw.chg (S := fun i => i = Q) ((Chg.refl wr _).set_ Q 0 _ (fun _ => rfl)) (fun i _ h => h)
    exact w1.chg h2 (fun i hi _ e => by have := lA i e; omega)
  have mS := ho2.ne_blk bS2 (by decide)
  refine ⟨ts', WA', wc', m', l', A', n', c', ls', #[], a1, a2, a3, ?_, ?_, a4, ?_, ?_, ?_, a5, a6, a7, a8, a9, e1, e2, e3, ?_⟩
  · exact ((bQ2.far (by simp; omega) _).far (by simp; omega) _).far (by simp; omega) _
  · have cc : Chg w2 (((w2.setCell ⟨w.heap.size, 0, none⟩ (.int .i64 m')).setCell ⟨w.heap.size, 1, none⟩ (.int .i64 l')).setCell ⟨w.heap.size, 2, none⟩ (.slice A' n' c')) (fun i => i = w.heap.size) :=
      (((Chg.refl w2 (fun i => i = w.heap.size)).set_ w.heap.size 0 _ (fun _ => rfl)).set_ w.heap.size 1 _ (fun _ => rfl)).set_ w.heap.size 2 _ (fun _ => rfl)
    exact hw2.chg cc (fun i hi _ e => by omega)
  · exact ((bS2.put 0 _).put 1 _).put 2 _
  · exact ((bR2.far (by simp) _).far (by simp) _).far (by simp) _
  · have := ((ho2.set_far _ 0 mS (.int .i64 m')).set_far _ 1 mS (.int .i64 l')).set_far _ 2 mS (.slice A' n' c')
    simpa [World.setCell] using this
  · exact ((c2.set_ _ 0 _ (fun h => by omega)).set_ _ 1 _ (fun h => by omega)).set_ _ 2 _ (fun h => by omega)

set_option maxHeartbeats 1000000 in
theorem run_any (Q L k wc : Nat) (WA : Option Addr) (ts : List (Nat × Int)) (m l : Int) (A : Option Addr) (n c : Nat) (ls : List Int) (w : World)
    (hk : ts.length = k) (hkc : k ≤ wc) (hwc : wc ≤ 9223372036854775807) (hQ : Blk w Q 69 #[.slice WA k wc]) (hw : Waits w L Q WA ts) (hs : ∀ a ∈ ts, Talk.Small a) (hQL : Q < L) (hL : L ≤ w.heap.size)
    (ho : OwnI w L w.heap.size A n c ls) (m0 : 0 ≤ m) (m1 : m + 50 * k ≤ 5000) (l0 : 0 ≤ l) (l1 : l + 6000 * k ≤ 1000000) (hn : n + k ≤ 1000) :
    Calls Try.prog 93 #[.pointer (some ⟨Q, 0, none⟩), wrV m l A n c] w (RunPost w Q L (Talk.runM m ts) (Talk.runL m l ts) (Talk.runA m ls ts)) := by
  have hstart : RunRel w Q L (Talk.runM m ts) (Talk.runL m l ts) (Talk.runA m ls ts) k ((w.alloc (.cells #[.int .i64 m, .int .i64 l, .slice A n c] 59)).alloc (.cells #[.int .i64 0, .int .i64 0, .slice none 0 0] 59)) := by
    have ch : Chg w ((w.alloc (.cells #[.int .i64 m, .int .i64 l, .slice A n c] 59)).alloc (.cells #[.int .i64 0, .int .i64 0, .slice none 0 0] 59)) (fun i => i = Q ∨ L ≤ i) := ((Chg.refl w _).alloc _).alloc _
    have b2 := Blk.new (w.alloc (.cells #[.int .i64 m, .int .i64 l, .slice A n c] 59)) 59 #[.int .i64 0, .int .i64 0, .slice none 0 0]
    refine ⟨ts, WA, wc, m, l, A, n, c, ls, #[], hk, hkc, hwc, (hQ.alloc _).alloc _, ?_, hs, (Blk.new w 59 _).alloc _, by simpa using b2, ?_, m0, m1, l0, l1, hn, rfl, rfl, rfl, ch⟩
    · exact hw.chg (S := fun _ => False) (((Chg.refl w _).alloc _).alloc _) (fun _ _ _ h => h)
    · have := ((ho.alloc (.cells #[.int .i64 m, .int .i64 l, .slice A n c] 59)).alloc (.cells #[.int .i64 0, .int .i64 0, .slice none 0 0] 59))
      exact this.wide (Nat.le_refl _) (by simp; omega) (Nat.le_refl _)
  have HS := Lib.hid hstart
  generalize Talk.runM m ts = M at *
  generalize Talk.runL m l ts = Lo at *
  generalize Talk.runA m ls ts = As at *
  clear hstart hk hkc hwc hQ hw hs ho m0 m1 l0 l1 hn
  unfold wrV
  go_enter Try.func93, Try.ntmps93
  go_wp2
  go_loopg [5] k (fun k _ wr => RunRel w Q L M Lo As k wr)
  case atStart => exact HS.out
  case round =>
    clear HS
    obtain ⟨ts, WA, wc, m, l, A, n, c, ls, _, hk, hkc, hwc, bQ, hw, hs, bS, bR, ho, m0, m1, l0, l1, hn, e1, e2, e3, ch⟩ := hrel
    have q0 : wr.cell? ⟨Q, 0, none⟩ = some (.slice WA gk wc) := bQ.cell 0
    have q1 := bQ.free 0
    obtain ⟨s0, s1, s2, t0, t1, t2⟩ := bS.three
    obtain ⟨r0, r1, r2, v0, v1, v2⟩ := bR.three
    have d1 : Q ≠ w.heap.size := by omega
    have d2 : w.heap.size ≠ Q := by omega
    have E := Lib.hid (And.intro e1 (And.intro e2 e3))
    clear e1 e2 e3
    cases ts with
    | nil =>
      obtain rfl : gk = 0 := by simpa using hk.symm
      clear hk
      go_wp2
      refine bodyPost_ret (v := .agg #[.int .i64 m, .int .i64 l, .slice A n c]) (by simp [results, Try.results93, go_sem, r0, r1, r2]) rfl ?_
      obtain ⟨rfl, rfl, rfl⟩ := E.out
      have nR := ho.ne_blk bR (by decide)
      have hl := ho.len
      have h1 := ((ho.set_far _ 0 nR (.int .i64 m)).set_far _ 1 nR (.int .i64 l)).set_far _ 2 nR (.slice A n c)
      refine ⟨A, c, ?_, ?_, ((ch.set_ _ 0 _ (fun h => by omega)).set_ _ 1 _ (fun h => by omega)).set_ _ 2 _ (fun h => by omega)⟩
      · simp only [Talk.runM, Talk.runL, Talk.runA, hl]; rfl
      · simp only [Talk.runA, hl]; simpa [World.setCell] using h1
    | cons a ts' =>
      obtain ⟨a1, x⟩ := a
      obtain ⟨b, off, pb, rfl, hb, hbQ, hc, hpb, hpQ, hcp⟩ := hw 0 (a1, x) rfl
      obtain ⟨hs1, x0, x1⟩ := hs (a1, x) (by simp)
      simp only at hs1 x0 x1 hcp
      have hs' : ∀ a ∈ ts', Talk.Small a := fun a ha => hs a (by simp [ha])
      have hw' := hw.tail
      obtain ⟨k', rfl⟩ : ∃ k', gk = k' + 1 := ⟨ts'.length, by simpa using hk.symm⟩
      have hk' := Lib.hid (show ts'.length = k' by simpa using hk)
      rw [Nat.add_zero] at hc
      clear hs hk hw
      have hcp' := Lib.hid (fun v => (World.cell?_setCell_other wr ⟨Q, 0, none⟩ ⟨pb, 0, none⟩ v (fun e => hpQ (congrArg Addr.block e).symm)).trans hcp)
      have nQ := ho.ne_blk bQ (by decide)
      have hLr : L ≤ wr.heap.size := Nat.le_trans hL ch.size
      by_cases h1 : wc = 1
      · obtain rfl : k' = 0 := by omega
        obtain rfl : ts' = [] := List.eq_nil_of_length_eq_zero hk'.out
        subst h1
        obtain rfl | rfl | rfl : a1 = 0 ∨ a1 = 1 ∨ a1 = 2 := by omega
        · simp only [stageV, Nat.add_zero] at hc
          go_wp2_with fail
          refine (hears_any m l x A n c pb _ (hcp'.out _) m0 (by omega) x0 x1).mono ?_
          rintro e w2 ⟨rfl, hbel⟩
          have h2 := Chg.of_below hbel (fun i => some i = A.map (·.block))
          have ho2 := run_own ho bQ hbel
          clear hbel
          have bS2 := run_box bS ho d2 h2
          obtain ⟨y0, y1, y2, z0, z1, z2⟩ := bS2.three
          clear bS2
          unfold wrV
          go_wp2
          go_roundg 0
          case measure => omega
          case rel => exact run_next (m' := m + x) (l' := l) (A' := A) (ls' := ls) (WA' := (some ⟨b, off, none⟩)) (ts' := []) ch hQL hL bQ bS bR (fun j a h => by simp at h) ho h2 ho2 rfl (by omega) (by omega) (by simp) (by omega) (by omega) (by omega) (by omega) (by omega) E.out.1 E.out.2.1 E.out.2.2
        · simp only [stageV] at hc
          go_wp2_with fail
          refine (writes_any m l x A n c pb _ (hcp'.out _) m0 (by omega) x0 x1).mono ?_
          rintro e w2 ⟨rfl, hbel⟩
          have h2 := Chg.of_below hbel (fun i => some i = A.map (·.block))
          have ho2 := run_own ho bQ hbel
          clear hbel
          have bS2 := run_box bS ho d2 h2
          obtain ⟨y0, y1, y2, z0, z1, z2⟩ := bS2.three
          clear bS2
          unfold wrV
          go_wp2
          go_roundg 0
          case measure => omega
          case rel => exact run_next (m' := m - min m x) (l' := l) (A' := A) (ls' := ls) (WA' := (some ⟨b, off, none⟩)) (ts' := []) ch hQL hL bQ bS bR (fun j a h => by simp at h) ho h2 ho2 rfl (by omega) (by omega) (by simp) (by omega) (by omega) (by omega) (by omega) (by omega) E.out.1 E.out.2.1 E.out.2.2
        · simp only [stageV] at hc
          go_wp2_with fail
          refine (holds_any m l x A n c pb L wr.heap.size ls _ (hcp'.out _) (ho.set_far Q 0 nQ _) (by simpa [World.setCell] using hLr) (by omega) m0 (by omega) x0 x1 l0 (by omega)).mono ?_
          rintro e w2 ⟨g, c', rfl, ho2, hg⟩
          have h2 := Chg.of_grown hg
          clear hg
          have bS2 := run_box bS ho d2 h2
          obtain ⟨y0, y1, y2, z0, z1, z2⟩ := bS2.three
          clear bS2
          unfold wrV
          go_wp2
          go_roundg 0
          case measure => omega
          case rel => exact run_next (m' := min m x) (l' := l + (m - min m x)) (A' := (some ⟨g, 0, none⟩)) (ls' := (ls ++ [min m x])) (WA' := (some ⟨b, off, none⟩)) (ts' := []) ch hQL hL bQ bS bR (fun j a h => by simp at h) ho h2 ho2 rfl (by omega) (by omega) (by simp) (by omega) (by omega) (by omega) (by omega) (by omega) E.out.1 E.out.2.1 E.out.2.2
      · have h1' : ((wc : Int) == 1) = false := by simp; omega
        have hlen : ((k' : Int) + 1 - 1) = (k' : Int) := by omega
        have hkk := hk'
        have hs_' := hs'
        clear hk' hs'
        obtain rfl | rfl | rfl : a1 = 0 ∨ a1 = 1 ∨ a1 = 2 := by omega
        · simp only [stageV, Nat.add_zero] at hc
          go_wp2_with fail
          refine (hears_any m l x A n c pb _ (hcp'.out _) m0 (by omega) x0 x1).mono ?_
          rintro e w2 ⟨rfl, hbel⟩
          have h2 := Chg.of_below hbel (fun i => some i = A.map (·.block))
          have ho2 := run_own ho bQ hbel
          clear hbel
          have bS2 := run_box bS ho d2 h2
          obtain ⟨y0, y1, y2, z0, z1, z2⟩ := bS2.three
          clear bS2
          unfold wrV
          go_wp2
          go_roundg k'
          case measure => omega
          case rel => exact run_next (m' := m + x) (l' := l) (A' := A) (ls' := ls) (WA' := (some ⟨b, off + 1, none⟩)) (ts' := ts') ch hQL hL bQ bS bR hw' ho h2 ho2 hkk.out (by omega) (by omega) hs_' (by omega) (by omega) (by omega) (by omega) (by omega) E.out.1 E.out.2.1 E.out.2.2
        · simp only [stageV] at hc
          go_wp2_with fail
          refine (writes_any m l x A n c pb _ (hcp'.out _) m0 (by omega) x0 x1).mono ?_
          rintro e w2 ⟨rfl, hbel⟩
          have h2 := Chg.of_below hbel (fun i => some i = A.map (·.block))
          have ho2 := run_own ho bQ hbel
          clear hbel
          have bS2 := run_box bS ho d2 h2
          obtain ⟨y0, y1, y2, z0, z1, z2⟩ := bS2.three
          clear bS2
          unfold wrV
          go_wp2
          go_roundg k'
          case measure => omega
          case rel => exact run_next (m' := m - min m x) (l' := l) (A' := A) (ls' := ls) (WA' := (some ⟨b, off + 1, none⟩)) (ts' := ts') ch hQL hL bQ bS bR hw' ho h2 ho2 hkk.out (by omega) (by omega) hs_' (by omega) (by omega) (by omega) (by omega) (by omega) E.out.1 E.out.2.1 E.out.2.2
        · simp only [stageV] at hc
          go_wp2_with fail
          refine (holds_any m l x A n c pb L wr.heap.size ls _ (hcp'.out _) (ho.set_far Q 0 nQ _) (by simpa [World.setCell] using hLr) (by omega) m0 (by omega) x0 x1 l0 (by omega)).mono ?_
          rintro e w2 ⟨g, c', rfl, ho2, hg⟩
          have h2 := Chg.of_grown hg
          clear hg
          have bS2 := run_box bS ho d2 h2
          obtain ⟨y0, y1, y2, z0, z1, z2⟩ := bS2.three
          clear bS2
          unfold wrV
          go_wp2
          go_roundg k'
          case measure => omega
          case rel => exact run_next (m' := min m x) (l' := l + (m - min m x)) (A' := (some ⟨g, 0, none⟩)) (ls' := (ls ++ [min m x])) (WA' := (some ⟨b, off + 1, none⟩)) (ts' := ts') ch hQL hL bQ bS bR hw' ho h2 ho2 hkk.out (by omega) (by omega) hs_' (by omega) (by omega) (by omega) (by omega) (by omega) E.out.1 E.out.2.1 E.out.2.2
end Go.Proofs.Ytcgiehdpdnipbaa
