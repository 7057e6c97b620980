/- The program's changes: marks of three kinds, and what they leave. -/
import Derived.Test.YtjhlcgjhdiheaaaDoorDo
import Derived.Lib.SliceRun
import Derived.Deep.RegionLaw
import Derived.Deep.RegionWith
namespace Go.Proofs.YtjhlcgjhdiheaaaDoor
open Go.RowKit
set_option linter.unusedVariables false
set_option linter.unusedSimpArgs false

set_option maxRecDepth 4000 in
set_option maxHeartbeats 400000 in
theorem clone_any (A : Option Addr) (n c : Nat) (xs : List ByteArray) (w : World) (hn : n ≤ 1000) (h : PutIn w A n c xs) :
    Calls Tryd.prog 78 #[.slice A n c] w fun e w' => ∃ A' n' c', e = .returned (.slice A' n' c') ∧ OwnS w' w.heap.size w'.heap.size A' n' c' xs ∧ Below w.heap.size w w' := by
  cases A with
  | none =>
    obtain rfl : c = 0 := h.2.2.2 rfl
    obtain rfl : n = 0 := by have := h.2.1; omega
    obtain rfl : xs = [] := List.eq_nil_of_length_eq_zero h.len
    have he : ∀ W, Sem.run Tryd.prog (binOp .eql 23 (.slice none 0 0) (.slice none 0 0)) W = .ok (.bool true) W := fun W => Lib.run_eql_slice_nil W 23 9 none 0 0 0 0 Tryd.underlying23
    go_enter Tryd.func78, Tryd.ntmps78
    go_wp2_with fail
    go_ret
    exact ⟨_, _, _, rfl, OwnS.nil _ _ _ (Nat.le_refl _), Below.refl _ _⟩
  | some a =>
    have hemp : OwnS (w.alloc (.cells #[] 9)) w.heap.size (w.heap.size + 1) (some ⟨w.heap.size, 0, none⟩) 0 0 [] := own_emptyS w w.heap.size (Nat.le_refl _)
    have b0 : Below w.heap.size w (w.alloc (.cells #[] 9)) := (Below.refl _ _).alloc (Nat.le_refl _) _
    have hE := Lib.hid hemp
    clear hemp
    have he : ∀ W, Sem.run Tryd.prog (binOp .eql 23 (.slice (some a) n c) (.slice none 0 0)) W = .ok (.bool false) W := fun W => Lib.run_eql_slice_nil W 23 9 (some a) n c 0 0 Tryd.underlying23
    go_enter Tryd.func78, Tryd.ntmps78
    go_wp2_with (at_builtin; refine wpList_catS _ rfl (.tmp 5) (.tmp 6) rfl w.heap.size (w.heap.size + 1) (some ⟨w.heap.size, 0, none⟩) 0 0 [] rfl hE.out (some a) n c xs rfl (h.1.below b0) h.2.2.2 (by omega) b0.size ?_; intro A2 c2 w2 o2 g2; have b2 := below_cat b0 g2 (fun a ha => by injection ha with ha; subst ha; exact Nat.le_refl _))
    rw [List.nil_append, Nat.zero_add] at o2
    go_ret
    exact ⟨_, _, _, rfl, o2, b2⟩
def MarkPost (w : World) (m : M) (e : Ending) (w' : World) : Prop := ∃ A n c, e = .returned (mv m A n c) ∧ OwnS w' w.heap.size w'.heap.size A n c m.put ∧ Below w.heap.size w w'
set_option maxHeartbeats 400000 in
theorem leaving_any (x y : Int) (w : World) : Calls Tryd.prog 76 #[.agg #[.int .i64 x, .int .i64 y]] w (MarkPost w ⟨x, y, []⟩) := by
  have b2 : Below w.heap.size w ((w.alloc (.cells #[.int .i64 x, .int .i64 y] 75)).alloc (.cells #[.int .i64 x, .int .i64 y, .slice (some ⟨w.heap.size + 1 + 1, 0, none⟩) 0 0] 46)) := ((Below.refl _ _).alloc (Nat.le_refl _) _).alloc (by simp) _
  have k2 := Blk.new (w.alloc (.cells #[.int .i64 x, .int .i64 y] 75)) 46 #[.int .i64 x, .int .i64 y, .slice (some ⟨w.heap.size + 1 + 1, 0, none⟩) 0 0]
  have hs1 : (w.alloc (.cells #[.int .i64 x, .int .i64 y] 75)).heap.size = w.heap.size + 1 := by simp
  rw [hs1] at k2
  have hs2 : ((w.alloc (.cells #[.int .i64 x, .int .i64 y] 75)).alloc (.cells #[.int .i64 x, .int .i64 y, .slice (some ⟨w.heap.size + 1 + 1, 0, none⟩) 0 0] 46)).heap.size = w.heap.size + 1 + 1 := by simp
  have K2 := Lib.hid k2
  have HS := Lib.hid hs2
  clear hs1 hs2 k2
  go_enter Tryd.func76, Tryd.ntmps76
  go_wp2_with fail
  generalize (w.alloc (.cells #[.int .i64 x, .int .i64 y] 75)).alloc (.cells #[.int .i64 x, .int .i64 y, .slice (some ⟨w.heap.size + 1 + 1, 0, none⟩) 0 0] 46) = W at *
  have k3 := K2.out.alloc (.cells #[] 9)
  have c0 := k3.cell 0
  have c1 := k3.cell 1
  have c2 := k3.cell 2
  simp at c0 c1 c2
  have o3 := own_emptyS W w.heap.size b2.size
  rw [HS.out] at o3
  refine bodyPost_ret (v := .agg #[.int .i64 x, .int .i64 y, .slice (some ⟨w.heap.size + 1 + 1, 0, none⟩) 0 0]) ?_ rfl ⟨_, 0, 0, rfl, o3.wide (Nat.le_refl _) (by rw [← HS.out]; simp) (Nat.le_refl _), b2.alloc b2.size _⟩
  simp [results, Tryd.results76, go_sem, c0, c1, c2]
set_option maxRecDepth 10000 in
set_option maxHeartbeats 400000 in
theorem putting_any (x : Int) (A : Option Addr) (n c : Nat) (xs : List ByteArray) (w : World) (hn : n ≤ 1000) (h : PutIn w A n c xs) : Calls Tryd.prog 77 #[.agg #[.int .i64 x, .slice A n c]] w (MarkPost w ⟨x, 0, xs⟩) := by
  have b2 : Below w.heap.size w ((w.alloc (.cells #[.int .i64 x, .slice A n c] 77)).alloc (.cells #[.int .i64 0, .int .i64 0, .slice none 0 0] 46)) := ((Below.refl _ _).alloc (Nat.le_refl _) _).alloc (by simp) _
  have k2 := Blk.new (w.alloc (.cells #[.int .i64 x, .slice A n c] 77)) 46 #[.int .i64 0, .int .i64 0, .slice none 0 0]
  have hs1 : (w.alloc (.cells #[.int .i64 x, .slice A n c] 77)).heap.size = w.heap.size + 1 := by simp
  rw [hs1] at k2
  have h2 : PutIn ((w.alloc (.cells #[.int .i64 x, .slice A n c] 77)).alloc (.cells #[.int .i64 0, .int .i64 0, .slice none 0 0] 46)).drew A n c xs := h.below (below_drewN b2 1)
  have k3 : Blk ((w.alloc (.cells #[.int .i64 x, .slice A n c] 77)).alloc (.cells #[.int .i64 0, .int .i64 0, .slice none 0 0] 46)).drew (w.heap.size + 1) 46 #[.int .i64 0, .int .i64 0, .slice none 0 0] := k2
  have b3 : Below w.heap.size w ((w.alloc (.cells #[.int .i64 x, .slice A n c] 77)).alloc (.cells #[.int .i64 0, .int .i64 0, .slice none 0 0] 46)).drew := below_drewN b2 1
  have k1 : Blk ((w.alloc (.cells #[.int .i64 x, .slice A n c] 77)).alloc (.cells #[.int .i64 0, .int .i64 0, .slice none 0 0] 46)).drew w.heap.size 77 #[.int .i64 x, .slice A n c] := (Blk.new w 77 #[.int .i64 x, .slice A n c]).alloc _
  have K1 := Lib.hid k1
  clear k1
  have H2 := Lib.hid h2
  have K3 := Lib.hid k3
  have B3 := Lib.hid b3
  clear hs1 k2 k3 h2 b2 b3 h
  go_enter Tryd.func77, Tryd.ntmps77
  go_wp2_with fail
  go_region_with (go_at_call 78; refine (clone_any A n c xs _ hn H2.out).mono ?_; rintro e w1 ⟨A', n', c', rfl, ho, hb⟩; have j2 := K3.out.below hb K3.out.lt; have c0 := j2.cell 0; have c1 := j2.cell 1; have c2 := j2.cell 2; have j1 := K1.out.below hb K1.out.lt; have d0 := j1.cell 0; have d1 := j1.cell 1; simp at c0 c1 c2 d0 d1; have f0 := j2.free 0; have f1 := j2.free 1; have f2 := j2.free 2; have hlt := j2.lt; have J2 := Lib.hid j2; have HO := Lib.hid ho; have HB := Lib.hid hb; clear ho hb j1 j2)
  all_goals
    have hb3 := B3.out.trans (HB.out.mono B3.out.size)
    have hne := HO.out.ne_blk J2.out (by decide)
    go_wp2_with fail
    refine bodyPost_ret (v := .agg #[.int .i64 x, .int .i64 0, .slice A' n' c']) ?_ rfl ⟨A', n', c', rfl, ?_, ?_⟩
    · simp [results, Tryd.results77, go_sem, c0, c1, c2, hlt]
    · have o1 := (((HO.out.wide (lo' := w.heap.size) B3.out.size (Nat.le_refl _) (Nat.le_refl _)).set_far (w.heap.size + 1) 0 hne (.int .i64 x)).set_far (w.heap.size + 1) 1 hne (.int .i64 0)).set_far (w.heap.size + 1) 2 hne (.slice A' n' c')
      simpa [World.setCell] using o1
    · exact ((hb3.setCell (p := ⟨w.heap.size + 1, 0, none⟩) (by show _ ≤ w.heap.size + 1; omega) _).setCell (p := ⟨w.heap.size + 1, 1, none⟩) (by show _ ≤ w.heap.size + 1; omega) _).setCell (p := ⟨w.heap.size + 1, 2, none⟩) (by show _ ≤ w.heap.size + 1; omega) _
set_option maxRecDepth 10000 in
set_option maxHeartbeats 4000000 in
theorem replacing_any (x y : Int) (A : Option Addr) (n c : Nat) (xs : List ByteArray) (w : World) (hn : n ≤ 1000) (h : PutIn w A n c xs) : Calls Tryd.prog 79 #[.agg #[.int .i64 x, .int .i64 y, .slice A n c]] w (MarkPost w ⟨x, y, xs⟩) := by
  have b2 : Below w.heap.size w ((w.alloc (.cells #[.int .i64 x, .int .i64 y, .slice A n c] 79)).alloc (.cells #[.int .i64 0, .int .i64 0, .slice none 0 0] 46)) := ((Below.refl _ _).alloc (Nat.le_refl _) _).alloc (by simp) _
  have k2 := Blk.new (w.alloc (.cells #[.int .i64 x, .int .i64 y, .slice A n c] 79)) 46 #[.int .i64 0, .int .i64 0, .slice none 0 0]
  have hs1 : (w.alloc (.cells #[.int .i64 x, .int .i64 y, .slice A n c] 79)).heap.size = w.heap.size + 1 := by simp
  rw [hs1] at k2
  have h2 : PutIn ((w.alloc (.cells #[.int .i64 x, .int .i64 y, .slice A n c] 79)).alloc (.cells #[.int .i64 0, .int .i64 0, .slice none 0 0] 46)).drew A n c xs := h.below (below_drewN b2 1)
  have k3 : Blk ((w.alloc (.cells #[.int .i64 x, .int .i64 y, .slice A n c] 79)).alloc (.cells #[.int .i64 0, .int .i64 0, .slice none 0 0] 46)).drew (w.heap.size + 1) 46 #[.int .i64 0, .int .i64 0, .slice none 0 0] := k2
  have b3 : Below w.heap.size w ((w.alloc (.cells #[.int .i64 x, .int .i64 y, .slice A n c] 79)).alloc (.cells #[.int .i64 0, .int .i64 0, .slice none 0 0] 46)).drew := below_drewN b2 1
  have k1 : Blk ((w.alloc (.cells #[.int .i64 x, .int .i64 y, .slice A n c] 79)).alloc (.cells #[.int .i64 0, .int .i64 0, .slice none 0 0] 46)).drew w.heap.size 79 #[.int .i64 x, .int .i64 y, .slice A n c] := (Blk.new w 79 #[.int .i64 x, .int .i64 y, .slice A n c]).alloc _
  have K1 := Lib.hid k1
  clear k1
  have H2 := Lib.hid h2
  have K3 := Lib.hid k3
  have B3 := Lib.hid b3
  clear hs1 k2 k3 h2 b2 b3 h
  go_enter Tryd.func79, Tryd.ntmps79
  go_wp2_with fail
  go_region_with (go_at_call 78; refine (clone_any A n c xs _ hn H2.out).mono ?_; rintro e w1 ⟨A', n', c', rfl, ho, hb⟩; have j2 := K3.out.below hb K3.out.lt; have c0 := j2.cell 0; have c1 := j2.cell 1; have c2 := j2.cell 2; have j1 := K1.out.below hb K1.out.lt; have d0 := j1.cell 0; have d1 := j1.cell 1; have d2 := j1.cell 2; simp at c0 c1 c2 d0 d1 d2; have f0 := j2.free 0; have f1 := j2.free 1; have f2 := j2.free 2; have hlt := j2.lt; have J2 := Lib.hid j2; have HO := Lib.hid ho; have HB := Lib.hid hb; clear ho hb j1 j2)
  all_goals
    have hb3 := B3.out.trans (HB.out.mono B3.out.size)
    have hne := HO.out.ne_blk J2.out (by decide)
    go_wp2_with fail
    refine bodyPost_ret (v := .agg #[.int .i64 x, .int .i64 y, .slice A' n' c']) ?_ rfl ⟨A', n', c', rfl, ?_, ?_⟩
    · simp [results, Tryd.results79, go_sem, c0, c1, c2, hlt]
    · have o1 := (((HO.out.wide (lo' := w.heap.size) B3.out.size (Nat.le_refl _) (Nat.le_refl _)).set_far (w.heap.size + 1) 0 hne (.int .i64 x)).set_far (w.heap.size + 1) 1 hne (.int .i64 y)).set_far (w.heap.size + 1) 2 hne (.slice A' n' c')
      simpa [World.setCell] using o1
    · exact ((hb3.setCell (p := ⟨w.heap.size + 1, 0, none⟩) (by show _ ≤ w.heap.size + 1; omega) _).setCell (p := ⟨w.heap.size + 1, 1, none⟩) (by show _ ≤ w.heap.size + 1; omega) _).setCell (p := ⟨w.heap.size + 1, 2, none⟩) (by show _ ≤ w.heap.size + 1; omega) _
end Go.Proofs.YtjhlcgjhdiheaaaDoor

