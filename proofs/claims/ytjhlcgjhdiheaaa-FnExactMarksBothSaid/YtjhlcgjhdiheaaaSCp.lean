/- A copy of a mark by the reference. -/
import Derived.Test.YtjhlcgjhdiheaaaBo2
import Derived.Deep.RegionLaw
namespace Go.Proofs.Ytjhlcgjhdiheaaa
open Go.RowKit
set_option linter.unusedVariables false
set_option linter.unusedSimpArgs false

/-- a list of strings appended to a row of the call's own, as a step of a region that draws its order -/
theorem step_catS {ops : Array Oper} {o : Oper} {a : Act} {K : Act → World → Prop} {Q : Exit → Act → World → Prop} {E : Prop} {w : World} (hgd : o.guard = none) (s x : Operand)
    (ho : o.op = .call { callee := .builtin .append, args := #[s, x], argTypes := #[22, 22] })
    (lo hi : Nat) (A : Option Addr) (n c : Nat) (xs : List ByteArray) (hs : a.eval s = .slice A n c) (hown : OwnS w lo hi A n c xs)
    (B : Option Addr) (m d : Nat) (ys : List ByteArray) (hx : a.eval x = .slice B m d) (hy : Strs w B m ys) (hd : B = none → d = 0) (hn : n + m ≤ 4194304) (hlo : lo ≤ w.heap.size)
    (h : ∀ A' c' w', OwnS w' lo w'.heap.size A' (n + m) c' (xs ++ ys) → w.grownBy w' (A.map (·.block)) → K (a.put o.dst (.slice A' (n + m) c')) w') :
    if Region.wanted o (yielded ops a.tmps) = true then Oper.wp Try.prog o a w K Q else E := by
  have hw : Region.wanted o (yielded ops a.tmps) = true := by simp [Region.wanted, hgd]
  rw [if_pos hw]
  obtain ⟨i0, hi0, hz0, hz1, hz2⟩ := info_parts Try.infoStr
  have hwf : ∀ z ∈ xs ++ ys, Sz z := fun z hz => by
    rcases List.mem_append.1 hz with h1 | h1
    · exact hown.2.1 z h1
    · exact hy.wf z h1
  cases B with
  | none =>
    have hm : m = 0 := by
      rcases Nat.eq_zero_or_pos m with h0 | h0
      · exact h0
      · obtain ⟨b, off, e, _⟩ := hy.2.2 h0
        cases e
    subst hm
    obtain rfl : ys = [] := List.eq_nil_of_length_eq_zero hy.len
    obtain rfl := hd rfl
    have hrun := run_append_owned_none (P := Try.prog) (w := w) lo 22 o.type 9 i0 1 Try.underlying22 hi0 (.slice A n c) n _ hown.1
    have := h A c w (by simpa using hown.wide (Nat.le_refl _) hown.2.2.1 (Nat.le_refl _)) (World.grownBy.refl _ _)
    unfold Oper.wp
    simp [execOp, ho, resolve, invoke, builtin, hs, hx, hrun, Result.andThen]
    exact this
  | some ad =>
    refine wp_append_own w s x 22 ho lo 9 i0 (.string ⟨#[]⟩) 1 16 Try.underlying22 hi0 hz0 hz1 hz2 rfl (by omega) (.slice A n c) n (xs.map (Value.string)) hs hown.1
      ad m d (ys.map (Value.string)) hx (by simp [hy.len]) hy.news (by simp [Value.oneCell']) (by unfold maxLen; omega) (by omega) hlo ?_
    intro v' w' hown' hg _
    rw [← List.map_append] at hown'
    obtain ⟨A', c', rfl, ho'⟩ := own_valueS hown' hwf
    refine h A' c' w' ho' ?_
    rw [ownBlock_slice] at hg
    exact hg
theorem own_emptyD (W w0 : World) (q : Nat) (hq : W = w0.drewN q) : OwnS (W.alloc (.cells #[] 9)) W.heap.size (W.heap.size + 1) (some ⟨W.heap.size, 0, none⟩) 0 0 [] := own_emptyS W W.heap.size (Nat.le_refl _)
set_option maxHeartbeats 1000000 in
theorem l7copy_any (x : M) (B : Option Addr) (n d : Nat) (w : World) (hn : n ≤ 20) (h : PutIn w B n d x.put) :
    Calls Try.prog 77 #[mv x B n d] w fun e w' => ∃ A' c', e = .returned (mv x A' n c') ∧ OwnS w' w.heap.size w'.heap.size A' n c' x.put ∧ Below w.heap.size w w' := by
  obtain ⟨xa, xc, xp⟩ := x
  have hd := h.2.2.2
  have hS := h.1
  dsimp only at hS
  clear h
  show Calls Try.prog 77 #[.agg #[.int .i64 xa, .int .i64 xc, .slice B n d]] w fun e w' => ∃ A' c', e = .returned (.agg #[.int .i64 xa, .int .i64 xc, .slice A' n c']) ∧ OwnS w' w.heap.size w'.heap.size A' n c' xp ∧ Below w.heap.size w w'
  have bA : Below w.heap.size w ((w.alloc (.cells #[.int .i64 xa, .int .i64 xc, .slice B n d] 58)).alloc (.cells #[.int .i64 0, .int .i64 0, .slice none 0 0] 58)) := ((Below.refl _ _).alloc (Nat.le_refl _) _).alloc (by simp) _
  have x1 := (Blk.new w 58 #[.int .i64 xa, .int .i64 xc, .slice B n d]).alloc (.cells #[.int .i64 0, .int .i64 0, .slice none 0 0] 58)
  have x2 := blk_newAt (w := w.alloc (.cells #[.int .i64 xa, .int .i64 xc, .slice B n d] 58)) (g := w.heap.size + 1) 58 #[.int .i64 0, .int .i64 0, .slice none 0 0] (by simp)
  have sW0 : ((w.alloc (.cells #[.int .i64 xa, .int .i64 xc, .slice B n d] 58)).alloc (.cells #[.int .i64 0, .int .i64 0, .slice none 0 0] 58)).heap.size = w.heap.size + 2 := by simp
  have sW := Lib.hid sW0
  clear sW0
  have hS2 := hS.below bA
  go_enter Try.func77, Try.ntmps77
  go_wp2_with fail
  generalize (w.alloc (.cells #[.int .i64 xa, .int .i64 xc, .slice B n d] 58)).alloc (.cells #[.int .i64 0, .int .i64 0, .slice none 0 0] 58) = W at *
  have X1 := Lib.hid x1
  have X2 := Lib.hid x2
  have HS := Lib.hid hS2
  have BA := Lib.hid bA
  have bD : Below W.heap.size W (W.alloc (.cells #[] 9)).drew := below_drewN ((Below.refl _ _).alloc (Nat.le_refl _) _) 1
  have HSD := Lib.hid (HS.out.below bD)
  have HX1 := Lib.hid (show Blk (W.alloc (.cells #[] 9)).drew w.heap.size 58 #[.int .i64 xa, .int .i64 xc, .slice B n d] from x1.alloc (.cells #[] 9))
  have HX2 := Lib.hid (show Blk (W.alloc (.cells #[] 9)).drew (w.heap.size + 1) 58 #[.int .i64 0, .int .i64 0, .slice none 0 0] from x2.alloc (.cells #[] 9))
  have HE0 := Lib.hid (show OwnS (W.alloc (.cells #[] 9)).drew W.heap.size (W.heap.size + 1) (some ⟨W.heap.size, 0, none⟩) 0 0 [] from own_emptyS W W.heap.size (Nat.le_refl _))
  have lw1 : w.heap.size + 1 < W.heap.size := by have := sW.out; omega
  have lw : w.heap.size < W.heap.size := by have := sW.out; omega
  have y1 := x1.alloc (.cells #[] 9)
  have d0 : ((W.alloc (.cells #[] 9)).drew).cell? ⟨w.heap.size, 0, none⟩ = some (.int .i64 xa) := y1.cell 0
  have d1 : ((W.alloc (.cells #[] 9)).drew).cell? ⟨w.heap.size, 1, none⟩ = some (.int .i64 xc) := y1.cell 1
  have d2 : ((W.alloc (.cells #[] 9)).drew).cell? ⟨w.heap.size, 2, none⟩ = some (.slice B n d) := y1.cell 2
  have c0 := x1.cell 0
  have c1 := x1.cell 1
  have c2 := x1.cell 2
  simp at c0 c1 c2
  clear x1 x2 hS hS2 bA
  go_region_law (go_loud (refine step_catS rfl (.tmp 7) (.tmp 9) rfl W.heap.size (W.heap.size + 1) (some ⟨W.heap.size, 0, none⟩) 0 0 [] rfl HE0.out B n d xp rfl HSD.out hd (by omega) (by simp [World.drew]) ?_; intro A4 c4 w4 o4 g4; have z2 := HX2.out.grown g4 (by simp; omega); have z1 := HX1.out.grown g4 (by simp; omega); have p0 := z1.cell 0; have p1 := z1.cell 1; have p2 := z1.cell 2; simp at p0 p1 p2; have q0 := z2.cell 0; have q1 := z2.cell 1; have q2 := z2.cell 2; simp at q0 q1 q2; have r0 := z2.free 0; have r1 := z2.free 1; have r2 := z2.free 2))
  all_goals
    have b4 : Below w.heap.size w w4 := below_only (BA.out.trans (bD.mono BA.out.size)) g4 (fun g e => by simp at e; omega)
    have b5 := ((b4.setCell (p := ⟨w.heap.size + 1, 0, none⟩) (by show w.heap.size ≤ w.heap.size + 1; omega) (.int .i64 xa)).setCell (p := ⟨w.heap.size + 1, 1, none⟩) (by show w.heap.size ≤ w.heap.size + 1; omega) (.int .i64 xc)).setCell (p := ⟨w.heap.size + 1, 2, none⟩) (by show w.heap.size ≤ w.heap.size + 1; omega) (.slice A4 n c4)
    have z5 : Blk (((w4.setCell ⟨w.heap.size + 1, 0, none⟩ (.int .i64 xa)).setCell ⟨w.heap.size + 1, 1, none⟩ (.int .i64 xc)).setCell ⟨w.heap.size + 1, 2, none⟩ (.slice A4 n c4)) (w.heap.size + 1) 58 #[.int .i64 xa, .int .i64 xc, .slice A4 n c4] := ((z2.put 0 (.int .i64 xa)).put 1 (.int .i64 xc)).put 2 (.slice A4 n c4)
    have hne : some (w.heap.size + 1) ≠ A4.map (·.block) := fun e => by
      cases A4 with
      | none => cases e
      | some a =>
        have h1 := (o4.lo_le a rfl).1
        simp at e
        omega
    rw [List.nil_append, Nat.zero_add] at o4
    have o5 := ((o4.set_far (w.heap.size + 1) 0 hne (.int .i64 xa)).set_far (w.heap.size + 1) 1 hne (.int .i64 xc)).set_far (w.heap.size + 1) 2 hne (.slice A4 n c4)
    have s5 : (((w4.setCell ⟨w.heap.size + 1, 0, none⟩ (.int .i64 xa)).setCell ⟨w.heap.size + 1, 1, none⟩ (.int .i64 xc)).setCell ⟨w.heap.size + 1, 2, none⟩ (.slice A4 n c4)).heap.size = w4.heap.size := by simp [World.setCell]
    have o6 := o5.wide (lo' := w.heap.size) (by omega) (Nat.le_of_eq s5.symm) (Nat.le_refl _)
    clear s5 o5 o4 g4 b4 z2 z1 p0 p1 p2 q0 q1 q2 r0 r1 r2 d0 d1 d2 c0 c1 c2 y1 HX1 HX2 HE0 HSD hne
    generalize ((w4.setCell ⟨w.heap.size + 1, 0, none⟩ (.int .i64 xa)).setCell ⟨w.heap.size + 1, 1, none⟩ (.int .i64 xc)).setCell ⟨w.heap.size + 1, 2, none⟩ (.slice A4 n c4) = W5 at *
    have e0 := z5.cell 0
    have e1 := z5.cell 1
    have e2 := z5.cell 2
    simp at e0 e1 e2
    go_wp2_with fail
    refine bodyPost_ret (v := .agg #[.int .i64 xa, .int .i64 xc, .slice A4 n c4]) ?_ rfl ⟨A4, c4, rfl, o6, b5⟩
    simp [results, Try.results77, go_sem, e0, e1, e2]
end Go.Proofs.Ytjhlcgjhdiheaaa
