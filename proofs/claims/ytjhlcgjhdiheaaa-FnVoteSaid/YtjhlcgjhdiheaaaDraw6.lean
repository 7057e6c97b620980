/- Three transcripts are drawn. -/
import Derived.Test.YtjhlcgjhdiheaaaDraw5
namespace Go.Proofs.Ytjhlcgjhdiheaaa
open Go.RowKit
set_option linter.unusedVariables false
set_option linter.unusedSimpArgs false

def VotePost (w : World) (e : Ending) (w' : World) : Prop := ∃ A n c xs B m d ys C l q zs, e = .returned (.tuple #[.slice A n c, .slice B m d, .slice C l q]) ∧ n ≤ 8 ∧ m ≤ 9 ∧ l ≤ 9 ∧ PutIn w' A n c xs ∧ PutIn w' B m d ys ∧ PutIn w' C l q zs ∧ Below w.heap.size w w'
/-- three lists of the call's own, one behind the other, and the reader -/
def Three (w W : World) (K : Int) (n : Nat) (A B C : Option Addr) (c d q : Nat) : Prop :=
  ∃ l1 l2 l3 l4 xs ys zs, w.heap.size < l1 ∧ l1 ≤ l2 ∧ l2 ≤ l3 ∧ l3 ≤ l4 ∧ OwnS W l1 l2 A n c xs ∧ OwnS W l2 l3 B n d ys ∧ OwnS W l3 l4 C n q zs ∧ RdB W w.heap.size K ∧ Below w.heap.size w W
section
variable {w W W' : World} {K K' : Int} {n c d q : Nat} {A B C : Option Addr}
theorem Three.rd (h : Three w W K n A B C c d q) : RdB W w.heap.size K := by obtain ⟨l1, l2, l3, l4, xs, ys, zs, h0, h1, h2, h3, o1, o2, o3, hr, hb⟩ := h; exact hr
theorem Three.pick (h : Three w W K n A B C c d q) (hr : RdB W' w.heap.size K') (hg : W.grownBy W' (some w.heap.size)) : Three w W' K' n A B C c d q := by
  obtain ⟨l1, l2, l3, l4, xs, ys, zs, h0, h1, h2, h3, o1, o2, o3, _, hb⟩ := h
  exact ⟨l1, l2, l3, l4, xs, ys, zs, h0, h1, h2, h3, o1.far hg (fun g e => by injection e with e; omega), o2.far hg (fun g e => by injection e with e; omega), o3.far hg (fun g e => by injection e with e; omega), hr, below_only hb hg (fun g e => by injection e with e; omega)⟩
theorem Three.alloc (h : Three w W K n A B C c d q) (o : Obj) : Three w (W.alloc o) K n A B C c d q := by
  obtain ⟨l1, l2, l3, l4, xs, ys, zs, h0, h1, h2, h3, o1, o2, o3, hr, hb⟩ := h
  exact ⟨l1, l2, l3, l4, xs, ys, zs, h0, h1, h2, h3, o1.alloc o, o2.alloc o, o3.alloc o, hr.alloc o, hb.alloc hb.size o⟩
theorem Three.atB (h : Three w W K n A B C c d q) {k : Nat} (hk : k < n) : ∃ g x, B = some ⟨g, 0, none⟩ ∧ W.cell? ⟨g, k, none⟩ = some (.string x) ∧ W.frozen? ⟨g, k, none⟩ = false ∧ n ≤ d := by
  obtain ⟨l1, l2, l3, l4, xs, ys, zs, h0, h1, h2, h3, o1, o2, o3, hr, hb⟩ := h
  obtain ⟨g, x, e, _, _, _, _, c0, f0⟩ := o2.at_ hk
  exact ⟨g, x, e, c0, f0, o2.cap_le⟩
theorem Three.atC (h : Three w W K n A B C c d q) {k : Nat} (hk : k < n) : ∃ g x, C = some ⟨g, 0, none⟩ ∧ W.cell? ⟨g, k, none⟩ = some (.string x) ∧ W.frozen? ⟨g, k, none⟩ = false ∧ n ≤ q := by
  obtain ⟨l1, l2, l3, l4, xs, ys, zs, h0, h1, h2, h3, o1, o2, o3, hr, hb⟩ := h
  obtain ⟨g, x, e, _, _, _, _, c0, f0⟩ := o3.at_ hk
  exact ⟨g, x, e, c0, f0, o3.cap_le⟩
theorem Three.setB {g k : Nat} {x : ByteArray} (h : Three w W K n A (some ⟨g, 0, none⟩) C c d q) (hx : Sz x) : Three w (W.setCell ⟨g, k, none⟩ (.string x)) K n A (some ⟨g, 0, none⟩) C c d q := by
  obtain ⟨l1, l2, l3, l4, xs, ys, zs, h0, h1, h2, h3, o1, o2, o3, hr, hb⟩ := h
  have hg := grown_setCell W g k (.string x)
  have hl := o2.lo_le _ rfl
  dsimp only at hl
  exact ⟨l1, l2, l3, l4, xs, _, zs, h0, h1, h2, h3, o1.far hg (fun g e => by injection e with e; omega), o2.store hx, o3.far hg (fun g e => by injection e with e; omega), hr.grown hg (fun g e => by injection e with e; omega), below_only hb hg (fun g e => by injection e with e; omega)⟩
theorem Three.setC {g k : Nat} {x : ByteArray} (h : Three w W K n A B (some ⟨g, 0, none⟩) c d q) (hx : Sz x) : Three w (W.setCell ⟨g, k, none⟩ (.string x)) K n A B (some ⟨g, 0, none⟩) c d q := by
  obtain ⟨l1, l2, l3, l4, xs, ys, zs, h0, h1, h2, h3, o1, o2, o3, hr, hb⟩ := h
  have hg := grown_setCell W g k (.string x)
  have hl := o3.lo_le _ rfl
  dsimp only at hl
  exact ⟨l1, l2, l3, l4, xs, ys, _, h0, h1, h2, h3, o1.far hg (fun g e => by injection e with e; omega), o2.far hg (fun g e => by injection e with e; omega), o3.store hx, hr.grown hg (fun g e => by injection e with e; omega), below_only hb hg (fun g e => by injection e with e; omega)⟩
theorem Three.post (h : Three w W K n A B C c d q) (hn : n ≤ 8) : VotePost w (.returned (.tuple #[.slice A n c, .slice B n d, .slice C n q])) W := by
  obtain ⟨l1, l2, l3, l4, xs, ys, zs, h0, h1, h2, h3, o1, o2, o3, hr, hb⟩ := h
  exact ⟨A, n, c, xs, B, n, d, ys, C, n, q, zs, rfl, hn, by omega, by omega, o1.putIn, o2.putIn, o3.putIn, hb⟩
end

theorem three_push {ops : Array Oper} {rest : List Oper} {o : Oper} {a : Act} {Q : Exit → Act → World → Prop} (w W : World) (hgd : o.guard = none) (s x : Operand)
    (ho : o.op = .call { callee := .builtin .append, args := #[s, x], argTypes := #[22, 22] })
    (K : Int) (n : Nat) (A B C : Option Addr) (c d q : Nat) (hs : a.eval s = .slice C n q) (hd : Three w W K n A B C c d q)
    (y : ByteArray) (b : Nat) (hx : a.eval x = .slice (some ⟨b, 0, none⟩) 1 1) (hy : Sz y) (hc : W.cell? ⟨b, 0, none⟩ = some (.string y)) (hn : n ≤ 8)
    (h : ∀ g q' W', VotePost w (.returned (.tuple #[.slice A n c, .slice B n d, .slice (some ⟨g, 0, none⟩) (n + 1) q'])) W' → wpList Try.prog ops Q rest (a.put o.dst (.slice (some ⟨g, 0, none⟩) (n + 1) q')) W') :
    wpList Try.prog ops Q (o :: rest) a W := by
  obtain ⟨l1, l2, l3, l4, xs, ys, zs, h0, h1, h2, h3, o1, o2, o3, hr, hb⟩ := hd
  have ht := o2.2.2.1
  refine wpList_pushS W hgd s x ho l3 l4 C n q zs hs o3 y b hx hy hc (by omega) ht ?_
  intro g q' W' o3' hg _
  have hC : ∀ g, C.map (·.block) = some g → l3 ≤ g ∧ g < l4 := by
    intro g e
    cases C with
    | none => cases e
    | some a =>
      have e : a.block = g := by injection e
      have := o3.lo_le a rfl
      omega
  exact h g q' W' ⟨A, n, c, xs, B, n, d, ys, _, n + 1, q', _, rfl, hn, by omega, by omega, (o1.far hg (fun g e => by have := hC g e; omega)).putIn, (o2.far hg (fun g e => by have := hC g e; omega)).putIn, o3'.putIn, hb.grown hg hb.size (fun g e => by have := hC g e; omega)⟩

abbrev soNo : List ByteArray := [⟨#[115, 111]⟩, ⟨#[110, 111]⟩]
theorem sz_soNo : ∀ x ∈ soNo, Sz x := by
  intro x hx
  simp only [soNo, List.mem_cons, List.not_mem_nil, or_false] at hx
  rcases hx with rfl | rfl <;> exact lit_sz _ (by decide)

set_option maxRecDepth 10000 in
set_option maxHeartbeats 4000000 in
theorem drawVote (A0 : Option Addr) (n0 c0 : Nat) (w : World) (h : Bytes w w.heap.size A0 n0) (hn : n0 ≤ 1048576) (hnc : n0 ≤ c0) :
    Calls Try.prog 41 #[.slice A0 n0 c0] w (VotePost w) := by
  go_enter Try.func41, Try.ntmps41
  go_wp2_with fail
  refine (open_any A0 n0 c0 _ h hn hnc).mono ?_
  rintro e w1 ⟨rfl, hr, hb⟩
  go_wp2_with fail
  refine (speechD_any w.heap.size 6 0 _ hr (by omega) (by omega) (by omega)).mono ?_
  rintro e w2 ⟨A, n, c, rfl, hn6, xs, o, hr2, hg2⟩
  have hb2 := below_only hb hg2 (fun g e => by injection e with e; omega)
  have l1 := hr.lt
  have l2 := hg2.size
  have e2 := own_emptyS w2 w2.heap.size (Nat.le_refl _)
  have b2 : Below w2.heap.size w2 (w2.alloc (.cells #[] 9)) := (Below.refl _ _).alloc (Nat.le_refl _) _
  have E2 := Lib.hid e2
  have O2 := Lib.hid o
  have hn8 : n ≤ 8 := by omega
  clear e2 h hb hg2 hr o
  by_cases hn0 : n = 0
  · have hz : decide ((0 : Int) < (n : Int)) = false := by simp; omega
    have hz2 : decide (0 < n) = false := by simp; omega
    clear hn0
    go_wp2_with (first
      | (at_builtin; refine wpList_catS _ rfl (.tmp 13) (.tmp 14) rfl w2.heap.size (w2.heap.size + 1) (some ⟨w2.heap.size, 0, none⟩) 0 0 [] rfl E2.out A n c xs rfl (O2.out.ints.below b2) O2.out.cap0 (by omega) b2.size ?_; intro B d w3 o3 g3; rw [List.nil_append, Nat.zero_add] at o3; have b3 := below_cat b2 g3 (fun a ha => by injection ha with ha; subst ha; exact Nat.le_refl _); have e3 := own_emptyS w3 w3.heap.size (Nat.le_refl _); have b3' : Below w3.heap.size w3 (w3.alloc (.cells #[] 9)) := (Below.refl _ _).alloc (Nat.le_refl _) _; have E3 := Lib.hid e3; have O3 := Lib.hid o3; clear e3 o3 g3)
      | (at_builtin; refine wpList_catS _ rfl (.tmp 16) (.tmp 17) rfl w3.heap.size (w3.heap.size + 1) (some ⟨w3.heap.size, 0, none⟩) 0 0 [] rfl E3.out A n c xs rfl ((O2.out.ints.below b3).below b3') O2.out.cap0 (by omega) b3'.size ?_; intro C q w4 o4 g4; rw [List.nil_append, Nat.zero_add] at o4; have b4 := below_cat b3' g4 (fun a ha => by injection ha with ha; subst ha; exact Nat.le_refl _); have O4 := Lib.hid o4; clear o4 g4))
    have hT : Three w w4 (0 + 30) n A B C c d q := ⟨w1.heap.size, w2.heap.size, w3.heap.size, w4.heap.size, xs, xs, xs, l1, l2, b3.size, b4.size, (O2.out.below b3).below b4, O3.out.below b4, O4.out, (hr2.below b3).below b4, Below.next hb2 (Below.next b3 b4)⟩
    clear O2 O3 O4 E2 E3 hr2 b2 b3 b3' b4
    refine (pickB w.heap.size (0 + 30) 16 _ hT.rd (by omega) (by omega) (by omega)).mono ?_
    rintro e w9 ⟨v, rfl, hv, hr9, hg9⟩
    have hT9 := hT.pick hr9 hg9
    clear hT hr9 hg9
    cases v0 : ((v : Int) == 0) with
    | true =>
      have T9 := Lib.hid (hT9.alloc (.cells #[.string ⟨#[115, 111]⟩] 9))
      go_wp2_with (at_builtin; go_must (refine three_push w _ rfl (.tmp 47) (.tmp 48) rfl _ n A _ _ c d q rfl T9.out ⟨#[115, 111]⟩ w9.heap.size rfl (lit_sz [115, 111] (by decide)) ((Blk.new w9 9 #[.string ⟨#[115, 111]⟩]).cell 0) hn8 ?_); intro g9 q9 w10 h10; have H10 := Lib.hid h10; clear h10)
      go_ret3
      exact H10.out
    | false =>
      go_wp2_with fail
      go_ret3
      exact hT9.post hn8
  · have hz : decide ((0 : Int) < (n : Int)) = true := by simp; omega
    go_wp2_with (first
      | (at_builtin; refine wpList_catS _ rfl (.tmp 13) (.tmp 14) rfl w2.heap.size (w2.heap.size + 1) (some ⟨w2.heap.size, 0, none⟩) 0 0 [] rfl E2.out A n c xs rfl (O2.out.ints.below b2) O2.out.cap0 (by omega) b2.size ?_; intro B d w3 o3 g3; rw [List.nil_append, Nat.zero_add] at o3; have b3 := below_cat b2 g3 (fun a ha => by injection ha with ha; subst ha; exact Nat.le_refl _); have e3 := own_emptyS w3 w3.heap.size (Nat.le_refl _); have b3' : Below w3.heap.size w3 (w3.alloc (.cells #[] 9)) := (Below.refl _ _).alloc (Nat.le_refl _) _; have E3 := Lib.hid e3; have O3 := Lib.hid o3; clear e3 o3 g3)
      | (at_builtin; refine wpList_catS _ rfl (.tmp 16) (.tmp 17) rfl w3.heap.size (w3.heap.size + 1) (some ⟨w3.heap.size, 0, none⟩) 0 0 [] rfl E3.out A n c xs rfl ((O2.out.ints.below b3).below b3') O2.out.cap0 (by omega) b3'.size ?_; intro C q w4 o4 g4; rw [List.nil_append, Nat.zero_add] at o4; have b4 := below_cat b3' g4 (fun a ha => by injection ha with ha; subst ha; exact Nat.le_refl _); have O4 := Lib.hid o4; clear o4 g4))
    have hT : Three w w4 (0 + 30) n A B C c d q := ⟨w1.heap.size, w2.heap.size, w3.heap.size, w4.heap.size, xs, xs, xs, l1, l2, b3.size, b4.size, (O2.out.below b3).below b4, O3.out.below b4, O4.out, (hr2.below b3).below b4, Below.next hb2 (Below.next b3 b4)⟩
    clear O2 O3 O4 E2 E3 hr2 b2 b3 b3' b4
    refine (pickB w.heap.size (0 + 30) 3 _ hT.rd (by omega) (by omega) (by omega)).mono ?_
    rintro e w5 ⟨x, rfl, hx, hr5, hg5⟩
    have hT5 := hT.pick hr5 hg5
    clear hT hr5 hg5
    by_cases hx0 : (0 : Int) < (x : Int)
    · go_wp2_with fail
      refine (pickB w.heap.size (0 + 30 + 1) n _ hT5.rd (by omega) (by omega) (by omega)).mono ?_
      rintro e w6 ⟨y, rfl, hy, hr6, hg6⟩
      have hT6 := hT5.pick hr6 hg6
      clear hT5 hr6 hg6
      obtain ⟨g, z, rfl, cB, fB, hnd⟩ := hT6.atB (k := y) (by omega)
      have hT7 := hT6.setB (k := y) (x := ⟨#[115, 111]⟩) (lit_sz [115, 111] (by decide))
      have T7 := Lib.hid hT7
      clear hT6 hT7
      go_wp2_with fail
      refine (pickB w.heap.size (0 + 30 + 1 + 1) n _ T7.out.rd (by omega) (by omega) (by omega)).mono ?_
      rintro e w7 ⟨u, rfl, hu, hr7, hg7⟩
      have hT7 := T7.out.pick hr7 hg7
      clear T7 hr7 hg7
      go_wp2_with fail
      refine (of_any w.heap.size 2 2 (0 + 30 + 1 + 1 + 1) _ soNo _ (hT7.rd.alloc _) (by omega) (strs_lit w7 soNo sz_soNo) (by omega) (by omega)).mono ?_
      rintro e w8 ⟨t, rfl, ht, hr8, hg8⟩
      have hT8 := (hT7.alloc _).pick hr8 hg8
      clear hT7 hr8 hg8
      obtain ⟨g2, z2, rfl, cC, fC, hnq⟩ := hT8.atC (k := u) (by omega)
      have T := Lib.hid (hT8.setC (k := u) (x := t) ht)
      clear hT8
      go_wp2_with fail
      have hT := T.out
      refine (pickB w.heap.size (0 + 30 + 1 + 1 + 1 + 1) 16 _ hT.rd (by omega) (by omega) (by omega)).mono ?_
      rintro e w9 ⟨v, rfl, hv, hr9, hg9⟩
      have hT9 := hT.pick hr9 hg9
      clear hT hr9 hg9
      cases v0 : ((v : Int) == 0) with
      | true =>
        have T9 := Lib.hid (hT9.alloc (.cells #[.string ⟨#[115, 111]⟩] 9))
        go_wp2_with (at_builtin; go_must (refine three_push w _ rfl (.tmp 47) (.tmp 48) rfl _ n A _ _ c d q rfl T9.out ⟨#[115, 111]⟩ w9.heap.size rfl (lit_sz [115, 111] (by decide)) ((Blk.new w9 9 #[.string ⟨#[115, 111]⟩]).cell 0) hn8 ?_); intro g9 q9 w10 h10; have H10 := Lib.hid h10; clear h10)
        go_ret3
        exact H10.out
      | false =>
        go_wp2_with fail
        go_ret3
        exact hT9.post hn8
    · have hT := hT5
      clear hT5
      go_wp2_with fail
      refine (pickB w.heap.size (0 + 30 + 1) 16 _ hT.rd (by omega) (by omega) (by omega)).mono ?_
      rintro e w9 ⟨v, rfl, hv, hr9, hg9⟩
      have hT9 := hT.pick hr9 hg9
      clear hT hr9 hg9
      cases v0 : ((v : Int) == 0) with
      | true =>
        have T9 := Lib.hid (hT9.alloc (.cells #[.string ⟨#[115, 111]⟩] 9))
        go_wp2_with (at_builtin; go_must (refine three_push w _ rfl (.tmp 47) (.tmp 48) rfl _ n A _ _ c d q rfl T9.out ⟨#[115, 111]⟩ w9.heap.size rfl (lit_sz [115, 111] (by decide)) ((Blk.new w9 9 #[.string ⟨#[115, 111]⟩]).cell 0) hn8 ?_); intro g9 q9 w10 h10; have H10 := Lib.hid h10; clear h10)
        go_ret3
        exact H10.out
      | false =>
        go_wp2_with fail
        go_ret3
        exact hT9.post hn8
end Go.Proofs.Ytjhlcgjhdiheaaa
