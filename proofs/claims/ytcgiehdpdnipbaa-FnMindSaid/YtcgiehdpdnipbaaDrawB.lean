/- A talk is drawn: a short list of small numbers in memory of the call's own. -/
import Derived.Test.YtcgiehdpdnipbaaDraw
import Derived.Test.YtcgiehdpdnipbaaJoin
namespace Go.Proofs.Ytcgiehdpdnipbaa
open Go.RowKit
set_option linter.unusedVariables false

def Near (xs : List Int) : Prop := ∀ x ∈ xs, -1 ≤ x ∧ x ≤ 10
theorem Near.snoc {xs : List Int} {x : Int} (h : Near xs) (h1 : -1 ≤ x) (h2 : x ≤ 10) : Near (xs ++ [x]) := fun y hy => by
  rcases List.mem_append.1 hy with h3 | h3
  · exact h y h3
  · rw [List.mem_singleton.1 h3]; exact ⟨h1, h2⟩
theorem Near.set_ {xs : List Int} {x : Int} {k : Nat} (h : Near xs) (h1 : -1 ≤ x) (h2 : x ≤ 10) : Near (xs.set k x) := fun y hy => by
  rcases List.mem_or_eq_of_mem_set hy with h3 | rfl
  · exact h y h3
  · exact ⟨h1, h2⟩
/-- what a drawn talk is, in the world -/
def Drawn (w : World) (R : Nat) (K : Int) (n : Nat) (A : Option Addr) (c : Nat) (wr : World) : Prop :=
  ∃ xs, OwnI wr w.heap.size wr.heap.size A n c xs ∧ Near xs ∧ RdB wr R K ∧ w.grownBy wr (some R)
theorem Drawn.pick {w wr w1 : World} {R n c : Nat} {K K' : Int} {A : Option Addr} (h : Drawn w R K n A c wr) (hR : R < w.heap.size) (hr : RdB w1 R K') (hg : wr.grownBy w1 (some R)) : Drawn w R K' n A c w1 := by
  obtain ⟨xs, ho, hn, _, hg0⟩ := h
  exact ⟨xs, (ho.far hg (fun g e => by injection e with e; omega)).wide (Nat.le_refl _) hg.size (Nat.le_refl _), hn, hr, only_again hg0 hg⟩
theorem Drawn.alloc {w wr : World} {R n c : Nat} {K : Int} {A : Option Addr} (h : Drawn w R K n A c wr) (o : Obj) : Drawn w R K n A c (wr.alloc o) := by
  obtain ⟨xs, ho, hn, hr, hg0⟩ := h
  exact ⟨xs, (ho.alloc o).wide (Nat.le_refl _) (by simp) (Nat.le_refl _), hn, hr.alloc o, only_alloc hg0 o⟩
theorem Drawn.mono {w wr : World} {R n c : Nat} {K K' : Int} {A : Option Addr} (h : Drawn w R K n A c wr) (hk : K ≤ K') : Drawn w R K' n A c wr := by
  obtain ⟨xs, ho, hn, hr, hg0⟩ := h
  exact ⟨xs, ho, hn, hr.mono hk, hg0⟩
theorem Drawn.rd {w wr : World} {R n c : Nat} {K : Int} {A : Option Addr} (h : Drawn w R K n A c wr) : RdB wr R K := by obtain ⟨xs, ho, hn, hr, hg0⟩ := h; exact hr
theorem Drawn.size {w wr : World} {R n c : Nat} {K : Int} {A : Option Addr} (h : Drawn w R K n A c wr) : w.heap.size ≤ wr.heap.size := by obtain ⟨xs, ho, hn, hr, hg0⟩ := h; exact hg0.size
theorem drawn_start {w : World} {R : Nat} {K : Int} (h : RdB w R K) : Drawn w R K 0 (some ⟨w.heap.size, 0, none⟩) 0 (w.alloc (.cells #[] 3)) := by
  have he := own_empty w w.heap.size (Nat.le_refl _)
  exact ⟨[], by simpa using he, fun x hx => by simp at hx, h.alloc _, World.grownBy_alloc _ _ _⟩
/-- an int is pushed onto a drawn talk -/
theorem drawn_push {ops : Array Oper} {rest : List Oper} {o : Oper} {a : Act} {Q : Exit → Act → World → Prop} (w wr : World) (hgd : o.guard = none) (s x : Operand)
    (ho : o.op = .call { callee := .builtin .append, args := #[s, x], argTypes := #[22, 22] })
    (R n c : Nat) (K : Int) (A : Option Addr) (hs : a.eval s = .slice A n c) (hd : Drawn w R K n A c wr) (hR : R < w.heap.size)
    (y : Int) (b : Nat) (hx : a.eval x = .slice (some ⟨b, 0, none⟩) 1 1) (y0 : -1 ≤ y) (y1 : y ≤ 10) (hc : wr.cell? ⟨b, 0, none⟩ = some (.int .i64 y)) (hn : n ≤ 1000)
    (h : ∀ g c' w', Drawn w R K (n + 1) (some ⟨g, 0, none⟩) c' w' → wpList Try.prog ops Q rest (a.put o.dst (.slice (some ⟨g, 0, none⟩) (n + 1) c')) w') :
    wpList Try.prog ops Q (o :: rest) a wr := by
  obtain ⟨xs, hown, hnear, hr, hg0⟩ := hd
  refine wpList_push wr hgd s x ho w.heap.size wr.heap.size A n c xs hs hown y b hx ⟨by omega, by omega⟩ hc (by omega) hg0.size ?_
  intro g c' w' ho' hg'
  have hlo : ∀ g, A.map (·.block) = some g → w.heap.size ≤ g := by
    intro g e
    cases A with
    | none => cases e
    | some a =>
      have e : a.block = g := by injection e
      have := hown.lo_le a rfl
      omega
  exact h g c' w' ⟨xs ++ [y], ho', hnear.snoc y0 y1, hr.grown hg' (fun g e => by have := hlo g e; omega), only_then hg0 hg' (fun g e => .inr (hlo g e))⟩
theorem talk_lits : ∀ i, i < (#[Value.int .i64 0, Value.int .i64 2, Value.int .i64 3, Value.int .i64 5, Value.int .i64 9, Value.int .i64 1, Value.int .i64 4] : Array Value).size → ∃ y : Int, (#[Value.int .i64 0, Value.int .i64 2, Value.int .i64 3, Value.int .i64 5, Value.int .i64 9, Value.int .i64 1, Value.int .i64 4] : Array Value)[i]? = some (.int .i64 y) ∧ -1 ≤ y ∧ y ≤ 10 := by
  intro i hi
  match i, hi with
  | 0, _ => exact ⟨0, rfl, by omega, by omega⟩
  | 1, _ => exact ⟨2, rfl, by omega, by omega⟩
  | 2, _ => exact ⟨3, rfl, by omega, by omega⟩
  | 3, _ => exact ⟨5, rfl, by omega, by omega⟩
  | 4, _ => exact ⟨9, rfl, by omega, by omega⟩
  | 5, _ => exact ⟨1, rfl, by omega, by omega⟩
  | 6, _ => exact ⟨4, rfl, by omega, by omega⟩
theorem edge_lits : ∀ i, i < (#[Value.int .i64 (-1), Value.int .i64 10] : Array Value).size → ∃ y : Int, (#[Value.int .i64 (-1), Value.int .i64 10] : Array Value)[i]? = some (.int .i64 y) ∧ -1 ≤ y ∧ y ≤ 10 := by
  intro i hi
  match i, hi with
  | 0, _ => exact ⟨-1, rfl, by omega, by omega⟩
  | 1, _ => exact ⟨10, rfl, by omega, by omega⟩

def TalkPost (w : World) (R : Nat) (K : Int) (e : Ending) (w' : World) : Prop := ∃ A n c, e = .returned (.slice A n c) ∧ n ≤ 31 ∧ Drawn w R K n A c w'

set_option maxHeartbeats 1000000 in
theorem talkD_any (R : Nat) (K : Int) (w : World) (h : RdB w R K) (hK0 : 0 ≤ K) (hK : K ≤ 10000) :
    Calls Try.prog 76 #[.pointer (some ⟨R, 0, none⟩)] w (TalkPost w R (K + 100)) := by
  have hR := h.lt
  have H0 := drawn_start h
  go_enter Try.func76, Try.ntmps76
  go_wp2_with fail
  refine (pickB R K 13 _ H0.rd (by omega) (by omega) (by omega)).mono ?_
  rintro e w1 ⟨x, rfl, hx, hr1, hg1⟩
  have H1 := H0.pick hR hr1 hg1
  clear H0 hr1 hg1 h
  go_wp2_with fail
  go_loopg [3, 5] x (fun g o i wr => ∃ k : Nat, k ≤ x ∧ g = x - k ∧ i = .int .i64 k ∧ ∃ A c, o = .slice A k c ∧ Drawn w R (K + 1 + k) k A c wr)
  case atStart => exact ⟨0, Nat.zero_le _, rfl, rfl, _, _, rfl, by simpa using H1⟩
  case round =>
    clear H1
    obtain ⟨k, hk, rfl, rfl, A, c, rfl, hd⟩ := hrel
    by_cases hlt : k < x
    · go_wp2_with fail
      refine (pickB R (K + 1 + k) 7 _ (hd.rd.alloc _) (by omega) (by omega) (by omega)).mono ?_
      rintro e w2 ⟨y, rfl, hy, hr2, hg2⟩
      obtain ⟨z, hc, hz1, hz2⟩ := lit_cell hd.rd.lt hg2 talk_lits (k := y) (by simp; omega)
      have hd2 := (hd.alloc _).pick hR hr2 hg2
      clear hd hr2 hg2
      go_wp2_with (at_builtin; go_must (refine drawn_push w _ rfl (.tmp 14) (.tmp 20) rfl R k c (K + 1 + k + 1) A rfl (hd2.alloc _) hR z w2.heap.size rfl hz1 hz2 (by go_simp) (by omega) ?_); intro g c' w3 hd3)
      go_roundg (x - (k + 1))
      case measure => omega
      case rel => exact ⟨k + 1, by omega, rfl, by go_num, _, _, rfl, hd3.mono (by omega)⟩
    · obtain rfl : k = x := by omega
      by_cases hx0 : k = 0
      · subst hx0
        go_wp2_with fail
        go_ret
        exact ⟨A, 0, c, rfl, by omega, hd.mono (by omega)⟩
      · go_wp2_with fail
        refine (pickB R (K + 1 + k) 40 _ hd.rd (by omega) (by omega) (by omega)).mono ?_
        rintro e w2 ⟨y, rfl, hy, hr2, hg2⟩
        have hd2 := hd.pick hR hr2 hg2
        clear hd hr2 hg2
        cases hy0 : ((y : Int) == 0) with
        | true =>
          go_wp2_with fail
          refine (pickB R (K + 1 + k + 1) 2 _ (hd2.rd.alloc _) (by omega) (by omega) (by omega)).mono ?_
          rintro e w3 ⟨v, rfl, hv, hr3, hg3⟩
          obtain ⟨z, hc, hz1, hz2⟩ := lit_cell hd2.rd.lt hg3 edge_lits (k := v) (by simp; omega)
          have hd3 := (hd2.alloc _).pick hR hr3 hg3
          clear hd2 hr3 hg3
          obtain ⟨xs, ho, hn, hr, hg⟩ := hd3
          obtain ⟨g, q, rfl, hg1, hg2, hq, _, _, hc2, hf2⟩ := ho.at_ (k := 0) (by omega)
          have hs := Lib.hid (ho.store (k := 0) (x := z) ⟨by omega, by omega⟩)
          clear hq
          go_wp2
          go_ret
          refine ⟨_, k, c, rfl, by omega, xs.set 0 z, ?_, hn.set_ hz1 hz2, (hr.grown (grown_setCell _ _ _ _) (fun g' e => by injection e with e; omega)).mono (by omega), only_then hg (grown_setCell _ _ _ _) (fun g' e => by injection e with e; exact .inr (by omega))⟩
          have := hs.out
          simpa [World.setCell] using this
        | false =>
          cases hy1 : ((y : Int) == 1) with
          | false =>
            go_wp2_with fail
            go_ret
            exact ⟨A, k, c, rfl, by omega, hd2.mono (by omega)⟩
          | true =>
            go_wp2_with fail
            go_loopg [3] (31 - k) (fun g o wr => ∃ n A c, g = 31 - n ∧ 1 ≤ n ∧ n ≤ 31 ∧ o = .slice A n c ∧ Drawn w R (K + 40 + n) n A c wr)
            case atStart => exact ⟨k, A, c, rfl, by omega, by omega, rfl, hd2.mono (by omega)⟩
            case round =>
              clear hd2
              obtain ⟨n, A, c, rfl, hn1, hn2, rfl, hd⟩ := hrel
              go_wp2_with fail
              refine (pickB R (K + 40 + n) 2 _ hd.rd (by omega) (by omega) (by omega)).mono ?_
              rintro e w3 ⟨v, rfl, hv, hr3, hg3⟩
              have hd3 := hd.pick hR hr3 hg3
              clear hd hr3 hg3
              by_cases hlt2 : (n : Int) < 30 + (v : Int)
              · go_wp2_with (at_builtin; go_must (refine drawn_push w _ rfl (.tmp 43) (.tmp 44) rfl R n c (K + 40 + n + 1) A rfl (hd3.alloc _) hR 9 w3.heap.size rfl (by omega) (by omega) (by go_simp) (by omega) ?_); intro g c' w4 hd4)
                go_roundg (31 - (n + 1))
                case measure => omega
                case rel => exact ⟨n + 1, _, _, rfl, by omega, by omega, rfl, hd4.mono (by omega)⟩
              · go_wp2
                go_ret
                exact ⟨A, n, c, rfl, by omega, hd3.mono (by omega)⟩
end Go.Proofs.Ytcgiehdpdnipbaa
