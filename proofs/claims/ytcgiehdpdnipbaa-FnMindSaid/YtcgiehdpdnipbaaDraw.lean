/- The small drawing functions: a turn, a hold, a rate, an index: what they return lies in a range, and nothing but the reader has changed. -/
import Derived.Test.YtcgiehdpdnipbaaPick
namespace Go.Proofs.Ytcgiehdpdnipbaa
open Go.RowKit
set_option linter.unusedVariables false

/-- the reader lies in block R, and has been asked at most K times -/
def RdB (w : World) (R : Nat) (K : Int) : Prop := ∃ p, Rd w R p ∧ p ≤ K
def PickB (w : World) (R : Nat) (K n : Int) (e : Ending) (w' : World) : Prop := ∃ x : Nat, e = .returned (.int .i64 (x : Int)) ∧ (x : Int) < n ∧ RdB w' R (K + 1) ∧ w.grownBy w' (some R)
theorem pickB (R : Nat) (K n : Int) (w : World) (h : RdB w R K) (hK : K ≤ 1000000) (hn : 1 ≤ n) (hn2 : n ≤ 1000000) :
    Calls Try.prog 78 #[.pointer (some ⟨R, 0, none⟩), .int .i64 n] w (PickB w R K n) := by
  obtain ⟨p, hp, hpk⟩ := h
  refine (pick_any R p n w hp (by omega) hn hn2).mono ?_
  rintro e w' ⟨x, rfl, x0, x1, hr, hg⟩
  obtain ⟨k, rfl⟩ := Int.eq_ofNat_of_zero_le x0
  exact ⟨k, rfl, x1, ⟨p + 1, hr, by omega⟩, hg⟩
theorem RdB.mono {w : World} {R : Nat} {K K' : Int} (h : RdB w R K) (hk : K ≤ K') : RdB w R K' := by obtain ⟨p, hp, hpk⟩ := h; exact ⟨p, hp, by omega⟩
theorem RdB.alloc {w : World} {R : Nat} {K : Int} (h : RdB w R K) (o : Obj) : RdB (w.alloc o) R K := by obtain ⟨p, hp, hpk⟩ := h; exact ⟨p, hp.alloc o, hpk⟩
theorem RdB.lt {w : World} {R : Nat} {K : Int} (h : RdB w R K) : R < w.heap.size := by obtain ⟨p, hp, _⟩ := h; exact hp.lt
theorem RdB.grown {w w' : World} {R : Nat} {K : Int} {row : Option Nat} (h : RdB w R K) (hg : w.grownBy w' row) (hr : ∀ g, row = some g → R < g) : RdB w' R K := by obtain ⟨p, hp, hpk⟩ := h; exact ⟨p, hp.grown hg hr, hpk⟩

/-- a row of literals that is read at an index -/
theorem lit_cell {w w' : World} {R k : Nat} {cs : Array Value} {lo hi : Int} (hR : R < w.heap.size) (hg : (w.alloc (.cells cs 3)).grownBy w' (some R)) (hcs : ∀ i, i < cs.size → ∃ y : Int, cs[i]? = some (.int .i64 y) ∧ lo ≤ y ∧ y ≤ hi) (hk : k < cs.size) :
    ∃ y : Int, w'.cell? ⟨w.heap.size, k, none⟩ = some (.int .i64 y) ∧ lo ≤ y ∧ y ≤ hi := by
  obtain ⟨y, h1, h2⟩ := hcs k hk
  have hb := (Blk.new w 3 cs).grown hg (fun e => by injection e with e; omega)
  exact ⟨y, (hb.cell k).trans h1, h2⟩
theorem only_again {a b c : World} {R : Nat} (h : a.grownBy b (some R)) (k : b.grownBy c (some R)) : a.grownBy c (some R) := only_then h k (fun g e => .inl e.symm)

def NumPost (w : World) (R : Nat) (K lo hi : Int) (e : Ending) (w' : World) : Prop := ∃ x : Int, e = .returned (.int .i64 x) ∧ lo ≤ x ∧ x ≤ hi ∧ RdB w' R K ∧ w.grownBy w' (some R)

theorem turnD_lits : ∀ i, i < (#[Value.int .i64 (0), Value.int .i64 (31)] : Array Value).size → ∃ y : Int, (#[Value.int .i64 (0), Value.int .i64 (31)] : Array Value)[i]? = some (.int .i64 y) ∧ 0 ≤ y ∧ y ≤ 31 := by
  intro i hi
  match i, hi with
  | 0, _ => exact ⟨0, rfl, by omega, by omega⟩
  | 1, _ => exact ⟨31, rfl, by omega, by omega⟩
set_option maxHeartbeats 400000 in
theorem turnD_any (R : Nat) (K : Int) (w : World) (h : RdB w R K) (hK : K ≤ 10000) :
    Calls Try.prog 79 #[.pointer (some ⟨R, 0, none⟩)] w (NumPost w R (K + 2) (0) (31)) := by
  go_enter Try.func79, Try.ntmps79
  go_wp2_with fail
  refine (pickB R K 20 _ h (by omega) (by omega) (by omega)).mono ?_
  rintro e w1 ⟨x, rfl, hx, hr1, hg1⟩
  cases hz : ((x : Int) == 0) with
  | true =>
    go_wp2_with fail
    refine (pickB R (K + 1) 2 _ (hr1.alloc _) (by omega) (by omega) (by omega)).mono ?_
    rintro e w2 ⟨y, rfl, hy, hr2, hg2⟩
    obtain ⟨z, hc, hz1, hz2⟩ := lit_cell hr1.lt hg2 turnD_lits (k := y) (by simp; omega)
    go_wp2
    go_ret
    exact ⟨z, rfl, hz1, hz2, hr2.mono (by omega), only_again (only_alloc hg1 _) hg2⟩
  | false =>
    go_wp2_with fail
    refine (pickB R (K + 1) 6 _ hr1 (by omega) (by omega) (by omega)).mono ?_
    rintro e w2 ⟨y, rfl, hy, hr2, hg2⟩
    go_wp2
    go_ret
    exact ⟨1 + (y : Int), rfl, by omega, by omega, hr2.mono (by omega), only_again hg1 hg2⟩

theorem holdD_lits : ∀ i, i < (#[Value.int .i64 (-1), Value.int .i64 (51), Value.int .i64 (50)] : Array Value).size → ∃ y : Int, (#[Value.int .i64 (-1), Value.int .i64 (51), Value.int .i64 (50)] : Array Value)[i]? = some (.int .i64 y) ∧ -1 ≤ y ∧ y ≤ 51 := by
  intro i hi
  match i, hi with
  | 0, _ => exact ⟨-1, rfl, by omega, by omega⟩
  | 1, _ => exact ⟨51, rfl, by omega, by omega⟩
  | 2, _ => exact ⟨50, rfl, by omega, by omega⟩
set_option maxHeartbeats 400000 in
theorem holdD_any (R : Nat) (K : Int) (w : World) (h : RdB w R K) (hK : K ≤ 10000) :
    Calls Try.prog 86 #[.pointer (some ⟨R, 0, none⟩)] w (NumPost w R (K + 2) (-1) (51)) := by
  go_enter Try.func86, Try.ntmps86
  go_wp2_with fail
  refine (pickB R K 20 _ h (by omega) (by omega) (by omega)).mono ?_
  rintro e w1 ⟨x, rfl, hx, hr1, hg1⟩
  cases hz : ((x : Int) == 0) with
  | true =>
    go_wp2_with fail
    refine (pickB R (K + 1) 3 _ (hr1.alloc _) (by omega) (by omega) (by omega)).mono ?_
    rintro e w2 ⟨y, rfl, hy, hr2, hg2⟩
    obtain ⟨z, hc, hz1, hz2⟩ := lit_cell hr1.lt hg2 holdD_lits (k := y) (by simp; omega)
    go_wp2
    go_ret
    exact ⟨z, rfl, hz1, hz2, hr2.mono (by omega), only_again (only_alloc hg1 _) hg2⟩
  | false =>
    go_wp2_with fail
    refine (pickB R (K + 1) 9 _ hr1 (by omega) (by omega) (by omega)).mono ?_
    rintro e w2 ⟨y, rfl, hy, hr2, hg2⟩
    go_wp2
    go_ret
    exact ⟨(y : Int), rfl, by omega, by omega, hr2.mono (by omega), only_again hg1 hg2⟩

theorem rateD_lits : ∀ i, i < (#[Value.int .i64 (0), Value.int .i64 (10)] : Array Value).size → ∃ y : Int, (#[Value.int .i64 (0), Value.int .i64 (10)] : Array Value)[i]? = some (.int .i64 y) ∧ 0 ≤ y ∧ y ≤ 10 := by
  intro i hi
  match i, hi with
  | 0, _ => exact ⟨0, rfl, by omega, by omega⟩
  | 1, _ => exact ⟨10, rfl, by omega, by omega⟩
set_option maxHeartbeats 400000 in
theorem rateD_any (R : Nat) (K : Int) (w : World) (h : RdB w R K) (hK : K ≤ 10000) :
    Calls Try.prog 88 #[.pointer (some ⟨R, 0, none⟩)] w (NumPost w R (K + 2) (0) (10)) := by
  go_enter Try.func88, Try.ntmps88
  go_wp2_with fail
  refine (pickB R K 20 _ h (by omega) (by omega) (by omega)).mono ?_
  rintro e w1 ⟨x, rfl, hx, hr1, hg1⟩
  cases hz : ((x : Int) == 0) with
  | true =>
    go_wp2_with fail
    refine (pickB R (K + 1) 2 _ (hr1.alloc _) (by omega) (by omega) (by omega)).mono ?_
    rintro e w2 ⟨y, rfl, hy, hr2, hg2⟩
    obtain ⟨z, hc, hz1, hz2⟩ := lit_cell hr1.lt hg2 rateD_lits (k := y) (by simp; omega)
    go_wp2
    go_ret
    exact ⟨z, rfl, hz1, hz2, hr2.mono (by omega), only_again (only_alloc hg1 _) hg2⟩
  | false =>
    go_wp2_with fail
    refine (pickB R (K + 1) 5 _ hr1 (by omega) (by omega) (by omega)).mono ?_
    rintro e w2 ⟨y, rfl, hy, hr2, hg2⟩
    go_wp2
    go_ret
    exact ⟨1 + (y : Int), rfl, by omega, by omega, hr2.mono (by omega), only_again hg1 hg2⟩

theorem at_lits (n : Nat) (hn : n ≤ 31) : ∀ i, i < (#[Value.int .i64 (-1), Value.int .i64 (n : Int)] : Array Value).size → ∃ y : Int, (#[Value.int .i64 (-1), Value.int .i64 (n : Int)] : Array Value)[i]? = some (.int .i64 y) ∧ -1 ≤ y ∧ y ≤ 31 := by
  intro i hi
  match i, hi with
  | 0, _ => exact ⟨-1, rfl, by omega, by omega⟩
  | 1, _ => exact ⟨n, rfl, by omega, by omega⟩
set_option maxHeartbeats 400000 in
theorem atD_any (R n : Nat) (K : Int) (w : World) (h : RdB w R K) (hK : K ≤ 10000) (hn : n ≤ 31) :
    Calls Try.prog 87 #[.pointer (some ⟨R, 0, none⟩), .int .i64 (n : Int)] w (NumPost w R (K + 2) (-1) 31) := by
  by_cases hn0 : n = 0
  · have hz : ((n : Int) == 0) = true := by rw [hn0]; rfl
    clear hn0
    go_enter Try.func87, Try.ntmps87
    go_wp2_with fail
    refine (pickB R K 2 _ (h.alloc _) (by omega) (by omega) (by omega)).mono ?_
    rintro e w2 ⟨y, rfl, hy, hr2, hg2⟩
    obtain ⟨z, hc, hz1, hz2⟩ := lit_cell h.lt hg2 (at_lits n hn) (k := y) (by simp; omega)
    go_wp2
    go_ret
    exact ⟨z, rfl, hz1, hz2, hr2.mono (by omega), only_again (only_alloc (World.grownBy.refl _ _) _) hg2⟩
  · have hz : ((n : Int) == 0) = false := by simp; omega
    go_enter Try.func87, Try.ntmps87
    go_wp2_with fail
    refine (pickB R K 20 _ h (by omega) (by omega) (by omega)).mono ?_
    rintro e w1 ⟨x, rfl, hx, hr1, hg1⟩
    cases hx0 : ((x : Int) == 0) with
    | true =>
      go_wp2_with fail
      refine (pickB R (K + 1) 2 _ (hr1.alloc _) (by omega) (by omega) (by omega)).mono ?_
      rintro e w2 ⟨y, rfl, hy, hr2, hg2⟩
      obtain ⟨z, hc, hz1, hz2⟩ := lit_cell hr1.lt hg2 (at_lits n hn) (k := y) (by simp; omega)
      go_wp2
      go_ret
      exact ⟨z, rfl, hz1, hz2, hr2.mono (by omega), only_again (only_alloc hg1 _) hg2⟩
    | false =>
      go_wp2_with fail
      refine (pickB R (K + 1) n _ hr1 (by omega) (by omega) (by omega)).mono ?_
      rintro e w2 ⟨y, rfl, hy, hr2, hg2⟩
      go_wp2
      go_ret
      exact ⟨(y : Int), rfl, by omega, by omega, hr2.mono (by omega), only_again hg1 hg2⟩

/-- the reader is opened -/
def OpenPost (w : World) (e : Ending) (w' : World) : Prop := e = .returned (.pointer (some ⟨w.heap.size, 0, none⟩)) ∧ RdB w' w.heap.size 0 ∧ Below w.heap.size w w'
theorem IsRow.bytes {w : World} {a : Option Addr} {len cap : Nat} {zs : List Int} (h : IsRow .u8 w a len cap zs) : Bytes w w.heap.size a len := by
  intro hn
  rcases h with ⟨rfl, rfl, _, rfl⟩ | ⟨x, rfl, h1, h2, h3, h4, h5⟩
  · omega
  · obtain ⟨b, off, spot⟩ := x
    have hc := h4 0 (by omega)
    have hspot : spot = none := by simpa [Addr.add] using World.cell?_spot hc
    subst hspot
    refine ⟨b, off, rfl, by have := lt_of_cell hc; simpa [Addr.add] using this, fun j hj => ?_⟩
    have hz : zs[j]? = some (zs[j]'(by omega)) := List.getElem?_eq_getElem (by omega)
    have h6 := bounds_u8 (h5 (zs[j]'(by omega)) (List.getElem_mem _))
    have h7 := h4 j (by omega)
    rw [List.getD_eq_getElem?_getD, hz, Option.getD_some] at h7
    refine ⟨_, h6.1, h6.2, ?_⟩
    rw [← h7]
    congr 1
    unfold Addr.add
    split
    · rename_i h0; subst h0; rfl
    · rfl
theorem Bytes.less {w : World} {B n m : Nat} {A : Option Addr} (h : Bytes w B A n) (hm : m ≤ n) : Bytes w B A m := fun h0 => by
  obtain ⟨b, off, e, hb, hc⟩ := h (by omega)
  exact ⟨b, off, e, hb, fun j hj => hc j (by omega)⟩
theorem open_end {w : World} {A : Option Addr} {n c : Nat} (h : Bytes w w.heap.size A n) (hn : n ≤ 2000) : RdB (w.alloc (.cells #[.slice A n c, .int .i64 0] 65)) w.heap.size 0 ∧ Below w.heap.size w (w.alloc (.cells #[.slice A n c, .int .i64 0] 65)) := by
  have hb : Below w.heap.size w (w.alloc (.cells #[.slice A n c, .int .i64 0] 65)) := (Below.refl _ _).alloc (Nat.le_refl _) _
  exact ⟨⟨0, ⟨Int.le_refl _, A, n, c, Blk.new w 65 _, hn, h.keep fun i hi => hb.block i hi⟩, Int.le_refl _⟩, hb⟩
theorem open_any (A : Option Addr) (n c : Nat) (w : World) (h : Bytes w w.heap.size A n) (hn : n ≤ 1048576) (hnc : n ≤ c) :
    Calls Try.prog 77 #[.slice A n c] w (OpenPost w) := by
  by_cases h2 : n ≤ 2000
  · have H := Lib.hid (open_end (c := c) h h2)
    go_enter Try.func77, Try.ntmps77
    go_wp2
    go_ret
    exact ⟨rfl, H.out⟩
  · have H := Lib.hid (open_end (c := c) (h.less (m := 2000) (by omega)) (Nat.le_refl _))
    obtain ⟨b, off, rfl, _⟩ := h (by omega)
    have h3 : ((c : Int) == 0) = false := by simp; omega
    go_enter Try.func77, Try.ntmps77
    go_wp2
    go_ret
    exact ⟨rfl, H.out⟩
end Go.Proofs.Ytcgiehdpdnipbaa
