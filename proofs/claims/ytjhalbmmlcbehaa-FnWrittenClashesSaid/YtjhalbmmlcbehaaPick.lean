/- The drawing reader: pick returns a number from 0 to n-1 and moves the place by one. -/
import Derived.Test.YtjhalbmmlcbehaaBase2
import Derived.IntWalk
import Derived.Laws.BitsAllLaws
import Derived.Laws.BitsLemmas
namespace Go.Proofs.Ytjhalbmmlcbehaa
open Go.RowKit
set_option linter.unusedVariables false

/-- the drawing reader: bytes below its own block, and the place -/
def Bytes (w : World) (B : Nat) (A : Option Addr) (n : Nat) : Prop :=
  0 < n → ∃ b off, A = some ⟨b, off, none⟩ ∧ b < B ∧ ∀ j, j < n → ∃ v : Int, 0 ≤ v ∧ v ≤ 255 ∧ w.cell? ⟨b, off + j, none⟩ = some (.int .u8 v)
def Rd (w : World) (R : Nat) (p : Int) : Prop := 0 ≤ p ∧ ∃ A n c, Blk w R 95 #[.slice A n c, .int .i64 p] ∧ n ≤ 2000 ∧ Bytes w R A n
theorem Bytes.keep {w w' : World} {B : Nat} {A : Option Addr} {n : Nat} (h : Bytes w B A n) (hk : ∀ i, i < B → w'.heap[i]? = w.heap[i]?) : Bytes w' B A n := fun hn => by
  obtain ⟨b, off, e, hb, hc⟩ := h hn
  refine ⟨b, off, e, hb, fun j hj => ?_⟩
  obtain ⟨v, h0, h1, h2⟩ := hc j hj
  exact ⟨v, h0, h1, (World.cell?_of_block (hk b hb)).trans h2⟩
theorem Rd.lt {w : World} {R : Nat} {p : Int} (h : Rd w R p) : R < w.heap.size := by
  obtain ⟨_, A, n, c, hb, _⟩ := h
  exact hb.lt
theorem Rd.keep {w w' : World} {R : Nat} {p : Int} (h : Rd w R p) (hk : ∀ i, i ≤ R → w'.heap[i]? = w.heap[i]?) : Rd w' R p := by
  obtain ⟨h0, A, n, c, hb, hn, hby⟩ := h
  exact ⟨h0, A, n, c, (hk R (Nat.le_refl _)).trans hb, hn, hby.keep fun i hi => hk i (by omega)⟩
theorem Rd.grown {w w' : World} {R : Nat} {p : Int} {row : Option Nat} (h : Rd w R p) (hg : w.grownBy w' row) (hr : ∀ g, row = some g → R < g) : Rd w' R p :=
  h.keep fun i hi => hg.block i (Nat.lt_of_le_of_lt hi h.lt) (fun e => by have := hr i e.symm; omega)
theorem Rd.below {w w' : World} {R : Nat} {p : Int} (h : Rd w R p) (hb : Below w.heap.size w w') : Rd w' R p := h.grown (only_of_below hb none) (fun _ e => by cases e)
theorem Rd.alloc {w : World} {R : Nat} {p : Int} (h : Rd w R p) (o : Obj) : Rd (w.alloc o) R p := h.grown (World.grownBy_alloc w o none) (fun _ e => by cases e)
def PickPost (w : World) (R : Nat) (p n : Int) (e : Ending) (w' : World) : Prop := ∃ x : Int, e = .returned (.int .i64 x) ∧ 0 ≤ x ∧ x < n ∧ Rd w' R (p + 1) ∧ w.grownBy w' (some R)

theorem rd_step {w : World} {R : Nat} {p : Int} (h : Rd w R p) (q : Nat) : Rd ((w.setCell ⟨R, 1, none⟩ (.int .i64 (p + 1))).drewN q) R (p + 1) ∧ w.grownBy ((w.setCell ⟨R, 1, none⟩ (.int .i64 (p + 1))).drewN q) (some R) := by
  obtain ⟨h0, A, n, c, hb, hn, hby⟩ := h
  have hg := grown_setCell w R 1 (.int .i64 (p + 1))
  refine ⟨⟨by omega, A, n, c, ?_, hn, ?_⟩, only_drewN hg q⟩
  · exact (hb.put 1 (.int .i64 (p + 1))).drewN q
  · exact hby.keep fun i hi => hg.block i (Nat.lt_trans hi hb.lt) (fun e => by injection e; omega)
theorem rd_step0 {w : World} {R : Nat} {p : Int} (h : Rd w R p) : Rd (w.setCell ⟨R, 1, none⟩ (.int .i64 (p + 1))) R (p + 1) ∧ w.grownBy (w.setCell ⟨R, 1, none⟩ (.int .i64 (p + 1))) (some R) := rd_step h 0

set_option maxHeartbeats 400000 in
theorem pick_none (R c : Nat) (A : Option Addr) (p n : Int) (w : World) (h : Rd w R p) (hb : Blk w R 95 #[.slice A 0 c, .int .i64 p]) (hp0 : 0 ≤ p) (hp : p ≤ 1000000) (hn : 1 ≤ n) (hn2 : n ≤ 1000000) :
    Calls Try.prog 67 #[.pointer (some ⟨R, 0, none⟩), .int .i64 n] w (PickPost w R p n) := by
  have H := Lib.hid (rd_step0 h)
  have c0 : w.cell? ⟨R, 0, none⟩ = some (.slice A 0 c) := hb.cell 0
  have c1 : w.cell? ⟨R, 1, none⟩ = some (.int .i64 p) := hb.cell 1
  have f1 := hb.free 1
  clear h hb
  go_enter Try.func67, Try.ntmps67
  go_wp2
  go_ret
  exact ⟨0, rfl, by omega, by omega, H.out⟩

theorem mod_bd {a n : Int} (ha : 0 ≤ a) (hn : 1 ≤ n) : 0 ≤ a % n ∧ a % n < n := ⟨Int.emod_nonneg _ (by omega), Int.emod_lt_of_pos _ (by omega)⟩

set_option maxHeartbeats 400000 in
theorem pick_in (R b off m c k : Nat) (n v : Int) (w : World) (h : Rd w R (k : Int)) (hb : Blk w R 95 #[.slice (some ⟨b, off, none⟩) m c, .int .i64 (k : Int)]) (hm : m ≤ 2000) (hk : k < m)
    (hbR : b < R) (hv : w.cell? ⟨b, off + k, none⟩ = some (.int .u8 v)) (v0 : 0 ≤ v) (v1 : v ≤ 255) (hn : 1 ≤ n) (hn2 : n ≤ 1000000) :
    Calls Try.prog 67 #[.pointer (some ⟨R, 0, none⟩), .int .i64 n] w (PickPost w R (k : Int) n) := by
  have H := Lib.hid (rd_step0 h)
  have c0 : w.cell? ⟨R, 0, none⟩ = some (.slice (some ⟨b, off, none⟩) m c) := hb.cell 0
  have c1 : w.cell? ⟨R, 1, none⟩ = some (.int .i64 (k : Int)) := hb.cell 1
  have f1 := hb.free 1
  have hne : b ≠ R := by omega
  have hz : ((m : Int) == 0) = false := by simp; omega
  clear h hb
  go_enter Try.func67, Try.ntmps67
  go_wp2
  go_ret
  exact ⟨v % n, rfl, (mod_bd v0 hn).1, (mod_bd v0 hn).2, H.out⟩

theorem tmod_nat (a b : Nat) : (a : Int).tmod (b : Int) = ((a % b : Nat) : Int) := by rw [Int.tmod_eq_emod_of_nonneg (by omega)]; rfl
theorem tdiv_nat (a b : Nat) : (a : Int).tdiv (b : Int) = ((a / b : Nat) : Int) := by rw [Int.tdiv_eq_ediv_of_nonneg (by omega)]; rfl

theorem ofInt_nat (a : Nat) (ha : a < 9223372036854775808) : (BitVec.ofInt 64 (a : Int)).toNat = a := by
  rw [BitVec.ofInt_natCast, BitVec.toNat_ofNat]; exact Nat.mod_eq_of_lt (by omega)
theorem xor_nonneg (a b : Int) (h1 : 0 ≤ a) (h2 : a < 9223372036854775808) (h3 : 0 ≤ b) (h4 : b < 9223372036854775808) : 0 ≤ bits .xor .i64 a b := by
  obtain ⟨x, rfl⟩ := Int.eq_ofNat_of_zero_le h1
  obtain ⟨y, rfl⟩ := Int.eq_ofNat_of_zero_le h3
  have hx : x ^^^ y < 2 ^ 63 := Nat.xor_lt_two_pow (by omega) (by omega)
  show 0 ≤ IntKind.i64.wrap ((BitVec.ofInt 64 (x : Int) ^^^ BitVec.ofInt 64 (y : Int)).toNat : Int)
  rw [BitVec.toNat_xor, ofInt_nat x (by omega), ofInt_nat y (by omega), IntKind.wrap_i64]
  omega
theorem tmod_bd {a n : Int} (ha : 0 ≤ a) (hn : 1 ≤ n) : 0 ≤ a.tmod n ∧ a.tmod n < n := by
  rw [Int.tmod_eq_emod_of_nonneg ha]
  exact mod_bd ha hn

set_option maxHeartbeats 1000000 in
theorem pick_far (R b off m c k : Nat) (n v1 v2 : Int) (w : World) (h : Rd w R (k : Int)) (hb : Blk w R 95 #[.slice (some ⟨b, off, none⟩) m c, .int .i64 (k : Int)]) (hm : m ≤ 2000) (hm0 : 0 < m) (hk : m ≤ k) (hk2 : k ≤ 1000000)
    (hbR : b < R) (hv1 : w.cell? ⟨b, off + k % m, none⟩ = some (.int .u8 v1)) (hv2 : w.cell? ⟨b, off + (k * 7 + 3) % m, none⟩ = some (.int .u8 v2)) (a0 : 0 ≤ v1) (a1 : v1 ≤ 255) (b0 : 0 ≤ v2) (b1 : v2 ≤ 255) (hn : 1 ≤ n) (hn2 : n ≤ 1000000) :
    Calls Try.prog 67 #[.pointer (some ⟨R, 0, none⟩), .int .i64 n] w (PickPost w R (k : Int) n) := by
  have H := Lib.hid (rd_step h)
  have c0 : w.cell? ⟨R, 0, none⟩ = some (.slice (some ⟨b, off, none⟩) m c) := hb.cell 0
  have c1 : w.cell? ⟨R, 1, none⟩ = some (.int .i64 (k : Int)) := hb.cell 1
  have f1 := hb.free 1
  have hne : b ≠ R := by omega
  have hz : ((m : Int) == 0) = false := by simp; omega
  have q1 : k % m < m := Nat.mod_lt _ hm0
  have q2 : (k * 7 + 3) % m < m := Nat.mod_lt _ hm0
  have q3 : k / m ≤ k := Nat.div_le_self _ _
  obtain ⟨i1, I1⟩ : ∃ i, k % m = i := ⟨_, rfl⟩
  obtain ⟨i2, I2⟩ : ∃ i, (k * 7 + 3) % m = i := ⟨_, rfl⟩
  obtain ⟨d, D⟩ : ∃ i, k / m = i := ⟨_, rfl⟩
  rw [I1] at hv1 q1
  rw [I2] at hv2 q2
  rw [D] at q3
  have e1 : IntKind.i64.wrap ((k : Int) * 7) = (k : Int) * 7 := IntWalk.i64_in _ (by omega)
  have e2 : IntKind.i64.wrap ((k : Int) * 7 + 3) = (k : Int) * 7 + 3 := IntWalk.i64_in _ (by omega)
  have e3 : (k : Int).tmod (m : Int) = (i1 : Int) := by rw [tmod_nat, I1]
  have e4 : ((k : Int) * 7 + 3).tmod (m : Int) = (i2 : Int) := by have := tmod_nat (k * 7 + 3) m; rw [I2] at this; exact this
  have e5 : (k : Int).tdiv (m : Int) = (d : Int) := by rw [tdiv_nat, D]
  have e6 : IntKind.i64.wrap (v1 * 131) = v1 * 131 := IntWalk.i64_in _ (by omega)
  have e7 : IntKind.i64.wrap (v2 * 1117) = v2 * 1117 := IntWalk.i64_in _ (by omega)
  have e8 : IntKind.i64.wrap (v1 * 131 + v2 * 1117) = v1 * 131 + v2 * 1117 := IntWalk.i64_in _ (by omega)
  have e9 : IntKind.i64.wrap ((k : Int) * 29) = (k : Int) * 29 := IntWalk.i64_in _ (by omega)
  have e10 : IntKind.i64.wrap (v1 * 131 + v2 * 1117 + (k : Int) * 29) = v1 * 131 + v2 * 1117 + (k : Int) * 29 := IntWalk.i64_in _ (by omega)
  have e11 : IntKind.i64.wrap ((d : Int) * 53) = (d : Int) * 53 := IntWalk.i64_in _ (by omega)
  have e12 : IntKind.i64.wrap (v1 * 131 + v2 * 1117 + (k : Int) * 29 + (d : Int) * 53) = v1 * 131 + v2 * 1117 + (k : Int) * 29 + (d : Int) * 53 := IntWalk.i64_in _ (by omega)
  have j1 : (i1 : Int) < (m : Int) := by omega
  have j2 : (i2 : Int) < (m : Int) := by omega
  clear h hb I1 I2 D
  go_enter Try.func67, Try.ntmps67
  go_wp2
  go_quiet (fail)
  clear e1 e2 e3 e4 e5 e6 e7 e8 e9 e10 e11 e12
  go_wp2
  go_ret
  have hx := xor_nonneg (v1 * 131 + v2 * 1117 + (k : Int) * 29 + (d : Int) * 53) ((v1 * 131 + v2 * 1117 + (k : Int) * 29 + (d : Int) * 53) / 64) (by omega) (by omega) (by omega) (by omega)
  have hy := tmod_bd hx hn
  exact ⟨_, rfl, hy.1, hy.2, H.out nq⟩

theorem pick_any (R : Nat) (p n : Int) (w : World) (h : Rd w R p) (hp : p ≤ 1000000) (hn : 1 ≤ n) (hn2 : n ≤ 1000000) :
    Calls Try.prog 67 #[.pointer (some ⟨R, 0, none⟩), .int .i64 n] w (PickPost w R p n) := by
  have h' := h
  obtain ⟨h0, A, m, c, hb, hm, hby⟩ := h'
  obtain ⟨k, rfl⟩ := Int.eq_ofNat_of_zero_le h0
  rcases Nat.eq_zero_or_pos m with rfl | hm0
  · exact pick_none R c A k n w h hb h0 hp hn hn2
  · obtain ⟨b, off, rfl, hbR, hc⟩ := hby hm0
    by_cases hk : k < m
    · obtain ⟨v, v0, v1, hv⟩ := hc k hk
      exact pick_in R b off m c k n v w h hb hm hk hbR hv v0 v1 hn hn2
    · obtain ⟨v1, a0, a1, hv1⟩ := hc (k % m) (Nat.mod_lt _ hm0)
      obtain ⟨v2, b0, b1, hv2⟩ := hc ((k * 7 + 3) % m) (Nat.mod_lt _ hm0)
      exact pick_far R b off m c k n v1 v2 w h hb hm hm0 (by omega) (by omega) hbR hv1 hv2 a0 a1 b0 b1 hn hn2
end Go.Proofs.Ytjhalbmmlcbehaa

