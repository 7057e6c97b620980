/- The statements' helpers for lists of marks, second part: copied. -/
import Derived.Test.YtjhlcgjhdiheaaaDoorH1
namespace Go.Proofs.YtjhlcgjhdiheaaaDoor
open Go.RowKit
set_option linter.unusedVariables false
set_option linter.unusedSimpArgs false

def ToMark (w : World) (x y : Int) (xs : List ByteArray) (e : Ending) (w' : World) : Prop := ∃ A n c, e = .returned (.agg #[.int .i64 x, .int .i64 y, .slice A n c]) ∧ OwnS w' w.heap.size w'.heap.size A n c xs ∧ Below w.heap.size w w'
set_option maxHeartbeats 400000 in
theorem tomark_any (x y : Int) (A : Option Addr) (n c : Nat) (xs : List ByteArray) (w : World) (hn : n ≤ 1048576) (h : Strs w A n xs) :
    Calls Tryd.prog 27 #[.agg #[.int .i64 x, .int .i64 y, .slice A n c]] w (ToMark w x y xs) := by
  have b3 : Below w.heap.size w (((w.alloc (.cells #[.int .i64 x, .int .i64 y, .slice A n c] 56)).alloc (.cells #[.int .i64 0, .int .i64 0, .slice none 0 0] 46)).alloc (.cells #[.int .i64 x, .int .i64 y, .slice none 0 0] 46)) :=
    (((Below.refl _ _).alloc (Nat.le_refl _) _).alloc (by simp) _).alloc (by simp; omega) _
  have k1 : Blk (((w.alloc (.cells #[.int .i64 x, .int .i64 y, .slice A n c] 56)).alloc (.cells #[.int .i64 0, .int .i64 0, .slice none 0 0] 46)).alloc (.cells #[.int .i64 x, .int .i64 y, .slice none 0 0] 46)) (w.heap.size + 1) 46 #[.int .i64 0, .int .i64 0, .slice none 0 0] := by
    have := (Blk.new (w.alloc (.cells #[.int .i64 x, .int .i64 y, .slice A n c] 56)) 46 #[.int .i64 0, .int .i64 0, .slice none 0 0]).alloc (.cells #[.int .i64 x, .int .i64 y, .slice none 0 0] 46)
    simpa using this
  have k2 : Blk (((w.alloc (.cells #[.int .i64 x, .int .i64 y, .slice A n c] 56)).alloc (.cells #[.int .i64 0, .int .i64 0, .slice none 0 0] 46)).alloc (.cells #[.int .i64 x, .int .i64 y, .slice none 0 0] 46)) (w.heap.size + 1 + 1) 46 #[.int .i64 x, .int .i64 y, .slice none 0 0] := by
    have := Blk.new ((w.alloc (.cells #[.int .i64 x, .int .i64 y, .slice A n c] 56)).alloc (.cells #[.int .i64 0, .int .i64 0, .slice none 0 0] 46)) 46 #[.int .i64 x, .int .i64 y, .slice none 0 0]
    simpa using this
  have hz : (((w.alloc (.cells #[.int .i64 x, .int .i64 y, .slice A n c] 56)).alloc (.cells #[.int .i64 0, .int .i64 0, .slice none 0 0] 46)).alloc (.cells #[.int .i64 x, .int .i64 y, .slice none 0 0] 46)).heap.size = w.heap.size + 1 + 1 + 1 := by simp
  generalize hW : (((w.alloc (.cells #[.int .i64 x, .int .i64 y, .slice A n c] 56)).alloc (.cells #[.int .i64 0, .int .i64 0, .slice none 0 0] 46)).alloc (.cells #[.int .i64 x, .int .i64 y, .slice none 0 0] 46)) = W3 at b3 k1 k2 hz
  have HW := Lib.hid hW
  have HZ := Lib.hid hz
  clear hW hz
  go_enter Tryd.func27, Tryd.ntmps27
  go_wp2_with fail
  rw [HW.out]
  refine (to_any A n c xs W3 hn (h.below b3)).mono ?_
  rintro e w1 ⟨A', c', rfl, ho, hb⟩
  have hz := HZ.out
  have j1 := k1.below hb (by omega)
  have j2 := k2.below hb (by omega)
  have b4 : Below w.heap.size w w1 := b3.trans (hb.mono (by omega))
  have c10 := j1.cell 0
  have c11 := j1.cell 1
  have c12 := j1.cell 2
  have c20 := j2.cell 0
  have c21 := j2.cell 1
  have c22 := j2.cell 2
  have f10 := j1.free 0
  have f11 := j1.free 1
  have f12 := j1.free 2
  have f22 := j2.free 2
  simp at c10 c11 c12 c20 c21 c22
  have hO := Lib.hid (ho.wide (lo' := w.heap.size) (by omega) (Nat.le_refl _) (Nat.le_refl _))
  have hB := Lib.hid b4
  have hne1 := Lib.hid (ho.ne_blk j1 (by decide))
  have hne2 := Lib.hid (ho.ne_blk j2 (by decide))
  clear hz j1 j2 b4 ho hb k1 k2 b3
  go_wp2
  refine bodyPost_ret (v := .agg #[.int .i64 x, .int .i64 y, .slice A' n c']) ?_ rfl ⟨A', n, c', rfl, ?_, ?_⟩
  · have l1 : w.heap.size + 1 < w1.heap.size := lt_of_cell c10
    simp [results, Tryd.results27, go_sem, c10, c11, c12, l1]
  · have o1 := ((((hO.out.set_far (w.heap.size + 1 + 1) 2 hne2.out (.slice A' n c')).set_far (w.heap.size + 1) 0 hne1.out (.int .i64 x)).set_far (w.heap.size + 1) 1 hne1.out (.int .i64 y)).set_far (w.heap.size + 1) 2 hne1.out (.slice A' n c'))
    simpa [World.setCell] using o1
  · exact (((hB.out.setCell (p := ⟨w.heap.size + 1 + 1, 2, none⟩) (by show _ ≤ w.heap.size + 1 + 1; omega) _).setCell (p := ⟨w.heap.size + 1, 0, none⟩) (by show _ ≤ w.heap.size + 1; omega) _).setCell (p := ⟨w.heap.size + 1, 1, none⟩) (by show _ ≤ w.heap.size + 1; omega) _).setCell (p := ⟨w.heap.size + 1, 2, none⟩) (by show _ ≤ w.heap.size + 1; omega) _
theorem copy_stepM {xs : List M} {n k : Nat} {x z : M} (hl : xs.length = n) (hk : k < n) (hx : xs[k]? = some x) : (xs.take k ++ List.replicate (n - k) z).set k x = xs.take (k + 1) ++ List.replicate (n - (k + 1)) z := by
  have h1 : (xs.take k).length = k := by rw [List.length_take]; omega
  obtain ⟨d, hd⟩ : ∃ d, n - k = d + 1 := ⟨n - k - 1, by omega⟩
  rw [hd, show n - (k + 1) = d by omega, List.replicate_succ, List.set_append, if_neg (by omega), h1, Nat.sub_self, List.set_cons_zero, take_snoc hx]
  simp

set_option maxHeartbeats 1000000 in
theorem tom_any (A : Option Addr) (n c : Nat) (ms : List M) (w : World) (hm : n ≤ 1048576) (hB : ∀ m ∈ ms, m.put.length ≤ 1048576) (h : Mrks w A n ms) :
    Calls Tryd.prog 13 #[.slice A n c] w fun e w' => ∃ A' c', e = .returned (.slice A' n c') ∧ OwnM w' w.heap.size w'.heap.size A' n c' ms ∧ Below w.heap.size w w' := by
  obtain ⟨i0, hi, hz0, hz1, hz2⟩ := info_parts Tryd.infoMark
  have hlen := Lib.hid h.len
  have hb8 : i0.bytes * n ≤ 281474976710656 := by rw [hz2]; omega
  have hml : n ≤ maxLen := by unfold maxLen; omega
  go_enter Tryd.func13, Tryd.ntmps13
  go_wp2_with (at_make; refine wpList_make_full _ rfl _ _ 24 rfl w.heap.size 46 i0 (.agg #[.int .i64 0, .int .i64 0, .slice none 0 0]) 3 Tryd.underlying24 hi hz0 hz1 .i64 .i64 _ _ n rfl rfl rfl rfl hb8 hml (Nat.le_refl _) ?_; intro w1 hown hgrow)
  have ho := own_madeM w1 w.heap.size n hown
  have hb1 : Below w.heap.size w w1 := below_of_grown hgrow (Nat.le_refl _) (fun _ e => by cases e)
  have hO := Lib.hid ho.own
  clear hown hgrow hi hz0 hz1 hz2 hb8 hml ho
  go_loopw [4] (fun i wr => ∃ k : Nat, k ≤ n ∧ i = .int .i64 k ∧ (∃ hi, Hid (OwnM wr w.heap.size hi (some ⟨w.heap.size, 0, none⟩) n n (ms.take k ++ List.replicate (n - k) ⟨0, 0, []⟩))) ∧ Below w.heap.size w wr) (fun i _ => n - (intOf i).toNat)
  case atStart => exact ⟨0, Nat.zero_le _, rfl, ⟨_, Lib.hid (by simpa using hO.out)⟩, hb1⟩
  case round =>
    obtain ⟨k, hk, rfl, ⟨hi, hown⟩, hbel⟩ := hrel
    by_cases hlt : k < n
    · obtain ⟨b, off, x, rfl, hx, x1, x2, c0, c1, A', n', c', c2, hp⟩ := (h.below hbel).at_ hlt
      have hX := Lib.hid hx
      have hxm : x.put.length ≤ 1048576 := hB x (mem_at hx)
      have hpl := hp.len
      have hnn : n' ≤ 1048576 := by omega
      clear hx hpl hxm
      go_wp2_with fail
      refine (tomark_any x.at_ x.cut A' n' c' x.put wr hnn hp.1).mono ?_
      rintro e w1 ⟨B, m, d, rfl, ho, hb1⟩
      have htop := hown.out.top
      obtain ⟨ps, hM⟩ := hown.out.below hb1
      obtain ⟨g, m0, p0, hg, g1, g2, hm0, hp0, _, _, _, _, d0, d1, d2, f0, f1, f2⟩ := hM.get hlt
      obtain rfl : w.heap.size = g := by injection hg with hg; injection hg
      have hs := hM.store hm0 hp0 (m' := x) (q := ⟨B, m, d⟩) x1 x2 (ho.wide htop (Nat.le_refl _) (Nat.le_refl _)) (by omega)
      rw [copy_stepM hlen.out hlt hX.out] at hs
      have hS := Lib.hid hs.own
      have hbel1 := Lib.hid (hbel.trans (hb1.mono hbel.size))
      clear hs hM hm0 hp0 ho hb1 hbel hg g1 g2 c0 c1 c2 hown htop
      go_wp2_with fail
      go_roundw
      case rel => exact ⟨k + 1, by omega, by go_num, ⟨_, hS⟩, ((hbel1.out.setCell (Nat.le_refl _) _).setCell (Nat.le_refl _) _).setCell (Nat.le_refl _) _⟩
      case measure => simp [intOf]; omega
    · have he : ms.take k ++ List.replicate (n - k) ⟨0, 0, []⟩ = ms := by rw [List.take_of_length_le (by rw [hlen.out]; omega), show n - k = 0 by omega]; simp
      rw [he] at hown
      go_wp2
      go_ret
      exact ⟨_, _, rfl, hown.out.wide (Nat.le_refl _) hown.out.top (Nat.le_refl _), hbel⟩
end Go.Proofs.YtjhlcgjhdiheaaaDoor

