/- MarksBack of the reference. -/
import Derived.Test.YtjhlcgjhdiheaaaBack2
namespace Go.Proofs.Ytjhlcgjhdiheaaa
open Go.RowKit
set_option linter.unusedVariables false
set_option linter.unusedSimpArgs false

set_option maxRecDepth 10000 in
set_option maxHeartbeats 4000000 in
theorem sback_any (A B : Option Addr) (n c m d : Nat) (ws : List ByteArray) (ms : List M) (w : World) (hn : n ≤ 9223372036854775807) (hm : m ≤ 9223372036854775807) (hnc : n ≤ c) (hcm : c ≤ 9223372036854775807) (hz : A = none → c = 0) (h : Strs w A n ws) (k : Mrks w B m ms) :
    Calls Try.prog 59 #[.slice A n c, .slice B m d] w (MrkPost w (backF ws ms)) := by
  have hlen := Lib.hid h.len
  have hlen2 := Lib.hid k.len
  cases hv : valid ws ms with
  | false =>
    have hr := Lib.hid (backF_no hv)
    have b0 : Below w.heap.size w (w.alloc (.cells #[] 58)) := (Below.refl _ _).alloc (Nat.le_refl _) _
    have hE0 := own_emptyM w w.heap.size (Nat.le_refl _)
    go_enter Try.func59, Try.ntmps59
    go_wp2_with fail
    refine (svalidm_any A B n c m d ws ms _ hn hm (h.below b0) (k.below b0)).mono ?_
    rintro e W ⟨rfl, hb0⟩
    have hE := Lib.hid (hE0.below hb0)
    have hb := b0.trans (hb0.mono b0.size)
    have hs0 : w.heap.size + 1 ≤ W.heap.size := by have := hb0.size; simpa using this
    clear hE0 b0 hb0
    rw [hv]
    go_wp2_with fail
    go_ret2
    exact MrkPost.empty hr.out hE.out (Nat.le_refl _) hb
  | true =>
    have hr := Lib.hid (backF_yes hv)
    have hV := Lib.hid hv
    have hn20 : n ≤ 20 := by rw [← hlen.out]; exact (Mk.speech_parts wok (Mk.valid_parts wok hv).1).1
    have hm20 : m ≤ 20 := by rw [← hlen2.out]; exact (Mk.valid_parts wok hv).2.1
    have b0 : Below w.heap.size w (w.alloc (.cells #[] 58)) := (Below.refl _ _).alloc (Nat.le_refl _) _
    have hE0 := own_emptyM w w.heap.size (Nat.le_refl _)
    go_enter Try.func59, Try.ntmps59
    go_wp2_with fail
    refine (svalidm_any A B n c m d ws ms _ hn hm (h.below b0) (k.below b0)).mono ?_
    rintro e W ⟨rfl, hb0⟩
    have hE := Lib.hid (hE0.below hb0)
    have hb := b0.trans (hb0.mono b0.size)
    have hs0 : w.heap.size + 1 ≤ W.heap.size := by have := hb0.size; simpa using this
    clear hE0 b0 hb0
    rw [hv]
    clear hv
    go_wp2_with fail
    go_loopw [6, 7, 8] (fun v sv i wr => ∃ (j : Nat) (s : Int) (A' : Option Addr) (c' hi : Nat), j ≤ m ∧ i = .int .i64 j ∧ sv = .int .i64 s ∧ v = .slice A' j c' ∧ -(40 * (j : Int)) ≤ s ∧ s ≤ 40 * (j : Int) ∧ OwnM wr w.heap.size hi A' j c' (Mk.backM ws 0 (ms.take j)) ∧ Hid (s = Mk.grow (ms.take j)) ∧ w.heap.size ≤ hi ∧ Below w.heap.size w wr) (fun _ _ i _ => m - (intOf i).toNat)
    case atStart => exact ⟨0, 0, some ⟨w.heap.size, 0, none⟩, 0, w.heap.size + 1, Nat.zero_le _, rfl, rfl, rfl, by omega, by omega, hE.out, Lib.hid (by simp [Mk.grow]), by omega, hb⟩
    case round =>
      obtain ⟨j, s, A', c', hi, hj, rfl, rfl, rfl, s0, s1, ho, hS, hhi, hbel⟩ := hrel
      by_cases hlt : j < m
      · obtain ⟨b, off, x, rfl, hx, x1, x2, d0, d1, B', n', c2, d2, hp⟩ := k.at_ hlt
        have hf := fit_of hV.out (mem_at hx)
        obtain ⟨f1, f2, f3, f4, f5, f6, f7, f8⟩ := hf
        have hpl := hp.len
        have hn2 : n' ≤ 20 := by omega
        obtain ⟨q, hq⟩ := Int.eq_ofNat_of_zero_le f1
        obtain ⟨r, hr'⟩ := Int.eq_ofNat_of_zero_le f3
        have q3 : q + r ≤ n := by have := hlen.out; omega
        have q4 : 0 < r + n' := by omega
        have hG := Lib.hid (back_go (ws := ws) hx s hS.out)
        have hS2 : Hid (s + (n' : Int) - (r : Int) = Mk.grow (ms.take (j + 1))) := Lib.hid (by rw [grow_go hx, ← hS.out, hr']; omega)
        have k0 := (hbel.cell (lt_of_cell d0)).trans d0
        have k1 := (hbel.cell (lt_of_cell d1)).trans d1
        have k2 := (hbel.cell (lt_of_cell d2)).trans d2
        have hp' := hp.below hbel
        rw [hq] at k0
        rw [hr'] at k1
        have hPut : PutIn wr (if c = q then A else A.map (·.add q)) (q + r - q) (c - q) ((ws.drop q).take (q + r - q)) := by
          refine ⟨?_, by omega, by omega, cut_none hz⟩
          exact (h.below hbel).cut_if (p := q) (q := q + r) (by omega) q3 hnc
        have HP := Lib.hid hPut
        have hne : some wr.heap.size ≠ A'.map (·.block) := by
          intro e
          cases A' with
          | none => cases e
          | some a =>
            have e : wr.heap.size = a.block := by injection e
            have := (ho.lo_le a rfl).2
            have := ho.top
            omega
        have I1 : Hid (I64 ((q : Int) + s)) := Lib.hid (by unfold I64; omega)
        have I2 : Hid (I64 (n' : Int)) := Lib.hid (by unfold I64; omega)
        have hG2 : Hid (Mk.backM ws 0 (ms.take (j + 1)) = Mk.backM ws 0 (ms.take j) ++ [⟨(q : Int) + s, (n' : Int), (ws.drop q).take r⟩]) := Lib.hid (by
          have := hG.out
          rw [hq, hr', hpl] at this
          simpa only [Int.toNat_natCast] using this)
        have x1' := Blk.new wr 58 #[.int .i64 (q : Int), .int .i64 (r : Int), .slice B' n' c2]
        have hs1 : (wr.alloc (.cells #[.int .i64 (q : Int), .int .i64 (r : Int), .slice B' n' c2] 58)).heap.size = wr.heap.size + 1 := by simp
        have e2 := own_emptyS (wr.alloc (.cells #[.int .i64 (q : Int), .int .i64 (r : Int), .slice B' n' c2] 58)) (wr.heap.size + 1) (by rw [hs1]; exact Nat.le_refl _)
        rw [hs1] at e2
        have hE2 := Lib.hid e2
        have hX2 := Lib.hid (x1'.alloc (.cells #[] 9))
        have b2 : Below wr.heap.size wr ((wr.alloc (.cells #[.int .i64 (q : Int), .int .i64 (r : Int), .slice B' n' c2] 58)).alloc (.cells #[] 9)) := ((Below.refl _ _).alloc (Nat.le_refl _) _).alloc (by simp) _
        have hs2 : wr.heap.size + 1 ≤ ((wr.alloc (.cells #[.int .i64 (q : Int), .int .i64 (r : Int), .slice B' n' c2] 58)).alloc (.cells #[] 9)).heap.size := by simp
        have B2 := Lib.hid b2
        clear e2 x1' hs1 b2
        have HO := Lib.hid ho
        have htop := ho.top
        have hcap := hbel.size
        have u0 : IntKind.i64.wrap ((q : Int) + (r : Int)) = (q : Int) + (r : Int) := IntWalk.i64_in _ (by omega)
        have u1 : IntKind.i64.wrap (s + (n' : Int)) = s + (n' : Int) := IntWalk.i64_in _ (by omega)
        have u2 : IntKind.i64.wrap (s + (n' : Int) - (r : Int)) = s + (n' : Int) - (r : Int) := IntWalk.i64_in _ (by omega)
        have u3 : IntKind.i64.wrap ((q : Int) + s) = (q : Int) + s := IntWalk.i64_in _ (by omega)
        have i1 : (0 : Int) ≤ (j : Int) := by omega
        have i2 : (j : Int) < (m : Int) := by omega
        clear hx hpl f1 f2 f3 f4 f5 f6 f7 f8 hG hS hp hp' hPut ho d0 d1 d2
        go_wp2_with (first
          | (at_builtin; refine wpList_catS _ rfl (.tmp 27) (.tmp 36) rfl (wr.heap.size + 1) (wr.heap.size + 1 + 1) (some ⟨wr.heap.size + 1, 0, none⟩) 0 0 [] rfl hE2.out _ _ _ _ rfl (HP.out.1.below B2.out) (cut_none hz) (by omega) hs2 ?_; intro A4 c4 w3 o4 g3; rw [List.nil_append, Nat.zero_add, Nat.add_sub_cancel_left] at o4; have y3 := hX2.out.grown g3 (by simp); have b3 := below_only B2.out g3 (fun g e => by simp at e; omega); have l3 := y3.lt; have v0 := y3.cell 0; have v2 := y3.cell 2; simp at v0 v2; have Y3 := Lib.hid y3; have B3 := Lib.hid b3; have O4 := Lib.hid o4; clear y3 b3 g3 o4)
          | (at_builtin; go_must (refine wpList_pushM _ rfl (.tmp 38) (.tmp 48) rfl w.heap.size hi A' j c' _ rfl ((HO.out.below B3.out).alloc _) ⟨(q : Int) + s, (n' : Int), (ws.drop q).take r⟩ ⟨A4, r, c4⟩ (w3.heap.size + 1) w3.heap.size rfl I1.out I2.out ((O4.out.alloc _).wide (by omega) (by simp) (by simp)) ((Blk.new w3 58 #[.int .i64 ((q : Int) + s), .int .i64 (n' : Int), .slice A4 r c4]).cell 0) ((Blk.new w3 58 #[.int .i64 ((q : Int) + s), .int .i64 (n' : Int), .slice A4 r c4]).cell 1) ((Blk.new w3 58 #[.int .i64 ((q : Int) + s), .int .i64 (n' : Int), .slice A4 r c4]).cell 2) (by omega) hhi ?_); intro A5 c5 w5 o5 g5; rw [← hG2.out] at o5; have y5 := (Y3.out.alloc (.cells #[.int .i64 ((q : Int) + s), .int .i64 (n' : Int), .slice A4 r c4] 58)).grown g5 hne; have b5 := below_cat ((hbel.trans (B3.out.mono hcap)).alloc (by omega) (.cells #[.int .i64 ((q : Int) + s), .int .i64 (n' : Int), .slice A4 r c4] 58)) g5 (fun a ha => (HO.out.lo_le a ha).1); have z1 := y5.cell 1; have z2 := y5.cell 2; simp at z1 z2; have B5 := Lib.hid b5; have O5 := Lib.hid o5; clear g5 o5 b5 y5 hbel Y3 B3 HO O4 hG2 v0 v2))
        all_goals
          (first | subst h | skip)
          go_roundw
          case rel => exact ⟨j + 1, s + (n' : Int) - (r : Int), A5, c5, w5.heap.size, by omega, by go_num, rfl, rfl, by omega, by omega, O5.out, hS2, by have := B5.out.size; omega, B5.out⟩
          case measure => simp [intOf]; omega
      · obtain rfl : j = m := by omega
        have he : Mk.backM ws 0 (ms.take j) = Mk.backM ws 0 ms := by rw [List.take_of_length_le (by rw [hlen2.out]; exact Nat.le_refl _)]
        rw [he] at ho
        have HO := Lib.hid ho
        clear he ho hS
        go_wp2_with fail
        go_ret2
        exact MrkPost.some_ hr.out (HO.out.wide (Nat.le_refl _) HO.out.top (Nat.le_refl _)) hbel
end Go.Proofs.Ytjhlcgjhdiheaaa
