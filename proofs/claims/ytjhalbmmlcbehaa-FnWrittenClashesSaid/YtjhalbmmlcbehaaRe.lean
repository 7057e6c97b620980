/- What is read, by the program; results that are compared by the laws. -/
import Derived.Test.YtjhalbmmlcbehaaIx
namespace Go.Proofs.Ytjhalbmmlcbehaa
open Go.RowKit Wr Go.Maps
set_option linter.unusedVariables false
set_option linter.unusedSimpArgs false

set_option maxRecDepth 8000 in
set_option maxHeartbeats 4000000 in
theorem samek_any (A B : Option Addr) (n c d : Nat) (l : List Stk) (w : World) (h : Stks w A n l) (k : Stks w B n l) (hn : n ≤ 1048576) :
    Calls Try.prog 16 #[.slice A n c, .slice B n d] w fun e w' => e = .returned (.bool true) ∧ Below w.heap.size w w' := by
  go_enter Try.func16, Try.ntmps16
  go_wp2_with fail
  go_loopw [5] (fun iv wr => ∃ j u : Nat, j ≤ n ∧ iv = .int .i64 j ∧ wr = w.drewN u) (fun iv _ => n - (intOf iv).toNat)
  case atStart => exact ⟨0, 0, Nat.zero_le _, rfl, rfl⟩
  case round =>
    obtain ⟨j, u, hj, rfl, rfl⟩ := hrel
    by_cases hlt : j < n
    · obtain ⟨b, off, x, rfl, hx, c0, c1⟩ := Stks.at2 h hlt
      obtain ⟨b2, off2, y, rfl, hy, e0, e1⟩ := Stks.at2 k hlt
      obtain rfl : x = y := by rw [hx] at hy; injection hy
      have j1 : (0 : Int) ≤ (j : Int) := by omega
      have j2 : (j : Int) < (n : Int) := by omega
      clear hx hy
      go_wp2_with fail
      go_quiet (fail)
      go_wp2_with fail
      go_roundw
      case rel => exact ⟨j + 1, _, by omega, by go_num, rfl⟩
      case measure => simp [intOf]; omega
    · obtain rfl : j = n := by omega
      go_wp2_with fail
      go_ret
      exact ⟨rfl, below_drewN (Below.refl _ _) _⟩
set_option maxRecDepth 8000 in
set_option maxHeartbeats 4000000 in
theorem samei_any (A B : Option Addr) (n c d : Nat) (l : List Int) (w : World) (h : RowR encI 1 w A n l) (k : RowR encI 1 w B n l) (hn : n ≤ 1048576) :
    Calls Try.prog 19 #[.slice A n c, .slice B n d] w fun e w' => e = .returned (.bool true) ∧ Below w.heap.size w w' := by
  go_enter Try.func19, Try.ntmps19
  go_wp2_with fail
  go_loopw [5] (fun iv wr => ∃ j u : Nat, j ≤ n ∧ iv = .int .i64 j ∧ wr = w.drewN u) (fun iv _ => n - (intOf iv).toNat)
  case atStart => exact ⟨0, 0, Nat.zero_le _, rfl, rfl⟩
  case round =>
    obtain ⟨j, u, hj, rfl, rfl⟩ := hrel
    by_cases hlt : j < n
    · obtain ⟨b, off, x, rfl, hx, c0⟩ := RowR.at_ h hlt
      obtain ⟨b2, off2, y, rfl, hy, e0⟩ := RowR.at_ k hlt
      obtain rfl : x = y := by rw [hx] at hy; injection hy
      have c0 : w.cell? ⟨b, off + j, none⟩ = some (.int .i64 x) := by have := c0 0 _ rfl; rwa [Nat.mul_one, Nat.add_zero] at this
      have e0 : w.cell? ⟨b2, off2 + j, none⟩ = some (.int .i64 x) := by have := e0 0 _ rfl; rwa [Nat.mul_one, Nat.add_zero] at this
      have j1 : (0 : Int) ≤ (j : Int) := by omega
      have j2 : (j : Int) < (n : Int) := by omega
      clear hx hy
      go_wp2_with fail
      go_quiet (fail)
      go_wp2_with fail
      go_roundw
      case rel => exact ⟨j + 1, _, by omega, by go_num, rfl⟩
      case measure => simp [intOf]; omega
    · obtain rfl : j = n := by omega
      go_wp2_with fail
      go_ret
      exact ⟨rfl, below_drewN (Below.refl _ _) _⟩
set_option maxRecDepth 8000 in
set_option maxHeartbeats 4000000 in
theorem samew_any (A B : Option Addr) (n c d : Nat) (l : List Stk) (p : Int) (w : World) (h : Stks w A n l) (k : Stks w B n l) (hn : n ≤ 1048576) :
    Calls Try.prog 14 #[fv A n c p, fv B n d p] w fun e w' => e = .returned (.bool true) ∧ Below w.heap.size w w' := by
  have hb1 : Below w.heap.size w (w.alloc (.cells #[.slice A n c, .int .i64 p] 30)) := (Below.refl _ _).alloc (Nat.le_refl _) _
  have HB2 := Lib.hid (hb1.alloc hb1.size (.cells #[.slice B n d, .int .i64 p] 30))
  have hq : (p == p) = true := by simp
  clear hb1
  go_enter Try.func14, Try.ntmps14
  go_wp2_with fail
  refine (samek_any A B n c d l _ (h.below HB2.out) (k.below HB2.out) hn).mono ?_
  rintro e w1 ⟨rfl, hb⟩
  have HB3 := Lib.hid (HB2.out.trans (hb.mono HB2.out.size))
  clear hb HB2
  go_wp2_with fail
  go_ret
  exact ⟨rfl, HB3.out⟩
set_option maxRecDepth 8000 in
set_option maxHeartbeats 4000000 in
theorem iwvalid_any (A : Option Addr) (n c : Nat) (l : List Stk) (p : Int) (w : World) (h : Stks w A n l) (hn : n ≤ 1048576) (hl : outOk l = true) (p0 : 0 ≤ p) (p2 : p ≤ 2) :
    Calls Try.prog 18 #[fv A n c p] w fun e w' => e = .returned (.bool true) ∧ Below w.heap.size w w' := by
  have hY := Lib.hid (Blk.new w 30 #[.slice A n c, .int .i64 p])
  have HB0 := Lib.hid (Below.alloc (Below.refl w.heap.size w) (Nat.le_refl _) (.cells #[.slice A n c, .int .i64 p] 30))
  have HL := Lib.hid hl
  have g1 : p < 3 := by omega
  clear hl
  go_enter Try.func18, Try.ntmps18
  go_wp2_with fail
  refine (ioutline_any A n c l _ (h.below HB0.out) (by omega)).mono ?_
  rw [HL.out]
  rintro e w1 ⟨rfl, hb⟩
  have HB1 := Lib.hid (HB0.out.trans (hb.mono HB0.out.size))
  have hY1 := hY.out.below hb hY.out.lt
  have e1 := hY1.cell 1
  clear hb HB0 hY hY1
  go_wp2_with fail
  go_ret
  exact ⟨rfl, HB1.out⟩
set_option maxRecDepth 8000 in
set_option maxHeartbeats 4000000 in
theorem formof_any (A : Option Addr) (n c : Nat) (p : Int) (w : World) : Calls Try.prog 32 #[fv A n c p] w fun e w' => e = .returned (fv A n c p) ∧ Below w.heap.size w w' := by
  have b1 := Below.alloc (Below.refl w.heap.size w) (Nat.le_refl _) (.cells #[.slice A n c, .int .i64 p] 30)
  have B2 := Lib.hid (b1.alloc b1.size (.cells #[.slice A n c, .int .i64 p] 62))
  have k2 := Blk.new (w.alloc (.cells #[.slice A n c, .int .i64 p] 30)) 62 #[.slice A n c, .int .i64 p]
  simp only [World.size_alloc] at k2
  have K2 := Lib.hid k2
  clear b1 k2
  go_enter Try.func32, Try.ntmps32
  go_wp2_with fail
  try simp only [Exit.inBlock, Exit.then]
  have y0 := K2.out.cell 0
  have y1 := K2.out.cell 1
  exact bodyPost_ret (v := fv A n c p) (by simp [results, Try.results32, go_sem, y0, y1]) rfl ⟨rfl, B2.out⟩
/-- the indexes of the written words with a form, plainly -/
def ixW (ys : List WL) (l : List Stk) (p : Int) : List Int := (ys.filter fun y => decide (y.2.2 = p ∧ y.2.1 = l)).map (·.1)
theorem ixs_key {xs : List Pl} {ys : List WL} (h : xs.map keyP = ys) (l : List Stk) (p : Int) : ixs xs l p = ixW ys l p := by
  subst h
  unfold ixs ixW
  induction xs with
  | nil => rfl
  | cons x xs ih =>
    rw [List.map_cons, List.filter_cons, List.filter_cons]
    have e : decide ((keyP x).2.2 = p ∧ (keyP x).2.1 = l) = decide (x.p = p ∧ x.l = l) := rfl
    rw [e]
    cases decide (x.p = p ∧ x.l = l)
    · exact ih
    · show x.idx :: _ = x.idx :: _
      rw [show List.map (·.idx) (List.filter (fun x => decide (x.p = p ∧ x.l = l)) xs) = _ from ih]
set_option maxRecDepth 8000 in
set_option maxHeartbeats 8000000 in
theorem read_any (A B C : Option Addr) (n c m d q u : Nat) (ss : List Sgn) (ws : List ByteArray) (l : List Stk) (p : Int) (w : World) (h : Sgns w A n ss) (hok : ∀ x ∈ ss, OkG x) (hn : n ≤ 9223372036854775807) (k : Strs w B m ws) (hm : m ≤ 9223372036854775807) (hmd : m ≤ d)
    (hC : Stks w C q l) (hq : q ≤ 1048576) (hv : (sysOk ss && dictOk ws) = true) (hl : outOk l = true) (p0 : 0 ≤ p) (p2 : p ≤ 2) :
    Calls Try.prog 10 #[.slice A n c, .slice B m d, fv C q u p] w fun e w' => ∃ A' k' c', e = .returned (.slice A' k' c') ∧ OwnR encI 1 3 w' w.heap.size w'.heap.size A' k' c' (ixW (wl ss ws) l p) ∧ Below w.heap.size w w' := by
  have hY := Lib.hid (Blk.new w 30 #[.slice C q u, .int .i64 p])
  have HB0 := Lib.hid (Below.alloc (Below.refl w.heap.size w) (Nat.le_refl _) (.cells #[.slice C q u, .int .i64 p] 30))
  have HV := Lib.hid hv
  have HL := Lib.hid hl
  have hm20 : m ≤ 20 := by
    simp only [Bool.and_eq_true] at hv
    have := dict_len hv.2
    rw [k.len] at this
    exact this
  have hwl := wl_len ss ws
  rw [k.len] at hwl
  clear hv hl
  go_enter Try.func10, Try.ntmps10
  go_wp2_with fail
  refine (pw_any A B n c m d ss ws _ (h.below HB0.out) hok hn (k.below HB0.out) hm hmd).mono ?_
  rintro e w1 (⟨hr, rfl, hb⟩ | ⟨hr, A1, n1, c1, xs, rfl, hO, hX, hLd, hb⟩)
  · exact absurd (hr.symm.trans HV.out) (by simp)
  have hn20 : n1 ≤ 20 := by
    have h1 := congrArg List.length hX
    rw [List.length_map, hO.len] at h1
    omega
  have HP := Lib.hid (show PlR w1 A1 n1 xs from ⟨OwnR.reads encP_len hO, hLd⟩)
  have HB1 := Lib.hid (HB0.out.trans (hb.mono HB0.out.size))
  have HY1 := Lib.hid (hY.out.below hb hY.out.lt)
  have HX := Lib.hid (ixs_key hX l p)
  have y0 := HY1.out.cell 0
  have y1 := HY1.out.cell 1
  have yl := HY1.out.lt
  clear hr hO hX hLd hb hY HB0
  go_wp2_with fail
  refine (iwvalid_any C q u l p _ (hC.below HB1.out) hq HL.out p0 p2).mono ?_
  rintro e w2 ⟨rfl, hb⟩
  have HB2 := Lib.hid (HB1.out.trans (hb.mono HB1.out.size))
  have HY2 := Lib.hid (HY1.out.below hb HY1.out.lt)
  have HP2 := Lib.hid (HP.out.below hb)
  clear hb HB1 HY1 HP y0 y1 yl
  have y0 := HY2.out.cell 0
  have y1 := HY2.out.cell 1
  have yl := HY2.out.lt
  go_wp2_with fail
  refine (formof_any C q u p _).mono ?_
  rintro e w3 ⟨rfl, hb⟩
  have HB3 := Lib.hid (HB2.out.trans (hb.mono HB2.out.size))
  have HP3 := Lib.hid (HP2.out.below hb)
  clear hb HB2 HP2 HY2 y0 y1 yl
  go_wp2_with fail
  refine (ix_any A1 C n1 c1 q u xs l p _ HP3.out hn20 (hC.below HB3.out) hq).mono ?_
  rintro e w4 ⟨A5, k5, c5, rfl, hO5, hb⟩
  rw [HX.out] at hO5
  have HO5 := Lib.hid (hO5.wide HB3.out.size (Nat.le_refl _) (Nat.le_refl _))
  have HB4 := Lib.hid (HB3.out.trans (hb.mono HB3.out.size))
  clear hO5 hb HB3 HP3
  go_wp2_with fail
  go_ret
  exact ⟨_, _, _, rfl, HO5.out, HB4.out⟩
end Go.Proofs.Ytjhalbmmlcbehaa
