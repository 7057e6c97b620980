/- Proved: the statement 'FnWrittenOfSaid': the law FnWrittenOf returns true for every input, and every argument reads afterwards as it read before. No further conditions. The frame follows the kit's proof-skeleton; the walk is ours. -/
import Derived.Test.YtjhalbmmlcbehaaRows
import Derived.Test.YtjhalbmmlcbehaaDs
import Derived.Test.YtjhalbmmlcbehaaPk
import Derived.Test.YtjhalbmmlcbehaaArg
import Derived.Test.YtjhalbmmlcbehaaEnter
import Derived.WalkKit
import Derived.ProofKit
import Derived.OpenShut
import Derived.ShutString
import Derived.ChangeOld
import Derived.Below
namespace Go.Proofs.Ytjhalbmmlcbehaa.fnWrittenOf
open Go.ChangeShapes Go.WideShapes Go.ChangeAt Go.RowKit
open Go.ChangeMaps (open_string shut_string)
set_option linter.unusedVariables false
set_option linter.unusedSimpArgs false

theorem own : ownKnob Try.prog.godebug = none := by kernel_rfl
theorem laidOut : laidOutB Try.prog = true := by kernel_rfl

set_option maxRecDepth 20000 in
set_option maxHeartbeats 8000000 in
theorem walk (a0 : Option Addr) (len0 cap0 : Nat) (z0 : List Int) (w : World) (w0 : IsRow .u8 w a0 len0 cap0 z0) :
    Calls Try.prog 4 #[.slice a0 len0 cap0] w fun e w' => e = .returned (.bool true) ∧ Below w.heap.size w w' := by
  by_cases hbig : len0 ≤ 1048576
  rotate_left
  · have g0 : (1048576 : Int) < (len0 : Int) := by omega
    clear hbig
    go_enter Try.func4, Try.ntmps4
    go_wp2_with fail
    go_ret
    exact ⟨rfl, Below.refl _ _⟩
  have g0 : ¬ (1048576 : Int) < (len0 : Int) := by omega
  have HBy := Lib.hid w0.bytes
  have hlc := w0.len_cap
  go_enter Try.func4, Try.ntmps4
  go_wp2_with fail
  refine (drawwo_any a0 len0 cap0 _ HBy.out hbig hlc).mono ?_
  rintro e W1 ⟨A, n, c, ss, s, rfl, hO, hok, hn22, hs, hb⟩
  have HO1 := Lib.hid hO
  have hcap := hO.cap_le
  have B1 := Lib.hid hb
  have HK := Lib.hid hok
  clear hO hb hok
  go_wp2_with fail
  refine (iwof_any A n c ss s _ (OwnR.reads encG_len HO1.out) HK.out (by omega) (by omega)).mono ?_
  rintro e W2 ⟨A1, n1, c1, p1, rfl, hs1, hs0, hb⟩
  have B2 := Lib.hid (B1.out.trans (hb.mono B1.out.size))
  have HO2 := Lib.hid (HO1.out.below hb)
  have bX : Below W2.heap.size W2 (W2.alloc (.cells #[.slice A1 n1 c1, .int .i64 p1] 30)) := (Below.refl _ _).alloc (Nat.le_refl _) _
  have BX := Lib.hid bX
  have X2 := Lib.hid (Blk.new W2 30 #[.slice A1 n1 c1, .int .i64 p1])
  have S1 := Lib.hid hs1
  have S0 := Lib.hid hs0
  clear hb bX hs1 hs0 HO1 B1
  go_wp2_with fail
  refine (swof_any A n c ss s _ ((OwnR.reads encG_len HO2.out).below BX.out) HK.out (by omega) (by omega)).mono ?_
  rintro e W3 ⟨A2, n2, c2, p2, rfl, ht1, ht0, hb⟩
  have B3 := Lib.hid ((B2.out.trans (BX.out.mono B2.out.size)).trans (hb.mono (Nat.le_trans B2.out.size BX.out.size)))
  have HO3 := Lib.hid ((HO2.out.below BX.out).below hb)
  have X3 := Lib.hid (X2.out.below hb X2.out.lt)
  have T1 := Lib.hid ht1
  have T0 := Lib.hid ht0
  have b23 := Lib.hid (show Below W2.heap.size W2 W3 from BX.out.trans (hb.mono BX.out.size))
  clear hb ht1 ht0 HO2 B2 X2 BX
  have bZ := Lib.hid (Below.alloc (Below.refl W3.heap.size W3) (Nat.le_refl _) (.cells #[.slice A2 n2 c2, .int .i64 p2] 30))
  have x0 := X3.out.cell 0
  have x1 := X3.out.cell 1
  have xl := X3.out.lt
  have hZ := Blk.new W3 30 #[.slice A2 n2 c2, .int .i64 p2]
  have y0 := hZ.cell 0
  have y1 := hZ.cell 1
  clear hZ
  cases ho : Wr.outF ss s with
  | none =>
    obtain ⟨rfl, rfl, rfl, rfl⟩ := S0.out ho
    obtain ⟨rfl, rfl, rfl, rfl⟩ := T0.out ho
    clear ho
    have B4 := Lib.hid (B3.out.trans (bZ.out.mono B3.out.size))
    go_wp2_with fail
    refine (samew_any none none 0 0 0 [] 0 _ (RowR.nil none) (RowR.nil none) (by omega)).mono ?_
    rintro e W5 ⟨rfl, hb⟩
    have B5 := Lib.hid (B4.out.trans (hb.mono B4.out.size))
    have X5 := Lib.hid ((X3.out.below bZ.out X3.out.lt).below hb (X3.out.below bZ.out X3.out.lt).lt)
    have Y5 := Lib.hid ((Blk.new W3 30 #[.slice none 0 0, .int .i64 0]).below hb (by simp))
    clear x0 x1 xl y0 y1 hb
    have x0 := X5.out.cell 0
    have x1 := X5.out.cell 1
    have xl := X5.out.lt
    have y0 := Y5.out.cell 0
    have y1 := Y5.out.cell 1
    have yl := Y5.out.lt
    go_wp2_with fail
    refine (samew_any none none 0 0 0 [] 0 _ (RowR.nil none) (RowR.nil none) (by omega)).mono ?_
    rintro e W6 ⟨rfl, hb⟩
    have B6 := Lib.hid (B5.out.trans (hb.mono B5.out.size))
    clear hb
    go_wp2_with fail
    go_ret
    exact ⟨rfl, B6.out⟩
  | some l =>
    obtain ⟨hk1, hn1, hp1⟩ := S1.out l ho
    obtain ⟨hk2, hn2, hp2⟩ := T1.out l ho
    subst hp1 hp2
    obtain ⟨hsy, hwk, hol⟩ := outF_some ho
    obtain rfl : n2 = n1 := by rw [← hk1.len, ← hk2.len]
    have HP := Lib.hid (posW_range hwk)
    have HL := Lib.hid hol
    have HV : Hid ((Wr.sysOk ss && Wr.dictOk [s]) = true) := Lib.hid (by rw [hsy, dict_one hwk]; rfl)
    have HF := Lib.hid ho
    have K1 := Lib.hid ((hk1.below b23.out).below bZ.out)
    have K2 := Lib.hid (hk2.below bZ.out)
    have B4 := Lib.hid (B3.out.trans (bZ.out.mono B3.out.size))
    clear hk1 hk2 hsy hwk hol ho
    go_wp2_with fail
    refine (samew_any A1 A2 n2 c1 c2 l (Wr.posW s) _ K1.out.1 K2.out.1 (by omega)).mono ?_
    rintro e W5 ⟨rfl, hb⟩
    have B5 := Lib.hid (B4.out.trans (hb.mono B4.out.size))
    have X5 := Lib.hid ((X3.out.below bZ.out X3.out.lt).below hb (X3.out.below bZ.out X3.out.lt).lt)
    have K5 := Lib.hid (K1.out.below hb)
    have HO5 := Lib.hid ((HO3.out.below bZ.out).below hb)
    clear x0 x1 xl y0 y1 hb K1 K2 B4 B3 bZ HO3 X3
    go_wp2_with fail
    refine (iwordo_any A n c ss s _ (OwnR.reads encG_len HO5.out) HK.out (by omega) (by omega)).mono ?_
    rw [HF.out]
    rintro e W6 ⟨A3, n3, c3, rfl, h3, hb⟩
    obtain ⟨hk3, hn3⟩ := h3 l rfl
    have B6 := Lib.hid (B5.out.trans (hb.mono B5.out.size))
    have X6 := Lib.hid (X5.out.below hb X5.out.lt)
    have K6 := Lib.hid (K5.out.below hb)
    have HO6 := Lib.hid (HO5.out.below hb)
    have K36 := Lib.hid hk3
    clear hb hk3 h3 B5 X5 K5 HO5
    have bS := Lib.hid (Below.alloc (Below.refl W6.heap.size W6) (Nat.le_refl _) (.cells #[.string s] 9))
    have HSt := Lib.hid (strs_one W6 s (by omega))
    have x0 := X6.out.cell 0
    have x1 := X6.out.cell 1
    have xl := X6.out.lt
    have hnn : n3 = n2 := by rw [← K36.out.len, ← K6.out.len]
    subst hnn
    go_wp2_with fail
    refine (read_any A (some ⟨W6.heap.size, 0, none⟩) A1 n c 1 1 n3 c1 ss [s] l (Wr.posW s) _ ((OwnR.reads encG_len HO6.out).below bS.out) HK.out (by omega) HSt.out (by omega) (by omega) (K6.out.below bS.out).1 (by omega) HV.out HL.out HP.out.1 HP.out.2).mono ?_
    rintro e W7 ⟨A5, k5, c5, rfl, hO5, hb⟩
    rw [ix_one HF.out] at hO5
    obtain rfl : 1 = k5 := hO5.len
    have bW : Below W6.heap.size W6 W7 := bS.out.trans (hb.mono bS.out.size)
    have PK := Lib.hid (show Pack w W7 A1 n3 c1 A3 n3 A5 W2.heap.size l (Wr.posW s) from ⟨B6.out.trans (bW.mono B6.out.size), K6.out.below bW, K36.out.below bW, OwnR.reads encI_len hO5, X6.out.below bW X6.out.lt⟩)
    clear hb bW hO5 x0 x1 xl B6 K6 K36 HO6 bS HSt X6
    have x0 := PK.out.blk.cell 0
    have x1 := PK.out.blk.cell 1
    have xl := PK.out.blk.lt
    have hqp : (Wr.posW s == Wr.posW s) = true := by simp
    go_wp2_with fail
    go_region_with (first
      | (go_at_call 16
         refine (samek_any A3 A1 n3 _ _ l _ (by exact PK.out.two.1) (by exact PK.out.one.1) (by omega)).mono ?_
         rintro e w16 ⟨rfl, hb⟩
         have P16 := Lib.hid (PK.out.below (show Below W7.heap.size W7 w16 from ⟨hb.os, hb.tape, hb.output, hb.size, hb.block⟩))
         have q0 := P16.out.blk.cell 0
         have q1 := P16.out.blk.cell 1
         have ql := P16.out.blk.lt
         clear hb)
      | (go_at_call 17
         refine (ipos_any s _ (by omega)).mono ?_
         rintro e w17 ⟨rfl, hb⟩
         have P17 := Lib.hid (P16.out.below (show Below w16.heap.size w16 w17 from ⟨hb.os, hb.tape, hb.output, hb.size, hb.block⟩))
         have r0 := P17.out.blk.cell 0
         have r1 := P17.out.blk.cell 1
         have rl := P17.out.blk.lt
         clear hb)
      | (go_at_call 18
         refine (iwvalid_any A1 n3 c1 l (Wr.posW s) _ (by exact P17.out.one.1) (by omega) HL.out HP.out.1 HP.out.2).mono ?_
         rintro e w18 ⟨rfl, hb⟩
         have P18 := Lib.hid (P17.out.below (show Below w17.heap.size w17 w18 from ⟨hb.os, hb.tape, hb.output, hb.size, hb.block⟩))
         clear hb)
      | (go_at_call 19
         have bI := Below.alloc (Below.refl w18.heap.size w18) (Nat.le_refl _) (.cells #[.int .i64 0] 3)
         refine (samei_any A5 (some ⟨w18.heap.size, 0, none⟩) 1 _ _ [0] _ (by exact P18.out.ints.below bI) (by exact ints_zero (w := w18) (Below.refl _ _)) (by omega)).mono ?_
         rintro e w19 ⟨rfl, hb⟩
         have P19 := Lib.hid (P18.out.below (bI.trans ((show Below (w18.alloc (.cells #[.int .i64 0] 3)).heap.size (w18.alloc (.cells #[.int .i64 0] 3)) w19 from ⟨hb.os, hb.tape, hb.output, hb.size, hb.block⟩).mono bI.size)))
         clear hb bI))
    all_goals
      go_wp2_with fail
      go_ret
      exact ⟨rfl, P19.out.base⟩

set_option maxRecDepth 100000 in
theorem lifted (os : Os) (started : os.Started) (H : Type) (enc : TypeId × Value → H) :
    ReturnsInHanded {} Try.checked os 4 .any (Rows.fnWrittenOfSpec.pre6 enc Try.prog Try.f4 Rows.fnWrittenOfRow.domain false) (Rows.fnWrittenOfSpec.post enc Try.prog Try.f4 false true false false) := by
  refine returnsInHanded_of_change (C := Try.checked) own started (by kernel_rfl) Try.func4
    (ChangeSpec.witness6 (enc := enc) (C := Try.checked) false ⟨#[], #[.slice none 0 0], []⟩ 8 (by kernel_rfl) (by kernel_rfl) (by kernel_rfl) (by kernel_rfl)) ?_
  intro W base args ds gs before hval0 hW hcnd _
  have hval : ∀ (j : Nat) t v, Try.f4.params[j]? = some t → args[j]? = some v → Value.okWide Try.prog W .any base t v := hval0
  have hW' := hW
  obtain ⟨p, q, hA0, hV, rfl, hfz, hnd⟩ := hW
  have hA : DataW.TrodAll enc Try.prog W 0 (fun _ => true) true Try.f4.params.toList args.toList ds p := hA0
  rw [Try.params4] at hA hval
  obtain ⟨v0, vs0, d0, ds0, p0, q0, hargs, rfl, rfl, h0, r0⟩ := trodAll_cons hA
  obtain ⟨rfl, rfl, rfl⟩ := trodAll_nil r0
  obtain rfl : args = #[v0] := by cases args; simp_all
  obtain ⟨rfl, rfl⟩ := trodVars_none hV
  obtain ⟨a0, len0, cap0, rfl⟩ := okWide_slice Try.underlying22 (hval 0 22 v0 rfl rfl)
  have k0 := h0
  have lt0 : ∀ x ∈ p0, x.block < W.heap.size := by obtain ⟨m, hm⟩ := k0; exact DataW.trod_lt m _ _ _ hm
  obtain ⟨z0, w0⟩ : ∃ zs, IsRow .u8 W a0 len0 cap0 zs := by
    obtain ⟨fuel, hf⟩ := h0
    rcases open_ints Try.underlying22 Try.underlying5 (by kernel_rfl) hf with ⟨hcs, _⟩ | ⟨x, l, c, zs, hcs, _, hl, hm, hz, _, hcell, hwz⟩
    · simp [Value.cells] at hcs
      obtain ⟨rfl, rfl, rfl⟩ := hcs
      exact ⟨[], .inl ⟨rfl, rfl, rfl, rfl⟩⟩
    · simp [Value.cells] at hcs
      obtain ⟨rfl, rfl, rfl⟩ := hcs
      exact ⟨zs, .inr ⟨_, rfl, hl, hm, by simpa using hz, hcell, hwz⟩⟩
  clear hA0 hval0
  refine (walk a0 len0 cap0 z0 W w0).mono fun e W' ⟨he, bel⟩ => ?_
  subst he
  exact ⟨_, rfl, _, _, _, [], _, [], hW', trodAll_mk1 (shut_bool Try.underlying4 _), (trodAll_cons_mk (Below.trod laidOut (by kernel_rfl) (of_decide_eq_true (by kernel_rfl)) k0 bel lt0) trodAll_mk0), rfl, bel.frame _, fun h => by cases h⟩

theorem closed : joinedFacts Try.prog 4 Try.f4 Rows.fnWrittenOfSpec Rows.fnWrittenOfRow = true := by
  unfold joinedFacts
  simp only [may_enter, lifts_final, make_cut]
  kernel_rfl

theorem over : Rows.fnWrittenOfRow.holds Try.pinned (OpenSpec.ofChange Rows.fnWrittenOfSpec) :=
  OpenClaim.holds_of_wide 4 Try.f4 rfl rfl rfl rfl rfl rfl rfl ⟨rfl, rfl, rfl, rfl, rfl⟩ rfl rfl rfl rfl rfl (by kernel_rfl) Try.func4 closed
    (of_decide_eq_true (by kernel_rfl)) (by unfold Func.isWrapper; first | (rw [if_pos (by decide +kernel)]; kernel_rfl) | (rw [if_neg (by decide +kernel)]; exact ⟨rfl, rfl⟩))
    (fun os started H enc _ => lifted os started H enc)

theorem proved : Rows.FnWrittenOfSaid := over
#print axioms proved
end Go.Proofs.Ytjhalbmmlcbehaa.fnWrittenOf
