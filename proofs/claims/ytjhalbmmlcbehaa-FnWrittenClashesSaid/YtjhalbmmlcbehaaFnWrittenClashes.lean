/- Proved: the statement 'FnWrittenClashesSaid': the law FnWrittenClashes returns true for every input, and every argument reads afterwards as it read before. No further conditions. The frame follows the kit's proof-skeleton; the walk is ours. -/
import Derived.Test.YtjhalbmmlcbehaaRows
import Derived.Test.YtjhalbmmlcbehaaDd
import Derived.Test.YtjhalbmmlcbehaaLp
import Derived.Test.YtjhalbmmlcbehaaArg
import Derived.Test.YtjhalbmmlcbehaaEnter
import Derived.WalkKit
import Derived.ProofKit
import Derived.OpenShut
import Derived.ShutString
import Derived.ChangeOld
import Derived.Below
namespace Go.Proofs.Ytjhalbmmlcbehaa.fnWrittenClashes
open Go.ChangeShapes Go.WideShapes Go.ChangeAt Go.RowKit
open Go.ChangeMaps (open_string shut_string)
set_option linter.unusedVariables false
set_option linter.unusedSimpArgs false

theorem own : ownKnob Try.prog.godebug = none := by kernel_rfl
theorem laidOut : laidOutB Try.prog = true := by kernel_rfl

set_option maxRecDepth 20000 in
set_option maxHeartbeats 8000000 in
theorem walk (a0 : Option Addr) (len0 cap0 : Nat) (z0 : List Int) (w : World) (w0 : IsRow .u8 w a0 len0 cap0 z0) :
    Calls Try.prog 3 #[.slice a0 len0 cap0] w fun e w' => e = .returned (.bool true) ∧ Below w.heap.size w w' := by
  by_cases hbig : len0 ≤ 1048576
  rotate_left
  · have g0 : (1048576 : Int) < (len0 : Int) := by omega
    clear hbig
    go_enter Try.func3, Try.ntmps3
    go_wp2_with fail
    go_ret
    exact ⟨rfl, Below.refl _ _⟩
  have g0 : ¬ (1048576 : Int) < (len0 : Int) := by omega
  have HBy := Lib.hid w0.bytes
  have hlc := w0.len_cap
  go_enter Try.func3, Try.ntmps3
  go_wp2_with fail
  refine (drawsd_any a0 len0 cap0 _ HBy.out hbig hlc).mono ?_
  rintro e W1 ⟨A, n, c, ss, B, m, d, ws, rfl, hO, hok, hn22, hS, hm20, hb⟩
  have HO1 := Lib.hid hO
  have HS1 := Lib.hid hS
  have hcap := hO.cap_le
  have hcap2 := hS.cap_le
  have B1 := Lib.hid hb
  have HK := Lib.hid hok
  clear hO hS hb hok
  go_wp2_with fail
  refine (iclash_any A B n c m d ss ws _ (OwnR.reads encG_len HO1.out) HK.out (by omega) HS1.out.ints (by omega) (by omega)).mono ?_
  rintro e W2 ⟨rfl, hb⟩
  have B2 := Lib.hid (B1.out.trans (hb.mono B1.out.size))
  have HO2 := Lib.hid (HO1.out.below hb)
  have HS2 := Lib.hid (HS1.out.below hb)
  clear hb B1 HO1 HS1
  cases hv : (Wr.sysOk ss && Wr.dictOk ws) with
  | false =>
    have HC := Lib.hid (clash_no hv)
    clear hv
    rw [HC.out]
    go_wp2_with fail
    refine (sclash_any A B n c m d ss ws _ (OwnR.reads encG_len HO2.out) HK.out (by omega) HS2.out.ints (by omega)).mono ?_
    rw [HC.out]
    rintro e W3 ⟨rfl, hb⟩
    have B3 := Lib.hid (B2.out.trans (hb.mono B2.out.size))
    clear hb B2 HO2 HS2
    go_wp2_with fail
    go_ret
    exact ⟨rfl, B3.out⟩
  | true =>
  obtain ⟨P, hP⟩ : ∃ P, P = Wr.pairsF [] (ws.map (Wr.formF ss)) := ⟨_, rfl⟩
  obtain ⟨Q, hQ⟩ : ∃ Q, Q = Wr.pairsF [] (ws.map (Wr.outF ss)) := ⟨_, rfl⟩
  have hwl : Hid (ws.length = m) := Lib.hid HS2.out.ints.len
  have hPQ : (P : Int) ≤ (Q : Int) := by have := clash_le ss ws; omega
  have hP4 : P ≤ 400 := by have := pairs_few (ss := ss) (ws := ws) (by rw [hwl.out]; exact hm20); omega
  have HC : Hid (Wr.clashN ss ws = (P : Int)) := Lib.hid (by rw [clash_yes hv, hP])
  have HD : Hid (dclashN ss ws = (Q : Int)) := Lib.hid (by rw [dclash_yes hv, hQ])
  have HV := Lib.hid hv
  have HP := Lib.hid hP
  clear hv hP hQ
  rw [HC.out]
  go_wp2_with fail
  refine (sclash_any A B n c m d ss ws _ (OwnR.reads encG_len HO2.out) HK.out (by omega) HS2.out.ints (by omega)).mono ?_
  rw [HC.out]
  rintro e W3 ⟨rfl, hb⟩
  have B3 := Lib.hid (B2.out.trans (hb.mono B2.out.size))
  have HO3 := Lib.hid (HO2.out.below hb)
  have HS3 := Lib.hid (HS2.out.below hb).ints
  clear hb B2 HO2 HS2
  have u1 : ((P : Int) != (P : Int)) = false := by simp
  have u2 : ¬ (P : Int) < 0 := by omega
  go_wp2_with fail
  go_loopw [7, 8] (fun tv iv wr => ∃ (i t : Nat), i ≤ m ∧ iv = .int .i64 i ∧ tv = .int .i64 t ∧ t ≤ 20 * i ∧ Hid (t = sumN (ws.map (Wr.formF ss)) ((ws.map (Wr.formF ss)).take i)) ∧ Below W3.heap.size W3 wr) (fun _ iv _ => m - (intOf iv).toNat)
  case atStart => exact ⟨0, 0, Nat.zero_le _, rfl, rfl, Nat.zero_le _, Lib.hid rfl, Below.refl _ _⟩
  case round =>
    obtain ⟨i, t, hi, rfl, rfl, ht, hT, hbel⟩ := hrel
    by_cases hlt : i < m
    · obtain ⟨b, off, x, rfl, hx, hx1, hc⟩ := (HS3.out.below hbel).at_ hlt
      have k1 : (0 : Int) ≤ (i : Int) := by omega
      have k2 : (i : Int) < (m : Int) := by omega
      have hN := Lib.hid (sumN_go (show (ws.map (Wr.formF ss))[i]? = some (Wr.formF ss x) by rw [List.getElem?_map, hx]; rfl))
      have hmem := Lib.hid (mem_at hx)
      have h1N := oneN_le (ws.map (Wr.formF ss)) (Wr.formF ss x)
      rw [List.length_map, hwl.out] at h1N
      have H1N := Lib.hid h1N
      have HB4 := Lib.hid hbel
      clear hx hbel h1N
      go_wp2_with fail
      refine (iwof_any A n c ss x _ ((OwnR.reads encG_len HO3.out).below HB4.out) HK.out (by omega) hx1).mono ?_
      rintro e W5 ⟨A1, n1, c1, p1, rfl, hs1, hs0, hb⟩
      have HB5 := Lib.hid (HB4.out.trans (hb.mono HB4.out.size))
      have bX := Below.alloc (Below.refl W5.heap.size W5) (Nat.le_refl _) (.cells #[.slice A1 n1 c1, .int .i64 p1] 30)
      have HB6 := Lib.hid (HB5.out.trans (bX.mono HB5.out.size))
      have X2 := Blk.new W5 30 #[.slice A1 n1 c1, .int .i64 p1]
      have x0 := X2.cell 0
      have x1 := X2.cell 1
      have xl := X2.lt
      clear hb HB4 hc X2
      cases ho : Wr.outF ss x with
      | none =>
        have hN2 : Hid (t = sumN (ws.map (Wr.formF ss)) ((ws.map (Wr.formF ss)).take (i + 1))) := Lib.hid (by rw [hN.out, ← hT.out, formF_none ho]; rfl)
        clear ho hs1 hs0 bX
        go_wp2_with fail
        go_roundw
        case rel => exact ⟨i + 1, t, by omega, by go_num, rfl, by omega, hN2, HB6.out⟩
        case measure => simp [intOf]; omega
      | some l =>
        obtain ⟨hk1, hn1, hp1⟩ := hs1 l ho
        subst hp1
        obtain ⟨hsy, hwk, hol⟩ := outF_some ho
        have HPR := Lib.hid (posW_range hwk)
        have HL := Lib.hid hol
        have HLen := Lib.hid (read_len ho hmem.out)
        have K1 := Lib.hid (hk1.below bX)
        clear ho hs1 hs0 bX hk1 hsy hwk hol
        go_wp2_with fail
        refine (read_any A _ A1 n c m d n1 c1 ss ws l (Wr.posW x) _ ((OwnR.reads encG_len HO3.out).below HB6.out) HK.out (by omega) (HS3.out.below HB6.out) (by omega) (by omega) K1.out.1 (by omega) HV.out HL.out HPR.out.1 HPR.out.2).mono ?_
        rintro e W7 ⟨A5, k5, c5, rfl, hO5, hb⟩
        have HB7 := Lib.hid (HB6.out.trans (hb.mono HB6.out.size))
        have hk5 : k5 = oneN (ws.map (Wr.formF ss)) (Wr.formF ss x) + 1 := by rw [← HLen.out]; exact hO5.len.symm
        obtain ⟨r, hr5⟩ : ∃ r, r = oneN (ws.map (Wr.formF ss)) (Wr.formF ss x) := ⟨_, rfl⟩
        rw [← hr5] at hk5
        subst hk5
        have hr20 : r ≤ m := by rw [hr5]; exact H1N.out
        have hN2 : Hid (t + r = sumN (ws.map (Wr.formF ss)) ((ws.map (Wr.formF ss)).take (i + 1))) := Lib.hid (by rw [hN.out, ← hT.out, hr5])
        clear hr5 hb hO5 x0 x1 xl
        go_wp2_with fail
        go_roundw
        case rel => exact ⟨i + 1, t + r, by omega, by go_num, by go_num, by omega, hN2, HB7.out⟩
        case measure => simp [intOf]; omega
    · obtain hij : i = m := by omega
      have hF : Hid (t = 2 * P) := Lib.hid (by
        rw [hT.out, List.take_of_length_le (by rw [List.length_map, hwl.out, hij]; exact Nat.le_refl _), sum_pairs, ← HP.out])
      have g1 : ¬ (i : Int) < (m : Int) := by omega
      have ht8 : t ≤ 800 := by have := hF.out; omega
      have hE : ((t : Int) == 2 * (P : Int)) = true := by have := hF.out; simp; omega
      have HB4 := Lib.hid hbel
      clear hij hbel
      go_wp2_with fail
      refine (idc_any A _ n c m d ss ws _ ((OwnR.reads encG_len HO3.out).below HB4.out) HK.out (by omega) (HS3.out.below HB4.out) (by omega) (by omega)).mono ?_
      rw [HD.out]
      rintro e W7 ⟨rfl, hb⟩
      have HB7 := Lib.hid (HB4.out.trans (hb.mono HB4.out.size))
      clear hb
      go_wp2_with fail
      go_ret
      exact ⟨rfl, B3.out.trans (HB7.out.mono B3.out.size)⟩

set_option maxRecDepth 100000 in
theorem lifted (os : Os) (started : os.Started) (H : Type) (enc : TypeId × Value → H) :
    ReturnsInHanded {} Try.checked os 3 .any (Rows.fnWrittenClashesSpec.pre6 enc Try.prog Try.f3 Rows.fnWrittenClashesRow.domain false) (Rows.fnWrittenClashesSpec.post enc Try.prog Try.f3 false true false false) := by
  refine returnsInHanded_of_change (C := Try.checked) own started (by kernel_rfl) Try.func3
    (ChangeSpec.witness6 (enc := enc) (C := Try.checked) false ⟨#[], #[.slice none 0 0], []⟩ 8 (by kernel_rfl) (by kernel_rfl) (by kernel_rfl) (by kernel_rfl)) ?_
  intro W base args ds gs before hval0 hW hcnd _
  have hval : ∀ (j : Nat) t v, Try.f3.params[j]? = some t → args[j]? = some v → Value.okWide Try.prog W .any base t v := hval0
  have hW' := hW
  obtain ⟨p, q, hA0, hV, rfl, hfz, hnd⟩ := hW
  have hA : DataW.TrodAll enc Try.prog W 0 (fun _ => true) true Try.f3.params.toList args.toList ds p := hA0
  rw [Try.params3] at hA hval
  obtain ⟨v0, vs0, d0, ds0, p0, q0, hargs, rfl, rfl, h0, r0⟩ := trodAll_cons hA
  obtain ⟨rfl, rfl, rfl⟩ := trodAll_nil r0
  obtain rfl : args = #[v0] := by cases args; simp_all
  obtain ⟨rfl, rfl⟩ := trodVars_none hV
  obtain ⟨a0, len0, cap0, rfl⟩ := okWide_slice Try.underlying22 (hval 0 22 v0 rfl rfl)
  have k0 := h0
  have lt0 : ∀ x ∈ p0, x.block < W.heap.size := by obtain ⟨m, hm⟩ := k0; exact DataW.trod_lt m _ _ _ hm
  obtain ⟨z0, w0⟩ : ∃ zs, IsRow .u8 W a0 len0 cap0 zs := by
    obtain ⟨fuel, hf⟩ := h0
    rcases open_ints Try.underlying22 Try.underlying5 (by kernel_rfl) hf with ⟨hcs, _⟩ | ⟨x, l, c, zs, hcs, _, hl, hm, hz, _, hcell, hwz⟩
    · simp [Value.cells] at hcs
      obtain ⟨rfl, rfl, rfl⟩ := hcs
      exact ⟨[], .inl ⟨rfl, rfl, rfl, rfl⟩⟩
    · simp [Value.cells] at hcs
      obtain ⟨rfl, rfl, rfl⟩ := hcs
      exact ⟨zs, .inr ⟨_, rfl, hl, hm, by simpa using hz, hcell, hwz⟩⟩
  clear hA0 hval0
  refine (walk a0 len0 cap0 z0 W w0).mono fun e W' ⟨he, bel⟩ => ?_
  subst he
  exact ⟨_, rfl, _, _, _, [], _, [], hW', trodAll_mk1 (shut_bool Try.underlying4 _), (trodAll_cons_mk (Below.trod laidOut (by kernel_rfl) (of_decide_eq_true (by kernel_rfl)) k0 bel lt0) trodAll_mk0), rfl, bel.frame _, fun h => by cases h⟩

theorem closed : joinedFacts Try.prog 3 Try.f3 Rows.fnWrittenClashesSpec Rows.fnWrittenClashesRow = true := by
  unfold joinedFacts
  simp only [may_enter, lifts_final, make_cut]
  kernel_rfl

theorem over : Rows.fnWrittenClashesRow.holds Try.pinned (OpenSpec.ofChange Rows.fnWrittenClashesSpec) :=
  OpenClaim.holds_of_wide 3 Try.f3 rfl rfl rfl rfl rfl rfl rfl ⟨rfl, rfl, rfl, rfl, rfl⟩ rfl rfl rfl rfl rfl (by kernel_rfl) Try.func3 closed
    (of_decide_eq_true (by kernel_rfl)) (by unfold Func.isWrapper; first | (rw [if_pos (by decide +kernel)]; kernel_rfl) | (rw [if_neg (by decide +kernel)]; exact ⟨rfl, rfl⟩))
    (fun os started H enc _ => lifted os started H enc)

theorem proved : Rows.FnWrittenClashesSaid := over
#print axioms proved
end Go.Proofs.Ytjhalbmmlcbehaa.fnWrittenClashes
