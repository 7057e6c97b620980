/- Proved: the statement 'FnMarksTextCardSaid': the law FnMarksText returns true for every input, and every argument reads afterwards as it read before. No further conditions. The frame follows the kit's proof-skeleton; the walk is ours. -/
import Derived.Test.YtjhlcgjhdiheaaaDoorRows
import Derived.Test.YtjhlcgjhdiheaaaDoorTu
import Derived.Test.YtjhlcgjhdiheaaaDoorDraw5
import Derived.Test.YtjhlcgjhdiheaaaDoorArg
import Derived.Test.YtjhlcgjhdiheaaaDoorCards
import Derived.Test.YtjhlcgjhdiheaaaDoorTie
import Derived.SevenTiedAt
import Derived.LaidMore
import Derived.Stop.Joined
import Derived.WalkKit
import Derived.ProofKit
import Derived.OpenShut
import Derived.ShutString
import Derived.ChangeOld
import Derived.Below
namespace Go.Proofs.YtjhlcgjhdiheaaaDoor.fnMarksText
open Go.ChangeShapes Go.WideShapes Go.ChangeAt Go.RowKit
open Go.ChangeMaps (open_string shut_string)
set_option linter.unusedVariables false
set_option linter.unusedSimpArgs false

theorem own : ownKnob Tryd.prog.godebug = none := by kernel_rfl
theorem laidOut : laidOutB Tryd.prog = true := by kernel_rfl

set_option maxRecDepth 20000 in
set_option maxHeartbeats 8000000 in
theorem walk (a0 : Option Addr) (len0 cap0 : Nat) (z0 : List Int) (w : World) (w0 : IsRow .u8 w a0 len0 cap0 z0) :
    Calls Tryd.prog 3 #[.slice a0 len0 cap0] w fun e w' => e = .returned (.bool true) ∧ Below w.heap.size w w' := by
  have hy0 := w0.bytes
  have hl0 := w0.len_le
  have hc0 := w0.len_cap
  clear w0
  by_cases hm0 : len0 ≤ 1048576
  · go_enter Tryd.func3, Tryd.ntmps3
    go_wp2_with fail
    refine (drawDo a0 len0 cap0 _ hy0 hm0 hc0).mono ?_
    rintro e W1 ⟨A, n, c, ws, B, m, d, ms, rfl, hn, hm, o, k, bd⟩
    have S1 : w.heap.size ≤ W1.heap.size := bd.size
    have B1 : Below w.heap.size w W1 := bd
    have hlen_o := Lib.hid o.1.len
    have hcap_o := o.2.1
    have hmax_o := o.2.2.1
    have hlen_k := Lib.hid k.1.len
    have hcap_k := k.2.1
    have hmax_k := k.2.2.1
    cases hv : valid ws ms with
    | false =>
      have hE := Lib.hid (text_empty (ws := ws) (ms := ms) (.inl hv))
      skip
      go_wp2_with fail
      refine (itext_is A B n c m d ws ms _ o k.1 (by omega) _ hE.out).mono ?_
      rintro e W2 ⟨rfl, b2⟩
      have S2 : W1.heap.size ≤ W2.heap.size := b2.size
      have B2 : Below w.heap.size w W2 := Below.next B1 b2
      have o := o.below b2
      have k := k.below b2
      go_wp2_with fail
      refine (stext_is A B n c m d ws ms _ o k.1 (by omega) _ hE.out).mono ?_
      rintro e W3 ⟨rfl, b3⟩
      have S3 : W2.heap.size ≤ W3.heap.size := b3.size
      have B3 : Below w.heap.size w W3 := Below.next B2 b3
      have o := o.below b3
      have k := k.below b3
      go_wp2
      go_ret
      exact ⟨rfl, B3⟩
    | true =>
      by_cases hne : ms = []
      · have hE := Lib.hid (text_empty (ws := ws) (ms := ms) (.inr hne))
        skip
        go_wp2_with fail
        refine (itext_is A B n c m d ws ms _ o k.1 (by omega) _ hE.out).mono ?_
        rintro e W2 ⟨rfl, b2⟩
        have S2 : W1.heap.size ≤ W2.heap.size := b2.size
        have B2 : Below w.heap.size w W2 := Below.next B1 b2
        have o := o.below b2
        have k := k.below b2
        go_wp2_with fail
        refine (stext_is A B n c m d ws ms _ o k.1 (by omega) _ hE.out).mono ?_
        rintro e W3 ⟨rfl, b3⟩
        have S3 : W2.heap.size ≤ W3.heap.size := b3.size
        have B3 : Below w.heap.size w W3 := Below.next B2 b3
        have o := o.below b3
        have k := k.below b3
        go_wp2
        go_ret
        exact ⟨rfl, B3⟩
      · obtain ⟨T, hT, hT0, hTs, hTp⟩ := text_is hv hne
        have HT := Lib.hid hT
        have HTP := Lib.hid hTp
        have HV := Lib.hid hv
        have hvb := Lib.hid (Mk.valid_back wok hv)
        have hbl := Lib.hid (Mk.backM_len ws ms 0)
        have hne2 : Mk.backM ws 0 ms ≠ [] := fun e => by have := hbl.out; rw [e] at this; exact hne (List.eq_nil_of_length_eq_zero this.symm)
        obtain ⟨U, hU, hU0, hUs, hUp⟩ := text_is hvb.out hne2
        have HU := Lib.hid hU
        have HUP := Lib.hid hUp
        have q1 : (T.toList != T.toList) = false := by simp
        have q2 : (T.toList == (⟨#[]⟩ : ByteArray).toList) = false := by rw [bytes_eq]; simp [hT0]
        have q3 : (T.toList == []) = false := by rw [show ([] : List UInt8) = (⟨#[]⟩ : ByteArray).toList from by rw [ByteArray.toList_eq]]; exact q2
        clear hT hTp hv hne hne2 hU hUp hU0
        go_wp2_with fail
        refine (itext_is A B n c m d ws ms _ o k.1 (by omega) T HT.out).mono ?_
        rintro e W2 ⟨rfl, b2⟩
        have S2 : W1.heap.size ≤ W2.heap.size := b2.size
        have B2 : Below w.heap.size w W2 := Below.next B1 b2
        have o := o.below b2
        have k := k.below b2
        go_wp2_with fail
        refine (stext_is A B n c m d ws ms _ o k.1 (by omega) T HT.out).mono ?_
        rintro e W3 ⟨rfl, b3⟩
        have S3 : W2.heap.size ≤ W3.heap.size := b3.size
        have B3 : Below w.heap.size w W3 := Below.next B2 b3
        have o := o.below b3
        have k := k.below b3
        go_wp2_with fail
        go_loop [7, 8] (fun pv iv => ∃ j : Nat, j ≤ T.size ∧ iv = .int .i64 j ∧ pv = .int .i64 ((plusB T j : Nat) : Int)) (fun _ iv => T.size - (intOf iv).toNat)
        case atStart => exact ⟨0, Nat.zero_le _, rfl, rfl⟩
        case round =>
          obtain ⟨j, hj, rfl, rfl⟩ := hrel
          by_cases hlt : j < T.size
          · have hpl := plus_le T j
            have hgo := plus_go hlt
            have hbp := byte_plus (T[j]'hlt)
            by_cases hb : T[j]'hlt = 43
            · have hbv : ((((T[j]'hlt).toNat : Nat) : Int) == 43) = true := by rw [hbp]; simp [hb]
              have hst : Hid (plusB T (j + 1) = plusB T j + 1) := Lib.hid (by rw [hgo]; simp [hb])
              have HB := Lib.hid hb
              clear hb hbp hgo
              go_wp2_with fail
              go_round
              case rel => exact ⟨j + 1, by omega, by go_num, by rw [hst.out]; first | rfl | go_num⟩
              case measure => simp [intOf]; omega
            · have hbv : ((((T[j]'hlt).toNat : Nat) : Int) == 43) = false := by rw [hbp]; simp [hb]
              have hst : Hid (plusB T (j + 1) = plusB T j) := Lib.hid (by rw [hgo]; simp [hb])
              have HB := Lib.hid hb
              clear hb hbp hgo
              go_wp2_with fail
              go_round
              case rel => exact ⟨j + 1, by omega, by go_num, by rw [hst.out]⟩
              case measure => simp [intOf]; omega
          · obtain rfl : j = T.size := by omega
            have hc : Hid (plusB T T.size = m) := Lib.hid (by rw [plus_full (Nat.le_refl _), HTP.out, hlen_k.out])
            rw [hc.out]
            go_wp2_with fail
            refine (ido_yes A B n c m d ws ms _ o k.1 (by omega) HV.out).mono ?_
            rintro e W4 ⟨Ax, nx, cx, rfl, ox, qx⟩
            have S4 : W3.heap.size ≤ W4.heap.size := qx.size
            have B4 : Below w.heap.size w W4 := Below.next B3 qx
            have o := o.below qx
            have k := k.below qx
            go_wp2_with fail
            refine (iback_yes A B n c m d ws ms _ o k.1 (by omega) HV.out).mono ?_
            rintro e W5 ⟨Ay, ny, cy, rfl, oy, qy⟩
            have S5 : W4.heap.size ≤ W5.heap.size := qy.size
            have B5 : Below w.heap.size w W5 := Below.next B4 qy
            have o := o.below qy
            have k := k.below qy
            have ox := ox.below qy
            have hny : ny ≤ 20 := by rw [← oy.len, hbl.out, hlen_k.out]; omega
            go_wp2_with fail
            refine (itext_is Ax Ay nx cx ny cy _ _ _ ox.putIn oy.ints (by omega) U HU.out).mono ?_
            rintro e W6 ⟨rfl, b5⟩
            have S6 : W5.heap.size ≤ W6.heap.size := b5.size
            have B6 : Below w.heap.size w W6 := Below.next B5 b5
            have o := o.below b5
            have k := k.below b5
            have ox := ox.below b5
            have oy := oy.below b5
            go_wp2_with fail
            go_loop [14, 15] (fun pv iv => ∃ j : Nat, j ≤ U.size ∧ iv = .int .i64 j ∧ pv = .int .i64 ((plusB U j : Nat) : Int)) (fun _ iv => U.size - (intOf iv).toNat)
            case atStart => exact ⟨0, Nat.zero_le _, rfl, rfl⟩
            case round =>
              obtain ⟨j, hj, rfl, rfl⟩ := hrel
              by_cases hlt : j < U.size
              · have hpl := plus_le U j
                have hgo := plus_go hlt
                have hbp := byte_plus (U[j]'hlt)
                by_cases hb : U[j]'hlt = 43
                · have hbv : ((((U[j]'hlt).toNat : Nat) : Int) == 43) = true := by rw [hbp]; simp [hb]
                  have hst : Hid (plusB U (j + 1) = plusB U j + 1) := Lib.hid (by rw [hgo]; simp [hb])
                  have HB := Lib.hid hb
                  clear hb hbp hgo
                  go_wp2_with fail
                  go_round
                  case rel => exact ⟨j + 1, by omega, by go_num, by rw [hst.out]; first | rfl | go_num⟩
                  case measure => simp [intOf]; omega
                · have hbv : ((((U[j]'hlt).toNat : Nat) : Int) == 43) = false := by rw [hbp]; simp [hb]
                  have hst : Hid (plusB U (j + 1) = plusB U j) := Lib.hid (by rw [hgo]; simp [hb])
                  have HB := Lib.hid hb
                  clear hb hbp hgo
                  go_wp2_with fail
                  go_round
                  case rel => exact ⟨j + 1, by omega, by go_num, by rw [hst.out]⟩
                  case measure => simp [intOf]; omega
              · obtain rfl : j = U.size := by omega
                have hc : Hid (plusB U U.size = m) := Lib.hid (by rw [plus_full (Nat.le_refl _), HUP.out, hbl.out, hlen_k.out])
                rw [hc.out]
                have hfin : (((m : Nat) : Int) == ((m : Nat) : Int)) = true := by simp
                go_wp2_with fail
                go_ret
                exact ⟨rfl, B6⟩
  · go_enter Tryd.func3, Tryd.ntmps3
    go_wp2
    go_ret
    exact ⟨rfl, Below.refl _ _⟩

/-- the door's own heap meets the condition on the laid tables -/
theorem door_met (os : Os) (args : Array Value) : laidMetH Tryd.prog Rows.fnMarksTextRow.laid ((World.doorLaid Tryd.prog 4000 os).forCall (fun _ _ => 0) ⟨#[], args, []⟩).memory :=
  laidMetH_of_parts3 (fuel := 8) (laidMet_of_run' 8 (by kernel_rfl) (by kernel_rfl)) (by kernel_rfl) (by kernel_rfl)

set_option maxRecDepth 100000 in
theorem lifted (os : Os) (started : os.Started) (H : Type) (enc : TypeId × Value → H) :
    ReturnsInHanded {} Tryd.checked os 3 .any (fun w args => (Rows.fnMarksTextSpec.pre enc Tryd.prog Tryd.f3 [] false w args ∧ laidMetH Tryd.prog Rows.fnMarksTextRow.laid w) ∧ sizedMet enc Tryd.prog Tryd.f3 (OpenSpec.ofChange Rows.fnMarksTextSpec) false w args)
      (Rows.fnMarksTextSpec.post enc Tryd.prog Tryd.f3 false true false false) := by
  refine returnsInHanded_of_change_and (C := Tryd.checked) (X := fun w _ => laidMetH Tryd.prog Rows.fnMarksTextRow.laid w) (fun _ _ _ hh h => h.of_heap hh) own started (by kernel_rfl) Tryd.func3
    (ChangeSpec.witness_shaped (enc := enc) (C := Tryd.checked) (os := os) (X := fun w _ => laidMetH Tryd.prog Rows.fnMarksTextRow.laid w) false (World.doorLaid Tryd.prog 4000 os) #[.slice none 0 0] 8 rfl (World.shaped_of_RefB (by kernel_rfl) (by kernel_rfl)) (by kernel_rfl) (by kernel_rfl) (by kernel_rfl) (door_met os _)) ?_
  intro W base args ds gs before hval0 hW hcnd _ _ _
  have hval : ∀ (j : Nat) t v, Tryd.f3.params[j]? = some t → args[j]? = some v → Value.okWide Tryd.prog W .any base t v := hval0
  have hW' := hW
  obtain ⟨p, q, hA0, hV, rfl, hfz, hnd⟩ := hW
  have hA : DataW.TrodAll enc Tryd.prog W 0 (fun _ => true) true Tryd.f3.params.toList args.toList ds p := hA0
  rw [Tryd.params3] at hA hval
  obtain ⟨v0, vs0, d0, ds0, p0, q0, hargs, rfl, rfl, h0, r0⟩ := trodAll_cons hA
  obtain ⟨rfl, rfl, rfl⟩ := trodAll_nil r0
  obtain rfl : args = #[v0] := by cases args; simp_all
  obtain ⟨rfl, rfl⟩ := trodVars_none hV
  obtain ⟨a0, len0, cap0, rfl⟩ := okWide_slice Tryd.underlying22 (hval 0 22 v0 rfl rfl)
  have k0 := h0
  have lt0 : ∀ x ∈ p0, x.block < W.heap.size := by obtain ⟨m, hm⟩ := k0; exact DataW.trod_lt m _ _ _ hm
  obtain ⟨z0, w0⟩ : ∃ zs, IsRow .u8 W a0 len0 cap0 zs := by
    obtain ⟨fuel, hf⟩ := h0
    rcases open_ints Tryd.underlying22 Tryd.underlying5 (by kernel_rfl) hf with ⟨hcs, _⟩ | ⟨x, l, c, zs, hcs, _, hl, hm, hz, _, hcell, hwz⟩
    · simp [Value.cells] at hcs
      obtain ⟨rfl, rfl, rfl⟩ := hcs
      exact ⟨[], .inl ⟨rfl, rfl, rfl, rfl⟩⟩
    · simp [Value.cells] at hcs
      obtain ⟨rfl, rfl, rfl⟩ := hcs
      exact ⟨zs, .inr ⟨_, rfl, hl, hm, by simpa using hz, hcell, hwz⟩⟩
  clear hA0 hval0
  refine (walk a0 len0 cap0 z0 W w0).mono fun e W' ⟨he, bel⟩ => ?_
  subst he
  exact ⟨_, rfl, _, _, _, [], _, [], hW', trodAll_mk1 (shut_bool Tryd.underlying4 _), (trodAll_cons_mk (Below.trod laidOut (by kernel_rfl) (of_decide_eq_true (by kernel_rfl)) k0 bel lt0) trodAll_mk0), rfl, bel.frame _, fun h => by cases h⟩

theorem closed : joinedFacts Tryd.prog 3 Tryd.f3 Rows.fnMarksTextSpec Rows.fnMarksTextRow = true := by
  kernel_rfl

theorem over : Rows.fnMarksTextRow.holds Tryd.pinned (OpenSpec.ofChange Rows.fnMarksTextSpec) :=
  OpenClaim.holds_of_wide 3 Tryd.f3 rfl rfl rfl rfl rfl rfl rfl ⟨rfl, rfl, rfl, rfl, rfl⟩ rfl rfl rfl rfl rfl (by kernel_rfl) Tryd.func3 closed
    (of_decide_eq_true (by kernel_rfl)) (by unfold Func.isWrapper; first | (rw [if_pos (by decide +kernel)]; kernel_rfl) | (rw [if_neg (by decide +kernel)]; exact ⟨rfl, rfl⟩))
    (fun os started H enc _ => lifted os started H enc)

theorem card : Claim7.holds Tryd.pinned (.plain (OpenSpec.ofChange Rows.fnMarksTextSpec)) Rows.fnMarksTextCard :=
  Claim7.holds_tied_plain_at .later [] [.data, .data, .data] true (true, "fef425edf36c284c46265dcf9c7e8798e90c6e201193b9e296b3782b191379bc") true
    over (fun _ h => by cases h) (by kernel_rfl) (fun _ h => by cases h) fnMarksText_row_tie rfl ⟨rfl, rfl⟩ (by kernel_rfl) rfl
    (fun f fn hf hfn => by
      obtain rfl : f = 3 := Option.some.inj ((show Tryd.prog.funcNamed "loop.example/shorthand/laws.FnMarksText" = some 3 by kernel_rfl).symm.trans hf) |>.symm
      obtain rfl : fn = Tryd.f3 := (Option.some.inj (Tryd.func3.symm.trans hfn)).symm
      exact ⟨by kernel_rfl, fun j t ht => by
        rw [Tryd.params3] at ht
        have hm : t ∈ [22] := by simpa using Array.mem_of_getElem? ht
        have hall : ([22].all fun u => !Tryd.prog.wantsStandIn u) = true := by kernel_rfl
        exact (show Tryd.prog.wantsStandIn t = false by simpa using List.all_eq_true.1 hall t hm)⟩)
    (by kernel_rfl)

theorem proved : Rows.FnMarksTextCardSaid := card
#print axioms proved
end Go.Proofs.YtjhlcgjhdiheaaaDoor.fnMarksText
