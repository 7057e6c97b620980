/- Proved: the statement 'FnTalkJoinSaid': the law FnTalkJoin returns true for every input, and every argument reads afterwards as it read before. No further conditions. The frame was written by the kit's proof-skeleton; the walk is ours. -/
import Derived.Test.YtcgiehdpdnipbaaRows
import Derived.Test.YtcgiehdpdnipbaaCuts
import Derived.Test.YtcgiehdpdnipbaaSimple
import Derived.Test.YtcgiehdpdnipbaaEnter
import Derived.WalkKit
import Derived.ProofKit
import Derived.OpenShut
import Derived.ShutString
import Derived.ChangeOld
import Derived.Below
namespace Go.Proofs.Ytcgiehdpdnipbaa.fnTalkJoin
open Go.ChangeShapes Go.WideShapes Go.ChangeAt Go.RowKit
open Go.ChangeMaps (open_string shut_string)
set_option linter.unusedVariables false

theorem own : ownKnob Try.prog.godebug = none := by kernel_rfl
theorem laidOut : laidOutB Try.prog = true := by kernel_rfl

theorem walk (a0 : Option Addr) (len0 cap0 : Nat) (z0 : List Int) (w : World) (w0 : IsRow .u8 w a0 len0 cap0 z0) :
    Calls Try.prog 21 #[.slice a0 len0 cap0] w fun e w' => e = .returned (.bool true) ∧ Below w.heap.size w w' := by
  have hy0 := w0.bytes
  have hl0 := w0.len_le
  have hc0 := w0.len_cap
  clear w0
  by_cases hm0 : len0 ≤ 1048576
  · go_enter Try.func21, Try.ntmps21
    go_wp2_with fail
    refine (drawJoin a0 len0 cap0 _ hy0 hm0 hc0).mono ?_
    rintro e W1 ⟨A, n, c, xs, B, m, d, ys, rfl, hn, hm, o, o', bd⟩
    have S1 : w.heap.size ≤ W1.heap.size := bd.size
    have B1 : Below w.heap.size w W1 := bd
    have hlen_o := Lib.hid o.len
    have hlen_o' := Lib.hid o'.len
    go_wp2_with fail
    refine (ijoin_any A B n m c d xs ys _ (by omega) (by omega) o.ints o'.ints o.cap0 o'.cap0).mono ?_
    rintro e W2 ⟨Ag, ng, cg, rfl, og, bg⟩
    have S2 : W1.heap.size ≤ W2.heap.size := bg.size
    have B2 : Below w.heap.size w W2 := Below.next B1 bg
    have o := o.below bg
    have o' := o'.below bg
    go_wp2_with fail
    refine (sjoin_any A B n m c d xs ys _ (by omega) (by omega) o.ints o'.ints o.cap0 o'.cap0).mono ?_
    rintro e W3 ⟨Ar, nr, cr, rfl, or, br⟩
    have S3 : W2.heap.size ≤ W3.heap.size := br.size
    have B3 : Below w.heap.size w W3 := Below.next B2 br
    have o := o.below br
    have o' := o'.below br
    have og := og.below br
    have hjl := joinL_len xs ys
    have hng : ng ≤ 30 := by have := og.len; omega
    have hnr : nr ≤ 30 := by have := or.len; omega
    have hq : (Talk.joinOk xs ys != Talk.joinOk xs ys) = false := by simp
    have hq2 : (Talk.joinOk xs ys == Talk.joinOk xs ys) = true := by simp
    go_wp2_with fail
    refine (same_any Ag Ar ng cg nr cr (joinL xs ys) (joinL xs ys) _ (by omega) (by omega) og.ints or.ints).mono ?_
    rintro e W4 ⟨rfl, be1⟩
    have S4 : W3.heap.size ≤ W4.heap.size := be1.size
    have B4 : Below w.heap.size w W4 := Below.next B3 be1
    have o := o.below be1
    have o' := o'.below be1
    have og := og.below be1
    have or := or.below be1
    cases hj : Talk.joinOk xs ys with
    | false =>
      go_wp2_with fail
      refine (same_any Ag Ar ng cg nr cr (joinL xs ys) (joinL xs ys) _ (by omega) (by omega) og.ints or.ints).mono ?_
      rintro e W5 ⟨rfl, be2⟩
      have S5 : W4.heap.size ≤ W5.heap.size := be2.size
      have B5 : Below w.heap.size w W5 := Below.next B4 be2
      have o := o.below be2
      have o' := o'.below be2
      have og := og.below be2
      have or := or.below be2
      go_wp2
      go_ret
      exact ⟨rfl, B5⟩
    | true =>
      have hjy := joinL_yes hj
      rw [hjy] at og
      obtain ⟨f1, f2, f3, f4, f5, f6, f7⟩ := Talk.join_law hj
      have F1 := Lib.hid f1
      have F6 := Lib.hid f6
      have F7 := Lib.hid f7
      clear f1 f6 f7 hjy hjl
      have hlg : ng = n + m := by have := og.len; rw [List.length_append, hlen_o.out, hlen_o'.out] at this; omega
      have HLG := Lib.hid hlg
      have hnm : n + m ≤ 30 := by omega
      clear hlg
      have hemp : OwnI (W4.alloc (.cells #[] 3)) W4.heap.size (W4.heap.size + 1) (some ⟨W4.heap.size, 0, none⟩) 0 0 [] := own_empty W4 W4.heap.size (Nat.le_refl _)
      have b0 : Below W4.heap.size W4 (W4.alloc (.cells #[] 3)) := (Below.refl _ _).alloc (Nat.le_refl _) _
      go_wp2_with (first | (at_builtin; have _t := hemp; refine wpList_cat _ rfl (.tmp 53) (.tmp 54) rfl W4.heap.size (W4.heap.size + 1) (some ⟨W4.heap.size, 0, none⟩) 0 0 [] rfl hemp A n c xs rfl (o.ints.below b0) o.cap0 (by omega) b0.size ?_; intro A3 c3 w3 o3 g3; clear hemp; have b3 := below_cat b0 g3 (fun a ha => by injection ha with ha; subst ha; exact Nat.le_refl _); rw [List.nil_append] at o3; rw [Nat.zero_add] at *) | (at_builtin; refine wpList_push _ rfl (.tmp 55) (.tmp 56) rfl W4.heap.size w3.heap.size A3 n c3 xs rfl (o3.alloc _) 0 w3.heap.size rfl ⟨by omega, by omega⟩ (by go_simp) (by omega) (by have := b3.size; simp; omega) ?_; intro g4 c4 w4 o4 gg4; have b4 := below_cat (b3.alloc b3.size _) gg4 (fun a ha => (o3.lo_le a ha).1)) | (at_builtin; refine wpList_cat _ rfl (.tmp 57) (.tmp 58) rfl W4.heap.size w4.heap.size (some ⟨g4, 0, none⟩) (n + 1) c4 (xs ++ [0]) rfl o4 B m d ys rfl (o'.ints.below b4) o'.cap0 (by omega) b4.size ?_; intro A5 c5 w5 o5 g5; have b5 := below_cat b4 g5 (fun a ha => (o4.lo_le a ha).1)))
      have og := og.below b5
      have o := o.below b5
      have o' := o'.below b5
      have hB := Below.next B4 b5
      clear b0 b3 b4 b5 g3 gg4 g5 o3 o4
      refine (ilost_any Ag ng cg (xs ++ ys) 2 3 _ (by omega) og.ints).mono ?_
      rintro e w6 ⟨rfl, b6⟩
      have og := og.below b6
      have o := o.below b6
      have o' := o'.below b6
      have o5 := o5.below b6
      have hB := Below.next hB b6
      go_wp2_with fail
      refine (ipeak_any A n c xs 1 _ (by omega) o.ints o.cap_le o.cap_max).mono ?_
      rintro e w' ⟨rfl, rfl⟩
      go_wp2_with fail
      refine (ipeak_any B m d ys 1 _ (by omega) o'.ints o'.cap_le o'.cap_max).mono ?_
      rintro e w' ⟨rfl, rfl⟩
      by_cases hmx : Talk.peak xs 1 < Talk.peak ys 1
      · go_wp2_with fail
        refine (iwords_any Ag ng cg (xs ++ ys) _ (by omega) og.ints).mono ?_
        rintro e w' ⟨rfl, rfl⟩
        go_wp2_with fail
        refine (iwords_any A n c xs _ (by omega) o.ints).mono ?_
        rintro e w' ⟨rfl, rfl⟩
        go_wp2_with fail
        refine (iwords_any B m d ys _ (by omega) o'.ints).mono ?_
        rintro e w' ⟨rfl, rfl⟩
        have z1 : (Talk.words (xs ++ ys) == Talk.words xs + Talk.words ys) = true := by rw [F1.out]; simp
        have z2 : (Talk.peak (xs ++ ys) 1 == Talk.peak ys 1) = true := by rw [F7.out]; simp; omega
        by_cases hlong : n + 1 + m ≤ 30
        · have hvx : Talk.valid (xs ++ [0] ++ ys) = true := by
            have h1 : Talk.valid (xs ++ ys) = true := hj
            have h2 := Talk.valid_all h1
            simp only [Talk.valid, Bool.and_eq_true, decide_eq_true_eq, Talk.allIn_append] at h2 ⊢
            exact ⟨by simp only [List.length_append, List.length_singleton, hlen_o.out, hlen_o'.out]; omega, ⟨h2.1, rfl⟩, h2.2⟩
          have f6 := F6.out hvx
          have f6a : decide (Talk.lost (xs ++ 0 :: ys) 2 3 ≤ Talk.lost (xs ++ ys) 2 3) = true := by simpa using f6
          have f6b : decide ((30 : Int) < (n : Int) + 1 + (m : Int)) = false := by simp; omega
          clear hvx
          go_wp2_with fail
          refine (ilost_any A5 _ c5 (xs ++ [0] ++ ys) 2 3 _ (by omega) o5.ints).mono ?_
          rintro e w7 ⟨rfl, b7⟩
          have og := og.below b7
          have hB := Below.next hB b7
          go_wp2_with fail
          refine (ipeak_any Ag ng cg (xs ++ ys) 1 _ (by omega) og.ints og.cap_le og.cap_max).mono ?_
          rintro e w' ⟨rfl, rfl⟩
          go_wp2
          go_ret
          exact ⟨rfl, hB⟩
        · have f6b : decide ((30 : Int) < (n : Int) + 1 + (m : Int)) = true := by simp; omega
          go_wp2_with fail
          refine (ipeak_any Ag ng cg (xs ++ ys) 1 _ (by omega) og.ints og.cap_le og.cap_max).mono ?_
          rintro e w' ⟨rfl, rfl⟩
          go_wp2
          go_ret
          exact ⟨rfl, hB⟩
      · go_wp2_with fail
        refine (iwords_any Ag ng cg (xs ++ ys) _ (by omega) og.ints).mono ?_
        rintro e w' ⟨rfl, rfl⟩
        go_wp2_with fail
        refine (iwords_any A n c xs _ (by omega) o.ints).mono ?_
        rintro e w' ⟨rfl, rfl⟩
        go_wp2_with fail
        refine (iwords_any B m d ys _ (by omega) o'.ints).mono ?_
        rintro e w' ⟨rfl, rfl⟩
        have z1 : (Talk.words (xs ++ ys) == Talk.words xs + Talk.words ys) = true := by rw [F1.out]; simp
        have z2 : (Talk.peak (xs ++ ys) 1 == Talk.peak xs 1) = true := by rw [F7.out]; simp; omega
        by_cases hlong : n + 1 + m ≤ 30
        · have hvx : Talk.valid (xs ++ [0] ++ ys) = true := by
            have h1 : Talk.valid (xs ++ ys) = true := hj
            have h2 := Talk.valid_all h1
            simp only [Talk.valid, Bool.and_eq_true, decide_eq_true_eq, Talk.allIn_append] at h2 ⊢
            exact ⟨by simp only [List.length_append, List.length_singleton, hlen_o.out, hlen_o'.out]; omega, ⟨h2.1, rfl⟩, h2.2⟩
          have f6 := F6.out hvx
          have f6a : decide (Talk.lost (xs ++ 0 :: ys) 2 3 ≤ Talk.lost (xs ++ ys) 2 3) = true := by simpa using f6
          have f6b : decide ((30 : Int) < (n : Int) + 1 + (m : Int)) = false := by simp; omega
          clear hvx
          go_wp2_with fail
          refine (ilost_any A5 _ c5 (xs ++ [0] ++ ys) 2 3 _ (by omega) o5.ints).mono ?_
          rintro e w7 ⟨rfl, b7⟩
          have og := og.below b7
          have hB := Below.next hB b7
          go_wp2_with fail
          refine (ipeak_any Ag ng cg (xs ++ ys) 1 _ (by omega) og.ints og.cap_le og.cap_max).mono ?_
          rintro e w' ⟨rfl, rfl⟩
          go_wp2
          go_ret
          exact ⟨rfl, hB⟩
        · have f6b : decide ((30 : Int) < (n : Int) + 1 + (m : Int)) = true := by simp; omega
          go_wp2_with fail
          refine (ipeak_any Ag ng cg (xs ++ ys) 1 _ (by omega) og.ints og.cap_le og.cap_max).mono ?_
          rintro e w' ⟨rfl, rfl⟩
          go_wp2
          go_ret
          exact ⟨rfl, hB⟩
  · go_enter Try.func21, Try.ntmps21
    go_wp2
    go_ret
    exact ⟨rfl, Below.refl _ _⟩

set_option maxRecDepth 100000 in
theorem lifted (os : Os) (started : os.Started) (H : Type) (enc : TypeId × Value → H) :
    ReturnsInHanded {} Try.checked os 21 .any (Rows.fnTalkJoinSpec.pre6 enc Try.prog Try.f21 Rows.fnTalkJoinRow.domain false) (Rows.fnTalkJoinSpec.post enc Try.prog Try.f21 false true false false) := by
  refine returnsInHanded_of_change (C := Try.checked) own started (by kernel_rfl) Try.func21
    (ChangeSpec.witness6 (enc := enc) (C := Try.checked) false ⟨#[], #[.slice none 0 0], []⟩ 8 (by kernel_rfl) (by kernel_rfl) (by kernel_rfl) (by kernel_rfl)) ?_
  intro W base args ds gs before hval0 hW hcnd _
  have hval : ∀ (j : Nat) t v, Try.f21.params[j]? = some t → args[j]? = some v → Value.okWide Try.prog W .any base t v := hval0
  have hW' := hW
  obtain ⟨p, q, hA0, hV, rfl, hfz, hnd⟩ := hW
  have hA : DataW.TrodAll enc Try.prog W 0 (fun _ => true) true Try.f21.params.toList args.toList ds p := hA0
  rw [Try.params21] at hA hval
  obtain ⟨v0, vs0, d0, ds0, p0, q0, hargs, rfl, rfl, h0, r0⟩ := trodAll_cons hA
  obtain ⟨rfl, rfl, rfl⟩ := trodAll_nil r0
  obtain rfl : args = #[v0] := by cases args; simp_all
  obtain ⟨rfl, rfl⟩ := trodVars_none hV
  obtain ⟨a0, len0, cap0, rfl⟩ := okWide_slice Try.underlying33 (hval 0 33 v0 rfl rfl)
  have k0 := h0
  have lt0 : ∀ x ∈ p0, x.block < W.heap.size := by obtain ⟨m, hm⟩ := k0; exact DataW.trod_lt m _ _ _ hm
  obtain ⟨z0, w0⟩ : ∃ zs, IsRow .u8 W a0 len0 cap0 zs := by
    obtain ⟨fuel, hf⟩ := h0
    rcases open_ints Try.underlying33 Try.underlying5 (by kernel_rfl) hf with ⟨hcs, _⟩ | ⟨x, l, c, zs, hcs, _, hl, hm, hz, _, hcell, hwz⟩
    · simp [Value.cells] at hcs
      obtain ⟨rfl, rfl, rfl⟩ := hcs
      exact ⟨[], .inl ⟨rfl, rfl, rfl, rfl⟩⟩
    · simp [Value.cells] at hcs
      obtain ⟨rfl, rfl, rfl⟩ := hcs
      exact ⟨zs, .inr ⟨_, rfl, hl, hm, by simpa using hz, hcell, hwz⟩⟩
  clear hA0 hval0
  refine (walk a0 len0 cap0 z0 W w0).mono fun e W' ⟨he, bel⟩ => ?_
  subst he
  exact ⟨_, rfl, _, _, _, [], _, [], hW', trodAll_mk1 (shut_bool Try.underlying4 _), (trodAll_cons_mk (Below.trod laidOut (by kernel_rfl) (of_decide_eq_true (by kernel_rfl)) k0 bel lt0) trodAll_mk0), rfl, bel.frame _, fun h => by cases h⟩

theorem closed : joinedFacts Try.prog 21 Try.f21 Rows.fnTalkJoinSpec Rows.fnTalkJoinRow = true := by
  unfold joinedFacts
  simp only [may_enter, lifts_final, make_cut]
  kernel_rfl

theorem over : Rows.fnTalkJoinRow.holds Try.pinned (OpenSpec.ofChange Rows.fnTalkJoinSpec) :=
  OpenClaim.holds_of_wide 21 Try.f21 rfl rfl rfl rfl rfl rfl rfl ⟨rfl, rfl, rfl, rfl, rfl⟩ rfl rfl rfl rfl rfl (by kernel_rfl) Try.func21 closed
    (of_decide_eq_true (by kernel_rfl)) (by unfold Func.isWrapper; first | (rw [if_pos (by decide +kernel)]; kernel_rfl) | (rw [if_neg (by decide +kernel)]; exact ⟨rfl, rfl⟩))
    (fun os started H enc _ => lifted os started H enc)

theorem proved : Rows.FnTalkJoinSaid := over
#print axioms proved
end Go.Proofs.Ytcgiehdpdnipbaa.fnTalkJoin
