/- Proved: the statement 'FnTailSaid': the law FnTail returns true for every input, and every argument reads afterwards as it read before. No further conditions. The frame was written by the kit's proof-skeleton; the walk is ours. -/
import Derived.Test.YtcgiehdpdnipbaaRows
import Derived.Test.YtcgiehdpdnipbaaLawsC
import Derived.Test.YtcgiehdpdnipbaaSimple
import Derived.Test.YtcgiehdpdnipbaaEnter
import Derived.WalkKit
import Derived.ProofKit
import Derived.OpenShut
import Derived.ShutString
import Derived.ChangeOld
import Derived.Below
namespace Go.Proofs.Ytcgiehdpdnipbaa.fnTail
open Go.ChangeShapes Go.WideShapes Go.ChangeAt Go.RowKit
open Go.ChangeMaps (open_string shut_string)
set_option linter.unusedVariables false

theorem own : ownKnob Try.prog.godebug = none := by kernel_rfl
theorem laidOut : laidOutB Try.prog = true := by kernel_rfl

theorem walk (a0 : Option Addr) (len0 cap0 : Nat) (z0 : List Int) (w : World) (w0 : IsRow .u8 w a0 len0 cap0 z0) :
    Calls Try.prog 23 #[.slice a0 len0 cap0] w fun e w' => e = .returned (.bool true) ∧ Below w.heap.size w w' := by
  have hy0 := w0.bytes
  have hl0 := w0.len_le
  have hc0 := w0.len_cap
  clear w0
  by_cases hm0 : len0 ≤ 1048576
  · go_enter Try.func23, Try.ntmps23
    go_wp2_with fail
    refine (drawTail a0 len0 cap0 _ hy0 hm0 hc0).mono ?_
    rintro e W1 ⟨A, n, c, xs, r, h, rfl, hn, r0, r1, h0, h1, o, bd⟩
    have S1 : w.heap.size ≤ W1.heap.size := bd.size
    have B1 : Below w.heap.size w W1 := bd
    have hlen_o := Lib.hid o.len
    go_wp2_with fail
    refine (itail_any A n c xs r h _ (by omega) o.ints).mono ?_
    rintro e W2 ⟨rfl, b1⟩
    have S2 : W1.heap.size ≤ W2.heap.size := b1.size
    have B2 : Below w.heap.size w W2 := Below.next B1 b1
    have o := o.below b1
    go_wp2_with fail
    refine (stail_any A n c xs r h _ (by omega) o.ints).mono ?_
    rintro e W3 ⟨rfl, b2⟩
    have S3 : W2.heap.size ≤ W3.heap.size := b2.size
    have B3 : Below w.heap.size w W3 := Below.next B2 b2
    have o := o.below b2
    have hq : (Talk.tailS xs r h != Talk.tailS xs r h) = false := by simp
    have hq2 : (Talk.tailS xs r h == Talk.tailS xs r h) = true := by simp
    cases hok : Talk.ok xs r h with
    | false =>
      have hneg : Talk.tailS xs r h < 0 := by rw [Talk.tail_no hok]; omega
      clear hok
      go_wp2
      go_ret
      exact ⟨rfl, B3⟩
    | true =>
      obtain ⟨f1, f2, f3, f4, f5, f6⟩ := Talk.tail_law hok
      obtain ⟨T, hT⟩ := Int.eq_ofNat_of_zero_le f1
      rw [hT] at f2 f3 f4 f6 hq hq2 ⊢
      rw [Int.toNat_natCast] at f6
      have hE0 := (Talk.endM_bd (r := r) (Talk.ok_parts hok).2.2.1 xs 0 (Int.le_refl 0) (Talk.ok_parts hok).2.2.1).1
      have hr1 := (Talk.ok_parts hok).2.1.1
      have F6 := Lib.hid f6
      have hmi := Lib.hid (Talk.mind_yes hok)
      have hml := Lib.hid (Talk.minds_last r h xs)
      have hen := Lib.hid (show xs.length = 0 → Talk.endM r h 0 xs = 0 from fun h => by rw [List.eq_nil_of_length_eq_zero h]; rfl)
      have HOK := Lib.hid hok
      have hTr : 0 ≤ (T : Int) * r := by omega
      clear f6 hT f1 hok
      go_wp2_with fail
      refine (imind_any A n c xs r h _ (by omega) o.ints).mono ?_
      rw [HOK.out, hmi.out]
      rintro e W4 ⟨A2, n2, c2, rfl, o2, b3⟩
      have S4 : W3.heap.size ≤ W4.heap.size := b3.size
      have B4 : Below w.heap.size w W4 := Below.next B3 b3
      have o := o.below b3
      obtain rfl : n2 = n := by have := o2.len; rw [Talk.minds_len, hlen_o.out] at this; omega
      have hemp : OwnI (W4.alloc (.cells #[] 3)) W4.heap.size (W4.heap.size + 1) (some ⟨W4.heap.size, 0, none⟩) 0 0 [] := own_empty W4 W4.heap.size (Nat.le_refl _)
      have b0 : Below W4.heap.size W4 (W4.alloc (.cells #[] 3)) := (Below.refl _ _).alloc (Nat.le_refl _) _
      by_cases hz : n2 = 0
      · have hE := hen.out (hlen_o.out.trans hz)
        have hE1 : Talk.endM r h 0 xs ≤ 0 := by omega
        have hz1 : n2 ≤ 0 := by omega
        have hE2 : decide ((0 : Int) < (n2 : Int)) = false := by simp; omega
        clear hE hz
        have hl3' : decide ((T : Int) * r < r) = true := by simp; omega
        have hl4' : decide (0 ≤ (T : Int) * r) = true := by simp; omega
        go_wp2_with (at_builtin; go_must (refine wpList_cat _ rfl (.tmp 58) (.tmp 59) rfl W4.heap.size (W4.heap.size + 1) (some ⟨W4.heap.size, 0, none⟩) 0 0 [] rfl hemp A n2 c xs rfl (o.ints.below b0) o.cap0 (by omega) b0.size ?_); intro A3 c3 w3 o3 g3; have b4 := below_cat b0 g3 (fun a ha => by injection ha with ha; subst ha; exact Nat.le_refl _); rw [List.nil_append] at o3; rw [Nat.zero_add] at *)
        clear hemp b0 g3
        have hB := Below.next B4 b4
        go_loopg [11, 12] T (fun g s i wr => ∃ k : Nat, k ≤ T ∧ g = T - k ∧ i = .int .i64 k ∧ ∃ A' c', s = .slice A' (n2 + k) c' ∧ OwnI wr W4.heap.size wr.heap.size A' (n2 + k) c' (xs ++ List.replicate k 0) ∧ Below W4.heap.size W4 wr)
        case atStart => exact ⟨0, Nat.zero_le _, rfl, rfl, A3, c3, rfl, by simpa using o3, b4⟩
        case round =>
          clear o3 b4 hB
          obtain ⟨k, hk, rfl, rfl, A', c', rfl, o3, b4⟩ := hrel
          by_cases hlt : k < T
          · go_wp2_with (at_builtin; go_must (refine wpList_push _ rfl (.tmp 66) (.tmp 67) rfl W4.heap.size wr.heap.size A' (n2 + k) c' _ rfl (o3.alloc _) 0 wr.heap.size rfl ⟨by omega, by omega⟩ (by go_simp) (by omega) (by have := b4.size; simp; omega) ?_); intro g4 c4 w4 o4 gg4)
            have b5 := below_cat (b4.alloc b4.size _) gg4 (fun a ha => (o3.lo_le a ha).1)
            go_roundg (T - (k + 1))
            case measure => omega
            case rel => exact ⟨k + 1, by omega, rfl, by go_num, _, _, rfl, by rw [List.replicate_succ', ← List.append_assoc]; exact o4, b5⟩
          · obtain rfl : k = T := by omega
            have hB := Below.next B4 b4
            have hl3 := Lib.hid o3.len
            go_wp2_with fail
            refine (imind_any A' (n2 + k) c' (xs ++ List.replicate k 0) r h _ (by omega) o3.ints).mono ?_
            cases hq3 : Talk.ok (xs ++ List.replicate k 0) r h with
            | false =>
              rintro e w5 ⟨A5, n5, c5, rfl, o5, b5⟩
              go_wp2
              go_ret
              exact ⟨rfl, Below.next hB b5⟩
            | true =>
              rw [Talk.mind_yes hq3]
              rintro e w5 ⟨A5, n5, c5, rfl, o5, b5⟩
              have h5 : n5 = n2 + k := by have := o5.len; rw [Talk.minds_len, hl3.out] at this; omega
              by_cases hz5 : n5 = 0
              · have hz6 : ((n5 : Int) == 0) = true := by rw [hz5]; rfl
                clear hz5 h5
                go_wp2
                go_ret
                exact ⟨rfl, Below.next hB b5⟩
              · have hz6 : ((n5 : Int) == 0) = false := by simp; omega
                obtain ⟨g6, y, rfl, _, _, hy, _, _, hc6, _⟩ := o5.at_ (k := n5 - 1) (by omega)
                have hl := Talk.minds_last r h (xs ++ List.replicate k 0) (by rw [hl3.out]; omega)
                rw [hl3.out, ← h5, hy, F6.out] at hl
                obtain rfl : y = 0 := by injection hl
                have hk1 : ((n5 : Int) - 1).toNat = n5 - 1 := by omega
                have hp5 : 1 ≤ n5 := by omega
                have hb5 : n5 ≤ 100 := by omega
                clear hy hl h5
                go_wp2
                go_ret
                exact ⟨rfl, Below.next hB b5⟩
      · obtain ⟨g, y, rfl, _, _, hy, _, _, hc2, _⟩ := o2.at_ (k := n2 - 1) (by omega)
        have hl := hml.out (by rw [hlen_o.out]; exact hz)
        rw [hlen_o.out, hy] at hl
        obtain rfl : y = Talk.endM r h 0 xs := by injection hl
        have hk1 : ((n2 : Int) - 1).toNat = n2 - 1 := by omega
        clear hy hl
        go_wp2_with (at_builtin; go_must (refine wpList_cat _ rfl (.tmp 58) (.tmp 59) rfl W4.heap.size (W4.heap.size + 1) (some ⟨W4.heap.size, 0, none⟩) 0 0 [] rfl hemp A n2 c xs rfl (o.ints.below b0) o.cap0 (by omega) b0.size ?_); intro A3 c3 w3 o3 g3; have b4 := below_cat b0 g3 (fun a ha => by injection ha with ha; subst ha; exact Nat.le_refl _); rw [List.nil_append] at o3; rw [Nat.zero_add] at *)
        clear hemp b0 g3
        have hB := Below.next B4 b4
        go_loopg [11, 12] T (fun g s i wr => ∃ k : Nat, k ≤ T ∧ g = T - k ∧ i = .int .i64 k ∧ ∃ A' c', s = .slice A' (n2 + k) c' ∧ OwnI wr W4.heap.size wr.heap.size A' (n2 + k) c' (xs ++ List.replicate k 0) ∧ Below W4.heap.size W4 wr)
        case atStart => exact ⟨0, Nat.zero_le _, rfl, rfl, A3, c3, rfl, by simpa using o3, b4⟩
        case round =>
          clear o3 b4 hB
          obtain ⟨k, hk, rfl, rfl, A', c', rfl, o3, b4⟩ := hrel
          by_cases hlt : k < T
          · go_wp2_with (at_builtin; go_must (refine wpList_push _ rfl (.tmp 66) (.tmp 67) rfl W4.heap.size wr.heap.size A' (n2 + k) c' _ rfl (o3.alloc _) 0 wr.heap.size rfl ⟨by omega, by omega⟩ (by go_simp) (by omega) (by have := b4.size; simp; omega) ?_); intro g4 c4 w4 o4 gg4)
            have b5 := below_cat (b4.alloc b4.size _) gg4 (fun a ha => (o3.lo_le a ha).1)
            go_roundg (T - (k + 1))
            case measure => omega
            case rel => exact ⟨k + 1, by omega, rfl, by go_num, _, _, rfl, by rw [List.replicate_succ', ← List.append_assoc]; exact o4, b5⟩
          · obtain rfl : k = T := by omega
            have hB := Below.next B4 b4
            have hl3 := Lib.hid o3.len
            go_wp2_with fail
            refine (imind_any A' (n2 + k) c' (xs ++ List.replicate k 0) r h _ (by omega) o3.ints).mono ?_
            cases hq3 : Talk.ok (xs ++ List.replicate k 0) r h with
            | false =>
              rintro e w5 ⟨A5, n5, c5, rfl, o5, b5⟩
              go_wp2
              go_ret
              exact ⟨rfl, Below.next hB b5⟩
            | true =>
              rw [Talk.mind_yes hq3]
              rintro e w5 ⟨A5, n5, c5, rfl, o5, b5⟩
              have h5 : n5 = n2 + k := by have := o5.len; rw [Talk.minds_len, hl3.out] at this; omega
              by_cases hz5 : n5 = 0
              · have hz6 : ((n5 : Int) == 0) = true := by rw [hz5]; rfl
                clear hz5 h5
                go_wp2
                go_ret
                exact ⟨rfl, Below.next hB b5⟩
              · have hz6 : ((n5 : Int) == 0) = false := by simp; omega
                obtain ⟨g6, y, rfl, _, _, hy, _, _, hc6, _⟩ := o5.at_ (k := n5 - 1) (by omega)
                have hl := Talk.minds_last r h (xs ++ List.replicate k 0) (by rw [hl3.out]; omega)
                rw [hl3.out, ← h5, hy, F6.out] at hl
                obtain rfl : y = 0 := by injection hl
                have hk1 : ((n5 : Int) - 1).toNat = n5 - 1 := by omega
                have hp5 : 1 ≤ n5 := by omega
                have hb5 : n5 ≤ 100 := by omega
                clear hy hl h5
                go_wp2
                go_ret
                exact ⟨rfl, Below.next hB b5⟩
  · go_enter Try.func23, Try.ntmps23
    go_wp2
    go_ret
    exact ⟨rfl, Below.refl _ _⟩

set_option maxRecDepth 100000 in
theorem lifted (os : Os) (started : os.Started) (H : Type) (enc : TypeId × Value → H) :
    ReturnsInHanded {} Try.checked os 23 .any (Rows.fnTailSpec.pre6 enc Try.prog Try.f23 Rows.fnTailRow.domain false) (Rows.fnTailSpec.post enc Try.prog Try.f23 false true false false) := by
  refine returnsInHanded_of_change (C := Try.checked) own started (by kernel_rfl) Try.func23
    (ChangeSpec.witness6 (enc := enc) (C := Try.checked) false ⟨#[], #[.slice none 0 0], []⟩ 8 (by kernel_rfl) (by kernel_rfl) (by kernel_rfl) (by kernel_rfl)) ?_
  intro W base args ds gs before hval0 hW hcnd _
  have hval : ∀ (j : Nat) t v, Try.f23.params[j]? = some t → args[j]? = some v → Value.okWide Try.prog W .any base t v := hval0
  have hW' := hW
  obtain ⟨p, q, hA0, hV, rfl, hfz, hnd⟩ := hW
  have hA : DataW.TrodAll enc Try.prog W 0 (fun _ => true) true Try.f23.params.toList args.toList ds p := hA0
  rw [Try.params23] at hA hval
  obtain ⟨v0, vs0, d0, ds0, p0, q0, hargs, rfl, rfl, h0, r0⟩ := trodAll_cons hA
  obtain ⟨rfl, rfl, rfl⟩ := trodAll_nil r0
  obtain rfl : args = #[v0] := by cases args; simp_all
  obtain ⟨rfl, rfl⟩ := trodVars_none hV
  obtain ⟨a0, len0, cap0, rfl⟩ := okWide_slice Try.underlying33 (hval 0 33 v0 rfl rfl)
  have k0 := h0
  have lt0 : ∀ x ∈ p0, x.block < W.heap.size := by obtain ⟨m, hm⟩ := k0; exact DataW.trod_lt m _ _ _ hm
  obtain ⟨z0, w0⟩ : ∃ zs, IsRow .u8 W a0 len0 cap0 zs := by
    obtain ⟨fuel, hf⟩ := h0
    rcases open_ints Try.underlying33 Try.underlying5 (by kernel_rfl) hf with ⟨hcs, _⟩ | ⟨x, l, c, zs, hcs, _, hl, hm, hz, _, hcell, hwz⟩
    · simp [Value.cells] at hcs
      obtain ⟨rfl, rfl, rfl⟩ := hcs
      exact ⟨[], .inl ⟨rfl, rfl, rfl, rfl⟩⟩
    · simp [Value.cells] at hcs
      obtain ⟨rfl, rfl, rfl⟩ := hcs
      exact ⟨zs, .inr ⟨_, rfl, hl, hm, by simpa using hz, hcell, hwz⟩⟩
  clear hA0 hval0
  refine (walk a0 len0 cap0 z0 W w0).mono fun e W' ⟨he, bel⟩ => ?_
  subst he
  exact ⟨_, rfl, _, _, _, [], _, [], hW', trodAll_mk1 (shut_bool Try.underlying4 _), (trodAll_cons_mk (Below.trod laidOut (by kernel_rfl) (of_decide_eq_true (by kernel_rfl)) k0 bel lt0) trodAll_mk0), rfl, bel.frame _, fun h => by cases h⟩

theorem closed : joinedFacts Try.prog 23 Try.f23 Rows.fnTailSpec Rows.fnTailRow = true := by
  unfold joinedFacts
  simp only [may_enter, lifts_final, make_cut]
  kernel_rfl

theorem over : Rows.fnTailRow.holds Try.pinned (OpenSpec.ofChange Rows.fnTailSpec) :=
  OpenClaim.holds_of_wide 23 Try.f23 rfl rfl rfl rfl rfl rfl rfl ⟨rfl, rfl, rfl, rfl, rfl⟩ rfl rfl rfl rfl rfl (by kernel_rfl) Try.func23 closed
    (of_decide_eq_true (by kernel_rfl)) (by unfold Func.isWrapper; first | (rw [if_pos (by decide +kernel)]; kernel_rfl) | (rw [if_neg (by decide +kernel)]; exact ⟨rfl, rfl⟩))
    (fun os started H enc _ => lifted os started H enc)

theorem proved : Rows.FnTailSaid := over
#print axioms proved
end Go.Proofs.Ytcgiehdpdnipbaa.fnTail
