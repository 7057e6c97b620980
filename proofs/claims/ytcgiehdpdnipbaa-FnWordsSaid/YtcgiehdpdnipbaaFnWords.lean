/- Proved: the statement 'FnWordsSaid': the law FnWords returns true for every input, and every argument reads afterwards as it read before. No further conditions. The frame was written by the kit's proof-skeleton; the walk is ours. -/
import Derived.Test.YtcgiehdpdnipbaaRows
import Derived.Test.YtcgiehdpdnipbaaCuts
import Derived.Test.YtcgiehdpdnipbaaSimple
import Derived.Test.YtcgiehdpdnipbaaEnter
import Derived.WalkKit
import Derived.ProofKit
import Derived.OpenShut
import Derived.ShutString
import Derived.ChangeOld
import Derived.Below
namespace Go.Proofs.Ytcgiehdpdnipbaa.fnWords
open Go.ChangeShapes Go.WideShapes Go.ChangeAt Go.RowKit
open Go.ChangeMaps (open_string shut_string)
set_option linter.unusedVariables false

theorem own : ownKnob Try.prog.godebug = none := by kernel_rfl
theorem laidOut : laidOutB Try.prog = true := by kernel_rfl

theorem walk (a0 : Option Addr) (len0 cap0 : Nat) (z0 : List Int) (a1 : Option Addr) (len1 cap1 : Nat) (z1 : List Int) (w : World) (w0 : IsRow .u8 w a0 len0 cap0 z0) (w1 : IsRow .u8 w a1 len1 cap1 z1) :
    Calls Try.prog 15 #[.slice a0 len0 cap0, .slice a1 len1 cap1] w fun e w' => e = .returned (.bool true) ∧ Below w.heap.size w w' := by
  have hy0 := w0.bytes
  have hl0 := w0.len_le
  have hc0 := w0.len_cap
  clear w0
  have hy1 := w1.bytes
  have hl1 := w1.len_le
  have hc1 := w1.len_cap
  clear w1
  by_cases hm0 : len0 ≤ 1048576
  · by_cases hm1 : len1 ≤ 1048576
    · go_enter Try.func15, Try.ntmps15
      go_wp2_with fail
      refine (drawWords a0 len0 cap0 _ hy0 hm0 hc0).mono ?_
      rintro e W1 ⟨A, n, c, xs, rfl, hn, o, bd⟩
      have S1 : w.heap.size ≤ W1.heap.size := bd.size
      have B1 : Below w.heap.size w W1 := bd
      have hlen_o := Lib.hid o.len
      go_wp2_with fail
      refine (iwords_any A n c xs _ (by omega) o.ints).mono ?_
      rintro e w' ⟨rfl, rfl⟩
      go_wp2_with fail
      refine (swords_any A n c xs _ (by omega) o.ints).mono ?_
      rintro e w' ⟨rfl, rfl⟩
      have hq : (Talk.words xs != Talk.words xs) = false := by simp
      have hq2 : (Talk.words xs == Talk.words xs) = true := by simp
      rcases Talk.words_cases xs with ⟨hv, hsp⟩ | ⟨hv, p0, p1⟩
      · have hneg : Talk.words xs < 0 := by omega
        clear hsp hv
        go_wp2
        go_ret
        exact ⟨rfl, B1⟩
      · have hok : Talk.ok xs (1 + (len1 : Int) % 9) ((len1 : Int) % 11) = true := Talk.ok_mk hv ⟨by omega, by omega⟩ ⟨by omega, by omega⟩
        obtain ⟨f1, f2, f3, f4⟩ := Talk.words_law hok
        rw [hlen_o.out] at f4
        have hmi := Lib.hid (Talk.mind_yes hok)
        rcases Talk.lost_cases xs (1 + (len1 : Int) % 9) ((len1 : Int) % 11) with ⟨hbad, _⟩ | ⟨_, p2, p3⟩
        · rw [hok] at hbad; cases hbad
        have hr0 : 0 ≤ (len1 : Int) % 9 := by omega
        have hr1 : (len1 : Int) % 9 ≤ 8 := by omega
        have hh0 : 0 ≤ (len1 : Int) % 11 := by omega
        have hh1 : (len1 : Int) % 11 ≤ 10 := by omega
        have hml := Lib.hid (Talk.minds_last (1 + (len1 : Int) % 9) ((len1 : Int) % 11) xs)
        have hen := Lib.hid (show xs.length = 0 → Talk.endM (1 + (len1 : Int) % 9) ((len1 : Int) % 11) 0 xs = 0 from fun h => by rw [List.eq_nil_of_length_eq_zero h]; rfl)
        have hmul0 : 0 ≤ (1 + (len1 : Int) % 9) * (n : Int) := Int.mul_nonneg (by omega) (by omega)
        have hmul1 : (1 + (len1 : Int) % 9) * (n : Int) ≤ 9 * 31 := Int.mul_le_mul (by omega) (by omega) (by omega) (by omega)
        have HOK := Lib.hid hok
        clear hv
        go_wp2_with fail
        generalize (len1 : Int) % 9 = r at *
        generalize (len1 : Int) % 11 = h at *
        refine (imind_any A n c xs (1 + r) h _ (by omega) o.ints).mono ?_
        rw [hok, hmi.out]
        rintro e W2 ⟨A2, n2, c2, rfl, o2, b2⟩
        have S2 : W1.heap.size ≤ W2.heap.size := b2.size
        have B2 : Below w.heap.size w W2 := Below.next B1 b2
        have o := o.below b2
        obtain rfl : n2 = n := by have := o2.len; rw [Talk.minds_len, hlen_o.out] at this; omega
        by_cases hz : n2 = 0
        · have hE := hen.out (hlen_o.out.trans hz)
          have hE1 : Talk.endM (1 + r) h 0 xs ≤ 0 := by omega
          have hE2 : decide ((0 : Int) < (n2 : Int)) = false := by simp; omega
          have hz1 : n2 ≤ 0 := by omega
          clear hE hz
          have hfin : decide (Talk.words xs - Talk.lost xs (1 + r) h ≤ (1 + r) * (n2 : Int)) = true := by
            generalize (1 + r) * (n2 : Int) = P at *
            simp; omega
          go_wp2_with fail
          refine (ilost_any A n2 c xs (1 + r) h _ (by omega) o.ints).mono ?_
          rintro e W3 ⟨rfl, b3⟩
          have S3 : W2.heap.size ≤ W3.heap.size := b3.size
          have B3 : Below w.heap.size w W3 := Below.next B2 b3
          have o := o.below b3
          have o2 := o2.below b3
          go_wp2
          go_ret
          exact ⟨rfl, B3⟩
        · have hfin : decide (Talk.words xs - Talk.endM (1 + r) h 0 xs - Talk.lost xs (1 + r) h ≤ (1 + r) * (n2 : Int)) = true := by
            generalize (1 + r) * (n2 : Int) = P at *
            simp; omega
          obtain ⟨g, y, rfl, _, _, hy, _, _, hc2, _⟩ := o2.at_ (k := n2 - 1) (by omega)
          have hl := hml.out (by rw [hlen_o.out]; exact hz)
          rw [hlen_o.out, hy] at hl
          obtain rfl : y = Talk.endM (1 + r) h 0 xs := by injection hl
          have hk1 : ((n2 : Int) - 1).toNat = n2 - 1 := by omega
          clear hy hl
          go_wp2_with fail
          refine (ilost_any A n2 c xs (1 + r) h _ (by omega) o.ints).mono ?_
          rintro e W3 ⟨rfl, b3⟩
          have S3 : W2.heap.size ≤ W3.heap.size := b3.size
          have B3 : Below w.heap.size w W3 := Below.next B2 b3
          have o := o.below b3
          have o2 := o2.below b3
          go_wp2
          go_ret
          exact ⟨rfl, B3⟩
    · go_enter Try.func15, Try.ntmps15
      go_wp2
      go_ret
      exact ⟨rfl, Below.refl _ _⟩
  · go_enter Try.func15, Try.ntmps15
    go_wp2
    go_ret
    exact ⟨rfl, Below.refl _ _⟩

set_option maxRecDepth 100000 in
theorem lifted (os : Os) (started : os.Started) (H : Type) (enc : TypeId × Value → H) :
    ReturnsInHanded {} Try.checked os 15 .any (Rows.fnWordsSpec.pre6 enc Try.prog Try.f15 Rows.fnWordsRow.domain false) (Rows.fnWordsSpec.post enc Try.prog Try.f15 false true false false) := by
  refine returnsInHanded_of_change (C := Try.checked) own started (by kernel_rfl) Try.func15
    (ChangeSpec.witness6 (enc := enc) (C := Try.checked) false ⟨#[], #[.slice none 0 0, .slice none 0 0], []⟩ 8 (by kernel_rfl) (by kernel_rfl) (by kernel_rfl) (by kernel_rfl)) ?_
  intro W base args ds gs before hval0 hW hcnd _
  have hval : ∀ (j : Nat) t v, Try.f15.params[j]? = some t → args[j]? = some v → Value.okWide Try.prog W .any base t v := hval0
  have hW' := hW
  obtain ⟨p, q, hA0, hV, rfl, hfz, hnd⟩ := hW
  have hA : DataW.TrodAll enc Try.prog W 0 (fun _ => true) true Try.f15.params.toList args.toList ds p := hA0
  rw [Try.params15] at hA hval
  obtain ⟨v0, vs0, d0, ds0, p0, q0, hargs, rfl, rfl, h0, r0⟩ := trodAll_cons hA
  obtain ⟨v1, vs1, d1, ds1, p1, q1, rfl, rfl, rfl, h1, r1⟩ := trodAll_cons r0
  obtain ⟨rfl, rfl, rfl⟩ := trodAll_nil r1
  obtain rfl : args = #[v0, v1] := by cases args; simp_all
  obtain ⟨rfl, rfl⟩ := trodVars_none hV
  obtain ⟨a0, len0, cap0, rfl⟩ := okWide_slice Try.underlying33 (hval 0 33 v0 rfl rfl)
  have k0 := h0
  have lt0 : ∀ x ∈ p0, x.block < W.heap.size := by obtain ⟨m, hm⟩ := k0; exact DataW.trod_lt m _ _ _ hm
  obtain ⟨z0, w0⟩ : ∃ zs, IsRow .u8 W a0 len0 cap0 zs := by
    obtain ⟨fuel, hf⟩ := h0
    rcases open_ints Try.underlying33 Try.underlying5 (by kernel_rfl) hf with ⟨hcs, _⟩ | ⟨x, l, c, zs, hcs, _, hl, hm, hz, _, hcell, hwz⟩
    · simp [Value.cells] at hcs
      obtain ⟨rfl, rfl, rfl⟩ := hcs
      exact ⟨[], .inl ⟨rfl, rfl, rfl, rfl⟩⟩
    · simp [Value.cells] at hcs
      obtain ⟨rfl, rfl, rfl⟩ := hcs
      exact ⟨zs, .inr ⟨_, rfl, hl, hm, by simpa using hz, hcell, hwz⟩⟩
  obtain ⟨a1, len1, cap1, rfl⟩ := okWide_slice Try.underlying33 (hval 1 33 v1 rfl rfl)
  have k1 := h1
  have lt1 : ∀ x ∈ p1, x.block < W.heap.size := by obtain ⟨m, hm⟩ := k1; exact DataW.trod_lt m _ _ _ hm
  obtain ⟨z1, w1⟩ : ∃ zs, IsRow .u8 W a1 len1 cap1 zs := by
    obtain ⟨fuel, hf⟩ := h1
    rcases open_ints Try.underlying33 Try.underlying5 (by kernel_rfl) hf with ⟨hcs, _⟩ | ⟨x, l, c, zs, hcs, _, hl, hm, hz, _, hcell, hwz⟩
    · simp [Value.cells] at hcs
      obtain ⟨rfl, rfl, rfl⟩ := hcs
      exact ⟨[], .inl ⟨rfl, rfl, rfl, rfl⟩⟩
    · simp [Value.cells] at hcs
      obtain ⟨rfl, rfl, rfl⟩ := hcs
      exact ⟨zs, .inr ⟨_, rfl, hl, hm, by simpa using hz, hcell, hwz⟩⟩
  clear hA0 hval0
  refine (walk a0 len0 cap0 z0 a1 len1 cap1 z1 W w0 w1).mono fun e W' ⟨he, bel⟩ => ?_
  subst he
  exact ⟨_, rfl, _, _, _, [], _, [], hW', trodAll_mk1 (shut_bool Try.underlying4 _), (trodAll_cons_mk (Below.trod laidOut (by kernel_rfl) (of_decide_eq_true (by kernel_rfl)) k0 bel lt0) (trodAll_cons_mk (Below.trod laidOut (by kernel_rfl) (of_decide_eq_true (by kernel_rfl)) k1 bel lt1) trodAll_mk0)), rfl, bel.frame _, fun h => by cases h⟩

theorem closed : joinedFacts Try.prog 15 Try.f15 Rows.fnWordsSpec Rows.fnWordsRow = true := by
  unfold joinedFacts
  simp only [may_enter, lifts_final, make_cut]
  kernel_rfl

theorem over : Rows.fnWordsRow.holds Try.pinned (OpenSpec.ofChange Rows.fnWordsSpec) :=
  OpenClaim.holds_of_wide 15 Try.f15 rfl rfl rfl rfl rfl rfl rfl ⟨rfl, rfl, rfl, rfl, rfl⟩ rfl rfl rfl rfl rfl (by kernel_rfl) Try.func15 closed
    (of_decide_eq_true (by kernel_rfl)) (by unfold Func.isWrapper; first | (rw [if_pos (by decide +kernel)]; kernel_rfl) | (rw [if_neg (by decide +kernel)]; exact ⟨rfl, rfl⟩))
    (fun os started H enc _ => lifted os started H enc)

theorem proved : Rows.FnWordsSaid := over
#print axioms proved
end Go.Proofs.Ytcgiehdpdnipbaa.fnWords
