/- Proved: the statement 'FnLostPartsSaid': the law FnLostParts returns true for every input, and every argument reads afterwards as it read before. No further conditions. The frame was written by the kit's proof-skeleton; the walk is ours. -/
import Derived.Test.YtcgiehdpdnipbaaRows
import Derived.Test.YtcgiehdpdnipbaaCuts
import Derived.Test.YtcgiehdpdnipbaaSimple
import Derived.Test.YtcgiehdpdnipbaaEnter
import Derived.WalkKit
import Derived.ProofKit
import Derived.OpenShut
import Derived.ShutString
import Derived.ChangeOld
import Derived.Below
namespace Go.Proofs.Ytcgiehdpdnipbaa.fnLostParts
open Go.ChangeShapes Go.WideShapes Go.ChangeAt Go.RowKit
open Go.ChangeMaps (open_string shut_string)
set_option linter.unusedVariables false

theorem own : ownKnob Try.prog.godebug = none := by kernel_rfl
theorem laidOut : laidOutB Try.prog = true := by kernel_rfl

theorem walk (a0 : Option Addr) (len0 cap0 : Nat) (z0 : List Int) (a1 : Option Addr) (len1 cap1 : Nat) (z1 : List Int) (w : World) (w0 : IsRow .u8 w a0 len0 cap0 z0) (w1 : IsRow .u8 w a1 len1 cap1 z1) :
    Calls Try.prog 16 #[.slice a0 len0 cap0, .slice a1 len1 cap1] w fun e w' => e = .returned (.bool true) ∧ Below w.heap.size w w' := by
  have hy0 := w0.bytes
  have hl0 := w0.len_le
  have hc0 := w0.len_cap
  clear w0
  have hy1 := w1.bytes
  have hl1 := w1.len_le
  have hc1 := w1.len_cap
  clear w1
  by_cases hm0 : len0 ≤ 1048576
  · by_cases hm1 : len1 ≤ 1048576
    · go_enter Try.func16, Try.ntmps16
      go_wp2_with fail
      refine (drawLost a0 len0 cap0 _ hy0 hm0 hc0).mono ?_
      rintro e W1 ⟨A, n, c, xs, r, h, rfl, hn, r0, r1, h0, h1, o, bd⟩
      have S1 : w.heap.size ≤ W1.heap.size := bd.size
      have B1 : Below w.heap.size w W1 := bd
      have hlen_o := Lib.hid o.len
      go_wp2_with fail
      refine (ilost_any A n c xs r h _ (by omega) o.ints).mono ?_
      rintro e W2 ⟨rfl, b1⟩
      have S2 : W1.heap.size ≤ W2.heap.size := b1.size
      have B2 : Below w.heap.size w W2 := Below.next B1 b1
      have o := o.below b1
      go_wp2_with fail
      refine (slost_any A n c xs r h _ (by omega) o.ints).mono ?_
      rintro e W3 ⟨rfl, b2⟩
      have S3 : W2.heap.size ≤ W3.heap.size := b2.size
      have B3 : Below w.heap.size w W3 := Below.next B2 b2
      have o := o.below b2
      have hq : (Talk.lost xs r h != Talk.lost xs r h) = false := by simp
      have hq2 : (Talk.lost xs r h == Talk.lost xs r h) = true := by simp
      rcases Talk.lost_cases xs r h with ⟨hok, hsp⟩ | ⟨hok, p0, p1⟩
      · have hneg : Talk.lost xs r h < 0 := by omega
        clear hsp hok
        go_wp2
        go_ret
        exact ⟨rfl, B3⟩
      · obtain ⟨k, hk⟩ : ∃ k, len1 % (n + 1) = k := ⟨_, rfl⟩
        have hkn : k ≤ n := by rw [← hk]; exact Nat.le_of_lt_succ (Nat.mod_lt _ (Nat.succ_pos n))
        have hke : (len1 : Int) % ((n : Int) + 1) = (k : Int) := by rw [← hk]; rfl
        obtain ⟨f1, f2, f3⟩ := Talk.lost_parts hok k
        clear hk hok
        have hcap := o.cap_le
        have hcm := o.cap_max
        have i1 := o.ints.take hkn
        go_wp2_with fail
        refine (ilost_any A k c (xs.take k) r h _ (by omega) i1).mono ?_
        rintro e W4 ⟨rfl, b3⟩
        have S4 : W3.heap.size ≤ W4.heap.size := b3.size
        have B4 : Below w.heap.size w W4 := Below.next B3 b3
        have o := o.below b3
        have i2 := o.ints.rest hkn o.cap_le o.root
        by_cases hck : c = k
        · rw [if_pos hck, show n - k = 0 by omega] at i2
          subst hck
          go_wp2_with fail
          refine (ilost_any _ _ _ (xs.drop c) r h _ (by omega) i2).mono ?_
          rintro e W5 ⟨rfl, b4⟩
          have S5 : W4.heap.size ≤ W5.heap.size := b4.size
          have B5 : Below w.heap.size w W5 := Below.next B4 b4
          have o := o.below b4
          go_wp2
          go_ret
          exact ⟨rfl, B5⟩
        · rw [if_neg hck] at i2
          have hck' : ((c : Int) == (k : Int)) = false := by simp; omega
          rcases o.root with ⟨hA, hc0'⟩ | ⟨g, hA⟩
          · exact absurd (by omega : c = k) hck
          subst hA
          simp only [Option.map_some, add_none] at i2
          go_wp2_with fail
          refine (ilost_any _ _ _ (xs.drop k) r h _ (by omega) i2).mono ?_
          rintro e W5 ⟨rfl, b4⟩
          have S5 : W4.heap.size ≤ W5.heap.size := b4.size
          have B5 : Below w.heap.size w W5 := Below.next B4 b4
          have o := o.below b4
          go_wp2
          go_ret
          exact ⟨rfl, B5⟩
    · go_enter Try.func16, Try.ntmps16
      go_wp2
      go_ret
      exact ⟨rfl, Below.refl _ _⟩
  · go_enter Try.func16, Try.ntmps16
    go_wp2
    go_ret
    exact ⟨rfl, Below.refl _ _⟩

set_option maxRecDepth 100000 in
theorem lifted (os : Os) (started : os.Started) (H : Type) (enc : TypeId × Value → H) :
    ReturnsInHanded {} Try.checked os 16 .any (Rows.fnLostPartsSpec.pre6 enc Try.prog Try.f16 Rows.fnLostPartsRow.domain false) (Rows.fnLostPartsSpec.post enc Try.prog Try.f16 false true false false) := by
  refine returnsInHanded_of_change (C := Try.checked) own started (by kernel_rfl) Try.func16
    (ChangeSpec.witness6 (enc := enc) (C := Try.checked) false ⟨#[], #[.slice none 0 0, .slice none 0 0], []⟩ 8 (by kernel_rfl) (by kernel_rfl) (by kernel_rfl) (by kernel_rfl)) ?_
  intro W base args ds gs before hval0 hW hcnd _
  have hval : ∀ (j : Nat) t v, Try.f16.params[j]? = some t → args[j]? = some v → Value.okWide Try.prog W .any base t v := hval0
  have hW' := hW
  obtain ⟨p, q, hA0, hV, rfl, hfz, hnd⟩ := hW
  have hA : DataW.TrodAll enc Try.prog W 0 (fun _ => true) true Try.f16.params.toList args.toList ds p := hA0
  rw [Try.params16] at hA hval
  obtain ⟨v0, vs0, d0, ds0, p0, q0, hargs, rfl, rfl, h0, r0⟩ := trodAll_cons hA
  obtain ⟨v1, vs1, d1, ds1, p1, q1, rfl, rfl, rfl, h1, r1⟩ := trodAll_cons r0
  obtain ⟨rfl, rfl, rfl⟩ := trodAll_nil r1
  obtain rfl : args = #[v0, v1] := by cases args; simp_all
  obtain ⟨rfl, rfl⟩ := trodVars_none hV
  obtain ⟨a0, len0, cap0, rfl⟩ := okWide_slice Try.underlying33 (hval 0 33 v0 rfl rfl)
  have k0 := h0
  have lt0 : ∀ x ∈ p0, x.block < W.heap.size := by obtain ⟨m, hm⟩ := k0; exact DataW.trod_lt m _ _ _ hm
  obtain ⟨z0, w0⟩ : ∃ zs, IsRow .u8 W a0 len0 cap0 zs := by
    obtain ⟨fuel, hf⟩ := h0
    rcases open_ints Try.underlying33 Try.underlying5 (by kernel_rfl) hf with ⟨hcs, _⟩ | ⟨x, l, c, zs, hcs, _, hl, hm, hz, _, hcell, hwz⟩
    · simp [Value.cells] at hcs
      obtain ⟨rfl, rfl, rfl⟩ := hcs
      exact ⟨[], .inl ⟨rfl, rfl, rfl, rfl⟩⟩
    · simp [Value.cells] at hcs
      obtain ⟨rfl, rfl, rfl⟩ := hcs
      exact ⟨zs, .inr ⟨_, rfl, hl, hm, by simpa using hz, hcell, hwz⟩⟩
  obtain ⟨a1, len1, cap1, rfl⟩ := okWide_slice Try.underlying33 (hval 1 33 v1 rfl rfl)
  have k1 := h1
  have lt1 : ∀ x ∈ p1, x.block < W.heap.size := by obtain ⟨m, hm⟩ := k1; exact DataW.trod_lt m _ _ _ hm
  obtain ⟨z1, w1⟩ : ∃ zs, IsRow .u8 W a1 len1 cap1 zs := by
    obtain ⟨fuel, hf⟩ := h1
    rcases open_ints Try.underlying33 Try.underlying5 (by kernel_rfl) hf with ⟨hcs, _⟩ | ⟨x, l, c, zs, hcs, _, hl, hm, hz, _, hcell, hwz⟩
    · simp [Value.cells] at hcs
      obtain ⟨rfl, rfl, rfl⟩ := hcs
      exact ⟨[], .inl ⟨rfl, rfl, rfl, rfl⟩⟩
    · simp [Value.cells] at hcs
      obtain ⟨rfl, rfl, rfl⟩ := hcs
      exact ⟨zs, .inr ⟨_, rfl, hl, hm, by simpa using hz, hcell, hwz⟩⟩
  clear hA0 hval0
  refine (walk a0 len0 cap0 z0 a1 len1 cap1 z1 W w0 w1).mono fun e W' ⟨he, bel⟩ => ?_
  subst he
  exact ⟨_, rfl, _, _, _, [], _, [], hW', trodAll_mk1 (shut_bool Try.underlying4 _), (trodAll_cons_mk (Below.trod laidOut (by kernel_rfl) (of_decide_eq_true (by kernel_rfl)) k0 bel lt0) (trodAll_cons_mk (Below.trod laidOut (by kernel_rfl) (of_decide_eq_true (by kernel_rfl)) k1 bel lt1) trodAll_mk0)), rfl, bel.frame _, fun h => by cases h⟩

theorem closed : joinedFacts Try.prog 16 Try.f16 Rows.fnLostPartsSpec Rows.fnLostPartsRow = true := by
  unfold joinedFacts
  simp only [may_enter, lifts_final, make_cut]
  kernel_rfl

theorem over : Rows.fnLostPartsRow.holds Try.pinned (OpenSpec.ofChange Rows.fnLostPartsSpec) :=
  OpenClaim.holds_of_wide 16 Try.f16 rfl rfl rfl rfl rfl rfl rfl ⟨rfl, rfl, rfl, rfl, rfl⟩ rfl rfl rfl rfl rfl (by kernel_rfl) Try.func16 closed
    (of_decide_eq_true (by kernel_rfl)) (by unfold Func.isWrapper; first | (rw [if_pos (by decide +kernel)]; kernel_rfl) | (rw [if_neg (by decide +kernel)]; exact ⟨rfl, rfl⟩))
    (fun os started H enc _ => lifted os started H enc)

theorem proved : Rows.FnLostPartsSaid := over
#print axioms proved
end Go.Proofs.Ytcgiehdpdnipbaa.fnLostParts
