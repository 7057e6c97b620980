/- TalkPeak and TalkHeard, of the program and of the reference: what they return. -/
import Derived.Test.YtcgiehdpdnipbaaJoin
namespace Go.Proofs.Ytcgiehdpdnipbaa
open Go.RowKit
set_option linter.unusedVariables false

theorem Ints.cut {w : World} {b off n i k : Nat} {xs : List Int} (h : Ints w (some ⟨b, off, none⟩) n xs) (hk : i + k ≤ n) : Ints w (some ⟨b, off + i, none⟩) k ((xs.drop i).take k) := by
  refine ⟨by rw [List.length_take, List.length_drop, h.len]; omega, fun x hx => h.wf x (List.mem_of_mem_drop (List.mem_of_mem_take hx)), fun hn => ?_⟩
  obtain ⟨b', off', e, hb, hc⟩ := h.2.2 (by omega)
  injection e with e
  injection e with e1 e2
  subst e1 e2
  refine ⟨b, off + i, rfl, hb, fun j x hx => ?_⟩
  have hj : j < k := by
    have := (List.getElem?_eq_some_iff.1 hx).1
    rw [List.length_take] at this; omega
  rw [List.getElem?_take_of_lt hj, List.getElem?_drop] at hx
  rw [Nat.add_assoc]
  exact hc _ x hx
theorem Talk.peak_no {xs : List Int} {k : Int} (h : ¬ (Talk.valid xs = true ∧ 1 ≤ k ∧ k ≤ xs.length)) : Talk.peak xs k = -1 := by unfold Talk.peak; rw [if_neg h]
theorem Talk.peak_yes {xs : List Int} {k : Nat} (h : Talk.valid xs = true) (h1 : 1 ≤ k) (h2 : k ≤ xs.length) : Talk.peak xs k = Talk.pk xs k (xs.length - k + 1) := by
  unfold Talk.peak; rw [if_pos ⟨h, by omega, by omega⟩, Int.toNat_natCast]
theorem Talk.sub_bd {xs : List Int} (h : Talk.valid xs = true) (i k : Nat) : ∀ x ∈ (xs.drop i).take k, 0 ≤ x ∧ x ≤ 1000 := fun x hx => Talk.valid_bd h x (List.mem_of_mem_drop (List.mem_of_mem_take hx))

set_option maxHeartbeats 400000 in
theorem speak_any (A : Option Addr) (n c : Nat) (xs : List Int) (q : Int) (w : World) (hm : n ≤ 1048576) (hi : Ints w A n xs) (hnc : n ≤ c) (hcc : c ≤ 9223372036854775807) :
    Calls Try.prog 38 #[.slice A n c, .int .i64 q] w fun e w' => e = .returned (.int .i64 (Talk.peak xs q)) ∧ w = w' := by
  have hlen := Lib.hid hi.len
  cases hv : Talk.valid xs with
  | false =>
    have hs := Lib.hid (Talk.peak_no (xs := xs) (k := q) (by rw [hv]; simp))
    go_enter Try.func38, Try.ntmps38
    go_wp2_with (first | (go_at_call 70; refine (svalid_any A n c xs _ (by omega) hi).mono ?_; rintro e w' ⟨rfl, rfl⟩) | (go_at_call 74; refine (in_any _ _ _ _).mono ?_; rintro e w' ⟨rfl, rfl⟩))
    go_ret
    exact ⟨ret_int hs.out.symm, rfl⟩
  | true =>
    by_cases hq : 1 ≤ q
    · by_cases hq2 : q ≤ n
      · obtain ⟨k, rfl⟩ := Int.eq_ofNat_of_zero_le (show 0 ≤ q by omega)
        have hin : Talk.inB 1 (n : Int) (k : Int) = true := Talk.inB_mk ⟨hq, hq2⟩
        have hs := Lib.hid (Talk.peak_yes (xs := xs) (k := k) hv (by omega) (by rw [hlen.out]; omega))
        have hl := Talk.valid_len hv
        rw [hlen.out] at hl
        have HV := Lib.hid hv
        have hd1 : decide ((k : Int) < 1) = false := by simp; omega
        have hd2 : decide (n < k) = false := by simp; omega
        go_enter Try.func38, Try.ntmps38
        go_wp2_with (first | (go_at_call 70; refine (svalid_any A n c xs _ (by omega) hi).mono ?_; rintro e w' ⟨rfl, rfl⟩) | (go_at_call 74; refine (in_any _ _ _ _).mono ?_; rintro e w' ⟨rfl, rfl⟩))
        go_loopg [5, 6] n (fun g p i wr => ∃ j : Nat, j ≤ n - k + 1 ∧ g = n - j ∧ i = .int .i64 j ∧ p = .int .i64 (Talk.pk xs k j) ∧ w = wr)
        case atStart => exact ⟨0, Nat.zero_le _, rfl, rfl, rfl, rfl⟩
        case round =>
          obtain ⟨j, hj, rfl, rfl, rfl, rfl⟩ := hrel
          by_cases hlt : j + k ≤ n
          · obtain ⟨b, off, x0, rfl, hx, _, _, _⟩ := hi.at_ (k := j) (by omega)
            have hcut := hi.cut (i := j) (k := k) hlt
            have hsb := Lib.hid (Talk.sub_bd HV.out j k)
            have h1 : ((c : Int) == (j : Int)) = false := by simp; omega
            clear hx
            by_cases hmax : Talk.pk xs k j < Talk.sum ((xs.drop j).take k)
            · have hn : Hid (Talk.pk xs k (j + 1) = Talk.sum ((xs.drop j).take k)) := by show max _ _ = _; omega
              go_wp2_with (go_at_call 71; refine (ssum_any _ k _ ((xs.drop j).take k) _ (by omega) hcut hsb.out).mono ?_; rintro e w' ⟨rfl, rfl⟩)
              go_roundg (n - (j + 1))
              case measure => omega
              case rel => exact ⟨j + 1, by omega, rfl, by go_num, by rw [hn.out], rfl⟩
            · have hn : Hid (Talk.pk xs k (j + 1) = Talk.pk xs k j) := by show max _ _ = _; omega
              go_wp2_with (go_at_call 71; refine (ssum_any _ k _ ((xs.drop j).take k) _ (by omega) hcut hsb.out).mono ?_; rintro e w' ⟨rfl, rfl⟩)
              go_roundg (n - (j + 1))
              case measure => omega
              case rel => exact ⟨j + 1, by omega, rfl, by go_num, by rw [hn.out], rfl⟩
          · obtain rfl : j = n - k + 1 := by omega
            go_wp2
            go_ret
            exact ⟨ret_int (by rw [hs.out, hlen.out]), rfl⟩
      · have hin : Talk.inB 1 (n : Int) q = false := Talk.inB_no (.inr (by omega))
        have hs := Lib.hid (Talk.peak_no (xs := xs) (k := q) (by rw [hlen.out]; omega))
        go_enter Try.func38, Try.ntmps38
        go_wp2_with (first | (go_at_call 70; refine (svalid_any A n c xs _ (by omega) hi).mono ?_; rintro e w' ⟨rfl, rfl⟩) | (go_at_call 74; refine (in_any _ _ _ _).mono ?_; rintro e w' ⟨rfl, rfl⟩))
        go_ret
        exact ⟨ret_int hs.out.symm, rfl⟩
    · have hin : Talk.inB 1 (n : Int) q = false := Talk.inB_no (.inl (by omega))
      have hs := Lib.hid (Talk.peak_no (xs := xs) (k := q) (by omega))
      go_enter Try.func38, Try.ntmps38
      go_wp2_with (first | (go_at_call 70; refine (svalid_any A n c xs _ (by omega) hi).mono ?_; rintro e w' ⟨rfl, rfl⟩) | (go_at_call 74; refine (in_any _ _ _ _).mono ?_; rintro e w' ⟨rfl, rfl⟩))
      go_ret
      exact ⟨ret_int hs.out.symm, rfl⟩

set_option maxHeartbeats 400000 in
theorem ipeak_any (A : Option Addr) (n c : Nat) (xs : List Int) (q : Int) (w : World) (hm : n ≤ 1048576) (hi : Ints w A n xs) (hnc : n ≤ c) (hcc : c ≤ 9223372036854775807) :
    Calls Try.prog 39 #[.slice A n c, .int .i64 q] w fun e w' => e = .returned (.int .i64 (Talk.peak xs q)) ∧ w = w' := by
  have hlen := Lib.hid hi.len
  cases hv : Talk.valid xs with
  | false =>
    have hs := Lib.hid (Talk.peak_no (xs := xs) (k := q) (by rw [hv]; simp))
    go_enter Try.func39, Try.ntmps39
    go_wp2_with (first | (go_at_call 72; refine (ivalid_any A n c xs _ (by omega) hi).mono ?_; rintro e w' ⟨rfl, rfl⟩))
    go_ret
    exact ⟨ret_int hs.out.symm, rfl⟩
  | true =>
    by_cases hq : 1 ≤ q
    · by_cases hq2 : q ≤ n
      · obtain ⟨k, rfl⟩ := Int.eq_ofNat_of_zero_le (show 0 ≤ q by omega)
        have hin : Talk.inB 1 (n : Int) (k : Int) = true := Talk.inB_mk ⟨hq, hq2⟩
        have hs := Lib.hid (Talk.peak_yes (xs := xs) (k := k) hv (by omega) (by rw [hlen.out]; omega))
        have hl := Talk.valid_len hv
        rw [hlen.out] at hl
        have HV := Lib.hid hv
        have hd1 : decide ((k : Int) < 1) = false := by simp; omega
        have hd2 : decide (n < k) = false := by simp; omega
        go_enter Try.func39, Try.ntmps39
        go_wp2_with (first | (go_at_call 72; refine (ivalid_any A n c xs _ (by omega) hi).mono ?_; rintro e w' ⟨rfl, rfl⟩))
        go_loopg [5, 6] n (fun g p i wr => ∃ j : Nat, j ≤ n - k + 1 ∧ g = n - j ∧ i = .int .i64 j ∧ p = .int .i64 (Talk.pk xs k j) ∧ w = wr)
        case atStart => exact ⟨0, Nat.zero_le _, rfl, rfl, rfl, rfl⟩
        case round =>
          obtain ⟨j, hj, rfl, rfl, rfl, rfl⟩ := hrel
          by_cases hlt : j + k ≤ n
          · obtain ⟨b, off, x0, rfl, hx, _, _, _⟩ := hi.at_ (k := j) (by omega)
            have hcut := hi.cut (i := j) (k := k) hlt
            have hsb := Lib.hid (Talk.sub_bd HV.out j k)
            have h1 : ((c : Int) == (j : Int)) = false := by simp; omega
            clear hx
            by_cases hmax : Talk.pk xs k j < Talk.sum ((xs.drop j).take k)
            · have hn : Hid (Talk.pk xs k (j + 1) = Talk.sum ((xs.drop j).take k)) := by show max _ _ = _; omega
              go_wp2_with (go_at_call 73; refine (isum_any _ k _ ((xs.drop j).take k) _ (by omega) hcut hsb.out).mono ?_; rintro e w' ⟨rfl, rfl⟩)
              go_roundg (n - (j + 1))
              case measure => omega
              case rel => exact ⟨j + 1, by omega, rfl, by go_num, by rw [hn.out], rfl⟩
            · have hn : Hid (Talk.pk xs k (j + 1) = Talk.pk xs k j) := by show max _ _ = _; omega
              go_wp2_with (go_at_call 73; refine (isum_any _ k _ ((xs.drop j).take k) _ (by omega) hcut hsb.out).mono ?_; rintro e w' ⟨rfl, rfl⟩)
              go_roundg (n - (j + 1))
              case measure => omega
              case rel => exact ⟨j + 1, by omega, rfl, by go_num, by rw [hn.out], rfl⟩
          · obtain rfl : j = n - k + 1 := by omega
            go_wp2
            go_ret
            exact ⟨ret_int (by rw [hs.out, hlen.out]), rfl⟩
      · have hin : Talk.inB 1 (n : Int) q = false := Talk.inB_no (.inr (by omega))
        have hs := Lib.hid (Talk.peak_no (xs := xs) (k := q) (by rw [hlen.out]; omega))
        go_enter Try.func39, Try.ntmps39
        go_wp2_with (first | (go_at_call 72; refine (ivalid_any A n c xs _ (by omega) hi).mono ?_; rintro e w' ⟨rfl, rfl⟩))
        go_ret
        exact ⟨ret_int hs.out.symm, rfl⟩
    · have hin : Talk.inB 1 (n : Int) q = false := Talk.inB_no (.inl (by omega))
      have hs := Lib.hid (Talk.peak_no (xs := xs) (k := q) (by omega))
      go_enter Try.func39, Try.ntmps39
      go_wp2_with (first | (go_at_call 72; refine (ivalid_any A n c xs _ (by omega) hi).mono ?_; rintro e w' ⟨rfl, rfl⟩))
      go_ret
      exact ⟨ret_int hs.out.symm, rfl⟩


def heardL (xs : List Int) (wr t : Int) : List Int := if Talk.heardOk xs wr t = true then Talk.heard xs wr t else []
theorem heardL_no {xs : List Int} {wr t : Int} (h : Talk.heardOk xs wr t = false) : heardL xs wr t = [] := by simp [heardL, h]
theorem heardL_yes {xs : List Int} {wr : Int} {t : Nat} (h : Talk.heardOk xs wr t = true) : heardL xs wr t = Talk.hear t wr 0 xs := by
  unfold heardL; rw [if_pos h]; unfold Talk.heard; rw [Int.toNat_natCast]
theorem heard_bad {xs : List Int} {wr t : Int} (h : Talk.valid xs = false ∨ Talk.inB 0 1 wr = false ∨ Talk.inB 1 30 t = false) : Talk.heardOk xs wr t = false := by
  unfold Talk.heardOk
  rcases h with h | h | h <;> rw [h] <;> simp
theorem hear_next {t : Nat} {wr x y : Int} {xs : List Int} {k : Nat} (hx : xs[k]? = some x) (hk : k < xs.length) (hy : (if ((k : Int) / (t : Int) % 2 == wr) = true then x else 0) = y) : Talk.hear t wr 0 (xs.take (k + 1)) = Talk.hear t wr 0 (xs.take k) ++ [y] := by
  rw [take_snoc hx, Talk.hear_append]
  have hl : (xs.take k).length = k := by rw [List.length_take]; omega
  rw [hl, Nat.zero_add]
  simp only [Talk.hear]
  rw [← hy]
  have e : ((k / t % 2 : Nat) : Int) = (k : Int) / (t : Int) % 2 := by simp
  rw [e]
  simp

def HeardRel (w : World) (xs : List Int) (wr : Int) (t k : Nat) (o : Value) (wr' : World) : Prop :=
  ∃ A c, o = .slice A k c ∧ OwnI wr' w.heap.size wr'.heap.size A k c (Talk.hear t wr 0 (xs.take k)) ∧ Below w.heap.size w wr'
theorem heard_next {w wa w1 : World} {xs : List Int} {wr x y : Int} {t k g c c' : Nat} {A : Option Addr} {o : Obj} (hx : xs[k]? = some x) (hk : k < xs.length) (hy : (if ((k : Int) / (t : Int) % 2 == wr) = true then x else 0) = y)
    (hb : Below w.heap.size w wa) (ho : OwnI wa w.heap.size wa.heap.size A k c (Talk.hear t wr 0 (xs.take k))) (hg : (wa.alloc o).grownBy w1 (A.map (·.block))) (h1 : OwnI w1 w.heap.size w1.heap.size (some ⟨g, 0, none⟩) (k + 1) c' (Talk.hear t wr 0 (xs.take k) ++ [y])) :
    HeardRel w xs wr t (k + 1) (.slice (some ⟨g, 0, none⟩) (k + 1) c') w1 := by
  refine ⟨_, c', rfl, by rw [hear_next hx hk hy]; exact h1, ?_⟩
  refine (hb.alloc hb.size o).grown hg (by have := hb.size; simp; omega) (fun g' e => ?_)
  cases A with
  | none => cases e
  | some a => injection e with e; subst e; exact (ho.lo_le a rfl).1

set_option maxHeartbeats 1000000 in
theorem sheard_any (A : Option Addr) (n c : Nat) (xs : List Int) (p t : Int) (w : World) (hm : n ≤ 1048576) (hi : Ints w A n xs) :
    Calls Try.prog 40 #[.slice A n c, .int .i64 p, .int .i64 t] w (ListPost w (Talk.heardOk xs p t) (heardL xs p t)) := by
  have hlen := Lib.hid hi.len
  have hemp : OwnI (w.alloc (.cells #[] 3)) w.heap.size (w.heap.size + 1) (some ⟨w.heap.size, 0, none⟩) 0 0 [] := own_empty w w.heap.size (Nat.le_refl _)
  have b0 : Below w.heap.size w (w.alloc (.cells #[] 3)) := (Below.refl _ _).alloc (Nat.le_refl _) _
  have HE := Lib.hid (ListPost.empty_ w)
  have hi0 := hi.below b0
  cases hv : Talk.valid xs with
  | false =>
    have hk := Lib.hid (heard_bad (xs := xs) (wr := p) (t := t) (.inl hv))
    have hs := Lib.hid (heardL_no hk.out)
    go_enter Try.func40, Try.ntmps40
    go_wp2_with (first | (go_at_call 70; refine (svalid_any A n c xs _ (by omega) hi0).mono ?_; rintro e w' ⟨rfl, rfl⟩) | (go_at_call 74; refine (in_any _ _ _ _).mono ?_; rintro e w' ⟨rfl, rfl⟩))
    go_ret2
    rw [hs.out, hk.out]
    exact HE.out
  | true =>
    cases hp : Talk.inB 0 1 p with
    | false =>
      have hk := Lib.hid (heard_bad (xs := xs) (wr := p) (t := t) (.inr (.inl hp)))
      have hs := Lib.hid (heardL_no hk.out)
      go_enter Try.func40, Try.ntmps40
      go_wp2_with (first | (go_at_call 70; refine (svalid_any A n c xs _ (by omega) hi0).mono ?_; rintro e w' ⟨rfl, rfl⟩) | (go_at_call 74; refine (in_any _ _ _ _).mono ?_; rintro e w' ⟨rfl, rfl⟩))
      go_ret2
      rw [hs.out, hk.out]
      exact HE.out
    | true =>
      cases ht : Talk.inB 1 30 t with
      | false =>
        have hk := Lib.hid (heard_bad (xs := xs) (wr := p) (t := t) (.inr (.inr ht)))
        have hs := Lib.hid (heardL_no hk.out)
        go_enter Try.func40, Try.ntmps40
        go_wp2_with (first | (go_at_call 70; refine (svalid_any A n c xs _ (by omega) hi0).mono ?_; rintro e w' ⟨rfl, rfl⟩) | (go_at_call 74; refine (in_any _ _ _ _).mono ?_; rintro e w' ⟨rfl, rfl⟩))
        go_ret2
        rw [hs.out, hk.out]
        exact HE.out
      | true =>
        have htb := Talk.inB_true ht
        obtain ⟨t', rfl⟩ := Int.eq_ofNat_of_zero_le (show 0 ≤ t by omega)
        obtain ⟨t0, t1⟩ := htb
        have hpb := Talk.inB_true hp
        obtain ⟨p0, p1⟩ := hpb
        have hk := Lib.hid (show Talk.heardOk xs p (t' : Int) = true by unfold Talk.heardOk; rw [hv, hp, ht]; rfl)
        have hs := Lib.hid (heardL_yes hk.out)
        have hl := Talk.valid_len hv
        rw [hlen.out] at hl
        have HS : Hid (HeardRel w xs p t' 0 (.slice (some ⟨w.heap.size, 0, none⟩) 0 0) (w.alloc (.cells #[] 3))) := ⟨_, 0, rfl, by simpa [Talk.hear] using hemp, b0⟩
        clear hemp
        go_enter Try.func40, Try.ntmps40
        go_wp2_with (first | (go_at_call 70; refine (svalid_any A n c xs _ (by omega) hi0).mono ?_; rintro e w' ⟨rfl, rfl⟩) | (go_at_call 74; refine (in_any _ _ _ _).mono ?_; rintro e w' ⟨rfl, rfl⟩))
        go_loopg [8, 9] n (fun g o i wr => ∃ k : Nat, k ≤ n ∧ g = n - k ∧ i = .int .i64 k ∧ HeardRel w xs p t' k o wr)
        case atStart => exact ⟨0, Nat.zero_le _, rfl, rfl, HS.out⟩
        case round =>
          clear HS HE
          obtain ⟨k, hkn, rfl, rfl, A', c', rfl, ho, hb⟩ := hrel
          by_cases hlt : k < n
          · obtain ⟨b, off, x, rfl, hx, hx1, hx2, hc⟩ := (hi.below hb).at_ hlt
            have hX := Lib.hid hx
            clear hx
            have d0 : 0 ≤ (k : Int) / (t' : Int) := Int.ediv_nonneg (by omega) (by omega)
            have d1 : (k : Int) / (t' : Int) ≤ (k : Int) := Int.ediv_le_self _ (by omega)
            cases hz : ((k : Int) / (t' : Int) % 2 == p) with
            | true =>
              have HZ := Lib.hid hz
              go_wp2_with (at_builtin; go_must (refine wpList_push _ rfl (.tmp 37) (.tmp 42) rfl w.heap.size wr.heap.size A' k c' _ rfl (ho.alloc _) x wr.heap.size rfl ⟨hx1, hx2⟩ (by go_simp) (by omega) (by have := hb.size; simp; omega) ?_); intro g c2 w1 ho1 hg1)
              go_roundg (n - (k + 1))
              case measure => omega
              case rel => exact ⟨k + 1, by omega, rfl, by go_num, heard_next (y := x) hX.out (by rw [hlen.out]; exact hlt) (by rw [HZ.out]; rfl) hb ho hg1 ho1⟩
            | false =>
              have HZ := Lib.hid hz
              go_wp2_with (at_builtin; go_must (refine wpList_push _ rfl (.tmp 44) (.tmp 45) rfl w.heap.size wr.heap.size A' k c' _ rfl (ho.alloc _) 0 wr.heap.size rfl ⟨by omega, by omega⟩ (by go_simp) (by omega) (by have := hb.size; simp; omega) ?_); intro g c2 w1 ho1 hg1)
              go_roundg (n - (k + 1))
              case measure => omega
              case rel => exact ⟨k + 1, by omega, rfl, by go_num, heard_next (y := 0) hX.out (by rw [hlen.out]; exact hlt) (by rw [HZ.out]; rfl) hb ho hg1 ho1⟩
          · obtain rfl : k = n := by omega
            have he : xs.take k = xs := List.take_of_length_le (by rw [hlen.out]; omega)
            rw [he] at ho
            clear he
            go_wp2
            go_ret2
            rw [hs.out, hk.out]
            exact ⟨A', k, c', rfl, ho, hb⟩

theorem heard_step {t : Nat} {wr x y : Int} {xs : List Int} {k n : Nat} (hl : xs.length = n) (hx : xs[k]? = some x) (hk : k < n) (hy : (if ((k : Int) / (t : Int) % 2 == wr) = true then x else 0) = y) :
    (Talk.hear t wr 0 (xs.take k) ++ List.replicate (n - k) 0).set k y = Talk.hear t wr 0 (xs.take (k + 1)) ++ List.replicate (n - (k + 1)) 0 := by
  have e1 : (Talk.hear t wr 0 (xs.take k)).length = k := by rw [Talk.hear_len, List.length_take]; omega
  have e2 : n - k = (n - (k + 1)) + 1 := by omega
  rw [List.set_append_right _ _ (by omega), e1, Nat.sub_self, e2, List.replicate_succ, List.set_cons_zero, hear_next hx (by omega) hy, List.append_assoc]
  rfl
theorem heard_skip {t : Nat} {wr x : Int} {xs : List Int} {k n : Nat} (hl : xs.length = n) (hx : xs[k]? = some x) (hk : k < n) (hz : ((k : Int) / (t : Int) % 2 == wr) = false) :
    Talk.hear t wr 0 (xs.take k) ++ List.replicate (n - k) 0 = Talk.hear t wr 0 (xs.take (k + 1)) ++ List.replicate (n - (k + 1)) 0 := by
  have e2 : n - k = (n - (k + 1)) + 1 := by omega
  rw [hear_next hx (by omega) (y := 0) (by rw [hz]; rfl), e2, List.replicate_succ, List.append_assoc]
  rfl

set_option maxHeartbeats 1000000 in
theorem iheard_any (A : Option Addr) (n c : Nat) (xs : List Int) (p t : Int) (w : World) (hm : n ≤ 1048576) (hi : Ints w A n xs) :
    Calls Try.prog 41 #[.slice A n c, .int .i64 p, .int .i64 t] w (ListPost w (Talk.heardOk xs p t) (heardL xs p t)) := by
  have hlen := Lib.hid hi.len
  have HE := Lib.hid (ListPost.nil_ w)
  cases hv : Talk.valid xs with
  | false =>
    have hk := Lib.hid (heard_bad (xs := xs) (wr := p) (t := t) (.inl hv))
    have hs := Lib.hid (heardL_no hk.out)
    go_enter Try.func41, Try.ntmps41
    go_wp2_with (first | (go_at_call 72; refine (ivalid_any A n c xs _ (by omega) hi).mono ?_; rintro e w' ⟨rfl, rfl⟩) | (go_at_call 75; refine (turn_any _ _).mono ?_; rintro e w' ⟨rfl, rfl⟩))
    go_ret2
    rw [hs.out, hk.out]
    exact HE.out
  | true =>
    by_cases hp0 : 0 ≤ p
    · by_cases hp1 : p < 2
      · have hp : Talk.inB 0 1 p = true := Talk.inB_mk ⟨hp0, by omega⟩
        have HP := Lib.hid hp
        have hd0 : decide (p < 0) = false := by simp; omega
        have hd1 : decide (2 ≤ p) = false := by simp; omega
        clear hp
        cases ht : Talk.inB 1 30 t with
        | false =>
          have hk := Lib.hid (heard_bad (xs := xs) (wr := p) (t := t) (.inr (.inr ht)))
          have hs := Lib.hid (heardL_no hk.out)
          go_enter Try.func41, Try.ntmps41
          go_wp2_with (first | (go_at_call 72; refine (ivalid_any A n c xs _ (by omega) hi).mono ?_; rintro e w' ⟨rfl, rfl⟩) | (go_at_call 75; refine (turn_any _ _).mono ?_; rintro e w' ⟨rfl, rfl⟩))
          go_ret2
          rw [hs.out, hk.out]
          exact HE.out
        | true =>
          have htb := Talk.inB_true ht
          obtain ⟨t', rfl⟩ := Int.eq_ofNat_of_zero_le (show 0 ≤ t by omega)
          obtain ⟨t0, t1⟩ := htb
          have hk := Lib.hid (show Talk.heardOk xs p (t' : Int) = true by unfold Talk.heardOk; rw [hv, HP.out, ht]; rfl)
          have hs := Lib.hid (heardL_yes hk.out)
          have hl := Talk.valid_len hv
          rw [hlen.out] at hl
          obtain ⟨i0, hi0, hz0, hz1, hz2⟩ := info_parts Try.infoInt
          have hb8 : i0.bytes * n ≤ 281474976710656 := by rw [hz2]; omega
          have hml : n ≤ maxLen := by unfold maxLen; omega
          have H2 := Lib.hid hz2
          clear hz2
          go_enter Try.func41, Try.ntmps41
          go_wp2_with (first | (go_at_call 72; refine (ivalid_any A n c xs _ (by omega) hi).mono ?_; rintro e w' ⟨rfl, rfl⟩) | (go_at_call 75; refine (turn_any _ _).mono ?_; rintro e w' ⟨rfl, rfl⟩) | (at_make; refine wpList_make_full _ rfl _ _ 22 rfl w.heap.size 3 i0 (.int .i64 0) 1 Try.underlying22 hi0 hz0 hz1 .i64 .i64 _ _ n rfl rfl rfl rfl hb8 hml (Nat.le_refl _) ?_; intro w1 hown hgrow))
          have ho := own_made w1 w.heap.size n hown
          have hb1 : Below w.heap.size w w1 := below_of_grown hgrow (Nat.le_refl _) (fun _ e => by cases e)
          clear hown hgrow hi0 hz0 hz1 hb8 hml HE H2
          go_loopg [9, 10, 32] n (fun g _ _ i wr => ∃ k : Nat, k ≤ n ∧ g = n - k ∧ i = .int .i64 k ∧ OwnI wr w.heap.size (w.heap.size + 1) (some ⟨w.heap.size, 0, none⟩) n n (Talk.hear t' p 0 (xs.take k) ++ List.replicate (n - k) 0) ∧ Below w.heap.size w wr)
          case atStart => exact ⟨0, Nat.zero_le _, rfl, rfl, by simpa [Talk.hear] using ho, hb1⟩
          case round =>
            obtain ⟨k, hkn, rfl, rfl, hown, hbel⟩ := hrel
            by_cases hlt : k < n
            · obtain ⟨b, off, x, rfl, hx, hx1, hx2, hc⟩ := (hi.below hbel).at_ hlt
              obtain ⟨g, y, hg, _, _, _, _, _, hc2, hf2⟩ := hown.at_ hlt
              obtain rfl : w.heap.size = g := by injection hg with hg; injection hg
              have hX := Lib.hid hx
              clear hx hg
              have hs1 := Lib.hid (hown.store (k := k) (x := x) ⟨hx1, hx2⟩)
              have HO := Lib.hid hown
              clear hown
              have d0 : 0 ≤ (k : Int) / (t' : Int) := Int.ediv_nonneg (by omega) (by omega)
              have d1 : (k : Int) / (t' : Int) ≤ (k : Int) := Int.ediv_le_self _ (by omega)
              cases hz : ((k : Int) / (t' : Int) % 2 == p) with
              | true =>
                have HZ := Lib.hid hz
                go_wp2
                go_roundg (n - (k + 1))
                case measure => omega
                case rel => exact ⟨k + 1, by omega, rfl, by go_num, by rw [← heard_step (y := x) hlen.out hX.out hlt (by rw [HZ.out]; rfl)]; exact hs1.out, hbel.setCell (Nat.le_refl _) _⟩
              | false =>
                have HZ := Lib.hid hz
                go_wp2
                go_roundg (n - (k + 1))
                case measure => omega
                case rel => exact ⟨k + 1, by omega, rfl, by go_num, by rw [← heard_skip hlen.out hX.out hlt HZ.out]; exact HO.out, hbel⟩
            · obtain rfl : k = n := by omega
              have he : xs.take k = xs := List.take_of_length_le (by rw [hlen.out]; omega)
              rw [he, Nat.sub_self, List.replicate_zero, List.append_nil] at hown
              clear he
              go_wp2
              go_ret2
              rw [hs.out, hk.out]
              exact ⟨_, k, k, rfl, hown.wide (Nat.le_refl _) (hown.2.2.1) (Nat.le_refl _), hbel⟩
      · have hd0 : decide (p < 0) = false := by simp; omega
        have hd1 : decide (2 ≤ p) = true := by simp; omega
        have hk := Lib.hid (heard_bad (xs := xs) (wr := p) (t := t) (.inr (.inl (Talk.inB_no (.inr (by omega))))))
        have hs := Lib.hid (heardL_no hk.out)
        go_enter Try.func41, Try.ntmps41
        go_wp2_with (first | (go_at_call 72; refine (ivalid_any A n c xs _ (by omega) hi).mono ?_; rintro e w' ⟨rfl, rfl⟩) | (go_at_call 75; refine (turn_any _ _).mono ?_; rintro e w' ⟨rfl, rfl⟩))
        go_ret2
        rw [hs.out, hk.out]
        exact HE.out
    · have hd0 : decide (p < 0) = true := by simp; omega
      have hk := Lib.hid (heard_bad (xs := xs) (wr := p) (t := t) (.inr (.inl (Talk.inB_no (.inl (by omega))))))
      have hs := Lib.hid (heardL_no hk.out)
      go_enter Try.func41, Try.ntmps41
      go_wp2_with (first | (go_at_call 72; refine (ivalid_any A n c xs _ (by omega) hi).mono ?_; rintro e w' ⟨rfl, rfl⟩) | (go_at_call 75; refine (turn_any _ _).mono ?_; rintro e w' ⟨rfl, rfl⟩))
      go_ret2
      rw [hs.out, hk.out]
      exact HE.out

end Go.Proofs.Ytcgiehdpdnipbaa
