/- The text of marks by the reference. -/
import Derived.Test.YtjhlcgjhdiheaaaDoorTx
import Derived.Shelf.SlSortCmp.QuietGrown
namespace Go.Proofs.YtjhlcgjhdiheaaaDoor
open Go.RowKit
set_option linter.unusedVariables false
set_option linter.unusedSimpArgs false

set_option maxRecDepth 4000 in
set_option maxHeartbeats 4000000 in
theorem stext_any (A B : Option Addr) (n c m d : Nat) (ws : List ByteArray) (ms : List M) (w : World) (h : PutIn w A n c ws) (k : Mrks w B m ms) (hm : m ≤ 9223372036854775807) :
    Calls Tryd.prog 7 #[.slice A n c, .slice B m d] w fun e w' => e = .returned (.string (textI ws ms)) ∧ Below w.heap.size w w' := by
  have hlen := Lib.hid k.len
  cases hv : valid ws ms with
  | false =>
    have hr := Lib.hid (textI_no hv)
    have hV := Lib.hid hv
    clear hv
    go_enter Tryd.func7, Tryd.ntmps7
    go_wp2_with fail
    go_loopw [5, 6] (fun sv iv wr => iv = .int .i64 0 ∧ sv = .string ⟨#[]⟩ ∧ wr = w) (fun _ _ _ => 0)
    case atStart => exact ⟨rfl, rfl, rfl⟩
    case round =>
      obtain ⟨rfl, rfl, rfl⟩ := hrel
      by_cases h0 : m = 0
      · subst h0
        go_wp2_with fail
        go_ret
        exact ⟨ret_str hr.out.symm, Below.refl _ _⟩
      · have i1 : (0 : Int) < (m : Int) := by omega
        have i2 : 0 < m := by omega
        have j1 : decide ((0 : Int) < (m : Int)) = true := by simp; omega
        have j2 : decide (0 < m) = true := by simp; omega
        go_wp2_with fail
        refine (svalid_is A B n c m d ws ms _ h k hm hV.out).mono ?_
        rintro e W ⟨rfl, hb⟩
        go_wp2_with fail
        go_ret
        exact ⟨ret_str hr.out.symm, hb⟩
  | true =>
    have hr := Lib.hid (textI_yes hv)
    have hV := Lib.hid hv
    have hm20 : m ≤ 20 := by rw [← hlen.out]; exact (valid_bound hv).1
    have hWS := Lib.hid (fun (x : M) (hx : x ∈ ms) (y : ByteArray) (hy : y ∈ x.put) => word_size (word_ok hv hx hy))
    clear hv
    go_enter Tryd.func7, Tryd.ntmps7
    go_wp2_with fail
    go_loopw [5, 6] (fun sv iv wr => ∃ (j : Nat) (s : ByteArray), j ≤ m ∧ iv = .int .i64 j ∧ sv = .string s ∧ Hid (s = bOf (Mk.textAll (ms.take j))) ∧ s.size ≤ 300 * j ∧ Below w.heap.size w wr) (fun _ iv _ => m - (intOf iv).toNat)
    case atStart => exact ⟨0, _, Nat.zero_le _, rfl, rfl, Lib.hid (by rw [List.take_zero]; rfl), Nat.le_refl _, Below.refl _ _⟩
    case round =>
      obtain ⟨j, s, hj, rfl, rfl, hS, hs, hbel⟩ := hrel
      by_cases hlt : j < m
      · obtain ⟨b, off, x, rfl, hx, x1, x2, c0, c1, A', n', c', c2, hp⟩ := k.at_ hlt
        obtain ⟨f1, f2, f3, f4, f5, f6, f7, f8⟩ := fit_of hV.out (mem_at hx)
        have hW := Lib.hid (hWS.out x (mem_at hx))
        have hpl := hp.len
        have HPL := Lib.hid hpl
        have hn2 : n' ≤ 20 := by omega
        obtain ⟨q, hq⟩ := Int.eq_ofNat_of_zero_le f1
        obtain ⟨r, hr'⟩ := Int.eq_ofNat_of_zero_le f3
        have q20 : q ≤ 20 := by omega
        have r20 : r ≤ 20 := by omega
        have hG := Lib.hid (Mk.textAll_go hx)
        have hT : Hid (Mk.textOne x = Lib.decDigits q ++ [45] ++ Lib.decDigits r ++ [43] ++ Lib.join (x.put.map (·.data.toList)) [44]) := Lib.hid (by unfold Mk.textOne; rw [hq, hr']; rfl)
        rw [hq] at c0
        rw [hr'] at c1
        have e0 := (hbel.cell (lt_of_cell c0)).trans c0
        have e1 := (hbel.cell (lt_of_cell c1)).trans c1
        have e2 := (hbel.cell (lt_of_cell c2)).trans c2
        have HP := Lib.hid (hp.below hbel)
        have KB := Lib.hid (k.below hbel)
        have HH := Lib.hid (h.below hbel)
        have j1 : (0 : Int) ≤ (j : Int) := by omega
        have j2 : (j : Int) < (m : Int) := by omega
        have sz1 := decB_size (n := q) (by omega)
        have sz2 := decB_size (n := r) (by omega)
        clear hx x1 x2 c0 c1 c2 hp f1 f2 f3 f4 f5 f6 f7 f8 hpl hq hr'
        go_wp2_with fail
        refine (svalid_is A _ n c m d ws ms _ HH.out KB.out hm hV.out).mono ?_
        rintro e W ⟨rfl, hbW⟩
        have e0 := (hbW.cell (lt_of_cell e0)).trans e0
        have e1 := (hbW.cell (lt_of_cell e1)).trans e1
        have e2 := (hbW.cell (lt_of_cell e2)).trans e2
        have HP := Lib.hid (HP.out.below hbW)
        have hbel := hbel.trans (hbW.mono hbel.size)
        clear hbW
        by_cases h0 : j = 0
        · have g1 : decide (0 < j) = false := by simp; omega
          have g2 : decide ((0 : Int) < (j : Int)) = false := by simp; omega
          have H0 := Lib.hid h0
          clear h0
          have hmix := mixed
          have n1 : ¬ 9223372036854775807 < s.size + (decB q).size := by omega
          have n2 : ¬ 9223372036854775807 < s.size + (decB q).size + 1 := by omega
          have n3 : ¬ 9223372036854775807 < s.size + (decB q).size + 1 + (decB r).size := by omega
          have n4 : ¬ 9223372036854775807 < s.size + (decB q).size + 1 + (decB r).size + 1 := by omega
          have E0 : ∀ q' os, (Go.Sort.grow (W.drewN q') os).cell? ⟨b, off + j * 3, none⟩ = some (.int .i64 (q : Int)) := cell_grown (lt_of_cell e0) e0
          have E1 : ∀ q' os, (Go.Sort.grow (W.drewN q') os).cell? ⟨b, off + j * 3 + 1, none⟩ = some (.int .i64 (r : Int)) := cell_grown (lt_of_cell e1) e1
          have E2 : ∀ q' os, (Go.Sort.grow (W.drewN q') os).cell? ⟨b, off + j * 3 + 2, none⟩ = some (.slice A' n' c') := cell_grown (lt_of_cell e2) e2
          have HB := Lib.hid (fun q' os => below_grow hbel hbel.size q' os)
          have HPQ := Lib.hid (fun q' os => HP.out.below (below_grow (Below.refl _ _) (Nat.le_refl _) q' os))
          clear e0 e1 e2 hbel HP
          go_wp2_with fail
          refine wp_region_quiet_grown (by assumption) (by kernel_rfl) ?_
          repeat (go_big_quiet_step (first | (go_at_call 22; refine Calls.grown_of (dec_any _ _ (by omega)))))
          refine wpQuiet_nil ?_
          intro _ hw'
          obtain ⟨⟨nq, osq⟩, hw9⟩ := hw'
          subst hw9
          have e2 := E2 nq osq
          have HP := Lib.hid (HPQ.out nq osq)
          have hbel := HB.out nq osq
          clear E0 E1 E2 HB HPQ
          generalize Go.Sort.grow (W.drewN nq) osq = WW at *
          have HU0 : Hid (s ++ decB q ++ ⟨#[45]⟩ ++ decB r ++ ⟨#[43]⟩ = bOf (Mk.textAll (ms.take j) ++ (if j = 0 then [] else [32]) ++ Lib.decDigits q ++ [45] ++ Lib.decDigits r ++ [43])) := Lib.hid (by rw [hS.out]; rw [if_pos H0.out]; simp [append_bOf, decB, List.append_assoc])
          have HZ0 : (s ++ decB q ++ ⟨#[45]⟩ ++ decB r ++ ⟨#[43]⟩ : ByteArray).size ≤ 300 * j + 10 := by
            simp only [ByteArray.size_append]
            have z1 : (⟨#[45]⟩ : ByteArray).size = 1 := rfl
            have z2 : (⟨#[43]⟩ : ByteArray).size = 1 := rfl
            have z3 : (⟨#[32]⟩ : ByteArray).size = 1 := rfl
            omega
          clear n1 n2 n3 n4
          go_wp2_with fail
          generalize s ++ decB q ++ ⟨#[45]⟩ ++ decB r ++ ⟨#[43]⟩ = s2 at *
          go_loopw [5, 7] (fun sv kv wx => ∃ (p : Nat) (u : ByteArray), p ≤ n' ∧ kv = .int .i64 p ∧ sv = .string u ∧ Hid (u = bOf (Mk.textAll (ms.take j) ++ (if j = 0 then [] else [32]) ++ Lib.decDigits q ++ [45] ++ Lib.decDigits r ++ [43] ++ Lib.join ((x.put.map (·.data.toList)).take p) [44])) ∧ u.size ≤ 300 * j + 10 + 13 * p ∧ Below w.heap.size w wx ∧ Below WW.heap.size WW wx) (fun _ kv _ => n' - (intOf kv).toNat)
          case atStart => exact ⟨0, _, Nat.zero_le _, rfl, rfl, Lib.hid (by rw [List.take_zero, Lib.join_nil, List.append_nil]; exact HU0.out), by omega, hbel, Below.refl _ _⟩
          case round =>
            clear hbel HU0 HZ0
            obtain ⟨p, u, hp, rfl, rfl, hU, hu, hbel, hbx⟩ := hrel
            have e3 := (hbx.cell (lt_of_cell e2)).trans e2
            by_cases hltp : p < n'
            · obtain ⟨b5, off5, y, rfl, hy, y1, y2⟩ := HP.out.1.at_ hltp
              have hy12 := hW.out y (mem_at hy)
              have e4 := (hbx.cell (lt_of_cell y2)).trans y2
              have hJ := Lib.hid (Mk.join_go (sep := [44]) (show (x.put.map (·.data.toList))[p]? = some y.data.toList by rw [List.getElem?_map, hy]; rfl))
              have p1 : (0 : Int) ≤ (p : Int) := by omega
              have p2 : (p : Int) < (n' : Int) := by omega
              clear hy y1 y2
              by_cases p0 : p = 0
              · have v1 : decide (0 < p) = false := by simp; omega
                have v2 : decide ((0 : Int) < (p : Int)) = false := by simp; omega
                have P0 := Lib.hid p0
                clear p0
                have m1 : ¬ 9223372036854775807 < u.size + y.size := by omega
                have zz : (u ++ y).size ≤ 300 * j + 10 + 13 * (p + 1) := by rw [ByteArray.size_append]; omega
                have HN : Hid (u ++ y = bOf (Mk.textAll (ms.take j) ++ (if j = 0 then [] else [32]) ++ Lib.decDigits q ++ [45] ++ Lib.decDigits r ++ [43] ++ Lib.join ((x.put.map (·.data.toList)).take (p + 1)) [44])) := Lib.hid (by rw [hU.out, hJ.out, if_pos P0.out]; simp [append_bOf, List.append_assoc])
                go_wp2_with fail
                go_roundw
                case rel => exact ⟨p + 1, _, by omega, by go_num, rfl, HN, zz, hbel, hbx⟩
                case measure => simp [intOf]; omega
              · have v1 : decide (0 < p) = true := by simp; omega
                have v2 : decide ((0 : Int) < (p : Int)) = true := by simp; omega
                have P0 := Lib.hid p0
                clear p0
                have z0 : (⟨#[44]⟩ : ByteArray).size = 1 := rfl
                have m0 : ¬ 9223372036854775807 < u.size + 1 := by omega
                have m1 : ¬ 9223372036854775807 < u.size + 1 + y.size := by omega
                have zz : (u ++ ⟨#[44]⟩ ++ y).size ≤ 300 * j + 10 + 13 * (p + 1) := by rw [ByteArray.size_append, ByteArray.size_append]; omega
                have HN : Hid (u ++ ⟨#[44]⟩ ++ y = bOf (Mk.textAll (ms.take j) ++ (if j = 0 then [] else [32]) ++ Lib.decDigits q ++ [45] ++ Lib.decDigits r ++ [43] ++ Lib.join ((x.put.map (·.data.toList)).take (p + 1)) [44])) := Lib.hid (by rw [hU.out, hJ.out, if_neg P0.out]; simp [append_bOf, List.append_assoc])
                go_wp2_with fail
                go_roundw
                case rel => exact ⟨p + 1, _, by omega, by go_num, rfl, HN, zz, hbel, hbx⟩
                case measure => simp [intOf]; omega
            · obtain rfl : n' = p := by omega
              have hall := Lib.hid (List.take_of_length_le (l := x.put.map (·.data.toList)) (i := n') (by rw [List.length_map, HPL.out]; exact Nat.le_refl _))
              have HF : Hid (u = bOf (Mk.textAll (ms.take (j + 1)))) := Lib.hid (by rw [hU.out, hG.out, hT.out, hall.out]; simp [List.append_assoc])
              go_wp2_with fail
              go_roundw
              case rel => exact ⟨j + 1, u, by omega, by go_num, rfl, HF, by omega, hbel⟩
              case measure => simp [intOf]; omega
        · have g1 : decide (0 < j) = true := by simp; omega
          have g2 : decide ((0 : Int) < (j : Int)) = true := by simp; omega
          have H0 := Lib.hid h0
          clear h0
          have sz0 : (s ++ ⟨#[32]⟩).size = s.size + 1 := by rw [ByteArray.size_append]; rfl
          have n0 : ¬ 9223372036854775807 < s.size + 1 := by omega
          have hmix := mixed
          have n1 : ¬ 9223372036854775807 < (s ++ ⟨#[32]⟩).size + (decB q).size := by omega
          have n2 : ¬ 9223372036854775807 < (s ++ ⟨#[32]⟩).size + (decB q).size + 1 := by omega
          have n3 : ¬ 9223372036854775807 < (s ++ ⟨#[32]⟩).size + (decB q).size + 1 + (decB r).size := by omega
          have n4 : ¬ 9223372036854775807 < (s ++ ⟨#[32]⟩).size + (decB q).size + 1 + (decB r).size + 1 := by omega
          have E0 : ∀ q' os, (Go.Sort.grow (W.drewN q') os).cell? ⟨b, off + j * 3, none⟩ = some (.int .i64 (q : Int)) := cell_grown (lt_of_cell e0) e0
          have E1 : ∀ q' os, (Go.Sort.grow (W.drewN q') os).cell? ⟨b, off + j * 3 + 1, none⟩ = some (.int .i64 (r : Int)) := cell_grown (lt_of_cell e1) e1
          have E2 : ∀ q' os, (Go.Sort.grow (W.drewN q') os).cell? ⟨b, off + j * 3 + 2, none⟩ = some (.slice A' n' c') := cell_grown (lt_of_cell e2) e2
          have HB := Lib.hid (fun q' os => below_grow hbel hbel.size q' os)
          have HPQ := Lib.hid (fun q' os => HP.out.below (below_grow (Below.refl _ _) (Nat.le_refl _) q' os))
          clear e0 e1 e2 hbel HP
          go_wp2_with fail
          refine wp_region_quiet_grown (by assumption) (by kernel_rfl) ?_
          repeat (go_big_quiet_step (first | (go_at_call 22; refine Calls.grown_of (dec_any _ _ (by omega)))))
          refine wpQuiet_nil ?_
          intro _ hw'
          obtain ⟨⟨nq, osq⟩, hw9⟩ := hw'
          subst hw9
          have e2 := E2 nq osq
          have HP := Lib.hid (HPQ.out nq osq)
          have hbel := HB.out nq osq
          clear E0 E1 E2 HB HPQ
          generalize Go.Sort.grow (W.drewN nq) osq = WW at *
          have HU0 : Hid ((s ++ ⟨#[32]⟩) ++ decB q ++ ⟨#[45]⟩ ++ decB r ++ ⟨#[43]⟩ = bOf (Mk.textAll (ms.take j) ++ (if j = 0 then [] else [32]) ++ Lib.decDigits q ++ [45] ++ Lib.decDigits r ++ [43])) := Lib.hid (by rw [hS.out]; rw [if_neg H0.out]; simp [append_bOf, decB, List.append_assoc])
          have HZ0 : ((s ++ ⟨#[32]⟩) ++ decB q ++ ⟨#[45]⟩ ++ decB r ++ ⟨#[43]⟩ : ByteArray).size ≤ 300 * j + 10 := by
            simp only [ByteArray.size_append]
            have z1 : (⟨#[45]⟩ : ByteArray).size = 1 := rfl
            have z2 : (⟨#[43]⟩ : ByteArray).size = 1 := rfl
            have z3 : (⟨#[32]⟩ : ByteArray).size = 1 := rfl
            omega
          clear n1 n2 n3 n4
          go_wp2_with fail
          generalize (s ++ ⟨#[32]⟩) ++ decB q ++ ⟨#[45]⟩ ++ decB r ++ ⟨#[43]⟩ = s2 at *
          go_loopw [5, 7] (fun sv kv wx => ∃ (p : Nat) (u : ByteArray), p ≤ n' ∧ kv = .int .i64 p ∧ sv = .string u ∧ Hid (u = bOf (Mk.textAll (ms.take j) ++ (if j = 0 then [] else [32]) ++ Lib.decDigits q ++ [45] ++ Lib.decDigits r ++ [43] ++ Lib.join ((x.put.map (·.data.toList)).take p) [44])) ∧ u.size ≤ 300 * j + 10 + 13 * p ∧ Below w.heap.size w wx ∧ Below WW.heap.size WW wx) (fun _ kv _ => n' - (intOf kv).toNat)
          case atStart => exact ⟨0, _, Nat.zero_le _, rfl, rfl, Lib.hid (by rw [List.take_zero, Lib.join_nil, List.append_nil]; exact HU0.out), by omega, hbel, Below.refl _ _⟩
          case round =>
            clear hbel HU0 HZ0
            obtain ⟨p, u, hp, rfl, rfl, hU, hu, hbel, hbx⟩ := hrel
            have e3 := (hbx.cell (lt_of_cell e2)).trans e2
            by_cases hltp : p < n'
            · obtain ⟨b5, off5, y, rfl, hy, y1, y2⟩ := HP.out.1.at_ hltp
              have hy12 := hW.out y (mem_at hy)
              have e4 := (hbx.cell (lt_of_cell y2)).trans y2
              have hJ := Lib.hid (Mk.join_go (sep := [44]) (show (x.put.map (·.data.toList))[p]? = some y.data.toList by rw [List.getElem?_map, hy]; rfl))
              have p1 : (0 : Int) ≤ (p : Int) := by omega
              have p2 : (p : Int) < (n' : Int) := by omega
              clear hy y1 y2
              by_cases p0 : p = 0
              · have v1 : decide (0 < p) = false := by simp; omega
                have v2 : decide ((0 : Int) < (p : Int)) = false := by simp; omega
                have P0 := Lib.hid p0
                clear p0
                have m1 : ¬ 9223372036854775807 < u.size + y.size := by omega
                have zz : (u ++ y).size ≤ 300 * j + 10 + 13 * (p + 1) := by rw [ByteArray.size_append]; omega
                have HN : Hid (u ++ y = bOf (Mk.textAll (ms.take j) ++ (if j = 0 then [] else [32]) ++ Lib.decDigits q ++ [45] ++ Lib.decDigits r ++ [43] ++ Lib.join ((x.put.map (·.data.toList)).take (p + 1)) [44])) := Lib.hid (by rw [hU.out, hJ.out, if_pos P0.out]; simp [append_bOf, List.append_assoc])
                go_wp2_with fail
                go_roundw
                case rel => exact ⟨p + 1, _, by omega, by go_num, rfl, HN, zz, hbel, hbx⟩
                case measure => simp [intOf]; omega
              · have v1 : decide (0 < p) = true := by simp; omega
                have v2 : decide ((0 : Int) < (p : Int)) = true := by simp; omega
                have P0 := Lib.hid p0
                clear p0
                have z0 : (⟨#[44]⟩ : ByteArray).size = 1 := rfl
                have m0 : ¬ 9223372036854775807 < u.size + 1 := by omega
                have m1 : ¬ 9223372036854775807 < u.size + 1 + y.size := by omega
                have zz : (u ++ ⟨#[44]⟩ ++ y).size ≤ 300 * j + 10 + 13 * (p + 1) := by rw [ByteArray.size_append, ByteArray.size_append]; omega
                have HN : Hid (u ++ ⟨#[44]⟩ ++ y = bOf (Mk.textAll (ms.take j) ++ (if j = 0 then [] else [32]) ++ Lib.decDigits q ++ [45] ++ Lib.decDigits r ++ [43] ++ Lib.join ((x.put.map (·.data.toList)).take (p + 1)) [44])) := Lib.hid (by rw [hU.out, hJ.out, if_neg P0.out]; simp [append_bOf, List.append_assoc])
                go_wp2_with fail
                go_roundw
                case rel => exact ⟨p + 1, _, by omega, by go_num, rfl, HN, zz, hbel, hbx⟩
                case measure => simp [intOf]; omega
            · obtain rfl : n' = p := by omega
              have hall := Lib.hid (List.take_of_length_le (l := x.put.map (·.data.toList)) (i := n') (by rw [List.length_map, HPL.out]; exact Nat.le_refl _))
              have HF : Hid (u = bOf (Mk.textAll (ms.take (j + 1)))) := Lib.hid (by rw [hU.out, hG.out, hT.out, hall.out]; simp [List.append_assoc])
              go_wp2_with fail
              go_roundw
              case rel => exact ⟨j + 1, u, by omega, by go_num, rfl, HF, by omega, hbel⟩
              case measure => simp [intOf]; omega
      · obtain rfl : j = m := by omega
        have hfin := Lib.hid (show s = textI ws ms by rw [hr.out, hS.out, List.take_of_length_le (by rw [hlen.out]; exact Nat.le_refl _)])
        go_wp2_with fail
        go_ret
        exact ⟨ret_str hfin.out, hbel⟩
end Go.Proofs.YtjhlcgjhdiheaaaDoor
