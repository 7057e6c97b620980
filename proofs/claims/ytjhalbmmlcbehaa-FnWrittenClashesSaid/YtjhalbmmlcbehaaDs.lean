/- Systems that are drawn. -/
import Derived.Test.YtjhalbmmlcbehaaSa
namespace Go.Proofs.Ytjhalbmmlcbehaa
open Go.RowKit Wr
set_option linter.unusedVariables false
set_option linter.unusedSimpArgs false

theorem RdB.drew {w : World} {R : Nat} {K : Int} (h : RdB w R K) : RdB w.drew R K := h
theorem OwnR.form {α : Type} {enc : α → List Value} {k : Nat} {t : TypeId} {w : World} {lo hi : Nat} {A : Option Addr} {n c : Nat} {xs : List α} (h : OwnR enc k t w lo hi A n c xs) (hn : 0 < n) : ∃ g, A = some ⟨g, 0, none⟩ := by
  rcases h.1.2 with ⟨_, h0⟩ | ⟨g, cap, cur, hv, _⟩
  · omega
  · injection hv with e; exact ⟨g, e⟩
theorem OwnG.set0 {w : World} {lo hi g n c : Nat} {y : Sgn} {ys : List Sgn} (h : OwnG w lo hi (some ⟨g, 0, none⟩) n c (y :: ys)) (s : ByteArray) : OwnG (w.setCell ⟨g, 0, none⟩ (.string s)) lo hi (some ⟨g, 0, none⟩) n c (⟨s, y.stk⟩ :: ys) := by
  refine ⟨?_, h.2.1, by simpa [World.setCell] using h.2.2.1, h.2.2.2⟩
  have := (h.1.stored 0 (.string s)).1
  simpa [encG] using this
theorem OwnG.set2 {w : World} {lo hi g n c : Nat} {y : Sgn} {ys : List Sgn} (h : OwnG w lo hi (some ⟨g, 0, none⟩) n c (y :: ys)) (z : Int) : OwnG (w.setCell ⟨g, 2, none⟩ (.int .i64 z)) lo hi (some ⟨g, 0, none⟩) n c (⟨y.letter, ⟨y.stk.dir, z⟩⟩ :: ys) := by
  refine ⟨?_, h.2.1, by simpa [World.setCell] using h.2.2.1, h.2.2.2⟩
  have := (h.1.stored 2 (.int .i64 z)).1
  simpa [encG] using this
def sixL : Array Value := #[.string ⟨#[98]⟩, .string ⟨#[100]⟩, .string ⟨#[116]⟩, .string ⟨#[110]⟩, .string ⟨#[115]⟩, .string ⟨#[114]⟩]
theorem six_at (i : Nat) (h : i < 6) : ∃ s : ByteArray, sixL[i]? = some (.string s) ∧ s.size ≤ 16 := by
  match i, h with
  | 0, _ => exact ⟨_, rfl, by decide⟩
  | 1, _ => exact ⟨_, rfl, by decide⟩
  | 2, _ => exact ⟨_, rfl, by decide⟩
  | 3, _ => exact ⟨_, rfl, by decide⟩
  | 4, _ => exact ⟨_, rfl, by decide⟩
  | 5, _ => exact ⟨_, rfl, by decide⟩
def SyPost (w : World) (R : Nat) (K : Int) (e : Ending) (w' : World) : Prop := ∃ A n c ss, e = .returned (.slice A n c) ∧ OwnG w' w.heap.size w'.heap.size A n c ss ∧ (∀ y ∈ ss, OkG y) ∧ n ≤ 22 ∧ RdB w' R (K + 20) ∧ w.grownBy w' (some R)
set_option maxRecDepth 8000 in
set_option maxHeartbeats 16000000 in
theorem system_any (R : Nat) (K : Int) (w : World) (h : RdB w R K) (hK : K ≤ 100000) : Calls Try.prog 46 #[.pointer (some ⟨R, 0, none⟩)] w (SyPost w R K) := by
  have hRw := h.lt
  have e0 := own_emptyR (enc := encG) (k := 3) (t := 89) w w.heap.size (Nat.le_refl _)
  have g1 : w.grownBy ((w.alloc (.cells #[] 89)).alloc (.cells sixL 9)) (some R) := only_alloc (World.grownBy_alloc w _ _) _
  have L1 := Blk.new (w.alloc (.cells #[] 89)) 9 sixL
  simp only [World.size_alloc] at L1
  have E1 := Lib.hid (e0.alloc (.cells sixL 9))
  have G1 := Lib.hid g1
  have HL1 := Lib.hid L1
  have HR1 := Lib.hid ((h.alloc (.cells #[] 89)).alloc (.cells sixL 9))
  clear e0 g1 L1
  go_enter Try.func46, Try.ntmps46
  go_wp2_with fail
  refine (pickB R K 7 _ HR1.out (by omega) (by omega) (by omega)).mono ?_
  rintro e w2 ⟨m, rfl, hm, hr2, hg2⟩
  have HR2 := Lib.hid hr2
  have G2 := Lib.hid (only_again G1.out hg2)
  have HL2 := Lib.hid (HL1.out.grown hg2 (by simp; omega))
  have E2 := Lib.hid ((E1.out.far hg2 (fun g e => by injection e with e; omega)).wide (Nat.le_refl _) (show w.heap.size + 1 ≤ w2.heap.size by have := hg2.size; simp at this; omega) (Nat.le_refl _))
  clear hr2 hg2 E1 G1 HL1 HR1
  go_wp2_with fail
  go_loopw [3, 6] (fun tv iv wr => ∃ (i g n c : Nat) (ss : List Sgn), i ≤ m ∧ iv = .int .i64 i ∧ tv = .slice (some ⟨g, 0, none⟩) n c ∧ n ≤ 21 ∧ Hid (OwnG wr w.heap.size wr.heap.size (some ⟨g, 0, none⟩) n c ss) ∧ Hid (∀ y ∈ ss, OkG y) ∧ Hid (RdB wr R (K + 1 + 2 * i)) ∧ Hid (w.grownBy wr (some R)) ∧ Hid (Blk wr (w.heap.size + 1) 9 sixL)) (fun _ iv _ => m - (intOf iv).toNat)
  case atStart => exact ⟨0, _, 0, 0, [], Nat.zero_le _, rfl, rfl, by omega, E2, Lib.hid (by simp), Lib.hid (HR2.out.mono (by omega)), G2, HL2⟩
  case round =>
    clear HR2 G2 HL2 E2
    obtain ⟨i, g, n, c, ss, hi, rfl, rfl, hn21, HO, HK, HR, HG, HL⟩ := hrel
    by_cases hlt : i < m
    · obtain ⟨s, hs, hs16⟩ := six_at i (by omega)
      have g1 : (i : Int) < (m : Int) := by omega
      have k1 : (0 : Int) ≤ (i : Int) := by omega
      have k2 : (i : Int) < 6 := by omega
      have lc : wr.cell? ⟨w.heap.size + 1, i, none⟩ = some (.string s) := (HL.out.cell i).trans hs
      have ll := HL.out.lt
      have hS := Lib.hid hs
      clear hs
      go_wp2_with fail
      rename World => W0
      go_region_with (first
        | (go_at_call_of 67 (Value.int IntKind.i64 8)
           first
             | (refine (pickB R (K + 1 + 2 * i + 1) 8 _ (by first | exact HP3.out | exact HP3.out.drew | exact HP3.out.drew.drew) (by omega) (by omega) (by omega)).mono ?_
                rintro e w8 ⟨z8, rfl, hz8, hr8, hg8⟩
                have HP8 := Lib.hid hr8
                have HG8 := Lib.hid (show W0.grownBy w8 (some R) from only_again HG3.out hg8)
                have lc8 := ((HL.out.grown HG8.out (by simp; omega)).cell i).trans hS.out
                have ll8 := (HL.out.grown HG8.out (by simp; omega)).lt
                clear hr8 hg8)
             | (refine (pickB R (K + 1 + 2 * i) 8 _ (by first | exact HR.out | exact HR.out.drew | exact HR.out.drew.drew) (by omega) (by omega) (by omega)).mono ?_
                rintro e w8 ⟨z8, rfl, hz8, hr8, hg8⟩
                have HP8 := Lib.hid hr8
                have HG8 := Lib.hid (show W0.grownBy w8 (some R) from ⟨hg8.os, hg8.tape, hg8.output, hg8.size, hg8.block⟩)
                have lc8 := ((HL.out.grown HG8.out (by simp; omega)).cell i).trans hS.out
                have ll8 := (HL.out.grown HG8.out (by simp; omega)).lt
                clear hr8 hg8))
        | (go_at_call_of 67 (Value.int IntKind.i64 3)
           first
             | (refine (pickB R (K + 1 + 2 * i + 1) 3 _ (by first | exact HP8.out | exact HP8.out.drew | exact HP8.out.drew.drew) (by omega) (by omega) (by omega)).mono ?_
                rintro e w3 ⟨z3, rfl, hz3, hr3, hg3⟩
                have HP3 := Lib.hid hr3
                have HG3 := Lib.hid (show W0.grownBy w3 (some R) from only_again HG8.out hg3)
                have lc3 := ((HL.out.grown HG3.out (by simp; omega)).cell i).trans hS.out
                have ll3 := (HL.out.grown HG3.out (by simp; omega)).lt
                have u3 : IntKind.i64.wrap (1 + (z3 : Int)) = 1 + (z3 : Int) := IntWalk.i64_in _ (by omega)
                clear hr3 hg3)
             | (refine (pickB R (K + 1 + 2 * i) 3 _ (by first | exact HR.out | exact HR.out.drew | exact HR.out.drew.drew) (by omega) (by omega) (by omega)).mono ?_
                rintro e w3 ⟨z3, rfl, hz3, hr3, hg3⟩
                have HP3 := Lib.hid hr3
                have HG3 := Lib.hid (show W0.grownBy w3 (some R) from ⟨hg3.os, hg3.tape, hg3.output, hg3.size, hg3.block⟩)
                have lc3 := ((HL.out.grown HG3.out (by simp; omega)).cell i).trans hS.out
                have ll3 := (HL.out.grown HG3.out (by simp; omega)).lt
                have u3 : IntKind.i64.wrap (1 + (z3 : Int)) = 1 + (z3 : Int) := IntWalk.i64_in _ (by omega)
                clear hr3 hg3))
        | (go_at_call 68
           first
           |
             (refine (sadd_any g n c ss ⟨s, ⟨(z8 : Int), 1 + (z3 : Int)⟩⟩ _ (show Sgns w3 (some ⟨g, 0, none⟩) n ss from OwnR.reads encG_len (HO.out.far HG3.out (fun q e => by injection e with e; omega))) HK.out ⟨Nat.le_trans hs16 (by omega), ⟨by show -9223372036854775808 ≤ (z8 : Int); omega, by show (z8 : Int) ≤ 9223372036854775807; omega⟩, ⟨by show -9223372036854775808 ≤ 1 + (z3 : Int); omega, by show 1 + (z3 : Int) ≤ 9223372036854775807; omega⟩⟩ (by omega)).mono ?_
              rintro e w5 ⟨A5, n5, c5, b5, rfl, hyes, hb⟩
              have hbW : Below w3.heap.size w3 w5 := ⟨hb.os, hb.tape, hb.output, hb.size, hb.block⟩
              have hyes5 := Lib.hid (show b5 = true → n5 = ss.length + 1 ∧ n5 ≤ 21 ∧ OwnG w5 w3.heap.size w5.heap.size A5 n5 c5 (ss ++ [⟨s, ⟨(z8 : Int), 1 + (z3 : Int)⟩⟩]) from hyes)
              have hsz5 := Lib.hid (show w.heap.size ≤ w3.heap.size from Nat.le_trans HG.out.size HG3.out.size)
              have HP5 := Lib.hid (HP3.out.grown (only_of_below hbW none) (fun q e => by cases e))
              have HG5 := Lib.hid (only_below HG3.out hbW)
              have HO5 := Lib.hid (((HO.out.far HG3.out (fun q e => by injection e with e; omega)).below hbW).wide (Nat.le_refl _) (Nat.le_trans HG3.out.size hbW.size) (Nat.le_refl _))
              have HL5 := Lib.hid ((HL.out.grown HG3.out (by simp; omega)).below hbW (HL.out.grown HG3.out (by simp; omega)).lt)
              have HK5 := Lib.hid (show ∀ y ∈ ss ++ [(⟨s, ⟨(z8 : Int), 1 + (z3 : Int)⟩⟩ : Sgn)], OkG y from fun y hy => by
                rcases List.mem_append.1 hy with h1 | h1
                · exact HK.out y h1
                · rw [List.mem_singleton] at h1; subst h1; exact ⟨Nat.le_trans hs16 (by omega), ⟨by show -9223372036854775808 ≤ (z8 : Int); omega, by show (z8 : Int) ≤ 9223372036854775807; omega⟩, ⟨by show -9223372036854775808 ≤ 1 + (z3 : Int); omega, by show 1 + (z3 : Int) ≤ 9223372036854775807; omega⟩⟩)
              clear hyes hb hbW)
           |
             (refine (sadd_any g n c ss ⟨s, ⟨(z8 : Int), 1 + (z3 : Int)⟩⟩ _ (show Sgns w8 (some ⟨g, 0, none⟩) n ss from OwnR.reads encG_len (HO.out.far HG8.out (fun q e => by injection e with e; omega))) HK.out ⟨Nat.le_trans hs16 (by omega), ⟨by show -9223372036854775808 ≤ (z8 : Int); omega, by show (z8 : Int) ≤ 9223372036854775807; omega⟩, ⟨by show -9223372036854775808 ≤ 1 + (z3 : Int); omega, by show 1 + (z3 : Int) ≤ 9223372036854775807; omega⟩⟩ (by omega)).mono ?_
              rintro e w5 ⟨A5, n5, c5, b5, rfl, hyes, hb⟩
              have hbW : Below w8.heap.size w8 w5 := ⟨hb.os, hb.tape, hb.output, hb.size, hb.block⟩
              have hyes5 := Lib.hid (show b5 = true → n5 = ss.length + 1 ∧ n5 ≤ 21 ∧ OwnG w5 w8.heap.size w5.heap.size A5 n5 c5 (ss ++ [⟨s, ⟨(z8 : Int), 1 + (z3 : Int)⟩⟩]) from hyes)
              have hsz5 := Lib.hid (show w.heap.size ≤ w8.heap.size from Nat.le_trans HG.out.size HG8.out.size)
              have HP5 := Lib.hid (HP8.out.grown (only_of_below hbW none) (fun q e => by cases e))
              have HG5 := Lib.hid (only_below HG8.out hbW)
              have HO5 := Lib.hid (((HO.out.far HG8.out (fun q e => by injection e with e; omega)).below hbW).wide (Nat.le_refl _) (Nat.le_trans HG8.out.size hbW.size) (Nat.le_refl _))
              have HL5 := Lib.hid ((HL.out.grown HG8.out (by simp; omega)).below hbW (HL.out.grown HG8.out (by simp; omega)).lt)
              have HK5 := Lib.hid (show ∀ y ∈ ss ++ [(⟨s, ⟨(z8 : Int), 1 + (z3 : Int)⟩⟩ : Sgn)], OkG y from fun y hy => by
                rcases List.mem_append.1 hy with h1 | h1
                · exact HK.out y h1
                · rw [List.mem_singleton] at h1; subst h1; exact ⟨Nat.le_trans hs16 (by omega), ⟨by show -9223372036854775808 ≤ (z8 : Int); omega, by show (z8 : Int) ≤ 9223372036854775807; omega⟩, ⟨by show -9223372036854775808 ≤ 1 + (z3 : Int); omega, by show 1 + (z3 : Int) ≤ 9223372036854775807; omega⟩⟩)
              clear hyes hb hbW)))
      all_goals
        cases b5 with
        | true =>
          obtain ⟨e1, e2, o5⟩ := hyes5.out rfl
          obtain ⟨g5, rfl⟩ := OwnR.form o5 (by omega)
          have O5 := Lib.hid (o5.wide hsz5.out (Nat.le_refl _) (Nat.le_refl _))
          clear e1 o5
          go_wp2_with fail
          go_roundw
          case rel => exact ⟨i + 1, g5, n5, c5, _, by omega, by go_num, rfl, e2, O5, HK5, Lib.hid (HP5.out.mono (by omega)), Lib.hid (grown_trans' HG.out HG5.out), HL5⟩
          case measure => simp [intOf]; omega
        | false =>
          go_wp2_with fail
          go_roundw
          case rel => exact ⟨i + 1, g, n, c, ss, by omega, by go_num, rfl, hn21, HO5, HK, Lib.hid (HP5.out.mono (by omega)), Lib.hid (grown_trans' HG.out HG5.out), HL5⟩
          case measure => simp [intOf]; omega
    · have g1 : ¬ (i : Int) < (m : Int) := by omega
      obtain ⟨i0, hi0, hz0, hz1, hz2⟩ := info_parts info89
      have hlo : w.heap.size ≤ g ∧ g < wr.heap.size := HO.out.lo_le _ rfl
      by_cases hn0 : n = 0
      · have g2 : ¬ (0 : Int) < (n : Int) := by omega
        clear hn0
        go_wp2_with fail
        go_ret
        exact ⟨_, _, _, ss, rfl, HO.out, HK.out, by omega, HR.out.mono (by omega), HG.out⟩
      have g2 : (0 : Int) < (n : Int) := by omega
      have hn1 : 0 < n := by omega
      clear hn0
      obtain ⟨y, ys, hys⟩ : ∃ y ys, ss = y :: ys := by
        cases hq : ss with
        | nil => have := HO.out.len; rw [hq] at this; simp at this; omega
        | cons y ys => exact ⟨y, ys, rfl⟩
      subst hys
      go_wp2_with fail
      refine (pickB R (K + 1 + 2 * i) 40 _ HR.out (by omega) (by omega) (by omega)).mono ?_
      rintro e w3 ⟨x, rfl, hx, hr3, hg3⟩
      have HR3 := Lib.hid hr3
      have HG3 := Lib.hid (only_again HG.out hg3)
      have HO3 := Lib.hid ((HO.out.far hg3 (fun q e => by injection e with e; omega)).wide (Nat.le_refl _) hg3.size (Nat.le_refl _))
      clear hr3 hg3 HR HG HO HL
      have hRg : R < g := by omega
      have HSt : ∀ (W : World) (j : Nat) (u : Value), RdB W R (K + 1 + 2 * i + 1 + 1) → w.grownBy W (some R) → RdB (W.setCell ⟨g, j, none⟩ u) R (K + 20) ∧ w.grownBy (W.setCell ⟨g, j, none⟩ u) (some R) := fun W j u h1 h2 =>
        ⟨(h1.grown (grown_setCell W g j u) (fun q e => by injection e with e; omega)).mono (by omega), only_then h2 (grown_setCell W g j u) (fun q e => .inr (by injection e with e; omega))⟩
      have HSt := Lib.hid HSt
      cases hx0 : ((x : Int) == 0) with
      | true =>
        go_wp2_with fail
        refine (of_lits R (K + 1 + 2 * i + 1) _ _ HR3.out (by omega) lit4c (by decide) (by decide) _).mono ?_
        rintro e w4 ⟨s, rfl, hs, hr4, hg4⟩
        have HO4 := Lib.hid ((HO3.out.far hg4 (fun q e => by injection e with e; omega)).wide (Nat.le_refl _) hg4.size (Nat.le_refl _))
        have HR4 := Lib.hid hr4
        have HG4 := Lib.hid (only_again HG3.out hg4)
        clear hr4 hg4 HR3 HG3 HO3
        obtain ⟨y', hy', d0, _, _, hf⟩ := OwnG.at3 HO4.out hn1
        have f0 := hf 0
        rw [Nat.zero_mul] at d0
        clear hy' hf
        have HF := Lib.hid (HSt.out _ 0 (.string s) HR4.out HG4.out)
        have HO5 := Lib.hid (OwnG.set0 HO4.out s)
        have hk5 := Lib.hid (show ∀ z ∈ (⟨s, y.stk⟩ : Sgn) :: ys, OkG z from fun z hz => by
          rcases List.mem_cons.1 hz with rfl | h1
          · exact ⟨Nat.le_trans hs (by omega), (HK.out y (by simp)).2⟩
          · exact HK.out z (by simp [h1]))
        go_wp2_with fail
        go_ret
        exact ⟨_, _, _, _, rfl, by have := HO5.out; simpa [World.setCell] using this, hk5.out, by omega, HF.out.1, HF.out.2⟩
      | false =>
      cases hx1 : ((x : Int) == 1) with
      | true =>
        obtain ⟨y', hy', d0, d1, d2, hf⟩ := OwnG.at3 HO3.out hn1
        obtain rfl : y = y' := by simpa using hy'
        rw [Nat.zero_mul] at d0 d1 d2
        rw [Nat.zero_add] at d1 d2
        clear hy' hf
        have HO4 := Lib.hid (HO3.out.alloc (.cells (gv y) 89))
        have hk5 := Lib.hid (show ∀ z ∈ (y :: ys) ++ [y], OkG z from fun z hz => by
          rcases List.mem_append.1 hz with h1 | h1
          · exact HK.out z h1
          · rw [List.mem_singleton] at h1; subst h1; exact HK.out z (by simp))
        go_wp2_with (at_builtin; go_must (refine wpList_pushR _ rfl (.tmp 51) (.tmp 55) 23 rfl i0 _ 32 Try.underlying23 hi0 hz0 hz1 hz2 rfl (by omega) (by omega) encG_len encG_one w.heap.size w3.heap.size _ n c (y :: ys) rfl HO4.out y w3.heap.size rfl (fun j u hu => by rw [(Blk.new w3 89 (gv y)).cell]; simpa [encG] using hu) (by omega) (by have := HG3.out.size; simp; omega) ?_); intro g5 c5 w5 o5 g6; have O5 := Lib.hid o5; have HR5 := Lib.hid (((HR3.out.alloc (.cells (gv y) 89)).grown g6 (fun q e => by have := HO3.out.lo_le _ rfl; simp at e; omega)).mono (show K + 1 + 2 * i + 1 ≤ K + 20 by omega)); have HG5 := Lib.hid (only_then (only_alloc HG3.out (.cells (gv y) 89)) g6 (fun q e => .inr (by have := HO3.out.lo_le _ rfl; simp at e; omega))); clear o5 g6)
        go_ret
        exact ⟨_, _, _, _, rfl, O5.out, hk5.out, by omega, HR5.out, HG5.out⟩
      | false =>
      cases hx2 : ((x : Int) == 2) with
      | true =>
        obtain ⟨y', hy', d0, d1, d2, hf⟩ := OwnG.at3 HO3.out hn1
        have f2 := hf 2
        rw [Nat.zero_mul, Nat.zero_add] at d2
        clear hy' hf d0 d1
        have HF := Lib.hid (HSt.out _ 2 (.int .i64 0) (HR3.out.mono (by omega)) HG3.out)
        have HO5 := Lib.hid (OwnG.set2 HO3.out 0)
        have hk5 := Lib.hid (show ∀ z ∈ (⟨y.letter, ⟨y.stk.dir, 0⟩⟩ : Sgn) :: ys, OkG z from fun z hz => by
          rcases List.mem_cons.1 hz with rfl | h1
          · exact ⟨(HK.out y (by simp)).1, (HK.out y (by simp)).2.1, by show (-9223372036854775808 : Int) ≤ 0; omega, by show (0 : Int) ≤ 9223372036854775807; omega⟩
          · exact HK.out z (by simp [h1]))
        go_wp2_with fail
        go_ret
        exact ⟨_, _, _, _, rfl, by have := HO5.out; simpa [World.setCell] using this, hk5.out, by omega, HF.out.1, HF.out.2⟩
      | false =>
        go_wp2_with fail
        go_ret
        exact ⟨_, _, _, _, rfl, HO3.out, HK.out, by omega, HR3.out.mono (by omega), HG3.out⟩
/-- a system and a word that are drawn -/
def SwPost (w : World) (e : Ending) (w' : World) : Prop := ∃ A n c ss s, e = .returned (.tuple #[.slice A n c, .string s]) ∧ OwnG w' w.heap.size w'.heap.size A n c ss ∧ (∀ y ∈ ss, OkG y) ∧ n ≤ 22 ∧ s.size ≤ 200 ∧ Below w.heap.size w w'
set_option maxRecDepth 8000 in
set_option maxHeartbeats 4000000 in
theorem drawsw_any (A : Option Addr) (n c : Nat) (w : World) (h : Bytes w w.heap.size A n) (hn : n ≤ 1048576) (hnc : n ≤ c) : Calls Try.prog 35 #[.slice A n c] w (SwPost w) := by
  go_enter Try.func35, Try.ntmps35
  go_wp2_with fail
  refine (open_any A n c _ h hn hnc).mono ?_
  rintro e w1 ⟨rfl, hr, hb⟩
  have HR := Lib.hid hr
  have HB := Lib.hid hb
  clear hr hb
  go_wp2_with fail
  refine (system_any w.heap.size 0 _ HR.out (by omega)).mono ?_
  rintro e w2 ⟨A2, n2, c2, ss, rfl, ho, hk, hn2, hr, hg⟩
  have HO := Lib.hid ho
  have HK := Lib.hid hk
  have HR2 := Lib.hid hr
  have HB2 := Lib.hid (below_only HB.out hg (fun q e => by injection e with e; omega))
  have hRl := Lib.hid HR.out.lt
  clear ho hk hr hg
  go_wp2_with fail
  refine (word_any w.heap.size (0 + 20) _ HR2.out (by omega)).mono ?_
  rintro e w3 ⟨s, rfl, hs, hr, hg⟩
  have HO3 := Lib.hid (((HO.out.far hg (fun q e => by injection e with e; have := hRl.out; omega)).wide HB.out.size hg.size (Nat.le_refl _)))
  have HB3 := Lib.hid (below_only HB2.out hg (fun q e => by injection e with e; omega))
  clear hr hg
  go_wp2_with fail
  go_ret2
  exact ⟨_, _, _, ss, s, rfl, HO3.out, HK.out, hn2, hs, HB3.out⟩
set_option maxRecDepth 8000 in
set_option maxHeartbeats 4000000 in
theorem drawwo_any (A : Option Addr) (n c : Nat) (w : World) (h : Bytes w w.heap.size A n) (hn : n ≤ 1048576) (hnc : n ≤ c) : Calls Try.prog 12 #[.slice A n c] w (SwPost w) := by
  go_enter Try.func12, Try.ntmps12
  go_wp2_with fail
  refine (drawsw_any A n c _ h hn hnc).mono ?_
  rintro e w1 ⟨A2, n2, c2, ss, s, rfl, h1, h2, h3, h4, h5⟩
  have HP : Hid (SwPost w (.returned (.tuple #[.slice A2 n2 c2, .string s])) w1) := Lib.hid ⟨A2, n2, c2, ss, s, rfl, h1, h2, h3, h4, h5⟩
  clear h1 h2 h5
  go_wp2_with fail
  go_ret2
  exact HP.out
end Go.Proofs.Ytjhalbmmlcbehaa
