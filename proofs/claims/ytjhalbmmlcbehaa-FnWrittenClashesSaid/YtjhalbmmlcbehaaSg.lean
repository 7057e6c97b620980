/- Systems by the program: the maps of their signs. -/
import Derived.Test.YtjhalbmmlcbehaaMp
import Derived.BigRegion
namespace Go.Proofs.Ytjhalbmmlcbehaa
open Go.RowKit Wr Go.Maps
set_option linter.unusedVariables false
set_option linter.unusedSimpArgs false

theorem LetM.store {w : World} {B n : Nat} {l : List Sgn} (h : LetM w B n l) (hn : n < 100) (s : Sgn) (c : UInt8) (hs : s.letter = bS [c]) (hf : findS l c = none) :
    ∃ w', (Instr.mapUpdate 77 (.map (some B)) (bV c) (kv s.stk)).run Try.prog w = .ok () w' ∧ LetM w' B (n + 1) (l ++ [s]) ∧ w.grownBy w' (some B) := by
  obtain ⟨D, h1, h2⟩ := h
  obtain ⟨w', hr, ho, hg⟩ := h1.update (t := 77) (e := 75) lawB5 Try.underlying77 (by unfold maxLen; omega) (kB_of c) (stkE_mk s.stk)
  refine ⟨w', hr, ⟨_, ho, fun d z => ?_⟩, hg⟩
  rw [findS_snoc l s d c hs hf]
  by_cases e : d = c
  · subst e
    rw [if_pos rfl, Maps.atKey_put_same h1.isMap (lawB5.key (kB_of d))]
  · rw [if_neg e, Maps.atKey_put_other (fun e2 => e (kB_inj e2)), h2]
theorem StkM.store {w : World} {B n : Nat} {l : List Sgn} (h : StkM w B n l) (hn : n < 100) (s : Sgn) (c : UInt8) (hs : OkK s.stk) :
    ∃ w', (Instr.mapUpdate 103 (.map (some B)) (kv s.stk) (bV c)).run Try.prog w = .ok () w' ∧ StkM w' B (n + 1) (l ++ [s]) ∧ w.grownBy w' (some B) := by
  obtain ⟨D, h1, h2⟩ := h
  obtain ⟨k, hk⟩ := kS_of s.stk hs
  have hw : (Lit.int .u8 ((c.toNat : Nat) : Int)).wf = true := by
    have := c.toNat_lt
    exact WalkArith.wf_u8 ⟨by omega, by omega⟩
  obtain ⟨w', hr, ho, hg⟩ := h1.update (t := 103) (e := 5) lawK75 Try.underlying103 (by unfold maxLen; omega) hk (plainElem_int Try.underlying5 hw)
  refine ⟨w', hr, ⟨_, ho, fun t q hq => ?_⟩, hg⟩
  rw [List.any_append, List.any_cons, List.any_nil, Bool.or_false]
  by_cases e : q = k
  · subst e
    have e2 : s.stk = t := by
      have := lawK75.inj hk hq
      have h3 := congrArg Array.toList (Value.agg.inj this)
      simp only [List.cons.injEq, Value.int.injEq, true_and, and_true] at h3
      obtain ⟨h4, h5⟩ := h3
      exact stk_of h4 h5
    rw [Maps.has_put_same h1.isMap (lawK75.key hk), decide_eq_true e2, Bool.or_true]
  · have e2 : ¬ s.stk = t := fun e2 => e (by rw [e2] at hk; exact Option.some.inj (hq.symm.trans hk))
    rw [Maps.has_put_other e, h2 t q hq, decide_eq_false e2, Bool.or_false]
/-- the stores behind any number of draws -/
theorem LetM.stores {w : World} {B n : Nat} {l : List Sgn} (h : LetM w B n l) (hn : n < 100) (s : Sgn) (c : UInt8) (hs : s.letter = bS [c]) (hf : findS l c = none) :
    ∃ f : Nat → World, ∀ q, (Instr.mapUpdate 77 (.map (some B)) (bV c) (kv s.stk)).run Try.prog (w.drewN q) = .ok () (f q) ∧ LetM (f q) B (n + 1) (l ++ [s]) ∧ w.grownBy (f q) (some B) := by
  have : ∀ q : Nat, ∃ w', (Instr.mapUpdate 77 (.map (some B)) (bV c) (kv s.stk)).run Try.prog (w.drewN q) = .ok () w' ∧ LetM w' B (n + 1) (l ++ [s]) ∧ w.grownBy w' (some B) := fun q => by
    have h' : LetM (w.drewN q) B n l := h
    obtain ⟨w', h1, h2, h3⟩ := h'.store hn s c hs hf
    exact ⟨w', h1, h2, ⟨h3.os, h3.tape, h3.output, h3.size, h3.block⟩⟩
  exact ⟨fun q => (this q).choose, fun q => (this q).choose_spec⟩
theorem StkM.stores {w : World} {B n : Nat} {l : List Sgn} (h : StkM w B n l) (hn : n < 100) (s : Sgn) (c : UInt8) (hs : OkK s.stk) :
    ∃ f : Nat → World, ∀ q, (Instr.mapUpdate 103 (.map (some B)) (kv s.stk) (bV c)).run Try.prog (w.drewN q) = .ok () (f q) ∧ StkM (f q) B (n + 1) (l ++ [s]) ∧ w.grownBy (f q) (some B) := by
  have : ∀ q : Nat, ∃ w', (Instr.mapUpdate 103 (.map (some B)) (kv s.stk) (bV c)).run Try.prog (w.drewN q) = .ok () w' ∧ StkM w' B (n + 1) (l ++ [s]) ∧ w.grownBy w' (some B) := fun q => by
    have h' : StkM (w.drewN q) B n l := h
    obtain ⟨w', h1, h2, h3⟩ := h'.store hn s c hs
    exact ⟨w', h1, h2, ⟨h3.os, h3.tape, h3.output, h3.size, h3.block⟩⟩
  exact ⟨fun q => (this q).choose, fun q => (this q).choose_spec⟩
theorem stkV_kv (o : Option Stk) : ∃ z, stkV o = kv z := by
  cases o with
  | none => exact ⟨⟨0, 0⟩, rfl⟩
  | some s => exact ⟨s, rfl⟩
theorem one_bS {s : ByteArray} (h : s.size = 1) (h0 : 0 < s.size) : s = bS [s[0]'h0] := by
  apply ByteArray.ext
  apply Array.toList_inj.1
  rw [one_list h h0]
theorem findS_some (l : List Sgn) (c : UInt8) : (findS l c).isSome = l.any (isL c) := by
  rw [findS_eq, Option.isSome_map]
  induction l with
  | nil => rfl
  | cons y l ih =>
    rw [List.find?_cons, List.any_cons]
    cases isL c y
    · simpa using ih
    · rfl
theorem meets_any (l : List Sgn) (x : Sgn) (c : UInt8) (hx : x.letter = bS [c]) : l.any (meets x) = ((findS l c).isSome || l.any fun y => decide (y.stk = x.stk)) := by
  rw [findS_some]
  induction l with
  | nil => rfl
  | cons y l ih =>
    rw [List.any_cons, List.any_cons, List.any_cons, ih]
    unfold meets isL
    rw [hx]
    have e1 : decide (bS [c] = y.letter) = decide (y.letter = bS [c]) := decide_eq_decide.2 ⟨fun h => h.symm, fun h => h.symm⟩
    have e2 : decide (x.stk = y.stk) = decide (y.stk = x.stk) := decide_eq_decide.2 ⟨fun h => h.symm, fun h => h.symm⟩
    rw [e1, e2]
    cases decide (y.letter = bS [c]) <;> cases decide (y.stk = x.stk) <;> cases (List.any l fun s => decide (s.letter = bS [c])) <;> simp
theorem sgn_one {x : Sgn} (h1 : x.letter.size = 1) (h0 : 0 < x.letter.size) : sgnOk x = ((lowB (x.letter[0]'h0) && !vowel (x.letter[0]'h0)) && stkOk x.stk) := by
  unfold sgnOk conso
  rw [one_list h1 h0, wok_one h1 h0]
  simp [h1]
/-- what signsOf hands back -/
def SgPost (w : World) (n : Nat) (ss : List Sgn) (e : Ending) (w' : World) : Prop :=
  (sysOk ss = true ∧ ∃ B, e = .returned (.tuple #[.map (some B), .bool true]) ∧ LetM w' B n ss ∧ Below w.heap.size w w' ∧ w.heap.size ≤ B) ∨ (sysOk ss = false ∧ e = .returned (.tuple #[.map none, .bool false]) ∧ Below w.heap.size w w')
theorem sg_no {w w' : World} {n : Nat} {ss : List Sgn} (h : sysOk ss = false) (hb : Below w.heap.size w w') : SgPost w n ss (.returned (.tuple #[.map none, .bool false])) w' := .inr ⟨h, rfl, hb⟩
set_option maxRecDepth 8000 in
set_option maxHeartbeats 4000000 in
theorem signs_any (A : Option Addr) (n c : Nat) (ss : List Sgn) (w : World) (h : Sgns w A n ss) (hok : ∀ x ∈ ss, OkG x) (hn : n ≤ 9223372036854775807) :
    Calls Try.prog 38 #[.slice A n c] w (SgPost w n ss) := by
  have hlen := Lib.hid h.len
  by_cases h21 : n ≤ 21
  rotate_left
  · have hr := Lib.hid (sys_no_len (ss := ss) (by rw [hlen.out]; exact h21))
    have g1 : (21 : Int) < (n : Int) := by omega
    clear h21
    go_enter Try.func38, Try.ntmps38
    go_wp2_with fail
    go_ret2
    exact sg_no hr.out (Below.refl _ _)
  have g1 : ¬ (21 : Int) < (n : Int) := by omega
  have m1 := run_makeMap_hint 77 5 75 Try.underlying77 n w
  have m2 := run_makeMap_hint 103 75 5 Try.underlying103 n (w.alloc (.map #[] 0))
  have hb1 : Below w.heap.size w (w.alloc (.map #[] 0)) := (Below.refl _ _).alloc (Nat.le_refl _) _
  have HB2 := Lib.hid (hb1.alloc hb1.size (.map #[] 0))
  have HL := Lib.hid ((letM_made w).kept (World.grownBy_alloc _ (.map #[] 0) none) (by simp))
  have HK := Lib.hid (stkM_made (w.alloc (.map #[] 0)))
  simp only [World.size_alloc] at m2 HK
  clear hb1
  go_enter Try.func38, Try.ntmps38
  go_wp2_with fail
  go_loopw [23] (fun iv wr => ∃ (k : Nat), k ≤ n ∧ iv = .int .i64 k ∧ Hid (sysChk [] (ss.take k) = true) ∧ LetM wr w.heap.size k (ss.take k) ∧ StkM wr (w.heap.size + 1) k (ss.take k) ∧ Below w.heap.size w wr) (fun iv _ => n - (intOf iv).toNat)
  case atStart => exact ⟨0, Nat.zero_le _, rfl, Lib.hid rfl, HL.out, HK.out, HB2.out⟩
  case round =>
    clear HL HK HB2 m1 m2
    obtain ⟨k, hk, rfl, hC, hL, hK, hbel⟩ := hrel
    rename World => wo
    have hKlt := hK.lt
    by_cases hlt : k < n
    · obtain ⟨b, off, x, rfl, hx, c0, c1, c2⟩ := Sgns.at3 (j := k) (h.below hbel) hlt
      have hgo := Lib.hid (sys_go hx)
      have hsn := Lib.hid (take_snoc hx)
      have hX := hok x (mem_at hx)
      have hz1 : x.letter.size ≤ 9223372036854775807 := hX.1
      have HXK := Lib.hid hX.2
      have k1 : (0 : Int) ≤ (k : Int) := by omega
      have k2 : (k : Int) < (n : Int) := by omega
      have hY := Blk.new wo 89 (gv x)
      have hb0 : Below wo.heap.size wo (wo.alloc (.cells (gv x) 89)) := (Below.refl _ _).alloc (Nat.le_refl _) _
      have hb1 : Below w.heap.size w (wo.alloc (.cells (gv x) 89)) := hbel.alloc hbel.size _
      have d0 : (wo.alloc (.cells (gv x) 89)).cell? ⟨wo.heap.size, 0, none⟩ = some (.string x.letter) := hY.cell 0
      have d1 : (wo.alloc (.cells (gv x) 89)).cell? ⟨wo.heap.size, 1, none⟩ = some (.int .i64 x.stk.dir) := hY.cell 1
      have d2 : (wo.alloc (.cells (gv x) 89)).cell? ⟨wo.heap.size, 2, none⟩ = some (.int .i64 x.stk.size) := hY.cell 2
      have HL := Lib.hid (hL.below hb0)
      have HK := Lib.hid (hK.below hb0)
      have HB := Lib.hid hb1
      have HY := Lib.hid hY
      have hgs := hY.lt
      clear hX hx hL hK hb0 hb1 hY hbel
      by_cases hs1 : x.letter.size = 1
      rotate_left
      · have hr := Lib.hid (sys_no (ss := ss) (k := k + 1) (by rw [hgo.out, sgn_no_size hs1]; simp))
        have g1 : ((x.letter.size : Int) != 1) = true := by simp; omega
        clear hs1
        go_wp2_with fail
        go_ret2
        exact sg_no hr.out HB.out
      have g1 : ((x.letter.size : Int) != 1) = false := by simp; omega
      have g2 : (0 : Int) < (x.letter.size : Int) := by omega
      have hi0 : (0 : Nat) < x.letter.size := by omega
      have hone := Lib.hid (sgn_one hs1 hi0)
      have hbs := Lib.hid (one_bS hs1 hi0)
      clear hs1
      cases hq : (lowB (x.letter[0]'hi0) && !vowel (x.letter[0]'hi0)) with
      | false =>
        have hr := Lib.hid (sys_no (ss := ss) (k := k + 1) (by rw [hgo.out, hone.out, hq]; simp))
        have HQ := Lib.hid hq
        clear hq
        go_wp2_with (first | (go_at_call 60; refine (iconso_any (x.letter[0]'hi0) _).mono ?_; rw [HQ.out]; rintro e w' ⟨rfl, rfl⟩))
        go_ret2
        exact sg_no hr.out HB.out
      | true =>
      have HQ := Lib.hid hq
      cases hst : stkOk x.stk with
      | false =>
        have hr := Lib.hid (sys_no (ss := ss) (k := k + 1) (by rw [hgo.out, hone.out, hst]; simp))
        have HS := Lib.hid hst
        clear hq hst
        go_wp2_with (first | (go_at_call 60; refine (iconso_any (x.letter[0]'hi0) _).mono ?_; rw [HQ.out]; rintro e w' ⟨rfl, rfl⟩) | (go_at_call 61; refine (istroke_any x.stk _).mono ?_; rw [HS.out]; rintro e w' ⟨rfl, hb2⟩))
        go_ret2
        exact sg_no hr.out (HB.out.trans (hb2.mono HB.out.size))
      | true =>
      have HS := Lib.hid hst
      have hgd := Lib.hid (show sgnOk x = true by rw [hone.out, hq, hst]; rfl)
      clear hq hst
      go_wp2_with fail
      refine (iconso_any (x.letter[0]'hi0) _).mono ?_
      rw [HQ.out]
      rintro e w' ⟨rfl, rfl⟩
      go_wp2_with fail
      refine (istroke_any x.stk _).mono ?_
      rw [HS.out]
      rintro e w2 ⟨rfl, hb2⟩
      have hL2 := HL.out.below hb2
      have hK2 := HK.out.below hb2
      have HB2 := Lib.hid (HB.out.trans (hb2.mono HB.out.size))
      have hY2 := HY.out.below hb2 HY.out.lt
      clear d0 d1 d2 hb2 HL HK HB HY c0 c1 c2 hgs
      obtain ⟨z, hz⟩ := stkV_kv (findS (ss.take k) (x.letter[0]'hi0))
      have lk := hL2.look (x.letter[0]'hi0)
      rw [hz] at lk
      have hb3 : Below w2.heap.size w2 (w2.alloc (.cells #[.int .i64 z.dir, .int .i64 z.size] 75)) := (Below.refl _ _).alloc (Nat.le_refl _) _
      have hL3 := hL2.below hb3
      have hK3 := hK2.below hb3
      have hY3 := hY2.below hb3 hY2.lt
      have HB3 := Lib.hid (HB2.out.trans (hb3.mono HB2.out.size))
      obtain ⟨q, lk2⟩ := hK3.look x.stk HXK.out
      have hma := Lib.hid (meets_any (ss.take k) x _ hbs.out)
      have d0 := hY2.cell 0
      have d1 := hY2.cell 1
      have d2 := hY2.cell 2
      have hgs2 := hY2.lt
      have HL3 := Lib.hid hL3
      have HK3 := Lib.hid hK3
      have HY3 := Lib.hid hY3
      clear hL2 hK2 hY2 hb3 hz hL3 hK3 hY3 HB2
      cases hp : ((findS (ss.take k) (x.letter[0]'hi0)).isSome || (ss.take k).any fun y => decide (y.stk = x.stk)) with
      | true =>
        have hr := Lib.hid (sys_no (ss := ss) (k := k + 1) (by rw [hgo.out, hma.out, hp]; simp))
        have hp2 : (findS (ss.take k) (x.letter[0]'hi0)).isSome = true ∨ ((findS (ss.take k) (x.letter[0]'hi0)).isSome = false ∧ ((ss.take k).any fun y => decide (y.stk = x.stk)) = true) := by
          revert hp
          cases (findS (ss.take k) (x.letter[0]'hi0)).isSome <;> cases ((ss.take k).any fun y => decide (y.stk = x.stk)) <;> simp
        clear hp
        rcases hp2 with e1 | ⟨e1, e2⟩
        · rw [e1] at lk
          clear e1
          go_wp2_with fail
          go_ret2
          exact sg_no hr.out HB3.out
        · rw [e1] at lk
          rw [e2] at lk2
          clear e1 e2
          go_wp2_with fail
          go_ret2
          exact sg_no hr.out HB3.out
      | false =>
        have hN := Lib.hid (show sysChk [] (ss.take (k + 1)) = true by rw [hgo.out, hma.out, hp, hC.out, hgd.out]; rfl)
        obtain ⟨e1, e2⟩ : (findS (ss.take k) (x.letter[0]'hi0)).isSome = false ∧ ((ss.take k).any fun y => decide (y.stk = x.stk)) = false := by
          revert hp
          cases (findS (ss.take k) (x.letter[0]'hi0)).isSome <;> cases ((ss.take k).any fun y => decide (y.stk = x.stk)) <;> simp
        have hfn : findS (ss.take k) (x.letter[0]'hi0) = none := by
          cases hq : findS (ss.take k) (x.letter[0]'hi0) with
          | none => rfl
          | some v => rw [hq] at e1; cases e1
        rw [e1] at lk
        rw [e2] at lk2
        obtain ⟨f, hf⟩ := HL3.out.stores (by omega) x _ hbs.out hfn
        have f1 : (Instr.mapUpdate 77 (.map (some w.heap.size)) (bV (x.letter[0]'hi0)) (kv x.stk)).run Try.prog ((w2.alloc (.cells #[.int .i64 z.dir, .int .i64 z.size] 75)).drew) = .ok () (f 1) := (hf 1).1
        have hL4 := (hf 1).2.1
        have hg4 := (hf 1).2.2
        have hwo : w.heap.size + 1 < wo.heap.size := hKlt
        have hK4 := HK3.out.kept hg4 (by simp)
        have hY4 := HY3.out.grown hg4 (by simp; omega)
        have hB4 := HB3.out.grown hg4 HB3.out.size (fun g e => by injection e with e; omega)
        obtain ⟨f', hf'⟩ := hK4.stores (by omega) x (x.letter[0]'hi0) HXK.out
        have f2 : (Instr.mapUpdate 103 (.map (some (w.heap.size + 1))) (kv x.stk) (bV (x.letter[0]'hi0))).run Try.prog ((f 1).drew) = .ok () (f' 1) := (hf' 1).1
        have hK5 := (hf' 1).2.1
        have hg5 := (hf' 1).2.2
        have hL5 := hL4.kept hg5 (by simp)
        have hB5 := hB4.grown hg5 hB4.size (fun g e => by injection e with e; omega)
        have d0 := HY3.out.cell 0
        have d1 := HY3.out.cell 1
        have d2 := HY3.out.cell 2
        have b0 := hY4.cell 0
        have b1 := hY4.cell 1
        have b2 := hY4.cell 2
        rw [← hsn.out] at hK5 hL5
        have HL5 := Lib.hid hL5
        have HK5 := Lib.hid hK5
        have HB5 := Lib.hid hB5
        clear hp e1 e2 hfn hf hL4 hg4 hwo hK4 hY4 hB4 hf' hK5 hg5 hL5 hB5 HL3 HK3 HY3 HB3 hKlt
        generalize f 1 = W4 at *
        generalize f' 1 = W5 at *
        go_wp2_with fail
        go_region
        go_wp2_with fail
        go_region
        go_wp2_with fail
        go_roundw
        case rel => exact ⟨k + 1, by omega, by go_num, hN, HL5.out, HK5.out, HB5.out⟩
        case measure => simp [intOf]; omega
    · obtain rfl : k = n := by omega
      have hr := Lib.hid (sys_yes hlen.out hC.out)
      have hr2 : Hid (sysOk ss = true) := Lib.hid (by rw [hr.out]; exact decide_eq_true h21)
      rw [List.take_of_length_le (by rw [hlen.out]; exact Nat.le_refl _)] at hL
      go_wp2_with fail
      go_ret2
      exact .inl ⟨hr2.out, _, rfl, hL, hbel, Nat.le_refl _⟩
end Go.Proofs.Ytjhalbmmlcbehaa
