/- The written words with their forms, by the program. -/
import Derived.Test.YtjhalbmmlcbehaaWw
import Derived.Deep.RegionWith
namespace Go.Proofs.Ytjhalbmmlcbehaa
open Go.RowKit Wr Go.Maps
set_option linter.unusedVariables false
set_option linter.unusedSimpArgs false

theorem RowR.atO {w : World} {A : Option Addr} {n j : Nat} {xs : List Pl} (h : RowR encO 2 w A n xs) (hj : j < n) :
    ∃ b off x, A = some ⟨b, off, none⟩ ∧ xs[j]? = some x ∧ w.cell? ⟨b, off + j * 2, none⟩ = some (.int .i64 x.idx) ∧ w.cell? ⟨b, off + j * 2 + 1, none⟩ = some (.slice x.A x.n x.c) := by
  obtain ⟨b, off, x, e, hx, hc⟩ := RowR.at_ h hj
  exact ⟨b, off, x, e, hx, hc 0 _ rfl, hc 1 _ rfl⟩
theorem RowR.atP {w : World} {A : Option Addr} {n j : Nat} {xs : List Pl} (h : RowR encP 3 w A n xs) (hj : j < n) :
    ∃ b off x, A = some ⟨b, off, none⟩ ∧ xs[j]? = some x ∧ w.cell? ⟨b, off + j * 3, none⟩ = some (.int .i64 x.idx) ∧ w.cell? ⟨b, off + j * 3 + 1, none⟩ = some (.slice x.A x.n x.c) ∧ w.cell? ⟨b, off + j * 3 + 2, none⟩ = some (.int .i64 x.p) := by
  obtain ⟨b, off, x, e, hx, hc⟩ := RowR.at_ h hj
  exact ⟨b, off, x, e, hx, hc 0 _ rfl, hc 1 _ rfl, hc 2 _ rfl⟩
/-- what placedWords hands back -/
def PwPost (w : World) (ss : List Sgn) (ws : List ByteArray) (e : Ending) (w' : World) : Prop :=
  ((sysOk ss && dictOk ws) = false ∧ e = .returned (.tuple #[.slice none 0 0, .bool false]) ∧ Below w.heap.size w w') ∨
  ((sysOk ss && dictOk ws) = true ∧ ∃ A n c xs, e = .returned (.tuple #[.slice A n c, .bool true]) ∧ OwnR encP 3 64 w' w.heap.size w'.heap.size A n c xs ∧ xs.map keyP = wl ss ws ∧ Lead w' xs ∧ Below w.heap.size w w')
theorem keyO_at {xs : List Pl} {ys : List WL} (h : xs.map keyO = ys.map keyW) {j : Nat} {x : Pl} (hx : xs[j]? = some x) : ∃ y, ys[j]? = some y ∧ x.idx = y.1 ∧ x.l = y.2.1 := by
  have h1 : (xs.map keyO)[j]? = some (keyO x) := by rw [List.getElem?_map, hx]; rfl
  rw [h, List.getElem?_map] at h1
  cases hy : ys[j]? with
  | none => rw [hy] at h1; cases h1
  | some y =>
    rw [hy] at h1
    have h2 := Option.some.inj h1
    exact ⟨y, rfl, (congrArg Prod.fst h2).symm, (congrArg Prod.snd h2).symm⟩
set_option maxRecDepth 8000 in
set_option maxHeartbeats 16000000 in
theorem pw_any (A B : Option Addr) (n c m d : Nat) (ss : List Sgn) (ws : List ByteArray) (w : World) (h : Sgns w A n ss) (hok : ∀ x ∈ ss, OkG x) (hn : n ≤ 9223372036854775807) (k : Strs w B m ws) (hm : m ≤ 9223372036854775807) (hmd : m ≤ d) :
    Calls Try.prog 28 #[.slice A n c, .slice B m d] w (PwPost w ss ws) := by
  have hlen := Lib.hid k.len
  obtain ⟨i0, hi0, hz0, hz1, hz2⟩ := info_parts info64
  go_enter Try.func28, Try.ntmps28
  go_wp2_with fail
  refine (ww_any A B n c m d ss ws _ h hok hn k hm hmd).mono ?_
  rintro e w1 (⟨hr, rfl, hb⟩ | ⟨hr, A1, n1, c1, xs, rfl, hO, hX, hLd, hb⟩)
  · have hr := Lib.hid hr
    have HB := Lib.hid hb
    clear hb
    go_wp2_with fail
    go_ret2
    exact .inl ⟨hr.out, rfl, HB.out⟩
  have HR := Lib.hid hr
  have HX := Lib.hid hX
  have hxl := Lib.hid hO.len
  have hn20 : n1 ≤ 20 := by
    have h1 := congrArg List.length hX
    rw [List.length_map, List.length_map, hO.len] at h1
    have h2 := wl_len ss ws
    simp only [Bool.and_eq_true] at hr
    have h3 := dict_len hr.2
    omega
  have HRow := Lib.hid (OwnR.reads encO_len hO)
  have HLd := Lib.hid hLd
  have HB := Lib.hid hb
  clear hr hX hO hLd hb
  have HE := Lib.hid (own_emptyR (enc := encP) (k := 3) (t := 64) w1 w1.heap.size (Nat.le_refl _))
  have ba : Below w1.heap.size w1 (w1.alloc (.cells #[] 64)) := (Below.refl _ _).alloc (Nat.le_refl _) _
  have BA := Lib.hid ba
  clear ba
  go_wp2_with fail
  go_loopw [8, 23] (fun ov iv wr => ∃ (i g c' : Nat) (ys : List Pl), i ≤ n1 ∧ iv = .int .i64 i ∧ ov = .slice (some ⟨g, 0, none⟩) i c' ∧ OwnR encP 3 64 wr w1.heap.size wr.heap.size (some ⟨g, 0, none⟩) i c' ys ∧ Hid (ys.map keyP = (wl ss ws).take i) ∧ Hid (Lead wr ys) ∧ Below w1.heap.size w1 wr) (fun _ iv _ => n1 - (intOf iv).toNat)
  case atStart => exact ⟨0, _, _, [], Nat.zero_le _, rfl, rfl, by have := HE.out; simpa using this, Lib.hid rfl, Lib.hid (fun x hx => by cases hx), BA.out⟩
  case round =>
    clear HE BA
    obtain ⟨i, g, c', ys, hi, rfl, rfl, hO, hY, hLdY, hbel⟩ := hrel
    by_cases hlt : i < n1
    · obtain ⟨b, off, x, rfl, hx, c0, c1⟩ := RowR.atO (HRow.out.below hbel) hlt
      obtain ⟨y, hy, hy1, hy2⟩ := keyO_at HX.out hx
      obtain ⟨j, s, hs, hj, ho, hp⟩ := wl_mem (mem_at hy)
      have hKx := Lib.hid (HLd.out x (mem_at hx))
      have hyi : Hid ((⟨x.idx, x.A, x.n, x.c, x.l, posW s⟩ : Pl) = ⟨x.idx, x.A, x.n, x.c, x.l, posW s⟩) := Lib.hid rfl
      have hN : Hid ((ys ++ [(⟨x.idx, x.A, x.n, x.c, x.l, posW s⟩ : Pl)]).map keyP = (wl ss ws).take (i + 1)) := Lib.hid (by
        rw [take_snoc hy, List.map_append, hY.out]
        show _ ++ [((x.idx, x.l, posW s) : WL)] = _
        rw [hy1, hy2, ← hp])
      have hxi : x.idx = (j : Int) := by rw [hy1, hj]
      have hjm : j < m := by
        have h1 := (List.getElem?_eq_some_iff.1 hs).1
        rw [hlen.out] at h1; exact h1
      obtain ⟨b2, off2, s', rfl, hs', hs1, e0⟩ := ((k.below HB.out).below hbel).at_ (k := j) hjm
      obtain rfl : s = s' := by rw [hs] at hs'; injection hs'
      clear hs' hs hx hy hy1 hy2 hj ho hp hyi
      have k1 : (0 : Int) ≤ (i : Int) := by omega
      have k2 : (i : Int) < (n1 : Int) := by omega
      have j1 : (0 : Int) ≤ (j : Int) := by omega
      have j2 : (j : Int) < (m : Int) := by omega
      have HK := Lib.hid (hKx.out.1.below hbel)
      have hT := Blk.new wr 73 #[.int .i64 (j : Int), .slice x.A x.n x.c]
      have bt : Below wr.heap.size wr (wr.alloc (.cells #[.int .i64 (j : Int), .slice x.A x.n x.c] 73)) := (Below.refl _ _).alloc (Nat.le_refl _) _
      have HBT := Lib.hid bt
      have HBT0 := Lib.hid bt
      have HT := Lib.hid hT
      rw [hxi] at c0 hN
      have hgx : b2 < wr.heap.size := lt_of_cell e0
      have e1 : (wr.alloc (.cells #[.int .i64 (j : Int), .slice x.A x.n x.c] 73)).cell? ⟨b2, off2 + j, none⟩ = some (.string s) := (bt.cell hgx).trans e0
      clear hxi hT bt e0 hgx
      go_wp2_with fail
      generalize hWT : wr.alloc (.cells #[.int .i64 (j : Int), .slice x.A x.n x.c] 73) = WT at *
      have HBTT := Lib.hid (show Below w1.heap.size w1 WT from hbel.trans (HBT.out.mono hbel.size))
      have HOT := Lib.hid (show OwnR encP 3 64 WT w1.heap.size WT.heap.size (some ⟨g, 0, none⟩) i c' ys from ((hO.below HBT0.out).wide (Nat.le_refl _) HBT0.out.size (Nat.le_refl _)))
      have HKT := Lib.hid (show KB WT x.A x.n x.l from HK.out.below HBT0.out)
      have HLT := Lib.hid (show Lead WT ys from hLdY.out.below HBT0.out)
      have HKn := Lib.hid hKx.out.2
      clear hO hbel HK hLdY hKx HBT HBT0
      obtain ⟨gT, hgT⟩ : ∃ gT, gT = wr.heap.size := ⟨_, rfl⟩
      rw [← hgT] at HT ⊢
      have T0 := HT.out.cell 0
      have T1 := HT.out.cell 1
      have hTl := HT.out.lt
      have hel : b2 < WT.heap.size := lt_of_cell e1
      have HE1 := Lib.hid e1
      have HGT := Lib.hid hgT
      have HWT := Lib.hid hWT
      clear hgT hWT
      go_region_with (go_at_call 17; refine (ipos_any s _ hs1).mono ?_; rintro e w2 ⟨rfl, hb⟩; first | (have hbW : Below WT.heap.size WT w2 := ⟨hb.os, hb.tape, hb.output, hb.size, hb.block⟩; have T2 := HT.out.below hbW HT.out.lt; have t0 := T2.cell 0; have t1 := T2.cell 1; have t2 := T2.lt; clear hb) | (have hbA : Below (WT.alloc (.cells #[.slice none 0 0, .int .i64 0] 62)).heap.size (WT.alloc (.cells #[.slice none 0 0, .int .i64 0] 62)) w2 := ⟨hb.os, hb.tape, hb.output, hb.size, hb.block⟩; have V2 := (Blk.new WT 62 #[.slice none 0 0, .int .i64 0]).below hbA (by simp); have v0 := V2.cell 0; have v1 := V2.cell 1; have q0 := V2.free 0; have q1 := V2.free 1; have v2 := V2.lt; have hbW : Below WT.heap.size WT w2 := ((Below.refl _ _).alloc (Nat.le_refl _) _).trans (hbA.mono (by simp)); have T2 := HT.out.below hbW HT.out.lt; have t0 := T2.cell 0; have t1 := T2.cell 1; have t2 := T2.lt; clear hb))
      all_goals
        first
          | (obtain ⟨gF, hgF⟩ : ∃ gF, gF = WT.heap.size := ⟨_, rfl⟩
             obtain ⟨W3, hW3⟩ : ∃ W3, W3 = (w2.setCell ⟨WT.heap.size, 0, none⟩ (.slice x.A x.n x.c)).setCell ⟨WT.heap.size, 1, none⟩ (.int .i64 (posW s)) := ⟨_, rfl⟩
             have F : Blk W3 gF 62 #[.slice x.A x.n x.c, .int .i64 (posW s)] := by rw [hW3, hgF]; exact V2.two _ _
             have BF : Below WT.heap.size WT W3 := by rw [hW3]; exact (hbW.setCell (Nat.le_refl _) _).setCell (Nat.le_refl _) _
             rw [← hW3, ← hgF]
             clear hW3 hgF V2 v0 v1 q0 q1 v2 hbA)
          | (obtain ⟨gF, hgF⟩ : ∃ gF, gF = w2.heap.size := ⟨_, rfl⟩
             obtain ⟨W3, hW3⟩ : ∃ W3, W3 = w2.alloc (.cells #[.slice x.A x.n x.c, .int .i64 (posW s)] 62) := ⟨_, rfl⟩
             have F : Blk W3 gF 62 #[.slice x.A x.n x.c, .int .i64 (posW s)] := by rw [hW3, hgF]; exact Blk.new w2 62 _
             have BF : Below WT.heap.size WT W3 := by rw [hW3]; exact hbW.alloc hbW.size _
             rw [← hW3, ← hgF]
             clear hW3 hgF)
        clear T0 T1 hTl e1 hel hbW T2 t0 t1 t2
        have T3 := HT.out.below BF HT.out.lt
        have T0 := T3.cell 0
        have T1 := T3.cell 1
        have F0 := F.cell 0
        have F1 := F.cell 1
        have hTl := T3.lt
        have hFl := F.lt
        have HBF := Lib.hid BF
        clear T3 F BF
        have B3 := Lib.hid ((HBTT.out.trans (HBF.out.mono HBTT.out.size)))
        have O3 := Lib.hid ((HOT.out.below HBF.out).wide (Nat.le_refl _) HBF.out.size (Nat.le_refl _))
        have K3 := Lib.hid (HKT.out.below HBF.out)
        have L3 := Lib.hid (HLT.out.below HBF.out)
        have B4 := Lib.hid (B3.out.alloc B3.out.size (.cells #[.int .i64 (j : Int), .slice x.A x.n x.c, .int .i64 (posW s)] 64))
        have O4 := Lib.hid (O3.out.alloc (.cells #[.int .i64 (j : Int), .slice x.A x.n x.c, .int .i64 (posW s)] 64))
        have ba := Lib.hid (Below.alloc (Below.refl W3.heap.size W3) (Nat.le_refl _) (.cells #[.int .i64 (j : Int), .slice x.A x.n x.c, .int .i64 (posW s)] 64))
        clear HBF
        go_wp2_with (at_builtin; go_must (refine wpList_pushR _ rfl (.tmp 37) (.tmp 42) 56 rfl i0 _ 40 Try.underlying56 hi0 hz0 hz1 hz2 rfl (by omega) (by omega) encP_len encP_one w1.heap.size W3.heap.size _ i c' ys rfl O4.out ⟨(j : Int), x.A, x.n, x.c, x.l, posW s⟩ W3.heap.size rfl (fun j' u hu => by rw [(Blk.new W3 64 #[.int .i64 (j : Int), .slice x.A x.n x.c, .int .i64 (posW s)]).cell]; simpa [encP] using hu) (by omega) B4.out.size ?_); intro g5 c5 w5 o5 g6; have O5 := Lib.hid o5; have B5 := Lib.hid (below_cat B4.out g6 (fun a ha => (O3.out.lo_le a ha).1)); have D5 := Lib.hid (Lead.snoc (x := ⟨(j : Int), x.A, x.n, x.c, x.l, posW s⟩) ((L3.out.below ba.out).grown g6 O4.out.row (by decide)) ((K3.out.below ba.out).grown g6 (fun g e => by obtain ⟨cs, hcs⟩ := O4.out.row g e; exact ⟨64, cs, hcs, by decide⟩)) HKn.out); clear o5 g6)
        go_roundw
        case rel => exact ⟨i + 1, g5, c5, _, by omega, by go_num, rfl, O5.out, hN, D5, B5.out⟩
        case measure => simp [intOf]; omega
    · obtain rfl : i = n1 := by omega
      have hF : Hid (ys.map keyP = wl ss ws) := Lib.hid (by
        have h1 := congrArg List.length HX.out
        rw [List.length_map, List.length_map, hxl.out] at h1
        have := hY.out
        rwa [List.take_of_length_le (by omega)] at this)
      have HO := Lib.hid (hO.wide HB.out.size (Nat.le_refl _) (Nat.le_refl _))
      go_wp2_with fail
      go_ret2
      exact .inr ⟨HR.out, _, _, _, ys, rfl, HO.out, hF.out, hLdY.out, HB.out.trans (hbel.mono HB.out.size)⟩
end Go.Proofs.Ytjhalbmmlcbehaa
