/- Clashes of outlines, by the program. -/
import Derived.Test.YtjhalbmmlcbehaaRe
namespace Go.Proofs.Ytjhalbmmlcbehaa
open Go.RowKit Wr Go.Maps
set_option linter.unusedVariables false
set_option linter.unusedSimpArgs false

/-- the pairs of words with one outline -/
def dclashN (ss : List Sgn) (ws : List ByteArray) : Int := if (sysOk ss && dictOk ws) = true then ((pairsF [] (ws.map (outF ss)) : Nat) : Int) else -1
theorem dclash_no {ss : List Sgn} {ws : List ByteArray} (h : (sysOk ss && dictOk ws) = false) : dclashN ss ws = -1 := by unfold dclashN; rw [h]; rfl
theorem dclash_yes {ss : List Sgn} {ws : List ByteArray} (h : (sysOk ss && dictOk ws) = true) : dclashN ss ws = ((pairsF [] (ws.map (outF ss)) : Nat) : Int) := by unfold dclashN; rw [h]; rfl
def formO (x : Pl) : Option (List Stk) := some x.l
def formV (y : WL) : Option (List Stk) := some y.2.1
theorem pairs_wlO (ss : List Sgn) : ∀ (ws : List ByteArray) (i : Nat) (s1 s2 : List (Option (List Stk))), (∀ v, cnt (some v) s1 = cnt (some v) s2) → pairsF s1 ((wlF ss i ws).map formV) = pairsF s2 (ws.map (outF ss))
  | [], i, s1, s2, h => rfl
  | a :: r, i, s1, s2, h => by
    rw [wlF, List.map_cons, List.map_append]
    cases ho : outF ss a with
    | none =>
      rw [wlOne_none ho, List.map_nil, List.nil_append, pairsF, cnt_none, Nat.zero_add]
      exact pairs_wlO ss r (i + 1) s1 _ (fun v => by rw [cnt_snoc, h v]; simp)
    | some l =>
      rw [wlOne_some ho, List.map_cons, List.map_nil, List.singleton_append, pairsF, pairsF]
      show cnt (some l) s1 + pairsF (s1 ++ [some l]) _ = _
      rw [h l, pairs_wlO ss r (i + 1) _ (s2 ++ [some l]) (fun v => by rw [cnt_snoc, cnt_snoc, h v])]
theorem pairs_keyO {ss : List Sgn} {ws : List ByteArray} {xs : List Pl} (h : xs.map keyO = (wl ss ws).map keyW) : pairsF [] (xs.map formO) = pairsF [] (ws.map (outF ss)) := by
  rw [← pairs_wlO ss ws 0 [] [] (fun _ => rfl)]
  have e : xs.map formO = (wl ss ws).map formV := by
    have h2 := congrArg (List.map (fun z : Int × List Stk => some z.2)) h
    rw [List.map_map, List.map_map] at h2
    exact h2
  rw [e]
  rfl
set_option maxRecDepth 8000 in
set_option maxHeartbeats 16000000 in
theorem idc_any (A B : Option Addr) (n c m d : Nat) (ss : List Sgn) (ws : List ByteArray) (w : World) (h : Sgns w A n ss) (hok : ∀ x ∈ ss, OkG x) (hn : n ≤ 9223372036854775807) (k : Strs w B m ws) (hm : m ≤ 9223372036854775807) (hmd : m ≤ d) :
    Calls Try.prog 11 #[.slice A n c, .slice B m d] w fun e w' => e = .returned (.int .i64 (dclashN ss ws)) ∧ Below w.heap.size w w' := by
  have hlen := Lib.hid k.len
  go_enter Try.func11, Try.ntmps11
  go_wp2_with fail
  refine (ww_any A B n c m d ss ws _ h hok hn k hm hmd).mono ?_
  rintro e w1 (⟨hr, rfl, hb⟩ | ⟨hr, A1, n1, c1, xs, rfl, hO, hX, hLd, hb⟩)
  · have hr := Lib.hid (dclash_no hr)
    have HB := Lib.hid hb
    clear hb
    go_wp2_with fail
    go_ret
    exact ⟨ret_int hr.out.symm, HB.out⟩
  have hcl := Lib.hid ((dclash_yes hr).trans (congrArg (fun t : Nat => (t : Int)) (pairs_keyO hX).symm))
  have hxl := Lib.hid hO.len
  have hn20 : n1 ≤ 20 := by
    have h1 := congrArg List.length hX
    rw [List.length_map, List.length_map, hO.len] at h1
    have h2 := wl_len ss ws
    simp only [Bool.and_eq_true] at hr
    have h3 := dict_len hr.2
    omega
  have hcap := hO.cap_le
  have hcmx := hO.cap_max
  have HP := Lib.hid (show RowR encO 2 w1 A1 n1 xs from OwnR.reads encO_len hO)
  have HL := Lib.hid hLd
  have HB := Lib.hid hb
  clear hr hX hO hLd hb
  go_wp2_with fail
  go_loopw [7, 22] (fun tv iv wr => ∃ (i t : Nat), i ≤ n1 ∧ iv = .int .i64 i ∧ tv = .int .i64 t ∧ t ≤ 20 * i ∧ Hid (t = pairsF [] ((xs.map formO).take i)) ∧ Below w1.heap.size w1 wr) (fun _ iv _ => n1 - (intOf iv).toNat)
  case atStart => exact ⟨0, 0, Nat.zero_le _, rfl, rfl, Nat.zero_le _, Lib.hid rfl, Below.refl _ _⟩
  case round =>
    obtain ⟨i, t, hi, rfl, rfl, ht, hT, hbel⟩ := hrel
    by_cases hlt : i < n1
    · obtain ⟨b, off, x, rfl, hx, c0, c1'⟩ := RowR.atO (RowR.below HP.out hbel) hlt
      obtain ⟨hkx, hnx⟩ := HL.out x (mem_at hx)
      have hN := Lib.hid (pairs_go (show (xs.map formO)[i]? = some (formO x) by rw [List.getElem?_map, hx]; rfl))
      have k1 : (0 : Int) ≤ (i : Int) := by omega
      have k2 : (i : Int) < (n1 : Int) := by omega
      have k3 : (i : Int) ≤ (c1 : Int) := by omega
      have k4 : i ≤ c1 := by omega
      have ba := Below.alloc (Below.refl wr.heap.size wr) (Nat.le_refl _) (.cells #[.int .i64 x.idx, .slice x.A x.n x.c] 73)
      have HB2 := Lib.hid (hbel.trans (ba.mono hbel.size))
      have HT2 := Lib.hid (Blk.new wr 73 #[.int .i64 x.idx, .slice x.A x.n x.c])
      have HKx := Lib.hid hkx.1
      clear hx hkx hbel ba
      rename World => wo
      go_wp2_with fail
      go_loopw [7, 31] (fun tv jv wr => ∃ (j u : Nat), j ≤ i ∧ jv = .int .i64 j ∧ tv = .int .i64 ((t + u : Nat) : Int) ∧ u ≤ j ∧ Hid (u = cnt (formO x) ((xs.map formO).take j)) ∧ Blk wr wo.heap.size 73 #[.int .i64 x.idx, .slice x.A x.n x.c] ∧ Below w1.heap.size w1 wr) (fun _ jv _ => i - (intOf jv).toNat)
      case atStart => exact ⟨0, 0, Nat.zero_le _, rfl, rfl, Nat.le_refl _, Lib.hid rfl, HT2.out, HB2.out⟩
      case round =>
        clear HT2 HB2 c0 c1'
        obtain ⟨j, u, hj, rfl, rfl, hu, hU, hY, hbel⟩ := hrel
        by_cases hjk : j < i
        · obtain ⟨b', off', y, he, hy, e0, e1⟩ := RowR.atO (RowR.below HP.out hbel) (j := j) (by omega)
          obtain ⟨rfl, rfl⟩ : b = b' ∧ off = off' := by injection he with he; injection he with e1 e2; exact ⟨e1, e2⟩
          obtain ⟨hky, hny⟩ := HL.out y (mem_at hy)
          have hgo2 := Lib.hid (cnt_go (x := formO x) rfl (show (xs.map formO)[j]? = some (formO y) by rw [List.getElem?_map, hy]; rfl))
          have j1 : (0 : Int) ≤ (j : Int) := by omega
          have j2 : (j : Int) < (i : Int) := by omega
          have j3 : (j : Int) < (n1 : Int) := by omega
          have ba := Below.alloc (Below.refl wr.heap.size wr) (Nat.le_refl _) (.cells #[.int .i64 y.idx, .slice y.A y.n y.c] 73)
          have HB3 := Lib.hid (hbel.trans (ba.mono hbel.size))
          have HX3 := Lib.hid (hY.below ba hY.lt)
          have hZ := Blk.new wr 73 #[.int .i64 y.idx, .slice y.A y.n y.c]
          have HKy := Lib.hid (hky.1)
          have x1 := HX3.out.cell 1
          have xl := HX3.out.lt
          have y1 := hZ.cell 1
          have yl := hZ.lt
          clear he hy hky ba hY hbel hZ
          go_wp2_with fail
          refine (eqK_any x.A y.A x.n x.c y.n y.c x.l y.l _ (HKx.out.below HB3.out) (HKy.out.below HB3.out) (by omega) (by omega)).mono ?_
          rintro e w2 ⟨rfl, hb⟩
          have HB4 := Lib.hid (HB3.out.trans (hb.mono HB3.out.size))
          have HX4 := Lib.hid (HX3.out.below hb HX3.out.lt)
          clear hb HB3 HX3 x1 xl y1 yl
          have hq2 : decide (formO y = formO x) = decide (x.l = y.l) := decide_eq_decide.2 ⟨fun e => (Option.some.inj e).symm, fun e => congrArg some e.symm⟩
          have HQ2 := Lib.hid hq2
          clear hq2
          cases hq : decide (x.l = y.l) with
          | false =>
            have hN2 : Hid (u = cnt (formO x) ((xs.map formO).take (j + 1))) := Lib.hid (by rw [hgo2.out, HQ2.out, hq, ← hU.out]; rfl)
            clear hq
            go_wp2_with fail
            go_roundw
            case rel => exact ⟨j + 1, u, by omega, by go_num, rfl, by omega, hN2, HX4.out, HB4.out⟩
            case measure => simp [intOf]; omega
          | true =>
            have hN2 : Hid (u + 1 = cnt (formO x) ((xs.map formO).take (j + 1))) := Lib.hid (by rw [hgo2.out, HQ2.out, hq, ← hU.out]; rfl)
            clear hq
            go_wp2_with fail
            go_roundw
            case rel => exact ⟨j + 1, u + 1, by omega, by go_num, by go_num, by omega, hN2, HX4.out, HB4.out⟩
            case measure => simp [intOf]; omega
        · obtain hji : j = i := by omega
          have hN2 : Hid (t + u = pairsF [] ((xs.map formO).take (i + 1))) := Lib.hid (by rw [hN.out, hT.out, hU.out, hji])
          have HB3 := Lib.hid hbel
          have hu2 : u ≤ 20 := by omega
          have g1 : ¬ (j : Int) < (i : Int) := by omega
          clear hji hbel hY
          go_wp2_with fail
          go_roundw
          case rel => exact ⟨i + 1, t + u, by omega, by go_num, rfl, by omega, hN2, HB3.out⟩
          case measure => simp [intOf]; omega
    · obtain rfl : i = n1 := by omega
      have hF : Hid (dclashN ss ws = (t : Int)) := Lib.hid (by rw [hcl.out, hT.out, List.take_of_length_le (by rw [List.length_map, hxl.out]; exact Nat.le_refl _)])
      go_wp2_with fail
      go_ret
      exact ⟨ret_int hF.out.symm, HB.out.trans (hbel.mono HB.out.size)⟩
end Go.Proofs.Ytjhalbmmlcbehaa
