/- Strokes of letters, outlines of words by the reference. -/
import Derived.Test.YtjhalbmmlcbehaaSy
namespace Go.Proofs.Ytjhalbmmlcbehaa
open Go.RowKit Wr
set_option linter.unusedVariables false
set_option linter.unusedSimpArgs false

def isL (c : UInt8) : Sgn → Bool := fun s => decide (s.letter = bS [c])
theorem findS_eq (ss : List Sgn) (c : UInt8) : findS ss c = (ss.find? (isL c)).map (·.stk) := rfl
theorem find_take {ss : List Sgn} {c : UInt8} {k : Nat} {x : Sgn} (h : (ss.take k).find? (isL c) = none) (hx : ss[k]? = some x) (hl : x.letter = bS [c]) : findS ss c = some x.stk := by
  rw [findS_eq, ← List.take_append_drop (k + 1) ss, take_snoc hx, List.append_assoc, List.find?_append, h, List.singleton_append, List.find?_cons, show isL c x = true from decide_eq_true hl]
  rfl
theorem find_go {ss : List Sgn} {c : UInt8} {k : Nat} {x : Sgn} (h : (ss.take k).find? (isL c) = none) (hx : ss[k]? = some x) (hl : ¬ x.letter = bS [c]) : (ss.take (k + 1)).find? (isL c) = none := by
  rw [take_snoc hx, List.find?_append, h, List.find?_cons, show isL c x = false from decide_eq_false hl]
  rfl
theorem find_end {ss : List Sgn} {c : UInt8} {n : Nat} (hn : ss.length = n) (h : (ss.take n).find? (isL c) = none) : findS ss c = none := by
  rw [List.take_of_length_le (by omega)] at h
  rw [findS_eq, h]; rfl
theorem Blk.two {w : World} {g : Nat} {t : TypeId} {a b : Value} (h : Blk w g t #[a, b]) (u v : Value) : Blk ((w.setCell ⟨g, 0, none⟩ u).setCell ⟨g, 1, none⟩ v) g t #[u, v] := (h.put 0 u).put 1 v
def stkV : Option Stk → Value | some s => kv s | none => .agg #[.int .i64 0, .int .i64 0]
theorem ret_stk {o o' : Option Stk} (h : o = o') : Ending.returned (.tuple #[stkV o, .bool o.isSome]) = Ending.returned (.tuple #[stkV o', .bool o'.isSome]) := by rw [h]
set_option maxRecDepth 8000 in
set_option maxHeartbeats 4000000 in
theorem sfind_any (A : Option Addr) (n c : Nat) (ss : List Sgn) (ch : UInt8) (L : ByteArray) (w : World) (hL : L = bS [ch]) (h : Sgns w A n ss) (hok : ∀ x ∈ ss, OkG x) (hn : n ≤ 9223372036854775807) (hs : sysOk ss = true) :
    Calls Try.prog 57 #[.slice A n c, .string L] w fun e w' => e = .returned (.tuple #[stkV (findS ss ch), .bool (findS ss ch).isSome]) ∧ Below w.heap.size w w' := by
  have hlen := Lib.hid h.len
  have HS := Lib.hid hs
  have HL := Lib.hid hL
  clear hL
  have hZ := Blk.new w 75 #[.int .i64 0, .int .i64 0]
  have hB0 : Below w.heap.size w (w.alloc (.cells #[.int .i64 0, .int .i64 0] 75)) := (Below.refl _ _).alloc (Nat.le_refl _) _
  have HZ := Lib.hid hZ
  have HB0 := Lib.hid hB0
  clear hs hZ hB0
  go_enter Try.func57, Try.ntmps57
  go_wp2_with fail
  go_loopw [6] (fun iv wr => ∃ (k : Nat), k ≤ n ∧ iv = .int .i64 k ∧ Hid ((ss.take k).find? (isL ch) = none) ∧ Below w.heap.size w wr ∧ Blk wr w.heap.size 75 #[.int .i64 0, .int .i64 0]) (fun iv _ => n - (intOf iv).toNat)
  case atStart => exact ⟨0, Nat.zero_le _, rfl, Lib.hid rfl, HB0.out, HZ.out⟩
  case round =>
    clear HZ HB0
    obtain ⟨k, hk, rfl, hF, hbel, hZ⟩ := hrel
    by_cases hlt : k < n
    · have k1 : (0 : Int) ≤ (k : Int) := by omega
      have k2 : (k : Int) < (n : Int) := by omega
      go_wp2_with fail
      refine (ssys_any A n c ss _ (h.below hbel) hok hn).mono ?_
      rw [HS.out]
      rintro e w1 ⟨rfl, hb⟩
      have hbel1 := hbel.trans (hb.mono hbel.size)
      have hZ1 := hZ.below hb hZ.lt
      clear hbel hZ hb
      obtain ⟨b, off, x, rfl, hx, c0, c1, c2⟩ := Sgns.at3 (j := k) (h.below hbel1) hlt
      have z0 := hZ1.cell 0
      have z1 := hZ1.cell 1
      have f0 := hZ1.free 0
      have f1 := hZ1.free 1
      have hzl := hZ1.lt
      have hxl := bytes_eq x.letter L
      by_cases hl : x.letter = L
      · have hb : (x.letter.toList == L.toList) = true := by rw [hxl]; exact decide_eq_true hl
        have hr := Lib.hid (find_take hF.out hx (hl.trans HL.out))
        have HB := Lib.hid hbel1
        clear hx hl hxl hbel1
        have hY := Lib.hid (hZ1.two (.int .i64 x.stk.dir) (.int .i64 x.stk.size))
        clear hZ1
        go_wp2_with fail
        try simp only [Exit.inBlock, Exit.then]
        have y0 := hY.out.cell 0
        have y1 := hY.out.cell 1
        refine bodyPost_ret (v := .tuple #[kv x.stk, .bool true]) (by simp [results, Try.results57, go_sem, y0, y1]) rfl ?_
        refine ⟨?_, (HB.out.setCell (Nat.le_refl _) _).setCell (Nat.le_refl _) _⟩
        rw [hr.out]; rfl
      · have hb : (x.letter.toList == L.toList) = false := by rw [hxl]; exact decide_eq_false hl
        have hN := Lib.hid (find_go hF.out hx (fun e => hl (e.trans HL.out.symm)))
        clear hx hl hxl
        go_wp2_with fail
        go_roundw
        case rel => exact ⟨k + 1, by omega, by go_num, hN, hbel1, hZ1⟩
        case measure => simp [intOf]; omega
    · obtain rfl : k = n := by omega
      have hr := Lib.hid (find_end hlen.out hF.out)
      have z0 := hZ.cell 0
      have z1 := hZ.cell 1
      have f0 := hZ.free 0
      have f1 := hZ.free 1
      have hzl := hZ.lt
      have hY := Lib.hid (hZ.two (.int .i64 0) (.int .i64 0))
      clear hZ
      go_wp2_with fail
      try simp only [Exit.inBlock, Exit.then]
      have y0 := hY.out.cell 0
      have y1 := hY.out.cell 1
      refine bodyPost_ret (v := .tuple #[.agg #[.int .i64 0, .int .i64 0], .bool false]) (by simp [results, Try.results57, go_sem, y0, y1]) rfl ?_
      refine ⟨?_, (hbel.setCell (Nat.le_refl _) _).setCell (Nat.le_refl _) _⟩
      rw [hr.out]; rfl

theorem mapS_prefix (ss : List Sgn) : ∀ (l r : List UInt8), mapS ss l = none → mapS ss (l ++ r) = none
  | [], r, h => by simp [mapS] at h
  | a :: l, r, h => by
    rw [mapS] at h
    rw [List.cons_append, mapS]
    cases h1 : findS ss a with
    | none => rfl
    | some s =>
      cases h2 : mapS ss l with
      | none => rw [mapS_prefix ss l r h2]
      | some o => simp [h1, h2] at h
theorem mapS_stop {ss : List Sgn} {l : List UInt8} {k : Nat} {c : UInt8} (hc : l[k]? = some c) (h : findS ss c = none) : mapS ss l = none := by
  rw [← List.take_append_drop (k + 1) l]
  refine mapS_prefix ss _ _ ?_
  rw [take_snoc hc, mapS_snoc, h]
  cases mapS ss (l.take k) <;> rfl
theorem mapS_step {ss : List Sgn} {l : List UInt8} {k : Nat} {c : UInt8} {o : List Stk} {s : Stk} (hc : l[k]? = some c) (ho : mapS ss (l.take k) = some o) (h : findS ss c = some s) : mapS ss (l.take (k + 1)) = some (o ++ [s]) := by
  rw [take_snoc hc, mapS_snoc, h, ho]
theorem outF_no_sys {ss : List Sgn} {s : ByteArray} (h : sysOk ss = false) : outF ss s = none := by unfold outF; rw [h]; rfl
theorem outF_no_word {ss : List Sgn} {s : ByteArray} (h : wok s = false) : outF ss s = none := by unfold outF; rw [h, Bool.and_false]; rfl
theorem outF_no_map {ss : List Sgn} {s : ByteArray} (h : mapS ss (bare s) = none) : outF ss s = none := by unfold outF; rw [h]; split <;> rfl
theorem outF_map {ss : List Sgn} {s : ByteArray} {l : List Stk} (h1 : sysOk ss = true) (h2 : wok s = true) (h : mapS ss (bare s) = some l) : outF ss s = if outOk l = true then some l else none := by unfold outF; rw [h1, h2, h]; rfl
theorem info75 : (Try.prog.info? 75).map (fun i => (i.zero, i.size, i.bytes)) = some (some (.agg #[.int .i64 0, .int .i64 0]), 2, 16) := by kernel_rfl
theorem encK_len (x : Stk) : (encK x).length = 2 := rfl
theorem encK_one (x : Stk) : ∀ u ∈ encK x, u.oneCell' = true := by
  intro u hu
  simp [encK] at hu
  rcases hu with rfl | rfl <;> rfl
/-- strokes that read as a list, in a block of strokes -/
def KB (w : World) (A : Option Addr) (n : Nat) (l : List Stk) : Prop := Stks w A n l ∧ ∀ a, A = some a → ∃ cs, Blk w a.block 75 cs
theorem OwnK.kb {w : World} {lo hi : Nat} {A : Option Addr} {n c : Nat} {l : List Stk} (h : OwnK w lo hi A n c l) : KB w A n l := by
  refine ⟨OwnR.reads encK_len h, fun a ha => ?_⟩
  subst ha
  rcases h.1.2 with ⟨e, _⟩ | ⟨g, cap, cur, hv, _, hg, _⟩
  · cases e
  · injection hv with e; injection e with e; subst e
    exact ⟨cur, hg⟩
theorem KB.below {w w' : World} {A : Option Addr} {n : Nat} {l : List Stk} (h : KB w A n l) (hb : Below w.heap.size w w') : KB w' A n l :=
  ⟨h.1.below hb, fun a ha => by obtain ⟨cs, hc⟩ := h.2 a ha; exact ⟨cs, hc.below hb hc.lt⟩⟩
theorem KB.grown {w w' : World} {A : Option Addr} {n : Nat} {l : List Stk} {row : Option Nat} (h : KB w A n l) (hg : w.grownBy w' row) (hr : ∀ g, row = some g → ∃ t cs, Blk w g t cs ∧ t ≠ 75) : KB w' A n l := by
  have hne : ∀ a, A = some a → some a.block ≠ row := fun a ha e => by
    obtain ⟨cs, hc⟩ := h.2 a ha
    obtain ⟨t, cs', hb, ht⟩ := hr _ e.symm
    exact hc.ne hb (Ne.symm ht) rfl
  exact ⟨h.1.grown hg hne, fun a ha => by obtain ⟨cs, hc⟩ := h.2 a ha; exact ⟨cs, hc.grown hg (hne a ha)⟩⟩
theorem KB.len {w : World} {A : Option Addr} {n : Nat} {l : List Stk} (h : KB w A n l) : l.length = n := h.1.1
/-- what a function that makes outlines hands back -/
def OutPost (w : World) (o : Option (List Stk)) (e : Ending) (w' : World) : Prop :=
  ∃ A n c, e = .returned (.tuple #[.slice A n c, .bool o.isSome]) ∧ (∀ l, o = some l → KB w' A n l ∧ n ≤ 8) ∧ Below w.heap.size w w'
theorem outPost_no {w w' : World} {A : Option Addr} {n c : Nat} {o : Option (List Stk)} (h : o = none) (hb : Below w.heap.size w w') : OutPost w o (.returned (.tuple #[.slice A n c, .bool false])) w' := by
  subst h
  exact ⟨A, n, c, rfl, (fun l e => by cases e), hb⟩
theorem outPost_yes {w w' : World} {A : Option Addr} {n c : Nat} {o : Option (List Stk)} {l : List Stk} (h : o = some l) (hk : KB w' A n l) (hn : outOk l = true) (hb : Below w.heap.size w w') : OutPost w o (.returned (.tuple #[.slice A n c, .bool true])) w' := by
  subst h
  refine ⟨A, n, c, rfl, fun l' e => ?_, hb⟩
  injection e with e; subst e
  unfold outOk at hn
  simp only [Bool.and_eq_true, decide_eq_true_eq] at hn
  rw [hk.len] at hn
  exact ⟨hk, hn.1⟩
theorem bS_list (l : List UInt8) : (bS l).data.toList = l := rfl
theorem bare_max {s : ByteArray} (h : wok s = true) : (bare s).length ≤ 12 := by
  have h1 := wok_size h
  have h2 := bareF_len s.data.toList none
  have h3 : s.data.toList.length = s.size := by rw [Array.length_toList]; rfl
  unfold bare
  omega
set_option maxRecDepth 8000 in
set_option maxHeartbeats 4000000 in
theorem soutl_any (A : Option Addr) (n c : Nat) (ss : List Sgn) (s : ByteArray) (w : World) (h : Sgns w A n ss) (hok : ∀ x ∈ ss, OkG x) (hn : n ≤ 9223372036854775807) (hm : s.size ≤ 9223372036854775807) :
    Calls Try.prog 36 #[.slice A n c, .string s] w (OutPost w (outF ss s)) := by
  have hE := own_emptyR (enc := encK) (k := 2) (t := 75) w w.heap.size (Nat.le_refl _)
  have hb0 : Below w.heap.size w (w.alloc (.cells #[] 75)) := (Below.refl _ _).alloc (Nat.le_refl _) _
  have HE := Lib.hid hE
  have HB0 := Lib.hid hb0
  obtain ⟨i0, hi0, hz0, hz1, hz2⟩ := info_parts info75
  cases hs : sysOk ss with
  | false =>
    have hr := Lib.hid (outF_no_sys (s := s) hs)
    have HS := Lib.hid hs
    clear hs hE hb0
    go_enter Try.func36, Try.ntmps36
    go_wp2_with fail
    refine (ssys_any A n c ss _ (h.below HB0.out) hok hn).mono ?_
    rw [HS.out]
    rintro e w1 ⟨rfl, hb⟩
    go_wp2_with fail
    go_ret2
    exact outPost_no hr.out (HB0.out.trans (hb.mono HB0.out.size))
  | true =>
  have HS := Lib.hid hs
  cases hw : wok s with
  | false =>
    have hr := Lib.hid (outF_no_word (ss := ss) hw)
    have HW := Lib.hid hw
    clear hs hw hE hb0
    go_enter Try.func36, Try.ntmps36
    go_wp2_with fail
    refine (ssys_any A n c ss _ (h.below HB0.out) hok hn).mono ?_
    rw [HS.out]
    rintro e w1 ⟨rfl, hb⟩
    go_wp2_with (go_at_call 55; refine (sword_any s _ hm).mono ?_; rw [HW.out]; rintro e w' ⟨rfl, rfl⟩)
    go_ret2
    exact outPost_no hr.out (HB0.out.trans (hb.mono HB0.out.size))
  | true =>
  have HW := Lib.hid hw
  have hbm := bare_max hw
  have HBB := Lib.hid (bareS_yes hw)
  have hfin := Lib.hid (fun l => outF_map (l := l) hs hw)
  clear hs hw hE hb0
  go_enter Try.func36, Try.ntmps36
  go_wp2_with fail
  refine (ssys_any A n c ss _ (h.below HB0.out) hok hn).mono ?_
  rw [HS.out]
  rintro e w1 ⟨rfl, hb⟩
  have HB1 := Lib.hid (HB0.out.trans (hb.mono HB0.out.size))
  have HE1 := Lib.hid (HE.out.below hb)
  clear HB0 HE hb
  go_wp2_with (go_at_call 55; refine (sword_any s _ hm).mono ?_; rw [HW.out]; rintro e w' ⟨rfl, rfl⟩)
  refine (sbare_any s _ hm).mono ?_
  rintro e w2 ⟨rfl, hb⟩
  have HB2 := Lib.hid (HB1.out.trans (hb.mono HB1.out.size))
  have HE2 := Lib.hid (HE1.out.below hb)
  clear HB1 HE1 hb
  rw [HBB.out]
  obtain ⟨B, hB⟩ : ∃ B, B = bS (bare s) := ⟨_, rfl⟩
  have hBs : B.size = (bare s).length := by rw [hB, bS_size]
  have hBl : Hid (B.data.toList = bare s) := Lib.hid (by rw [hB])
  have hB12 : B.size ≤ 12 := by omega
  rw [← hB]
  clear hB
  have HBs := Lib.hid hBs
  clear hBs
  go_wp2_with fail
  go_loopw [6, 8] (fun ov iv wr => ∃ (k K g c' hi : Nat) (o : List Stk), k ≤ B.size ∧ iv = .int .i64 k ∧ ov = .slice (some ⟨g, 0, none⟩) K c' ∧ Hid (mapS ss ((bare s).take k) = some o) ∧ K ≤ k ∧ OwnK wr w.heap.size hi (some ⟨g, 0, none⟩) K c' o ∧ w.heap.size ≤ hi ∧ Below w.heap.size w wr) (fun _ iv _ => B.size - (intOf iv).toNat)
  case atStart => exact ⟨0, 0, _, _, _, [], Nat.zero_le _, rfl, rfl, Lib.hid rfl, Nat.le_refl _, HE2.out, by omega, HB2.out⟩
  case round =>
    clear HE2 HB2
    obtain ⟨k, K, g, c', hi, o, hk, rfl, rfl, hM, hKk, ho, hhi, hbel⟩ := hrel
    have HO := Lib.hid ho
    clear ho
    by_cases hlt : k < B.size
    · have hat := Lib.hid (bytes_at B k hlt)
      have hcut := Lib.hid (cut_one B k hlt)
      have hck : Hid ((bare s)[k]? = some (B[k]'hlt)) := Lib.hid (by rw [← hBl.out]; exact hat.out)
      have k1 : (0 : Int) ≤ (k : Int) := by omega
      have k2 : (k : Int) < (B.size : Int) := by omega
      go_wp2_with fail
      refine (sfind_any A n c ss (B[k]'hlt) (B.extract k (k + 1)) _ hcut.out (h.below hbel) hok hn HS.out).mono ?_
      rintro e w3 ⟨rfl, hb⟩
      have HB3 := Lib.hid (hbel.trans (hb.mono hbel.size))
      have HO3 := Lib.hid (HO.out.below hb)
      clear hbel HO hb
      cases hf : findS ss (B[k]'hlt) with
      | none =>
        have hr := Lib.hid (outF_no_map (mapS_stop hck.out hf))
        clear hf
        rw [stkV]
        go_wp2_with fail
        go_ret2
        exact outPost_no hr.out ((HB3.out.alloc HB3.out.size _).alloc (Nat.le_trans HB3.out.size (by simp)) _)
      | some st =>
        have hN := Lib.hid (mapS_step hck.out hM.out hf)
        clear hf
        rw [stkV]
        have hB4 : Below w.heap.size w (w3.alloc (.cells #[.int .i64 st.dir, .int .i64 st.size] 75)) := HB3.out.alloc HB3.out.size _
        have hB5 : Below w.heap.size w ((w3.alloc (.cells #[.int .i64 st.dir, .int .i64 st.size] 75)).alloc (.cells #[.int .i64 st.dir, .int .i64 st.size] 75)) := hB4.alloc hB4.size _
        have HB5 := Lib.hid hB5
        clear hB4 hB5
        have hY := Blk.new w3 75 #[.int .i64 st.dir, .int .i64 st.size]
        have d0 : (w3.alloc (.cells #[.int .i64 st.dir, .int .i64 st.size] 75)).cell? ⟨w3.heap.size, 0, none⟩ = some (.int .i64 st.dir) := hY.cell 0
        have d1 : (w3.alloc (.cells #[.int .i64 st.dir, .int .i64 st.size] 75)).cell? ⟨w3.heap.size, 1, none⟩ = some (.int .i64 st.size) := hY.cell 1
        clear hY
        go_wp2_with (at_builtin; go_must (refine wpList_pushR _ rfl (.tmp 42) (.tmp 44) 28 rfl i0 _ 16 Try.underlying28 hi0 hz0 hz1 hz2 rfl (by omega) (by omega) encK_len encK_one w.heap.size hi _ K c' _ rfl ((HO3.out.alloc _).alloc _) st (w3.heap.size + 1) rfl (fun j u hu => by have hq := (Blk.new (w3.alloc (.cells #[.int .i64 st.dir, .int .i64 st.size] 75)) 75 #[.int .i64 st.dir, .int .i64 st.size]).cell j; simp only [World.size_alloc] at hq; rw [hq]; simpa [encK] using hu) (by omega) HB5.out.size ?_); intro g5 c5 w5 o5 g6; have O5 := Lib.hid o5; have B5 := Lib.hid (below_cat HB5.out g6 (fun a ha => (HO3.out.lo_le a ha).1)); clear o5 g6)
        go_roundw
        case rel => exact ⟨k + 1, K + 1, g5, c5, _, o ++ [st], by omega, by go_num, rfl, hN, by omega, O5.out, B5.out.size, B5.out⟩
        case measure => simp [intOf]; omega
    · obtain hkB : k = B.size := by omega
      have hF : Hid (mapS ss (bare s) = some o) := Lib.hid (by have := hM.out; rwa [List.take_of_length_le (by have := HBs.out; omega)] at this)
      clear hkB
      have hr := Lib.hid (hfin.out _ hF.out)
      have HB3 := Lib.hid hbel
      go_wp2_with fail
      refine (soutline_any _ K c' o _ (OwnR.reads encK_len HO.out) (by omega)).mono ?_
      rintro e w3 ⟨rfl, hb⟩
      cases hq : outOk o with
      | false =>
        have HR := Lib.hid (hr.out.trans (by rw [hq]; first | done | rfl))
        clear hq
        go_wp2_with fail
        go_ret2
        exact outPost_no HR.out ((HB3.out.trans (hb.mono HB3.out.size)).alloc (Nat.le_trans HB3.out.size hb.size) _)
      | true =>
        have HR := Lib.hid (hr.out.trans (by rw [hq]; first | done | rfl))
        have HQ := Lib.hid hq
        clear hq
        go_wp2_with fail
        go_ret2
        exact outPost_yes HR.out ((OwnK.kb HO.out).below hb) HQ.out (HB3.out.trans (hb.mono HB3.out.size))
end Go.Proofs.Ytjhalbmmlcbehaa
