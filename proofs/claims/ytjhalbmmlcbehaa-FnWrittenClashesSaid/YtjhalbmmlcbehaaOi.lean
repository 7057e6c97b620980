/- Outlines and written forms of words by both programs. -/
import Derived.Test.YtjhalbmmlcbehaaSg
namespace Go.Proofs.Ytjhalbmmlcbehaa
open Go.RowKit Wr Go.Maps
set_option linter.unusedVariables false
set_option linter.unusedSimpArgs false

set_option maxRecDepth 8000 in
set_option maxHeartbeats 4000000 in
theorem ioutl_any (M m : Nat) (ss : List Sgn) (s : ByteArray) (w : World) (hL : LetM w M m ss) (hs : sysOk ss = true) (hm : s.size ≤ 9223372036854775807) :
    Calls Try.prog 39 #[.map (some M), .string s] w (OutPost w (outF ss s)) := by
  have hE := own_emptyR (enc := encK) (k := 2) (t := 75) w w.heap.size (Nat.le_refl _)
  have hb0 : Below w.heap.size w (w.alloc (.cells #[] 75)) := (Below.refl _ _).alloc (Nat.le_refl _) _
  obtain ⟨i0, hi0, hz0, hz1, hz2⟩ := info_parts info75
  cases hw : wok s with
  | false =>
    have hr := Lib.hid (outF_no_word (ss := ss) hw)
    have HW := Lib.hid hw
    clear hs hw hE hb0
    go_enter Try.func39, Try.ntmps39
    go_wp2_with (go_at_call 40; refine (iword_any s _ hm).mono ?_; rw [HW.out]; rintro e w' ⟨rfl, rfl⟩)
    go_ret2
    exact outPost_no hr.out (Below.refl _ _)
  | true =>
  have HW := Lib.hid hw
  have hbm := bare_max hw
  have HBB := Lib.hid (bareS_yes hw)
  have hfin := Lib.hid (fun l => outF_map (l := l) hs hw)
  clear hs hw hE hb0
  go_enter Try.func39, Try.ntmps39
  go_wp2_with (go_at_call 40; refine (iword_any s _ hm).mono ?_; rw [HW.out]; rintro e w' ⟨rfl, rfl⟩)
  refine (ibare_any s _ hm).mono ?_
  rintro e w2 ⟨rfl, hb⟩
  have HE2 := Lib.hid (own_emptyR (enc := encK) (k := 2) (t := 75) w2 w.heap.size hb.size)
  have HB2 := Lib.hid (hb.alloc hb.size (.cells #[] 75))
  clear hb
  rw [HBB.out]
  obtain ⟨B, hB⟩ : ∃ B, B = bS (bare s) := ⟨_, rfl⟩
  have hBs : B.size = (bare s).length := by rw [hB, bS_size]
  have hBl : Hid (B.data.toList = bare s) := Lib.hid (by rw [hB])
  have hB12 : B.size ≤ 12 := by omega
  rw [← hB]
  clear hB
  have HBs := Lib.hid hBs
  clear hBs
  go_wp2_with fail
  go_loopw [7, 19] (fun ov iv wr => ∃ (k K g c' hi : Nat) (o : List Stk), k ≤ B.size ∧ iv = .int .i64 k ∧ ov = .slice (some ⟨g, 0, none⟩) K c' ∧ Hid (mapS ss ((bare s).take k) = some o) ∧ K ≤ k ∧ OwnK wr w.heap.size hi (some ⟨g, 0, none⟩) K c' o ∧ w.heap.size ≤ hi ∧ Below w.heap.size w wr) (fun _ iv _ => B.size - (intOf iv).toNat)
  case atStart => exact ⟨0, 0, _, _, _, [], Nat.zero_le _, rfl, rfl, Lib.hid rfl, Nat.le_refl _, HE2.out, by have := HB2.out.size; simp at this; omega, HB2.out⟩
  case round =>
    clear HE2 HB2
    obtain ⟨k, K, g, c', hi, o, hk, rfl, rfl, hM, hKk, ho, hhi, hbel⟩ := hrel
    have HO := Lib.hid ho
    clear ho
    by_cases hlt : k < B.size
    · have hat := Lib.hid (bytes_at B k hlt)
      have hck : Hid ((bare s)[k]? = some (B[k]'hlt)) := Lib.hid (by rw [← hBl.out]; exact hat.out)
      have k1 : (0 : Int) ≤ (k : Int) := by omega
      have k2 : (k : Int) < (B.size : Int) := by omega
      have lk := (hL.below hbel).look (B[k]'hlt)
      have HB3 := Lib.hid hbel
      clear hbel
      cases hf : findS ss (B[k]'hlt) with
      | none =>
        have hr := Lib.hid (outF_no_map (mapS_stop hck.out hf))
        rw [hf] at lk
        replace lk : (Instr.lookup 77 (.map (some M)) (bV (B[k]'hlt)) true).run Try.prog wr = .ok (.tuple #[.agg #[.int .i64 0, .int .i64 0], .bool false]) wr := lk
        clear hf
        go_wp2_with fail
        go_ret2
        exact outPost_no hr.out (HB3.out.alloc HB3.out.size _)
      | some st =>
        have hN := Lib.hid (mapS_step hck.out hM.out hf)
        rw [hf] at lk
        replace lk : (Instr.lookup 77 (.map (some M)) (bV (B[k]'hlt)) true).run Try.prog wr = .ok (.tuple #[kv st, .bool true]) wr := lk
        clear hf
        have hB4 : Below w.heap.size w (wr.alloc (.cells #[.int .i64 st.dir, .int .i64 st.size] 75)) := HB3.out.alloc HB3.out.size _
        have hB5 : Below w.heap.size w ((wr.alloc (.cells #[.int .i64 st.dir, .int .i64 st.size] 75)).alloc (.cells #[.int .i64 st.dir, .int .i64 st.size] 75)) := hB4.alloc hB4.size _
        have HB5 := Lib.hid hB5
        clear hB4 hB5
        have hY := Blk.new wr 75 #[.int .i64 st.dir, .int .i64 st.size]
        have d0 : (wr.alloc (.cells #[.int .i64 st.dir, .int .i64 st.size] 75)).cell? ⟨wr.heap.size, 0, none⟩ = some (.int .i64 st.dir) := hY.cell 0
        have d1 : (wr.alloc (.cells #[.int .i64 st.dir, .int .i64 st.size] 75)).cell? ⟨wr.heap.size, 1, none⟩ = some (.int .i64 st.size) := hY.cell 1
        clear hY
        go_wp2_with (at_builtin; go_must (refine wpList_pushR _ rfl (.tmp 32) (.tmp 34) 28 rfl i0 _ 16 Try.underlying28 hi0 hz0 hz1 hz2 rfl (by omega) (by omega) encK_len encK_one w.heap.size hi _ K c' _ rfl ((HO.out.alloc _).alloc _) st (wr.heap.size + 1) rfl (fun j u hu => by have hq := (Blk.new (wr.alloc (.cells #[.int .i64 st.dir, .int .i64 st.size] 75)) 75 #[.int .i64 st.dir, .int .i64 st.size]).cell j; simp only [World.size_alloc] at hq; rw [hq]; simpa [encK] using hu) (by omega) HB5.out.size ?_); intro g5 c5 w5 o5 g6; have O5 := Lib.hid o5; have B5 := Lib.hid (below_cat HB5.out g6 (fun a ha => (HO.out.lo_le a ha).1)); clear o5 g6)
        go_roundw
        case rel => exact ⟨k + 1, K + 1, g5, c5, _, o ++ [st], by omega, by go_num, rfl, hN, by omega, O5.out, B5.out.size, B5.out⟩
        case measure => simp [intOf]; omega
    · obtain hkB : k = B.size := by omega
      have hF : Hid (mapS ss (bare s) = some o) := Lib.hid (by have := hM.out; rwa [List.take_of_length_le (by have := HBs.out; omega)] at this)
      clear hkB
      have hr := Lib.hid (hfin.out _ hF.out)
      have HB3 := Lib.hid hbel
      go_wp2_with fail
      refine (ioutline_any _ K c' o _ (OwnR.reads encK_len HO.out) (by omega)).mono ?_
      rintro e w3 ⟨rfl, hb⟩
      cases hq : outOk o with
      | false =>
        have HR := Lib.hid (hr.out.trans (by rw [hq]; first | done | rfl))
        clear hq
        go_wp2_with fail
        go_ret2
        exact outPost_no HR.out (HB3.out.trans (hb.mono HB3.out.size))
      | true =>
        have HR := Lib.hid (hr.out.trans (by rw [hq]; first | done | rfl))
        have HQ := Lib.hid hq
        clear hq
        go_wp2_with fail
        go_ret2
        exact outPost_yes HR.out ((OwnK.kb HO.out).below hb) HQ.out (HB3.out.trans (hb.mono HB3.out.size))
theorem OutPost.back {w w1 : World} {o : Option (List Stk)} {e : Ending} {w' : World} (h : OutPost w1 o e w') (hb : Below w.heap.size w w1) : OutPost w o e w' := by
  obtain ⟨A, n, c, rfl, h1, h2⟩ := h
  exact ⟨A, n, c, rfl, h1, hb.trans (h2.mono hb.size)⟩
set_option maxRecDepth 8000 in
set_option maxHeartbeats 4000000 in
theorem iwordo_any (A : Option Addr) (n c : Nat) (ss : List Sgn) (s : ByteArray) (w : World) (h : Sgns w A n ss) (hok : ∀ x ∈ ss, OkG x) (hn : n ≤ 9223372036854775807) (hm : s.size ≤ 9223372036854775807) :
    Calls Try.prog 15 #[.slice A n c, .string s] w (OutPost w (outF ss s)) := by
  go_enter Try.func15, Try.ntmps15
  go_wp2_with fail
  refine (signs_any A n c ss _ h hok hn).mono ?_
  rintro e w1 (⟨hs, B, rfl, hL, hb, _⟩ | ⟨hs, rfl, hb⟩)
  · have HB := Lib.hid hb
    have HS := Lib.hid hs
    clear hs
    go_wp2_with fail
    refine (ioutl_any B n ss s _ hL HS.out hm).mono ?_
    rintro e w2 ⟨A', n', c', rfl, h1, hb2⟩
    have HP : Hid (OutPost w (outF ss s) (.returned (.tuple #[.slice A' n' c', .bool (outF ss s).isSome])) w2) := Lib.hid ⟨A', n', c', rfl, h1, HB.out.trans (hb2.mono HB.out.size)⟩
    clear h1 hb2
    go_wp2_with fail
    go_ret2
    exact HP.out
  · have hr := Lib.hid (outF_no_sys (s := s) hs)
    have HB := Lib.hid hb
    clear hs
    go_wp2_with fail
    go_ret2
    exact outPost_no hr.out HB.out
/-- what WrittenOf hands back -/
def WofPost (w : World) (ss : List Sgn) (s : ByteArray) (e : Ending) (w' : World) : Prop :=
  ∃ A n c p, e = .returned (.tuple #[.agg #[.slice A n c, .int .i64 p], .bool (outF ss s).isSome]) ∧ (∀ l, outF ss s = some l → KB w' A n l ∧ n ≤ 8 ∧ p = posW s) ∧ (outF ss s = none → A = none ∧ n = 0 ∧ c = 0 ∧ p = 0) ∧ Below w.heap.size w w'
theorem wof_no {w w' : World} {ss : List Sgn} {s : ByteArray} (h : outF ss s = none) (hb : Below w.heap.size w w') : WofPost w ss s (.returned (.tuple #[.agg #[.slice none 0 0, .int .i64 0], .bool false])) w' :=
  ⟨none, 0, 0, 0, by rw [h]; rfl, (fun l e => by rw [h] at e; cases e), (fun _ => ⟨rfl, rfl, rfl, rfl⟩), hb⟩
theorem wof_yes {w w' : World} {ss : List Sgn} {s : ByteArray} {A : Option Addr} {n c : Nat} {l : List Stk} (h : outF ss s = some l) (hk : KB w' A n l) (hn : n ≤ 8) (hb : Below w.heap.size w w') : WofPost w ss s (.returned (.tuple #[.agg #[.slice A n c, .int .i64 (posW s)], .bool true])) w' :=
  ⟨A, n, c, posW s, by rw [h]; rfl, (fun l' e => by rw [h] at e; injection e with e; subst e; exact ⟨hk, hn, rfl⟩), (fun e => by rw [h] at e; cases e), hb⟩
theorem KB.setCell {w : World} {A : Option Addr} {n : Nat} {l : List Stk} (h : KB w A n l) {g k : Nat} {t : TypeId} {cs : Array Value} (hg : Blk w g t cs) (ht : t ≠ 75) (u : Value) : KB (w.setCell ⟨g, k, none⟩ u) A n l :=
  h.grown (grown_setCell w g k u) (fun g' e => by injection e with e; subst e; exact ⟨t, cs, hg, ht⟩)
set_option maxRecDepth 8000 in
set_option maxHeartbeats 4000000 in
theorem iwof_any (A : Option Addr) (n c : Nat) (ss : List Sgn) (s : ByteArray) (w : World) (h : Sgns w A n ss) (hok : ∀ x ∈ ss, OkG x) (hn : n ≤ 9223372036854775807) (hm : s.size ≤ 9223372036854775807) :
    Calls Try.prog 9 #[.slice A n c, .string s] w (WofPost w ss s) := by
  have hY := Blk.new w 30 #[.slice none 0 0, .int .i64 0]
  have hb0 : Below w.heap.size w (w.alloc (.cells #[.slice none 0 0, .int .i64 0] 30)) := (Below.refl _ _).alloc (Nat.le_refl _) _
  have HY := Lib.hid hY
  have HB0 := Lib.hid hb0
  clear hY hb0
  go_enter Try.func9, Try.ntmps9
  go_wp2_with fail
  refine (iwordo_any A n c ss s _ (h.below HB0.out) hok hn hm).mono ?_
  rintro e w1 ⟨A', n', c', rfl, h1, hb⟩
  have HB1 := Lib.hid (HB0.out.trans (hb.mono HB0.out.size))
  have HY1 := Lib.hid (HY.out.below hb HY.out.lt)
  clear HB0 HY hb
  cases ho : outF ss s with
  | none =>
    have hr := Lib.hid ho
    have HY2 := Lib.hid (HY1.out.two (.slice none 0 0) (.int .i64 0))
    have z0 := HY1.out.cell 0
    have z1 := HY1.out.cell 1
    have q0 := HY1.out.free 0
    have q1 := HY1.out.free 1
    have hl := HY1.out.lt
    clear ho h1
    go_wp2_with fail
    try simp only [Exit.inBlock, Exit.then]
    have y0 := HY2.out.cell 0
    have y1 := HY2.out.cell 1
    refine bodyPost_ret (v := .tuple #[.agg #[.slice none 0 0, .int .i64 0], .bool false]) (by simp [results, Try.results9, go_sem, y0, y1]) rfl ?_
    exact wof_no hr.out ((HB1.out.setCell (Nat.le_refl _) _).setCell (Nat.le_refl _) _)
  | some l =>
    have hr := Lib.hid ho
    obtain ⟨hk, hn8⟩ := h1 l ho
    have HK := Lib.hid hk
    clear ho h1 hk
    go_wp2_with fail
    refine (ipos_any s _ hm).mono ?_
    rintro e w2 ⟨rfl, hb⟩
    have HB2 := Lib.hid (HB1.out.trans (hb.mono HB1.out.size))
    have HY2 := Lib.hid (HY1.out.below hb HY1.out.lt)
    have HK2 := Lib.hid (HK.out.below hb)
    have z0 := HY2.out.cell 0
    have z1 := HY2.out.cell 1
    have q0 := HY2.out.free 0
    have q1 := HY2.out.free 1
    have hl := HY2.out.lt
    have HY3 := Lib.hid (HY2.out.two (.slice A' n' c') (.int .i64 (posW s)))
    have HK3 := Lib.hid ((HK2.out.setCell (k := 0) HY2.out (by decide) (.slice A' n' c')).setCell (k := 1) (HY2.out.put 0 (.slice A' n' c')) (by decide) (.int .i64 (posW s)))
    clear hb  HY1 HK HB1
    go_wp2_with fail
    try simp only [Exit.inBlock, Exit.then]
    have y0 := HY3.out.cell 0
    have y1 := HY3.out.cell 1
    refine bodyPost_ret (v := .tuple #[.agg #[.slice A' n' c', .int .i64 (posW s)], .bool true]) (by simp [results, Try.results9, go_sem, y0, y1]) rfl ?_
    exact wof_yes hr.out HK3.out hn8 ((HB2.out.setCell (Nat.le_refl _) _).setCell (Nat.le_refl _) _)
set_option maxRecDepth 8000 in
set_option maxHeartbeats 4000000 in
theorem swof_any (A : Option Addr) (n c : Nat) (ss : List Sgn) (s : ByteArray) (w : World) (h : Sgns w A n ss) (hok : ∀ x ∈ ss, OkG x) (hn : n ≤ 9223372036854775807) (hm : s.size ≤ 9223372036854775807) :
    Calls Try.prog 13 #[.slice A n c, .string s] w (WofPost w ss s) := by
  have hY := Blk.new w 30 #[.slice none 0 0, .int .i64 0]
  have hb0 : Below w.heap.size w (w.alloc (.cells #[.slice none 0 0, .int .i64 0] 30)) := (Below.refl _ _).alloc (Nat.le_refl _) _
  have HY := Lib.hid hY
  have HB0 := Lib.hid hb0
  clear hY hb0
  go_enter Try.func13, Try.ntmps13
  go_wp2_with fail
  refine (soutl_any A n c ss s _ (h.below HB0.out) hok hn hm).mono ?_
  rintro e w1 ⟨A', n', c', rfl, h1, hb⟩
  have HB1 := Lib.hid (HB0.out.trans (hb.mono HB0.out.size))
  have HY1 := Lib.hid (HY.out.below hb HY.out.lt)
  clear HB0 HY hb
  cases ho : outF ss s with
  | none =>
    have hr := Lib.hid ho
    have HY2 := Lib.hid (HY1.out.two (.slice none 0 0) (.int .i64 0))
    have z0 := HY1.out.cell 0
    have z1 := HY1.out.cell 1
    have q0 := HY1.out.free 0
    have q1 := HY1.out.free 1
    have hl := HY1.out.lt
    clear ho h1
    go_wp2_with fail
    try simp only [Exit.inBlock, Exit.then]
    have y0 := HY2.out.cell 0
    have y1 := HY2.out.cell 1
    refine bodyPost_ret (v := .tuple #[.agg #[.slice none 0 0, .int .i64 0], .bool false]) (by simp [results, Try.results13, go_sem, y0, y1]) rfl ?_
    exact wof_no hr.out ((HB1.out.setCell (Nat.le_refl _) _).setCell (Nat.le_refl _) _)
  | some l =>
    have hr := Lib.hid ho
    obtain ⟨hk, hn8⟩ := h1 l ho
    have HK := Lib.hid hk
    clear ho h1 hk
    go_wp2_with fail
    refine (spos_any s _ hm).mono ?_
    rintro e w2 ⟨rfl, hw⟩
    have hb : Below w1.heap.size w1 w2 := by rw [hw]; exact Below.refl _ _
    have HB2 := Lib.hid (HB1.out.trans (hb.mono HB1.out.size))
    have HY2 := Lib.hid (HY1.out.below hb HY1.out.lt)
    have HK2 := Lib.hid (HK.out.below hb)
    have z0 := HY2.out.cell 0
    have z1 := HY2.out.cell 1
    have q0 := HY2.out.free 0
    have q1 := HY2.out.free 1
    have hl := HY2.out.lt
    have HY3 := Lib.hid (HY2.out.two (.slice A' n' c') (.int .i64 (posW s)))
    have HK3 := Lib.hid ((HK2.out.setCell (k := 0) HY2.out (by decide) (.slice A' n' c')).setCell (k := 1) (HY2.out.put 0 (.slice A' n' c')) (by decide) (.int .i64 (posW s)))
    clear hb hw HY1 HK HB1
    go_wp2_with fail
    try simp only [Exit.inBlock, Exit.then]
    have y0 := HY3.out.cell 0
    have y1 := HY3.out.cell 1
    refine bodyPost_ret (v := .tuple #[.agg #[.slice A' n' c', .int .i64 (posW s)], .bool true]) (by simp [results, Try.results13, go_sem, y0, y1]) rfl ?_
    exact wof_yes hr.out HK3.out hn8 ((HB2.out.setCell (Nat.le_refl _) _).setCell (Nat.le_refl _) _)
end Go.Proofs.Ytjhalbmmlcbehaa
