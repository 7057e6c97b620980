/- Systems by the reference. -/
import Derived.Test.YtjhalbmmlcbehaaDi
import Derived.Test.YtjhalbmmlcbehaaOs
namespace Go.Proofs.Ytjhalbmmlcbehaa
open Go.RowKit Wr
set_option linter.unusedVariables false
set_option linter.unusedSimpArgs false

theorem one_list {s : ByteArray} (h : s.size = 1) (h0 : 0 < s.size) : s.data.toList = [s[0]'h0] := by
  have h0 := bytes_at s 0 h0
  have hl : s.data.toList.length = 1 := by simpa using h
  obtain ⟨a, ha⟩ := List.length_eq_one_iff.1 hl
  rw [ha] at h0 ⊢
  simpa using h0
theorem wok_one {s : ByteArray} (h : s.size = 1) (h0 : 0 < s.size) : wok s = lowB (s[0]'h0) := by
  unfold wok low
  have e1 : decide (1 ≤ s.size) = true := decide_eq_true (by omega)
  have e2 : decide (s.size ≤ 12) = true := decide_eq_true (by omega)
  rw [one_list h h0, e1, e2]
  simp
theorem sgn_no_size {x : Sgn} (h : ¬ x.letter.size = 1) : sgnOk x = false := by unfold sgnOk conso; simp [h]
theorem sgn_no_word {x : Sgn} (h : wok x.letter = false) : sgnOk x = false := by unfold sgnOk conso; simp [h]
theorem sgn_no_vowel {x : Sgn} (h1 : x.letter.size = 1) (h0 : 0 < x.letter.size) (h : vowel (x.letter[0]'h0) = true) : sgnOk x = false := by unfold sgnOk conso; rw [one_list h1 h0]; simp [h]
theorem sgn_no_stk {x : Sgn} (h : stkOk x.stk = false) : sgnOk x = false := by unfold sgnOk; simp [h]
theorem sgn_yes {x : Sgn} (h1 : x.letter.size = 1) (h0 : 0 < x.letter.size) (h2 : wok x.letter = true) (h3 : vowel (x.letter[0]'h0) = false) (h4 : stkOk x.stk = true) : sgnOk x = true := by unfold sgnOk conso; rw [one_list h1 h0]; simp [h1, h2, h3, h4]
theorem sys_no_len {ss : List Sgn} (h : ¬ ss.length ≤ 21) : sysOk ss = false := by unfold sysOk; rw [decide_eq_false h]; rfl
theorem sys_no {ss : List Sgn} {k : Nat} (h : sysChk [] (ss.take k) = false) : sysOk ss = false := by unfold sysOk; rw [sys_stop h]; simp
theorem sys_yes {ss : List Sgn} {n : Nat} (hn : ss.length = n) (h : sysChk [] (ss.take n) = true) : sysOk ss = decide (n ≤ 21) := by
  unfold sysOk
  rw [List.take_of_length_le (by omega)] at h
  rw [h, hn, Bool.and_true]
theorem stk_eq (a b : Stk) : (decide (a = b)) = ((a.dir == b.dir) && (a.size == b.size)) := by
  obtain ⟨d, z⟩ := a
  obtain ⟨d2, z2⟩ := b
  rw [Bool.eq_iff_iff]
  simp
theorem stk_of {a b : Stk} (h1 : a.dir = b.dir) (h2 : a.size = b.size) : a = b := by cases a; cases b; simp_all
abbrev gv (x : Sgn) : Array Value := #[.string x.letter, .int .i64 x.stk.dir, .int .i64 x.stk.size]
set_option maxRecDepth 8000 in
set_option maxHeartbeats 4000000 in
theorem ssys_any (A : Option Addr) (n c : Nat) (ss : List Sgn) (w : World) (h : Sgns w A n ss) (hok : ∀ x ∈ ss, OkG x) (hn : n ≤ 9223372036854775807) :
    Calls Try.prog 49 #[.slice A n c] w fun e w' => e = .returned (.bool (sysOk ss)) ∧ Below w.heap.size w w' := by
  have hlen := Lib.hid h.len
  go_enter Try.func49, Try.ntmps49
  go_wp2_with fail
  go_loopw [3] (fun iv wr => ∃ (k : Nat), k ≤ n ∧ iv = .int .i64 k ∧ Hid (sysChk [] (ss.take k) = true) ∧ Below w.heap.size w wr) (fun iv _ => n - (intOf iv).toNat)
  case atStart => exact ⟨0, Nat.zero_le _, rfl, Lib.hid rfl, Below.refl _ _⟩
  case round =>
    obtain ⟨k, hk, rfl, hC, hbel⟩ := hrel
    rename World => wo
    by_cases hlt : k < n
    · obtain ⟨b, off, x, rfl, hx, c0, c1, c2⟩ := Sgns.at3 (j := k) (h.below hbel) hlt
      have hgo := Lib.hid (sys_go hx)
      have hX := hok x (mem_at hx)
      have hz1 : x.letter.size ≤ 9223372036854775807 := hX.1
      have k1 : (0 : Int) ≤ (k : Int) := by omega
      have k2 : (k : Int) < (n : Int) := by omega
      have hY := Blk.new wo 89 (gv x)
      have d0 : (wo.alloc (.cells (gv x) 89)).cell? ⟨wo.heap.size, 0, none⟩ = some (.string x.letter) := hY.cell 0
      have d1 : (wo.alloc (.cells (gv x) 89)).cell? ⟨wo.heap.size, 1, none⟩ = some (.int .i64 x.stk.dir) := hY.cell 1
      have d2 : (wo.alloc (.cells (gv x) 89)).cell? ⟨wo.heap.size, 2, none⟩ = some (.int .i64 x.stk.size) := hY.cell 2
      have hb1 : Below w.heap.size w (wo.alloc (.cells (gv x) 89)) := hbel.alloc hbel.size _
      clear hX hx
      by_cases hs1 : x.letter.size = 1
      rotate_left
      · have hr := Lib.hid (sys_no (ss := ss) (k := k + 1) (by rw [hgo.out, sgn_no_size hs1]; simp))
        have g1 : ((x.letter.size : Int) != 1) = true := by simp; omega
        clear hs1 hY
        go_wp2_with fail
        go_ret
        exact ⟨ret_bool hr.out.symm, hb1⟩
      have g1 : ((x.letter.size : Int) != 1) = false := by simp; omega
      have g2 : (0 : Int) < (x.letter.size : Int) := by omega
      cases hw : wok x.letter with
      | false =>
        have hr := Lib.hid (sys_no (ss := ss) (k := k + 1) (by rw [hgo.out, sgn_no_word hw]; simp))
        have HW := Lib.hid hw
        clear hs1 hY hw
        go_wp2_with (first | (go_at_call 55; refine (sword_any x.letter _ hz1).mono ?_; rw [HW.out]; rintro e w' ⟨rfl, rfl⟩))
        go_ret
        exact ⟨ret_bool hr.out.symm, hb1⟩
      | true =>
      have HW := Lib.hid hw
      have hi0 : (0 : Nat) < x.letter.size := by omega
      cases hv : vowel (x.letter[0]'hi0) with
      | true =>
        have hr := Lib.hid (sys_no (ss := ss) (k := k + 1) (by rw [hgo.out, sgn_no_vowel hs1 hi0 hv]; simp))
        have HV := Lib.hid hv
        clear hs1 hY hw hv
        go_wp2_with (first | (go_at_call 55; refine (sword_any x.letter _ hz1).mono ?_; rw [HW.out]; rintro e w' ⟨rfl, rfl⟩) | (go_at_call 72; refine (svowel_any (x.letter[0]'hi0) _).mono ?_; rw [HV.out]; rintro e w' ⟨rfl, rfl⟩))
        go_ret
        exact ⟨ret_bool hr.out.symm, hb1⟩
      | false =>
      have HV := Lib.hid hv
      cases hq : stkOk x.stk with
      | false =>
        have hr := Lib.hid (sys_no (ss := ss) (k := k + 1) (by rw [hgo.out, sgn_no_stk hq]; simp))
        have HQ := Lib.hid hq
        clear hs1 hY hw hv hq
        go_wp2_with (first | (go_at_call 55; refine (sword_any x.letter _ hz1).mono ?_; rw [HW.out]; rintro e w' ⟨rfl, rfl⟩) | (go_at_call 72; refine (svowel_any (x.letter[0]'hi0) _).mono ?_; rw [HV.out]; rintro e w' ⟨rfl, rfl⟩) | (go_at_call 73; refine (sstroke_any x.stk _).mono ?_; rw [HQ.out]; rintro e w' ⟨rfl, hb2⟩))
        go_ret
        exact ⟨ret_bool hr.out.symm, hb1.trans (hb2.mono hb1.size)⟩
      | true =>
      have HQ := Lib.hid hq
      have HG := Lib.hid (sgn_yes hs1 hi0 hw hv hq)
      clear hs1 hw hv hq
      go_wp2_with (first | (go_at_call 55; refine (sword_any x.letter _ hz1).mono ?_; rw [HW.out]; rintro e w' ⟨rfl, rfl⟩) | (go_at_call 72; refine (svowel_any (x.letter[0]'hi0) _).mono ?_; rw [HV.out]; rintro e w' ⟨rfl, rfl⟩) | (go_at_call 73; refine (sstroke_any x.stk _).mono ?_; rw [HQ.out]; rintro e w' ⟨rfl, hb2⟩))
      have hb3 := hb1.trans (hb2.mono hb1.size)
      have hY2 := hY.below hb2 hY.lt
      clear d0 d1 d2 c0 c1 c2 hb1 hY hbel
      have HB3 := Lib.hid hb3
      have HY2 := Lib.hid hY2
      clear hb2 hb3 hY2
      go_loopw [5] (fun iv wq => ∃ (j : Nat), j ≤ k ∧ iv = .int .i64 j ∧ Hid ((ss.take j).any (meets x) = false) ∧ Below w.heap.size w wq ∧ Blk wq wo.heap.size 89 (gv x)) (fun iv _ => n - (intOf iv).toNat)
      case atStart => exact ⟨0, Nat.zero_le _, rfl, Lib.hid rfl, HB3.out, HY2.out⟩
      case round =>
        clear HB3 HY2
        obtain ⟨j, hj, rfl, hD, hbel, hY⟩ := hrel
        by_cases hjk : j < k
        · obtain ⟨b', off', y, he, hy, e0, e1, e2⟩ := Sgns.at3 (j := j) (h.below hbel) (by omega)
          obtain ⟨rfl, rfl⟩ : b = b' ∧ off = off' := by injection he with he; injection he with e1 e2; exact ⟨e1, e2⟩
          have hsn := Lib.hid (take_snoc hy)
          have hmm := Lib.hid (mem_at (show (ss.take k)[j]? = some y by rw [List.getElem?_take_of_lt hjk]; exact hy))
          have j1 : (0 : Int) ≤ (j : Int) := by omega
          have j2 : (j : Int) < (n : Int) := by omega
          have j3 : (j : Int) < (k : Int) := by omega
          have d0 : wr.cell? ⟨wo.heap.size, 0, none⟩ = some (.string x.letter) := hY.cell 0
          have d1 : wr.cell? ⟨wo.heap.size, 1, none⟩ = some (.int .i64 x.stk.dir) := hY.cell 1
          have d2 : wr.cell? ⟨wo.heap.size, 2, none⟩ = some (.int .i64 x.stk.size) := hY.cell 2
          have HYq := Lib.hid hY
          clear he hy hY
          have hxl := bytes_eq y.letter x.letter
          have hxs := stk_eq y.stk x.stk
          by_cases hxy : y.letter = x.letter
          · have hb : (y.letter.toList == x.letter.toList) = true := by rw [hxl]; exact decide_eq_true hxy
            have hr := Lib.hid (sys_no (ss := ss) (k := k + 1) (by rw [hgo.out, show (ss.take k).any (meets x) = true from List.any_eq_true.2 ⟨y, hmm.out, by unfold meets; rw [decide_eq_true hxy.symm]; rfl⟩]; simp))
            clear hxy hxl hxs
            go_wp2_with fail
            go_quiet (fail)
            go_wp2_with fail
            go_ret
            exact ⟨ret_bool hr.out.symm, below_drewN hbel nq⟩
          · have hb : (y.letter.toList == x.letter.toList) = false := by rw [hxl]; exact decide_eq_false hxy
            have good : ¬ y.stk = x.stk → Hid ((ss.take (j + 1)).any (meets x) = false) := fun hne => Lib.hid (by
              rw [hsn.out, List.any_append, hD.out]
              simp only [Bool.false_or, List.any_cons, List.any_nil, Bool.or_false]
              unfold meets
              rw [decide_eq_false (fun e => hxy e.symm), decide_eq_false (fun e => hne e.symm)]
              rfl)
            by_cases hd : y.stk.dir = x.stk.dir
            · by_cases hz : y.stk.size = x.stk.size
              · have hr := Lib.hid (sys_no (ss := ss) (k := k + 1) (by rw [hgo.out, show (ss.take k).any (meets x) = true from List.any_eq_true.2 ⟨y, hmm.out, by unfold meets; rw [decide_eq_true (stk_of hd.symm hz.symm)]; simp⟩]; simp))
                clear hxy hxl hxs good
                go_wp2_with fail
                go_quiet (fail)
                go_wp2_with fail
                go_ret
                exact ⟨ret_bool hr.out.symm, below_drewN hbel nq⟩
              · have hN := good (fun e => hz (by rw [e]))
                clear hxy hxl hxs good
                go_wp2_with fail
                go_quiet (fail)
                go_wp2_with fail
                go_roundw
                case rel => exact ⟨j + 1, by omega, by go_num, hN, below_drewN hbel nq, HYq.out.drewN nq⟩
                case measure => simp [intOf]; omega
            · have hN := good (fun e => hd (by rw [e]))
              clear hxy hxl hxs good
              go_wp2_with fail
              go_quiet (fail)
              go_wp2_with fail
              go_roundw
              case rel => exact ⟨j + 1, by omega, by go_num, hN, below_drewN hbel nq, HYq.out.drewN nq⟩
              case measure => simp [intOf]; omega
        · obtain rfl : j = k := by omega
          have hN : Hid (sysChk [] (ss.take (j + 1)) = true) := Lib.hid (by rw [hgo.out, hC.out, HG.out, hD.out]; rfl)
          go_wp2_with fail
          go_roundw
          case rel => exact ⟨j + 1, by omega, by go_num, hN, hbel⟩
          case measure => simp [intOf]; omega
    · obtain rfl : k = n := by omega
      have hr := Lib.hid (sys_yes hlen.out hC.out)
      go_wp2_with fail
      go_ret
      exact ⟨ret_bool (by rw [hr.out]; exact decide_eq_decide.2 (by omega)), hbel⟩
end Go.Proofs.Ytjhalbmmlcbehaa
