/- MarksMake of the reference. -/
import Derived.Test.YtjhlcgjhdiheaaaMk1
namespace Go.Proofs.Ytjhlcgjhdiheaaa
open Go.RowKit
set_option linter.unusedVariables false
set_option linter.unusedSimpArgs false

theorem openM_one (P g : Nat) (y : ByteArray) : Mk.openM P g 0 ([] ++ [y]) = [⟨((P + g : Nat) : Int), 0, [] ++ [y]⟩] := rfl
set_option maxRecDepth 20000 in
set_option maxHeartbeats 16000000 in
theorem smake_any (A B : Option Addr) (n c0 m d : Nat) (a b : List ByteArray) (w : World) (hn : n ≤ 9223372036854775807) (hm : m ≤ 9223372036854775807) (h : Strs w A n a) (kb : Strs w B m b) :
    Calls Try.prog 63 #[.slice A n c0, .slice B m d] w (MrkPost w (makeF a b)) := by
  have ha := Lib.hid h.len
  have hb := Lib.hid kb.len
  have b0 : Below w.heap.size w (w.alloc (.cells #[] 58)) := (Below.refl _ _).alloc (Nat.le_refl _) _
  have hE0 := own_emptyM w w.heap.size (Nat.le_refl _)
  cases h1 : speak a with
  | false =>
    have hr := Lib.hid (makeF_no (a := a) (b := b) (by rw [h1]; rfl))
    have H1 := Lib.hid h1
    clear h1
    go_enter Try.func63, Try.ntmps63
    go_wp2_with fail
    refine (sspeech_any A n c0 a _ hn (h.below b0)).mono ?_
    rw [H1.out]
    rintro e w' ⟨rfl, rfl⟩
    go_wp2_with fail
    go_ret2
    exact MrkPost.empty hr.out hE0 (Nat.le_refl _) b0
  | true =>
    cases h2 : speak b with
    | false =>
      have hr := Lib.hid (makeF_no (a := a) (b := b) (by rw [h1, h2]; rfl))
      have H1 := Lib.hid h1
      have H2 := Lib.hid h2
      clear h1 h2
      go_enter Try.func63, Try.ntmps63
      go_wp2_with fail
      refine (sspeech_any A n c0 a _ hn (h.below b0)).mono ?_
      rw [H1.out]
      rintro e w' ⟨rfl, rfl⟩
      go_wp2_with fail
      refine (sspeech_any B m d b _ hm (kb.below b0)).mono ?_
      rw [H2.out]
      rintro e w' ⟨rfl, rfl⟩
      go_wp2_with fail
      go_ret2
      exact MrkPost.empty hr.out hE0 (Nat.le_refl _) b0
    | true =>
      have hr := Lib.hid (makeF_yes h1 h2)
      have hn2 : n ≤ 20 := by have := speak_len h1; rw [ha.out] at this; exact this
      have hm2 : m ≤ 20 := by have := speak_len h2; rw [hb.out] at this; exact this
      have H1 := Lib.hid h1
      have H2 := Lib.hid h2
      clear h1 h2
      go_enter Try.func63, Try.ntmps63
      go_wp2_with fail
      refine (sspeech_any A n c0 a _ hn (h.below b0)).mono ?_
      rw [H1.out]
      rintro e w' ⟨rfl, rfl⟩
      go_wp2_with fail
      refine (sspeech_any B m d b _ hm (kb.below b0)).mono ?_
      rw [H2.out]
      rintro e w' ⟨rfl, rfl⟩
      go_wp2_with fail
      refine (stable_any A B n c0 m d a b _ hn2 hm2 (h.below b0) (kb.below b0)).mono ?_
      rintro e W ⟨G, R, cs, rfl, hT, hb1⟩
      have hbW := b0.trans (hb1.mono b0.size)
      have hE := hE0.below hb1
      obtain ⟨lo, hlo⟩ : ∃ l, (w.alloc (.cells #[] 58)).heap.size = l := ⟨_, rfl⟩
      rw [hlo] at hT
      have hWay := Lib.hid (Mk.way_start a b)
      clear hE0 b0 hb1 hlo
      go_wp2_with fail
      go_loopw [6, 8, 9, 10] (fun out iv kv ov wr => ∃ (i k P g c K hi : Nat) (p : List ByteArray) (ms : List M) (A' : Option Addr) (c' : Nat), i ≤ n ∧ k ≤ m ∧ K ≤ i + k ∧ iv = .int .i64 i ∧ kv = .int .i64 k ∧ (∃ ob : Bool, ov = .bool ob ∧ Hid (ob = decide (0 < c + p.length))) ∧ out = .slice A' K c' ∧ OwnM wr w.heap.size hi A' K c' (ms ++ Mk.openM P g c p) ∧ Hid (Mk.Way a b ms P g c p i k) ∧ Tab wr lo G n m 0 a b R cs ∧ w.heap.size ≤ hi ∧ Below w.heap.size w wr) (fun _ iv kv _ _ => n + m - (intOf iv).toNat - (intOf kv).toNat)
      case atStart => exact ⟨0, 0, 0, 0, 0, 0, w.heap.size + 1, [], [], some ⟨w.heap.size, 0, none⟩, 0, Nat.zero_le _, Nat.zero_le _, Nat.le_refl _, rfl, rfl, ⟨false, rfl, Lib.hid (by simp)⟩, rfl, hE, hWay, hT, by omega, hbW⟩
      case round =>
        clear hE hT hWay hbW
        obtain ⟨i, k, P, g, c, K, hi, p, ms, A', c', hin, hkm, hK, rfl, rfl, ⟨ob, rfl, hOb⟩, rfl, hO, hWay, hT, hhi, hbel⟩ := hrel
        have hA := h.below hbel
        have hB := kb.below hbel
        by_cases hend : i = n ∧ k = m
        · have he := Mk.way_end hWay.out (by rw [ha.out]; omega) (by rw [hb.out]; omega)
          rw [← he] at hO
          have HO := Lib.hid hO
          have e1 : decide ((i : Int) < (n : Int)) = false := by simp; omega
          have e2 : decide ((k : Int) < (m : Int)) = false := by simp; omega
          have e3 : decide (i < n) = false := by simp; omega
          have e4 : decide (k < m) = false := by simp; omega
          clear he hO hend
          go_wp2_with fail
          go_ret2
          exact MrkPost.some_ hr.out (HO.out.wide (Nat.le_refl _) HO.out.top (Nat.le_refl _)) hbel
        · by_cases hlt1 : i < n
          · obtain ⟨ab, ao, x, rfl, hx, hxs, cx0⟩ := hA.at_ hlt1
            by_cases hlt2 : k < m
            · obtain ⟨bb, bo, y, rfl, hy, hys, cy0⟩ := hB.at_ hlt2
              by_cases hxy : x = y
              · have hkeep : i < n ∧ k < m := ⟨hlt1, hlt2⟩
                have e1 : decide ((i : Int) < (n : Int)) = true := by simp; omega
                have e2 : decide ((k : Int) < (m : Int)) = true := by simp; omega
                have e3 : (x.toList == y.toList) = true := by rw [bytes_eq]; simp [hxy]
                obtain ⟨P', g', hPg, hW'⟩ := Mk.way_keep hWay.out (x := x) hx (by rw [hxy]; exact hy)
                have HW := Lib.hid hW'
                have HO := Lib.hid (show OwnM wr w.heap.size hi A' K c' ((ms ++ Mk.openM P g c p) ++ Mk.openM P' g' 0 []) by rw [openM_none, List.append_nil]; exact hO)
                clear hx hy hxy hWay hO hPg hW' hkeep
                go_wp2_with fail
                go_quiet (fail)
                go_wp2_with fail
                go_roundw
                case rel => exact ⟨i + 1, k + 1, P', g', 0, K, hi, [], ms ++ Mk.openM P g c p, A', c', by omega, by omega, by omega, by go_num, by go_num, ⟨false, rfl, Lib.hid (by simp)⟩, rfl, HO.out.drewN _, HW, hT.grown (only_drewN (World.grownBy.refl _ Option.none) _) (Alien.none _), hhi, below_drewN hbel _⟩
                case measure => simp [intOf]; omega
              · have hne : ∀ z, a[i]? = some z → b[k]? ≠ some z := by intro z h1 h2; rw [hx] at h1; rw [hy] at h2; injection h1 with h1; injection h2 with h2; exact hxy (h1.trans h2.symm)
                have e3 : (x.toList == y.toList) = false := by rw [bytes_eq]; simp [hxy]
                clear hx hy hxy
                by_cases hc1 : 1 + V a b (i + 1) k = V a b i k
                · have hf : Mk.farAt a b (i + 1) k < Mk.farAt a b i k := (Mk.far_less a b i k (by rw [ha.out]; omega)).2 (by have := hc1; rw [V_farAt, V_farAt] at this; omega)
                  have hcut : (1 + V a b (i + 1) k == V a b i k) = true := by simp [hc1]
                  clear hc1
                  have e1 : decide ((i : Int) < (n : Int)) = true := by simp; omega
                  have e2 : decide ((k : Int) < (m : Int)) = true := by simp; omega
                  have hW' := Mk.way_cut hWay.out (by rw [ha.out]; omega) hne hf
                  have HW := Lib.hid hW'
                  clear hW'
                  have hPg := Lib.hid hWay.out.2.1
                  have hci : c ≤ i := by have := hPg.out; omega
                  have hpk : p.length ≤ k := hWay.out.2.2.2.2.1
                  clear hne hf hWay
                  cases ob with
                  | true =>
                    have hob : 0 < c + p.length := by have := hOb.out; simpa using this
                    rw [openM_some hob] at hO
                    obtain ⟨q, hq⟩ : ∃ q, Hid (ms.length = q) := ⟨_, rfl⟩
                    obtain rfl : K = q + 1 := by have := hO.len; have := hq.out; simp at *; omega
                    clear hOb
                    go_wp2_with fail
                    go_quiet (fail)
                    have hbz := below_drewN hbel nq
                    have hLz := hO.drewN nq
                    have hTz := hT.grown (only_drewN (World.grownBy.refl wr Option.none) nq) (Alien.none _)
                    clear hO hT hbel hA hB
                    generalize wr.drewN nq = Wz at *
                    go_wp2_with fail
                    obtain ⟨t1, t2⟩ := hTz.cells (i := i + 1) (j := k) (by omega) hkm
                    obtain ⟨t3, t4⟩ := hTz.cells (i := i) (j := k) hin hkm
                    obtain ⟨ps, hMp⟩ := hLz
                    obtain ⟨g0, m1, p1, rfl, g1, g2, hm1, hp1, i1, i2, i3, ne, z0, z1, z2, f0, f1, f2⟩ := hMp.get (k := q) (by omega)
                    have hm1' := hm1
                    rw [← hq.out, get_last] at hm1'
                    injection hm1' with hm1'
                    subst hm1'
                    have hM := Lib.hid hMp
                    have hp1' := Lib.hid hp1
                    have hm1' := Lib.hid hm1
                    have hi3 := Lib.hid i3
                    have hne0 := Lib.hid ne
                    have TZ := Lib.hid hTz
                    have u1 : IntKind.i64.wrap ((q : Int) + 1 - 1) = (q : Int) := by rw [show (q : Int) + 1 - 1 = (q : Int) by omega]; exact IntWalk.i64_in _ (by omega)
                    have u2 : ((q : Int) + 1 - 1) = (q : Int) := by omega
                    have u3 : (((q + 1 : Nat) : Int) - 1) = (q : Int) := by omega
                    have j1 : (0 : Int) ≤ (q : Int) := by omega
                    have j2 : (q : Int) < ((q + 1 : Nat) : Int) := by omega
                    have j3 : (q : Int) < (q : Int) + 1 := by omega
                    have j4 := hMp.own.cap_le
                    have hl58 := g1
                    clear hMp hm1 hp1 i3 ne hTz i1 i2
                    have v1 := V_bound (i := i + 1) (j := k) ha.out hb.out
                    have v2 := V_bound (i := i) (j := k) ha.out hb.out
                    have u4 : IntKind.i64.wrap (1 + V a b (i + 1) k) = 1 + V a b (i + 1) k := IntWalk.i64_in _ (by omega)
                    have e5 : (1 + V a b (i + 1) k == V a b i k) = true := hcut
                    clear hcut
                    obtain ⟨v1a, v1b⟩ := v1
                    obtain ⟨v2a, v2b⟩ := v2
                    generalize V a b (i + 1) k = va at *
                    generalize V a b i k = vb at *
                    go_wp2_with fail
                    go_quiet (fail)
                    have u5 : IntKind.i64.wrap ((c : Int) + 1) = (c : Int) + 1 := IntWalk.i64_in _ (by omega)
                    go_wp2_with fail
                    have hs := hM.out.setCut (k := q) (x := ((c + 1 : Nat) : Int)) hm1'.out (by unfold I64; omega)
                    rw [← hq.out, set_last, hq.out] at hs
                    have ho9 := hs.own
                    dsimp only at ho9
                    rw [← openM_some (P := P) (g := g) (c := c + 1) (p := p) (by omega)] at ho9
                    have hg9 := grown_setCell Wz g0 (q * 3 + 1) (.int .i64 ((c + 1 : Nat) : Int))
                    have hT9 := TZ.out.grown hg9 (OwnM.alien hM.out.own)
                    have hb9 : Below w.heap.size w (Wz.setCell ⟨g0, q * 3 + 1, none⟩ (.int .i64 ((c + 1 : Nat) : Int))) := hbz.setCell (p := ⟨g0, q * 3 + 1, none⟩) g1 _
                    go_roundw
                    case rel => exact ⟨i + 1, k, P, g, c + 1, q + 1, hi, p, ms, some ⟨g0, 0, none⟩, _, by omega, by omega, by omega, by go_num, rfl, ⟨true, rfl, Lib.hid (by first | (simp; done) | (simp; omega))⟩, rfl, (show OwnM ((Wz.setCell _ _).drewN _) _ _ _ _ _ _ from ho9), HW, hT9.grown (only_drewN (World.grownBy.refl _ Option.none) _) (Alien.none _), by omega, below_drewN hb9 _⟩
                    case measure => simp [intOf]; omega
                  | false =>
                    have hcp : c = 0 ∧ p = [] := by
                      have := hOb.out
                      simp at this
                      exact ⟨this.1, this.2⟩
                    obtain ⟨rfl, rfl⟩ := hcp
                    rw [openM_none, List.append_nil] at hO
                    obtain ⟨q, hq⟩ : ∃ q, Hid (ms.length = q) := ⟨_, rfl⟩
                    obtain rfl : q = K := by have := hO.len; have := hq.out; omega
                    clear hOb
                    go_wp2_with fail
                    go_quiet (fail)
                    have hbq := below_drewN hbel nq
                    have hOq := hO.drewN nq
                    have hTq := hT.grown (only_drewN (World.grownBy.refl wr Option.none) nq) (Alien.none _)
                    clear hO hT hbel hA hB
                    generalize wr.drewN nq = Wq at *
                    have htop := hOq.top
                    have hgi : ((P + g : Nat) : Int) = (i : Int) := by have := hPg.out; omega
                    have E1 := own_emptyS Wq Wq.heap.size (Nat.le_refl _)
                    have O1 := Lib.hid ((hOq.alloc (.cells #[] 9)).alloc (.cells #[.int .i64 (i : Int), .int .i64 0, .slice (some ⟨Wq.heap.size, 0, none⟩) 0 0] 58))
                    have P1 := Lib.hid ((E1.alloc (.cells #[.int .i64 (i : Int), .int .i64 0, .slice (some ⟨Wq.heap.size, 0, none⟩) 0 0] 58)).wide (lo' := hi) htop (Nat.le_refl _) (by simp))
                    have I1 : Hid (I64 (i : Int)) := Lib.hid (by unfold I64; omega)
                    have I2 : Hid (I64 0) := Lib.hid (by unfold I64; omega)
                    have hsz : (Wq.alloc (.cells #[] 9)).heap.size = Wq.heap.size + 1 := by simp
                    have hTa := Lib.hid ((hTq.grown (World.grownBy_alloc _ (.cells #[] 9) Option.none) (Alien.none _)).grown (World.grownBy_alloc _ (.cells #[.int .i64 (i : Int), .int .i64 0, .slice (some ⟨Wq.heap.size, 0, none⟩) 0 0] 58) Option.none) (Alien.none _))
                    have hAl := Lib.hid (OwnM.alien O1.out)
                    have hba := Lib.hid ((hbq.alloc hbq.size (.cells #[] 9)).alloc (hbq.alloc hbq.size (.cells #[] 9)).size (.cells #[.int .i64 (i : Int), .int .i64 0, .slice (some ⟨Wq.heap.size, 0, none⟩) 0 0] 58))
                    have hlo := Lib.hid hOq.lo_le
                    clear E1 hOq hTq
                    go_wp2_with (at_builtin; go_must (refine wpList_pushM _ rfl (.tmp 62) (.tmp 66) rfl w.heap.size hi A' q c' ms rfl O1.out ⟨(i : Int), 0, []⟩ ⟨some ⟨Wq.heap.size, 0, none⟩, 0, 0⟩ (Wq.heap.size + 1) (Wq.heap.size + 1) rfl I1.out I2.out P1.out (new_cell _ 58 #[.int .i64 (i : Int), .int .i64 0, .slice (some ⟨Wq.heap.size, 0, none⟩) 0 0] hsz 0) (new_cell _ 58 #[.int .i64 (i : Int), .int .i64 0, .slice (some ⟨Wq.heap.size, 0, none⟩) 0 0] hsz 1) (new_cell _ 58 #[.int .i64 (i : Int), .int .i64 0, .slice (some ⟨Wq.heap.size, 0, none⟩) 0 0] hsz 2) (by omega) hhi ?_); intro A3 c3 Wz o3 g3; have hTz := hTa.out.grown g3 hAl.out; have hbz := below_cat hba.out g3 (fun a ha => (hlo.out a ha).1); rw [← hgi] at o3; have hLz := o3; clear o3 g3 hTa hAl hba O1 P1)
                    obtain ⟨t1, t2⟩ := hTz.cells (i := i + 1) (j := k) (by omega) hkm
                    obtain ⟨t3, t4⟩ := hTz.cells (i := i) (j := k) hin hkm
                    obtain ⟨ps, hMp⟩ := hLz
                    obtain ⟨g0, m1, p1, rfl, g1, g2, hm1, hp1, i1, i2, i3, ne, z0, z1, z2, f0, f1, f2⟩ := hMp.get (k := q) (by omega)
                    have hm1' := hm1
                    rw [← hq.out, get_last] at hm1'
                    injection hm1' with hm1'
                    subst hm1'
                    have hM := Lib.hid hMp
                    have hp1' := Lib.hid hp1
                    have hm1' := Lib.hid hm1
                    have hi3 := Lib.hid i3
                    have hne0 := Lib.hid ne
                    have TZ := Lib.hid hTz
                    have u1 : IntKind.i64.wrap ((q : Int) + 1 - 1) = (q : Int) := by rw [show (q : Int) + 1 - 1 = (q : Int) by omega]; exact IntWalk.i64_in _ (by omega)
                    have u2 : ((q : Int) + 1 - 1) = (q : Int) := by omega
                    have u3 : (((q + 1 : Nat) : Int) - 1) = (q : Int) := by omega
                    have j1 : (0 : Int) ≤ (q : Int) := by omega
                    have j2 : (q : Int) < ((q + 1 : Nat) : Int) := by omega
                    have j3 : (q : Int) < (q : Int) + 1 := by omega
                    have j4 := hMp.own.cap_le
                    have hl58 := g1
                    clear hMp hm1 hp1 i3 ne hTz i1 i2
                    have v1 := V_bound (i := i + 1) (j := k) ha.out hb.out
                    have v2 := V_bound (i := i) (j := k) ha.out hb.out
                    have u4 : IntKind.i64.wrap (1 + V a b (i + 1) k) = 1 + V a b (i + 1) k := IntWalk.i64_in _ (by omega)
                    have e5 : (1 + V a b (i + 1) k == V a b i k) = true := hcut
                    clear hcut
                    obtain ⟨v1a, v1b⟩ := v1
                    obtain ⟨v2a, v2b⟩ := v2
                    generalize V a b (i + 1) k = va at *
                    generalize V a b i k = vb at *
                    go_wp2_with fail
                    go_quiet (fail)
                    have u5 : IntKind.i64.wrap (((0 : Nat) : Int) + 1) = ((0 : Nat) : Int) + 1 := IntWalk.i64_in _ (by omega)
                    go_wp2_with fail
                    have hs := hM.out.setCut (k := q) (x := ((0 + 1 : Nat) : Int)) hm1'.out (by unfold I64; omega)
                    rw [← hq.out, set_last, hq.out] at hs
                    have ho9 := hs.own
                    dsimp only at ho9
                    rw [← openM_some (P := P) (g := g) (c := 0 + 1) (p := []) (by omega)] at ho9
                    have hg9 := grown_setCell Wz g0 (q * 3 + 1) (.int .i64 ((0 + 1 : Nat) : Int))
                    have hT9 := TZ.out.grown hg9 (OwnM.alien hM.out.own)
                    have hb9 : Below w.heap.size w (Wz.setCell ⟨g0, q * 3 + 1, none⟩ (.int .i64 ((0 + 1 : Nat) : Int))) := hbz.setCell (p := ⟨g0, q * 3 + 1, none⟩) g1 _
                    go_roundw
                    case rel => exact ⟨i + 1, k, P, g, 0 + 1, q + 1, Wz.heap.size, [], ms, some ⟨g0, 0, none⟩, _, by omega, by omega, by omega, by go_num, rfl, ⟨true, rfl, Lib.hid (by first | (simp; done) | (simp; omega))⟩, rfl, (show OwnM ((Wz.setCell _ _).drewN _) _ _ _ _ _ _ from ho9), HW, hT9.grown (only_drewN (World.grownBy.refl _ Option.none) _) (Alien.none _), by omega, below_drewN hb9 _⟩
                    case measure => simp [intOf]; omega
                · have hf : ¬ (i < a.length ∧ Mk.farAt a b (i + 1) k < Mk.farAt a b i k) := fun h => hc1 (by have := (Mk.far_less a b i k h.1).1 h.2; rw [V_farAt, V_farAt]; omega)
                  have hcut : (1 + V a b (i + 1) k == V a b i k) = false := by simp [hc1]
                  clear hc1
                  have e1 : decide ((i : Int) < (n : Int)) = true := by simp; omega
                  have e2 : decide ((k : Int) < (m : Int)) = true := by simp; omega
                  obtain ⟨y9, hy9, hW'⟩ := Mk.way_put hWay.out (by rw [ha.out, hb.out]; omega) hne hf
                  have HW := Lib.hid hW'
                  have HY9 := Lib.hid hy9
                  clear hW' hy9
                  have hPg := Lib.hid hWay.out.2.1
                  have hci : c ≤ i := by have := hPg.out; omega
                  have hpk : p.length ≤ k := hWay.out.2.2.2.2.1
                  clear hne hf hWay
                  cases ob with
                  | true =>
                    have hob : 0 < c + p.length := by have := hOb.out; simpa using this
                    rw [openM_some hob] at hO
                    obtain ⟨q, hq⟩ : ∃ q, Hid (ms.length = q) := ⟨_, rfl⟩
                    obtain rfl : K = q + 1 := by have := hO.len; have := hq.out; simp at *; omega
                    clear hOb
                    go_wp2_with fail
                    go_quiet (fail)
                    have hbz := below_drewN hbel nq
                    have hLz := hO.drewN nq
                    have hTz := hT.grown (only_drewN (World.grownBy.refl wr Option.none) nq) (Alien.none _)
                    clear hO hT hbel hA hB
                    generalize wr.drewN nq = Wz at *
                    go_wp2_with fail
                    obtain ⟨t1, t2⟩ := hTz.cells (i := i + 1) (j := k) (by omega) hkm
                    obtain ⟨t3, t4⟩ := hTz.cells (i := i) (j := k) hin hkm
                    obtain ⟨ps, hMp⟩ := hLz
                    obtain ⟨g0, m1, p1, rfl, g1, g2, hm1, hp1, i1, i2, i3, ne, z0, z1, z2, f0, f1, f2⟩ := hMp.get (k := q) (by omega)
                    have hm1' := hm1
                    rw [← hq.out, get_last] at hm1'
                    injection hm1' with hm1'
                    subst hm1'
                    have hM := Lib.hid hMp
                    have hp1' := Lib.hid hp1
                    have hm1' := Lib.hid hm1
                    have hi3 := Lib.hid i3
                    have hne0 := Lib.hid ne
                    have TZ := Lib.hid hTz
                    have u1 : IntKind.i64.wrap ((q : Int) + 1 - 1) = (q : Int) := by rw [show (q : Int) + 1 - 1 = (q : Int) by omega]; exact IntWalk.i64_in _ (by omega)
                    have u2 : ((q : Int) + 1 - 1) = (q : Int) := by omega
                    have u3 : (((q + 1 : Nat) : Int) - 1) = (q : Int) := by omega
                    have j1 : (0 : Int) ≤ (q : Int) := by omega
                    have j2 : (q : Int) < ((q + 1 : Nat) : Int) := by omega
                    have j3 : (q : Int) < (q : Int) + 1 := by omega
                    have j4 := hMp.own.cap_le
                    have hl58 := g1
                    clear hMp hm1 hp1 i3 ne hTz i1 i2
                    have v1 := V_bound (i := i + 1) (j := k) ha.out hb.out
                    have v2 := V_bound (i := i) (j := k) ha.out hb.out
                    have u4 : IntKind.i64.wrap (1 + V a b (i + 1) k) = 1 + V a b (i + 1) k := IntWalk.i64_in _ (by omega)
                    have e5 : (1 + V a b (i + 1) k == V a b i k) = false := hcut
                    clear hcut
                    obtain ⟨v1a, v1b⟩ := v1
                    obtain ⟨v2a, v2b⟩ := v2
                    generalize V a b (i + 1) k = va at *
                    generalize V a b i k = vb at *
                    go_wp2_with fail
                    go_quiet (fail)
                    obtain ⟨b9, o9, yy, hB9, hy9, hs9, cy9⟩ := (kb.below hbz).at_ (k := k) (by omega)
                    injection hB9 with hB9
                    injection hB9 with eb9 eo9
                    subst eb9 eo9
                    obtain rfl : yy = y9 := by have := HY9.out; rw [hy9] at this; injection this
                    clear hy9
                    have hX := Lib.hid (hM.out.drewN (nq + 1))
                    have hPX := Lib.hid (hi3.out.drewN (nq + 1))
                    have hTX := Lib.hid (TZ.out.drewN (nq + 1))
                    have hbX := Lib.hid (below_drewN hbz (nq + 1))
                    have hpl : p1.n ≤ 20 := by have := hi3.out.len; omega
                    have lz2 : g0 < Wz.heap.size := lt_of_cell z2
                    have lcy := lt_of_cell cy9
                    have bAl : Below (Wz.drewN (nq + 1)).heap.size (Wz.drewN (nq + 1)) ((Wz.drewN (nq + 1)).alloc (.cells #[.string yy] 9)) := (Below.refl _ _).alloc (Nat.le_refl _) _
                    have zA := (bAl.cell (p := ⟨g0, q * 3 + 2, none⟩) lz2).trans z2
                    have yA := (bAl.cell lcy).trans cy9
                    clear bAl
                    have k1 : (0 : Int) ≤ (k : Int) := by omega
                    have k2 : (k : Int) < (m : Int) := by omega
                    clear t1 t2 t3 t4 hM TZ hi3 hne0
                    go_wp2_with fail
                    go_region_law (refine step_pushS rfl (.tmp 112) (.tmp 117) rfl w.heap.size hi p1.a p1.n p1.c p (by simp [Act.eval, Act.put]) (hPX.out.alloc (.cells #[.string yy] 9)) yy (Wz.drewN (nq + 1)).heap.size (by simp [Act.eval, Act.put]) hs9 (new_cell _ 9 #[.string yy] rfl 0) (by omega) (by simp; have := hbz.size; omega) ?_; intro g5 c5 w5 o5 gr5 at5; obtain ⟨f5, ⟨v5, z5⟩, m5, al5⟩ := (OwnMp.alloc hX.out (.cells #[.string yy] 9)).pushPut (q := q) (by omega) hm1'.out hp1'.out gr5 o5 at5)
                    all_goals
                      have hs := m5
                      rw [← hq.out, set_last, hq.out] at hs
                      have ho9 := hs.own
                      dsimp only at ho9
                      rw [← openM_some (P := P) (g := g) (c := c) (p := p ++ [yy]) (by simp; omega)] at ho9
                      have hT9 := ((hTX.out.grown (World.grownBy_alloc _ (.cells #[.string yy] 9) Option.none) (Alien.none _)).grown gr5 (OwnS.alien (hPX.out.alloc (.cells #[.string yy] 9)))).grown (grown_setCell w5 g0 (q * 3 + 2) (.slice (some ⟨g5, 0, none⟩) (p1.n + 1) c5)) al5
                      have hb8 := (hbX.out.alloc hbX.out.size (.cells #[.string yy] 9)).grown gr5 (hbX.out.alloc hbX.out.size (.cells #[.string yy] 9)).size (fun g' e => by
                        cases hpa : p1.a with
                        | none => rw [hpa] at e; cases e
                        | some a' =>
                          rw [hpa] at e
                          have e : a'.block = g' := by injection e
                          have := (hPX.out.lo_le a' hpa).1
                          omega)
                      have hb9 := hb8.setCell (p := ⟨g0, q * 3 + 2, none⟩) g1 (.slice (some ⟨g5, 0, none⟩) (p1.n + 1) c5)
                      have hs9 := hb8.size
                      go_wp2_with fail
                      go_roundw
                      case rel => exact ⟨i, k + 1, P, g, c, q + 1, w5.heap.size, p ++ [yy], ms, some ⟨g0, 0, none⟩, _, by omega, by omega, by omega, rfl, by go_num, ⟨true, rfl, Lib.hid (by first | (simp; done) | (simp; omega))⟩, rfl, ho9, HW, hT9, by omega, hb9⟩
                      case measure => simp [intOf]; omega
                  | false =>
                    have hcp : c = 0 ∧ p = [] := by
                      have := hOb.out
                      simp at this
                      exact ⟨this.1, this.2⟩
                    obtain ⟨rfl, rfl⟩ := hcp
                    rw [openM_none, List.append_nil] at hO
                    obtain ⟨q, hq⟩ : ∃ q, Hid (ms.length = q) := ⟨_, rfl⟩
                    obtain rfl : q = K := by have := hO.len; have := hq.out; omega
                    clear hOb
                    go_wp2_with fail
                    go_quiet (fail)
                    have hbq := below_drewN hbel nq
                    have hOq := hO.drewN nq
                    have hTq := hT.grown (only_drewN (World.grownBy.refl wr Option.none) nq) (Alien.none _)
                    clear hO hT hbel hA hB
                    generalize wr.drewN nq = Wq at *
                    have htop := hOq.top
                    have hgi : ((P + g : Nat) : Int) = (i : Int) := by have := hPg.out; omega
                    have E1 := own_emptyS Wq Wq.heap.size (Nat.le_refl _)
                    have O1 := Lib.hid ((hOq.alloc (.cells #[] 9)).alloc (.cells #[.int .i64 (i : Int), .int .i64 0, .slice (some ⟨Wq.heap.size, 0, none⟩) 0 0] 58))
                    have P1 := Lib.hid ((E1.alloc (.cells #[.int .i64 (i : Int), .int .i64 0, .slice (some ⟨Wq.heap.size, 0, none⟩) 0 0] 58)).wide (lo' := hi) htop (Nat.le_refl _) (by simp))
                    have I1 : Hid (I64 (i : Int)) := Lib.hid (by unfold I64; omega)
                    have I2 : Hid (I64 0) := Lib.hid (by unfold I64; omega)
                    have hsz : (Wq.alloc (.cells #[] 9)).heap.size = Wq.heap.size + 1 := by simp
                    have hTa := Lib.hid ((hTq.grown (World.grownBy_alloc _ (.cells #[] 9) Option.none) (Alien.none _)).grown (World.grownBy_alloc _ (.cells #[.int .i64 (i : Int), .int .i64 0, .slice (some ⟨Wq.heap.size, 0, none⟩) 0 0] 58) Option.none) (Alien.none _))
                    have hAl := Lib.hid (OwnM.alien O1.out)
                    have hba := Lib.hid ((hbq.alloc hbq.size (.cells #[] 9)).alloc (hbq.alloc hbq.size (.cells #[] 9)).size (.cells #[.int .i64 (i : Int), .int .i64 0, .slice (some ⟨Wq.heap.size, 0, none⟩) 0 0] 58))
                    have hlo := Lib.hid hOq.lo_le
                    clear E1 hOq hTq
                    go_wp2_with (at_builtin; go_must (refine wpList_pushM _ rfl (.tmp 62) (.tmp 66) rfl w.heap.size hi A' q c' ms rfl O1.out ⟨(i : Int), 0, []⟩ ⟨some ⟨Wq.heap.size, 0, none⟩, 0, 0⟩ (Wq.heap.size + 1) (Wq.heap.size + 1) rfl I1.out I2.out P1.out (new_cell _ 58 #[.int .i64 (i : Int), .int .i64 0, .slice (some ⟨Wq.heap.size, 0, none⟩) 0 0] hsz 0) (new_cell _ 58 #[.int .i64 (i : Int), .int .i64 0, .slice (some ⟨Wq.heap.size, 0, none⟩) 0 0] hsz 1) (new_cell _ 58 #[.int .i64 (i : Int), .int .i64 0, .slice (some ⟨Wq.heap.size, 0, none⟩) 0 0] hsz 2) (by omega) hhi ?_); intro A3 c3 Wz o3 g3; have hTz := hTa.out.grown g3 hAl.out; have hbz := below_cat hba.out g3 (fun a ha => (hlo.out a ha).1); rw [← hgi] at o3; have hLz := o3; clear o3 g3 hTa hAl hba O1 P1)
                    obtain ⟨t1, t2⟩ := hTz.cells (i := i + 1) (j := k) (by omega) hkm
                    obtain ⟨t3, t4⟩ := hTz.cells (i := i) (j := k) hin hkm
                    obtain ⟨ps, hMp⟩ := hLz
                    obtain ⟨g0, m1, p1, rfl, g1, g2, hm1, hp1, i1, i2, i3, ne, z0, z1, z2, f0, f1, f2⟩ := hMp.get (k := q) (by omega)
                    have hm1' := hm1
                    rw [← hq.out, get_last] at hm1'
                    injection hm1' with hm1'
                    subst hm1'
                    have hM := Lib.hid hMp
                    have hp1' := Lib.hid hp1
                    have hm1' := Lib.hid hm1
                    have hi3 := Lib.hid i3
                    have hne0 := Lib.hid ne
                    have TZ := Lib.hid hTz
                    have u1 : IntKind.i64.wrap ((q : Int) + 1 - 1) = (q : Int) := by rw [show (q : Int) + 1 - 1 = (q : Int) by omega]; exact IntWalk.i64_in _ (by omega)
                    have u2 : ((q : Int) + 1 - 1) = (q : Int) := by omega
                    have u3 : (((q + 1 : Nat) : Int) - 1) = (q : Int) := by omega
                    have j1 : (0 : Int) ≤ (q : Int) := by omega
                    have j2 : (q : Int) < ((q + 1 : Nat) : Int) := by omega
                    have j3 : (q : Int) < (q : Int) + 1 := by omega
                    have j4 := hMp.own.cap_le
                    have hl58 := g1
                    clear hMp hm1 hp1 i3 ne hTz i1 i2
                    have v1 := V_bound (i := i + 1) (j := k) ha.out hb.out
                    have v2 := V_bound (i := i) (j := k) ha.out hb.out
                    have u4 : IntKind.i64.wrap (1 + V a b (i + 1) k) = 1 + V a b (i + 1) k := IntWalk.i64_in _ (by omega)
                    have e5 : (1 + V a b (i + 1) k == V a b i k) = false := hcut
                    clear hcut
                    obtain ⟨v1a, v1b⟩ := v1
                    obtain ⟨v2a, v2b⟩ := v2
                    generalize V a b (i + 1) k = va at *
                    generalize V a b i k = vb at *
                    go_wp2_with fail
                    go_quiet (fail)
                    obtain ⟨b9, o9, yy, hB9, hy9, hs9, cy9⟩ := (kb.below hbz).at_ (k := k) (by omega)
                    injection hB9 with hB9
                    injection hB9 with eb9 eo9
                    subst eb9 eo9
                    obtain rfl : yy = y9 := by have := HY9.out; rw [hy9] at this; injection this
                    clear hy9
                    have hX := Lib.hid (hM.out.drewN (nq + 1))
                    have hPX := Lib.hid (hi3.out.drewN (nq + 1))
                    have hTX := Lib.hid (TZ.out.drewN (nq + 1))
                    have hbX := Lib.hid (below_drewN hbz (nq + 1))
                    have hpl : p1.n ≤ 20 := by have := hi3.out.len; omega
                    have lz2 : g0 < Wz.heap.size := lt_of_cell z2
                    have lcy := lt_of_cell cy9
                    have bAl : Below (Wz.drewN (nq + 1)).heap.size (Wz.drewN (nq + 1)) ((Wz.drewN (nq + 1)).alloc (.cells #[.string yy] 9)) := (Below.refl _ _).alloc (Nat.le_refl _) _
                    have zA := (bAl.cell (p := ⟨g0, q * 3 + 2, none⟩) lz2).trans z2
                    have yA := (bAl.cell lcy).trans cy9
                    clear bAl
                    have k1 : (0 : Int) ≤ (k : Int) := by omega
                    have k2 : (k : Int) < (m : Int) := by omega
                    clear t1 t2 t3 t4 hM TZ hi3 hne0
                    go_wp2_with fail
                    go_region_law (refine step_pushS rfl (.tmp 112) (.tmp 117) rfl w.heap.size Wz.heap.size p1.a p1.n p1.c [] (by simp [Act.eval, Act.put]) (hPX.out.alloc (.cells #[.string yy] 9)) yy (Wz.drewN (nq + 1)).heap.size (by simp [Act.eval, Act.put]) hs9 (new_cell _ 9 #[.string yy] rfl 0) (by omega) (by simp; have := hbz.size; omega) ?_; intro g5 c5 w5 o5 gr5 at5; obtain ⟨f5, ⟨v5, z5⟩, m5, al5⟩ := (OwnMp.alloc hX.out (.cells #[.string yy] 9)).pushPut (q := q) (by omega) hm1'.out hp1'.out gr5 o5 at5)
                    all_goals
                      have hs := m5
                      rw [← hq.out, set_last, hq.out] at hs
                      have ho9 := hs.own
                      dsimp only at ho9
                      rw [← openM_one] at ho9
                      have hT9 := ((hTX.out.grown (World.grownBy_alloc _ (.cells #[.string yy] 9) Option.none) (Alien.none _)).grown gr5 (OwnS.alien (hPX.out.alloc (.cells #[.string yy] 9)))).grown (grown_setCell w5 g0 (q * 3 + 2) (.slice (some ⟨g5, 0, none⟩) (p1.n + 1) c5)) al5
                      have hb8 := (hbX.out.alloc hbX.out.size (.cells #[.string yy] 9)).grown gr5 (hbX.out.alloc hbX.out.size (.cells #[.string yy] 9)).size (fun g' e => by
                        cases hpa : p1.a with
                        | none => rw [hpa] at e; cases e
                        | some a' =>
                          rw [hpa] at e
                          have e : a'.block = g' := by injection e
                          have := (hPX.out.lo_le a' hpa).1
                          omega)
                      have hb9 := hb8.setCell (p := ⟨g0, q * 3 + 2, none⟩) g1 (.slice (some ⟨g5, 0, none⟩) (p1.n + 1) c5)
                      have hs9 := hb8.size
                      go_wp2_with fail
                      go_roundw
                      case rel => exact ⟨i, k + 1, P, g, 0, q + 1, w5.heap.size, [] ++ [yy], ms, some ⟨g0, 0, none⟩, _, by omega, by omega, by omega, rfl, by go_num, ⟨true, rfl, Lib.hid (by first | (simp; done) | (simp; omega))⟩, rfl, ho9, HW, hT9, by omega, hb9⟩
                      case measure => simp [intOf]; omega
            · have hc1 : 1 + V a b (i + 1) k = V a b i k := by rw [show k = m by omega, V_side ha.out hb.out (by omega), V_side ha.out hb.out (by omega)]; omega
              have hne : ∀ z, a[i]? = some z → b[k]? ≠ some z := by intro z _ h2; rw [List.getElem?_eq_none (by rw [hb.out]; omega)] at h2; cases h2
              have hf : Mk.farAt a b (i + 1) k < Mk.farAt a b i k := (Mk.far_less a b i k (by rw [ha.out]; omega)).2 (by have := hc1; rw [V_farAt, V_farAt] at this; omega)
              have hcut : (1 + V a b (i + 1) k == V a b i k) = true := by simp [hc1]
              clear hx hc1
              have e1 : decide ((i : Int) < (n : Int)) = true := by simp; omega
              have e2 : decide ((k : Int) < (m : Int)) = false := by simp; omega
              have e2' : decide (k < m) = false := by simp; omega
              have hW' := Mk.way_cut hWay.out (by rw [ha.out]; omega) hne hf
              have HW := Lib.hid hW'
              clear hW'
              have hPg := Lib.hid hWay.out.2.1
              have hci : c ≤ i := by have := hPg.out; omega
              have hpk : p.length ≤ k := hWay.out.2.2.2.2.1
              clear hne hf hWay
              cases ob with
              | true =>
                have hob : 0 < c + p.length := by have := hOb.out; simpa using this
                rw [openM_some hob] at hO
                obtain ⟨q, hq⟩ : ∃ q, Hid (ms.length = q) := ⟨_, rfl⟩
                obtain rfl : K = q + 1 := by have := hO.len; have := hq.out; simp at *; omega
                clear hOb
                go_wp2_with fail
                go_quiet (fail)
                have hbz := below_drewN hbel nq
                have hLz := hO.drewN nq
                have hTz := hT.grown (only_drewN (World.grownBy.refl wr Option.none) nq) (Alien.none _)
                clear hO hT hbel hA hB
                generalize wr.drewN nq = Wz at *
                go_wp2_with fail
                obtain ⟨t1, t2⟩ := hTz.cells (i := i + 1) (j := k) (by omega) hkm
                obtain ⟨t3, t4⟩ := hTz.cells (i := i) (j := k) hin hkm
                obtain ⟨ps, hMp⟩ := hLz
                obtain ⟨g0, m1, p1, rfl, g1, g2, hm1, hp1, i1, i2, i3, ne, z0, z1, z2, f0, f1, f2⟩ := hMp.get (k := q) (by omega)
                have hm1' := hm1
                rw [← hq.out, get_last] at hm1'
                injection hm1' with hm1'
                subst hm1'
                have hM := Lib.hid hMp
                have hp1' := Lib.hid hp1
                have hm1' := Lib.hid hm1
                have hi3 := Lib.hid i3
                have hne0 := Lib.hid ne
                have TZ := Lib.hid hTz
                have u1 : IntKind.i64.wrap ((q : Int) + 1 - 1) = (q : Int) := by rw [show (q : Int) + 1 - 1 = (q : Int) by omega]; exact IntWalk.i64_in _ (by omega)
                have u2 : ((q : Int) + 1 - 1) = (q : Int) := by omega
                have u3 : (((q + 1 : Nat) : Int) - 1) = (q : Int) := by omega
                have j1 : (0 : Int) ≤ (q : Int) := by omega
                have j2 : (q : Int) < ((q + 1 : Nat) : Int) := by omega
                have j3 : (q : Int) < (q : Int) + 1 := by omega
                have j4 := hMp.own.cap_le
                have hl58 := g1
                clear hMp hm1 hp1 i3 ne hTz i1 i2
                have v1 := V_bound (i := i + 1) (j := k) ha.out hb.out
                have v2 := V_bound (i := i) (j := k) ha.out hb.out
                have u4 : IntKind.i64.wrap (1 + V a b (i + 1) k) = 1 + V a b (i + 1) k := IntWalk.i64_in _ (by omega)
                have e5 : (1 + V a b (i + 1) k == V a b i k) = true := hcut
                clear hcut
                obtain ⟨v1a, v1b⟩ := v1
                obtain ⟨v2a, v2b⟩ := v2
                generalize V a b (i + 1) k = va at *
                generalize V a b i k = vb at *
                go_wp2_with fail
                go_quiet (fail)
                have u5 : IntKind.i64.wrap ((c : Int) + 1) = (c : Int) + 1 := IntWalk.i64_in _ (by omega)
                go_wp2_with fail
                have hs := hM.out.setCut (k := q) (x := ((c + 1 : Nat) : Int)) hm1'.out (by unfold I64; omega)
                rw [← hq.out, set_last, hq.out] at hs
                have ho9 := hs.own
                dsimp only at ho9
                rw [← openM_some (P := P) (g := g) (c := c + 1) (p := p) (by omega)] at ho9
                have hg9 := grown_setCell Wz g0 (q * 3 + 1) (.int .i64 ((c + 1 : Nat) : Int))
                have hT9 := TZ.out.grown hg9 (OwnM.alien hM.out.own)
                have hb9 : Below w.heap.size w (Wz.setCell ⟨g0, q * 3 + 1, none⟩ (.int .i64 ((c + 1 : Nat) : Int))) := hbz.setCell (p := ⟨g0, q * 3 + 1, none⟩) g1 _
                go_roundw
                case rel => exact ⟨i + 1, k, P, g, c + 1, q + 1, hi, p, ms, some ⟨g0, 0, none⟩, _, by omega, by omega, by omega, by go_num, rfl, ⟨true, rfl, Lib.hid (by first | (simp; done) | (simp; omega))⟩, rfl, (show OwnM ((Wz.setCell _ _).drewN _) _ _ _ _ _ _ from ho9), HW, hT9.grown (only_drewN (World.grownBy.refl _ Option.none) _) (Alien.none _), by omega, below_drewN hb9 _⟩
                case measure => simp [intOf]; omega
              | false =>
                have hcp : c = 0 ∧ p = [] := by
                  have := hOb.out
                  simp at this
                  exact ⟨this.1, this.2⟩
                obtain ⟨rfl, rfl⟩ := hcp
                rw [openM_none, List.append_nil] at hO
                obtain ⟨q, hq⟩ : ∃ q, Hid (ms.length = q) := ⟨_, rfl⟩
                obtain rfl : q = K := by have := hO.len; have := hq.out; omega
                clear hOb
                go_wp2_with fail
                go_quiet (fail)
                have hbq := below_drewN hbel nq
                have hOq := hO.drewN nq
                have hTq := hT.grown (only_drewN (World.grownBy.refl wr Option.none) nq) (Alien.none _)
                clear hO hT hbel hA hB
                generalize wr.drewN nq = Wq at *
                have htop := hOq.top
                have hgi : ((P + g : Nat) : Int) = (i : Int) := by have := hPg.out; omega
                have E1 := own_emptyS Wq Wq.heap.size (Nat.le_refl _)
                have O1 := Lib.hid ((hOq.alloc (.cells #[] 9)).alloc (.cells #[.int .i64 (i : Int), .int .i64 0, .slice (some ⟨Wq.heap.size, 0, none⟩) 0 0] 58))
                have P1 := Lib.hid ((E1.alloc (.cells #[.int .i64 (i : Int), .int .i64 0, .slice (some ⟨Wq.heap.size, 0, none⟩) 0 0] 58)).wide (lo' := hi) htop (Nat.le_refl _) (by simp))
                have I1 : Hid (I64 (i : Int)) := Lib.hid (by unfold I64; omega)
                have I2 : Hid (I64 0) := Lib.hid (by unfold I64; omega)
                have hsz : (Wq.alloc (.cells #[] 9)).heap.size = Wq.heap.size + 1 := by simp
                have hTa := Lib.hid ((hTq.grown (World.grownBy_alloc _ (.cells #[] 9) Option.none) (Alien.none _)).grown (World.grownBy_alloc _ (.cells #[.int .i64 (i : Int), .int .i64 0, .slice (some ⟨Wq.heap.size, 0, none⟩) 0 0] 58) Option.none) (Alien.none _))
                have hAl := Lib.hid (OwnM.alien O1.out)
                have hba := Lib.hid ((hbq.alloc hbq.size (.cells #[] 9)).alloc (hbq.alloc hbq.size (.cells #[] 9)).size (.cells #[.int .i64 (i : Int), .int .i64 0, .slice (some ⟨Wq.heap.size, 0, none⟩) 0 0] 58))
                have hlo := Lib.hid hOq.lo_le
                clear E1 hOq hTq
                go_wp2_with (at_builtin; go_must (refine wpList_pushM _ rfl (.tmp 62) (.tmp 66) rfl w.heap.size hi A' q c' ms rfl O1.out ⟨(i : Int), 0, []⟩ ⟨some ⟨Wq.heap.size, 0, none⟩, 0, 0⟩ (Wq.heap.size + 1) (Wq.heap.size + 1) rfl I1.out I2.out P1.out (new_cell _ 58 #[.int .i64 (i : Int), .int .i64 0, .slice (some ⟨Wq.heap.size, 0, none⟩) 0 0] hsz 0) (new_cell _ 58 #[.int .i64 (i : Int), .int .i64 0, .slice (some ⟨Wq.heap.size, 0, none⟩) 0 0] hsz 1) (new_cell _ 58 #[.int .i64 (i : Int), .int .i64 0, .slice (some ⟨Wq.heap.size, 0, none⟩) 0 0] hsz 2) (by omega) hhi ?_); intro A3 c3 Wz o3 g3; have hTz := hTa.out.grown g3 hAl.out; have hbz := below_cat hba.out g3 (fun a ha => (hlo.out a ha).1); rw [← hgi] at o3; have hLz := o3; clear o3 g3 hTa hAl hba O1 P1)
                obtain ⟨t1, t2⟩ := hTz.cells (i := i + 1) (j := k) (by omega) hkm
                obtain ⟨t3, t4⟩ := hTz.cells (i := i) (j := k) hin hkm
                obtain ⟨ps, hMp⟩ := hLz
                obtain ⟨g0, m1, p1, rfl, g1, g2, hm1, hp1, i1, i2, i3, ne, z0, z1, z2, f0, f1, f2⟩ := hMp.get (k := q) (by omega)
                have hm1' := hm1
                rw [← hq.out, get_last] at hm1'
                injection hm1' with hm1'
                subst hm1'
                have hM := Lib.hid hMp
                have hp1' := Lib.hid hp1
                have hm1' := Lib.hid hm1
                have hi3 := Lib.hid i3
                have hne0 := Lib.hid ne
                have TZ := Lib.hid hTz
                have u1 : IntKind.i64.wrap ((q : Int) + 1 - 1) = (q : Int) := by rw [show (q : Int) + 1 - 1 = (q : Int) by omega]; exact IntWalk.i64_in _ (by omega)
                have u2 : ((q : Int) + 1 - 1) = (q : Int) := by omega
                have u3 : (((q + 1 : Nat) : Int) - 1) = (q : Int) := by omega
                have j1 : (0 : Int) ≤ (q : Int) := by omega
                have j2 : (q : Int) < ((q + 1 : Nat) : Int) := by omega
                have j3 : (q : Int) < (q : Int) + 1 := by omega
                have j4 := hMp.own.cap_le
                have hl58 := g1
                clear hMp hm1 hp1 i3 ne hTz i1 i2
                have v1 := V_bound (i := i + 1) (j := k) ha.out hb.out
                have v2 := V_bound (i := i) (j := k) ha.out hb.out
                have u4 : IntKind.i64.wrap (1 + V a b (i + 1) k) = 1 + V a b (i + 1) k := IntWalk.i64_in _ (by omega)
                have e5 : (1 + V a b (i + 1) k == V a b i k) = true := hcut
                clear hcut
                obtain ⟨v1a, v1b⟩ := v1
                obtain ⟨v2a, v2b⟩ := v2
                generalize V a b (i + 1) k = va at *
                generalize V a b i k = vb at *
                go_wp2_with fail
                go_quiet (fail)
                have u5 : IntKind.i64.wrap (((0 : Nat) : Int) + 1) = ((0 : Nat) : Int) + 1 := IntWalk.i64_in _ (by omega)
                go_wp2_with fail
                have hs := hM.out.setCut (k := q) (x := ((0 + 1 : Nat) : Int)) hm1'.out (by unfold I64; omega)
                rw [← hq.out, set_last, hq.out] at hs
                have ho9 := hs.own
                dsimp only at ho9
                rw [← openM_some (P := P) (g := g) (c := 0 + 1) (p := []) (by omega)] at ho9
                have hg9 := grown_setCell Wz g0 (q * 3 + 1) (.int .i64 ((0 + 1 : Nat) : Int))
                have hT9 := TZ.out.grown hg9 (OwnM.alien hM.out.own)
                have hb9 : Below w.heap.size w (Wz.setCell ⟨g0, q * 3 + 1, none⟩ (.int .i64 ((0 + 1 : Nat) : Int))) := hbz.setCell (p := ⟨g0, q * 3 + 1, none⟩) g1 _
                go_roundw
                case rel => exact ⟨i + 1, k, P, g, 0 + 1, q + 1, Wz.heap.size, [], ms, some ⟨g0, 0, none⟩, _, by omega, by omega, by omega, by go_num, rfl, ⟨true, rfl, Lib.hid (by first | (simp; done) | (simp; omega))⟩, rfl, (show OwnM ((Wz.setCell _ _).drewN _) _ _ _ _ _ _ from ho9), HW, hT9.grown (only_drewN (World.grownBy.refl _ Option.none) _) (Alien.none _), by omega, below_drewN hb9 _⟩
                case measure => simp [intOf]; omega
          · have hlt2 : k < m := by omega
            obtain ⟨bb, bo, y, rfl, hy, hys, cy0⟩ := hB.at_ hlt2
            have hne : ∀ z, a[i]? = some z → b[k]? ≠ some z := by intro z h2 _; rw [List.getElem?_eq_none (by rw [ha.out]; omega)] at h2; cases h2
            have hf : ¬ (i < a.length ∧ Mk.farAt a b (i + 1) k < Mk.farAt a b i k) := fun h => by have := h.1; rw [ha.out] at this; omega
            clear hy
            have e1 : decide ((i : Int) < (n : Int)) = false := by simp; omega
            have e1' : decide (i < n) = false := by simp; omega
            have e2 : decide ((k : Int) < (m : Int)) = true := by simp; omega
            obtain ⟨y9, hy9, hW'⟩ := Mk.way_put hWay.out (by rw [ha.out, hb.out]; omega) hne hf
            have HW := Lib.hid hW'
            have HY9 := Lib.hid hy9
            clear hW' hy9
            have hPg := Lib.hid hWay.out.2.1
            have hci : c ≤ i := by have := hPg.out; omega
            have hpk : p.length ≤ k := hWay.out.2.2.2.2.1
            clear hne hf hWay
            cases ob with
            | true =>
              have hob : 0 < c + p.length := by have := hOb.out; simpa using this
              rw [openM_some hob] at hO
              obtain ⟨q, hq⟩ : ∃ q, Hid (ms.length = q) := ⟨_, rfl⟩
              obtain rfl : K = q + 1 := by have := hO.len; have := hq.out; simp at *; omega
              clear hOb
              go_wp2_with fail
              go_quiet (fail)
              have hbz := below_drewN hbel nq
              have hLz := hO.drewN nq
              have hTz := hT.grown (only_drewN (World.grownBy.refl wr Option.none) nq) (Alien.none _)
              clear hO hT hbel hA hB
              generalize wr.drewN nq = Wz at *
              go_wp2_with fail
              obtain ⟨ps, hMp⟩ := hLz
              obtain ⟨g0, m1, p1, rfl, g1, g2, hm1, hp1, i1, i2, i3, ne, z0, z1, z2, f0, f1, f2⟩ := hMp.get (k := q) (by omega)
              have hm1' := hm1
              rw [← hq.out, get_last] at hm1'
              injection hm1' with hm1'
              subst hm1'
              have hM := Lib.hid hMp
              have hp1' := Lib.hid hp1
              have hm1' := Lib.hid hm1
              have hi3 := Lib.hid i3
              have hne0 := Lib.hid ne
              have TZ := Lib.hid hTz
              have u1 : IntKind.i64.wrap ((q : Int) + 1 - 1) = (q : Int) := by rw [show (q : Int) + 1 - 1 = (q : Int) by omega]; exact IntWalk.i64_in _ (by omega)
              have u2 : ((q : Int) + 1 - 1) = (q : Int) := by omega
              have u3 : (((q + 1 : Nat) : Int) - 1) = (q : Int) := by omega
              have j1 : (0 : Int) ≤ (q : Int) := by omega
              have j2 : (q : Int) < ((q + 1 : Nat) : Int) := by omega
              have j3 : (q : Int) < (q : Int) + 1 := by omega
              have j4 := hMp.own.cap_le
              have hl58 := g1
              clear hMp hm1 hp1 i3 ne hTz i1 i2
              go_wp2_with fail
              go_quiet (fail)
              obtain ⟨b9, o9, yy, hB9, hy9, hs9, cy9⟩ := (kb.below hbz).at_ (k := k) (by omega)
              injection hB9 with hB9
              injection hB9 with eb9 eo9
              subst eb9 eo9
              obtain rfl : yy = y9 := by have := HY9.out; rw [hy9] at this; injection this
              clear hy9
              have hX := Lib.hid (hM.out.drewN (nq + 1))
              have hPX := Lib.hid (hi3.out.drewN (nq + 1))
              have hTX := Lib.hid (TZ.out.drewN (nq + 1))
              have hbX := Lib.hid (below_drewN hbz (nq + 1))
              have hpl : p1.n ≤ 20 := by have := hi3.out.len; omega
              have lz2 : g0 < Wz.heap.size := lt_of_cell z2
              have lcy := lt_of_cell cy9
              have bAl : Below (Wz.drewN (nq + 1)).heap.size (Wz.drewN (nq + 1)) ((Wz.drewN (nq + 1)).alloc (.cells #[.string yy] 9)) := (Below.refl _ _).alloc (Nat.le_refl _) _
              have zA := (bAl.cell (p := ⟨g0, q * 3 + 2, none⟩) lz2).trans z2
              have yA := (bAl.cell lcy).trans cy9
              clear bAl
              have k1 : (0 : Int) ≤ (k : Int) := by omega
              have k2 : (k : Int) < (m : Int) := by omega
              clear hM TZ hi3 hne0
              go_wp2_with fail
              go_region_law (refine step_pushS rfl (.tmp 112) (.tmp 117) rfl w.heap.size hi p1.a p1.n p1.c p (by simp [Act.eval, Act.put]) (hPX.out.alloc (.cells #[.string yy] 9)) yy (Wz.drewN (nq + 1)).heap.size (by simp [Act.eval, Act.put]) hs9 (new_cell _ 9 #[.string yy] rfl 0) (by omega) (by simp; have := hbz.size; omega) ?_; intro g5 c5 w5 o5 gr5 at5; obtain ⟨f5, ⟨v5, z5⟩, m5, al5⟩ := (OwnMp.alloc hX.out (.cells #[.string yy] 9)).pushPut (q := q) (by omega) hm1'.out hp1'.out gr5 o5 at5)
              all_goals
                have hs := m5
                rw [← hq.out, set_last, hq.out] at hs
                have ho9 := hs.own
                dsimp only at ho9
                rw [← openM_some (P := P) (g := g) (c := c) (p := p ++ [yy]) (by simp; omega)] at ho9
                have hT9 := ((hTX.out.grown (World.grownBy_alloc _ (.cells #[.string yy] 9) Option.none) (Alien.none _)).grown gr5 (OwnS.alien (hPX.out.alloc (.cells #[.string yy] 9)))).grown (grown_setCell w5 g0 (q * 3 + 2) (.slice (some ⟨g5, 0, none⟩) (p1.n + 1) c5)) al5
                have hb8 := (hbX.out.alloc hbX.out.size (.cells #[.string yy] 9)).grown gr5 (hbX.out.alloc hbX.out.size (.cells #[.string yy] 9)).size (fun g' e => by
                  cases hpa : p1.a with
                  | none => rw [hpa] at e; cases e
                  | some a' =>
                    rw [hpa] at e
                    have e : a'.block = g' := by injection e
                    have := (hPX.out.lo_le a' hpa).1
                    omega)
                have hb9 := hb8.setCell (p := ⟨g0, q * 3 + 2, none⟩) g1 (.slice (some ⟨g5, 0, none⟩) (p1.n + 1) c5)
                have hs9 := hb8.size
                go_wp2_with fail
                go_roundw
                case rel => exact ⟨i, k + 1, P, g, c, q + 1, w5.heap.size, p ++ [yy], ms, some ⟨g0, 0, none⟩, _, by omega, by omega, by omega, rfl, by go_num, ⟨true, rfl, Lib.hid (by first | (simp; done) | (simp; omega))⟩, rfl, ho9, HW, hT9, by omega, hb9⟩
                case measure => simp [intOf]; omega
            | false =>
              have hcp : c = 0 ∧ p = [] := by
                have := hOb.out
                simp at this
                exact ⟨this.1, this.2⟩
              obtain ⟨rfl, rfl⟩ := hcp
              rw [openM_none, List.append_nil] at hO
              obtain ⟨q, hq⟩ : ∃ q, Hid (ms.length = q) := ⟨_, rfl⟩
              obtain rfl : q = K := by have := hO.len; have := hq.out; omega
              clear hOb
              go_wp2_with fail
              go_quiet (fail)
              have hbq := below_drewN hbel nq
              have hOq := hO.drewN nq
              have hTq := hT.grown (only_drewN (World.grownBy.refl wr Option.none) nq) (Alien.none _)
              clear hO hT hbel hA hB
              generalize wr.drewN nq = Wq at *
              have htop := hOq.top
              have hgi : ((P + g : Nat) : Int) = (i : Int) := by have := hPg.out; omega
              have E1 := own_emptyS Wq Wq.heap.size (Nat.le_refl _)
              have O1 := Lib.hid ((hOq.alloc (.cells #[] 9)).alloc (.cells #[.int .i64 (i : Int), .int .i64 0, .slice (some ⟨Wq.heap.size, 0, none⟩) 0 0] 58))
              have P1 := Lib.hid ((E1.alloc (.cells #[.int .i64 (i : Int), .int .i64 0, .slice (some ⟨Wq.heap.size, 0, none⟩) 0 0] 58)).wide (lo' := hi) htop (Nat.le_refl _) (by simp))
              have I1 : Hid (I64 (i : Int)) := Lib.hid (by unfold I64; omega)
              have I2 : Hid (I64 0) := Lib.hid (by unfold I64; omega)
              have hsz : (Wq.alloc (.cells #[] 9)).heap.size = Wq.heap.size + 1 := by simp
              have hTa := Lib.hid ((hTq.grown (World.grownBy_alloc _ (.cells #[] 9) Option.none) (Alien.none _)).grown (World.grownBy_alloc _ (.cells #[.int .i64 (i : Int), .int .i64 0, .slice (some ⟨Wq.heap.size, 0, none⟩) 0 0] 58) Option.none) (Alien.none _))
              have hAl := Lib.hid (OwnM.alien O1.out)
              have hba := Lib.hid ((hbq.alloc hbq.size (.cells #[] 9)).alloc (hbq.alloc hbq.size (.cells #[] 9)).size (.cells #[.int .i64 (i : Int), .int .i64 0, .slice (some ⟨Wq.heap.size, 0, none⟩) 0 0] 58))
              have hlo := Lib.hid hOq.lo_le
              clear E1 hOq hTq
              go_wp2_with (at_builtin; go_must (refine wpList_pushM _ rfl (.tmp 62) (.tmp 66) rfl w.heap.size hi A' q c' ms rfl O1.out ⟨(i : Int), 0, []⟩ ⟨some ⟨Wq.heap.size, 0, none⟩, 0, 0⟩ (Wq.heap.size + 1) (Wq.heap.size + 1) rfl I1.out I2.out P1.out (new_cell _ 58 #[.int .i64 (i : Int), .int .i64 0, .slice (some ⟨Wq.heap.size, 0, none⟩) 0 0] hsz 0) (new_cell _ 58 #[.int .i64 (i : Int), .int .i64 0, .slice (some ⟨Wq.heap.size, 0, none⟩) 0 0] hsz 1) (new_cell _ 58 #[.int .i64 (i : Int), .int .i64 0, .slice (some ⟨Wq.heap.size, 0, none⟩) 0 0] hsz 2) (by omega) hhi ?_); intro A3 c3 Wz o3 g3; have hTz := hTa.out.grown g3 hAl.out; have hbz := below_cat hba.out g3 (fun a ha => (hlo.out a ha).1); rw [← hgi] at o3; have hLz := o3; clear o3 g3 hTa hAl hba O1 P1)
              obtain ⟨ps, hMp⟩ := hLz
              obtain ⟨g0, m1, p1, rfl, g1, g2, hm1, hp1, i1, i2, i3, ne, z0, z1, z2, f0, f1, f2⟩ := hMp.get (k := q) (by omega)
              have hm1' := hm1
              rw [← hq.out, get_last] at hm1'
              injection hm1' with hm1'
              subst hm1'
              have hM := Lib.hid hMp
              have hp1' := Lib.hid hp1
              have hm1' := Lib.hid hm1
              have hi3 := Lib.hid i3
              have hne0 := Lib.hid ne
              have TZ := Lib.hid hTz
              have u1 : IntKind.i64.wrap ((q : Int) + 1 - 1) = (q : Int) := by rw [show (q : Int) + 1 - 1 = (q : Int) by omega]; exact IntWalk.i64_in _ (by omega)
              have u2 : ((q : Int) + 1 - 1) = (q : Int) := by omega
              have u3 : (((q + 1 : Nat) : Int) - 1) = (q : Int) := by omega
              have j1 : (0 : Int) ≤ (q : Int) := by omega
              have j2 : (q : Int) < ((q + 1 : Nat) : Int) := by omega
              have j3 : (q : Int) < (q : Int) + 1 := by omega
              have j4 := hMp.own.cap_le
              have hl58 := g1
              clear hMp hm1 hp1 i3 ne hTz i1 i2
              go_wp2_with fail
              go_quiet (fail)
              obtain ⟨b9, o9, yy, hB9, hy9, hs9, cy9⟩ := (kb.below hbz).at_ (k := k) (by omega)
              injection hB9 with hB9
              injection hB9 with eb9 eo9
              subst eb9 eo9
              obtain rfl : yy = y9 := by have := HY9.out; rw [hy9] at this; injection this
              clear hy9
              have hX := Lib.hid (hM.out.drewN (nq + 1))
              have hPX := Lib.hid (hi3.out.drewN (nq + 1))
              have hTX := Lib.hid (TZ.out.drewN (nq + 1))
              have hbX := Lib.hid (below_drewN hbz (nq + 1))
              have hpl : p1.n ≤ 20 := by have := hi3.out.len; omega
              have lz2 : g0 < Wz.heap.size := lt_of_cell z2
              have lcy := lt_of_cell cy9
              have bAl : Below (Wz.drewN (nq + 1)).heap.size (Wz.drewN (nq + 1)) ((Wz.drewN (nq + 1)).alloc (.cells #[.string yy] 9)) := (Below.refl _ _).alloc (Nat.le_refl _) _
              have zA := (bAl.cell (p := ⟨g0, q * 3 + 2, none⟩) lz2).trans z2
              have yA := (bAl.cell lcy).trans cy9
              clear bAl
              have k1 : (0 : Int) ≤ (k : Int) := by omega
              have k2 : (k : Int) < (m : Int) := by omega
              clear hM TZ hi3 hne0
              go_wp2_with fail
              go_region_law (refine step_pushS rfl (.tmp 112) (.tmp 117) rfl w.heap.size Wz.heap.size p1.a p1.n p1.c [] (by simp [Act.eval, Act.put]) (hPX.out.alloc (.cells #[.string yy] 9)) yy (Wz.drewN (nq + 1)).heap.size (by simp [Act.eval, Act.put]) hs9 (new_cell _ 9 #[.string yy] rfl 0) (by omega) (by simp; have := hbz.size; omega) ?_; intro g5 c5 w5 o5 gr5 at5; obtain ⟨f5, ⟨v5, z5⟩, m5, al5⟩ := (OwnMp.alloc hX.out (.cells #[.string yy] 9)).pushPut (q := q) (by omega) hm1'.out hp1'.out gr5 o5 at5)
              all_goals
                have hs := m5
                rw [← hq.out, set_last, hq.out] at hs
                have ho9 := hs.own
                dsimp only at ho9
                rw [← openM_one] at ho9
                have hT9 := ((hTX.out.grown (World.grownBy_alloc _ (.cells #[.string yy] 9) Option.none) (Alien.none _)).grown gr5 (OwnS.alien (hPX.out.alloc (.cells #[.string yy] 9)))).grown (grown_setCell w5 g0 (q * 3 + 2) (.slice (some ⟨g5, 0, none⟩) (p1.n + 1) c5)) al5
                have hb8 := (hbX.out.alloc hbX.out.size (.cells #[.string yy] 9)).grown gr5 (hbX.out.alloc hbX.out.size (.cells #[.string yy] 9)).size (fun g' e => by
                  cases hpa : p1.a with
                  | none => rw [hpa] at e; cases e
                  | some a' =>
                    rw [hpa] at e
                    have e : a'.block = g' := by injection e
                    have := (hPX.out.lo_le a' hpa).1
                    omega)
                have hb9 := hb8.setCell (p := ⟨g0, q * 3 + 2, none⟩) g1 (.slice (some ⟨g5, 0, none⟩) (p1.n + 1) c5)
                have hs9 := hb8.size
                go_wp2_with fail
                go_roundw
                case rel => exact ⟨i, k + 1, P, g, 0, q + 1, w5.heap.size, [] ++ [yy], ms, some ⟨g0, 0, none⟩, _, by omega, by omega, by omega, rfl, by go_num, ⟨true, rfl, Lib.hid (by first | (simp; done) | (simp; omega))⟩, rfl, ho9, HW, hT9, by omega, hb9⟩
                case measure => simp [intOf]; omega
end Go.Proofs.Ytjhlcgjhdiheaaa
