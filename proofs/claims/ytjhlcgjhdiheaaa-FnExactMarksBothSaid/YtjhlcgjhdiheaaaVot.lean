/- ProofVote of both programs. -/
import Derived.Test.YtjhlcgjhdiheaaaCat
import Derived.Test.YtjhlcgjhdiheaaaPla
namespace Go.Proofs.Ytjhlcgjhdiheaaa
open Go.RowKit
set_option linter.unusedVariables false
set_option linter.unusedSimpArgs false

def voteF (a b c : List ByteArray) : Option (List ByteArray) := if (speak a && speak b && speak c && decide (a.length = b.length) && decide (a.length = c.length)) = true then Mk.vote a b c else none
theorem voteF_no {a b c : List ByteArray} (h : (speak a && speak b && speak c && decide (a.length = b.length) && decide (a.length = c.length)) = false) : voteF a b c = none := by unfold voteF; rw [h]; rfl
theorem voteF_yes {a b c : List ByteArray} (h1 : speak a = true) (h2 : speak b = true) (h3 : speak c = true) (h4 : a.length = b.length) (h5 : a.length = c.length) : voteF a b c = Mk.vote a b c := by unfold voteF; rw [h1, h2, h3, decide_eq_true h4, decide_eq_true h5]; rfl
theorem vote_len (a b c out : List ByteArray) (h1 : a.length = b.length) (h2 : a.length = c.length) (h : Mk.vote a b c = some out) : out.length = a.length := (Mk.vote_two a b c out h1 h2 h).1
theorem voteF_len (a b c : List ByteArray) : ((voteF a b c).getD []).length ≤ 20 := by
  unfold voteF
  split
  · rename_i h
    simp only [Bool.and_eq_true, decide_eq_true_eq] at h
    cases hv : Mk.vote a b c with
    | none => simp
    | some out =>
      have := vote_len a b c out h.1.2 h.2 hv
      have := (Mk.speech_parts wok h.1.1.1.1).1
      simp only [Option.getD_some]
      omega
  · simp
/-- a list of words that was made, and whether -/
def ListPost (w : World) (r : Option (List ByteArray)) (e : Ending) (w' : World) : Prop := ∃ A n c, e = .returned (.tuple #[.slice A n c, .bool r.isSome]) ∧ OwnS w' w.heap.size w'.heap.size A n c (r.getD []) ∧ Below w.heap.size w w'
theorem ListPost.nil_ {w w' : World} {r : Option (List ByteArray)} (h : r = none) (hb : Below w.heap.size w w') : ListPost w r (.returned (.tuple #[.slice none 0 0, .bool false])) w' := by
  subst h
  exact ⟨none, 0, 0, rfl, OwnS.nil _ _ _ (Nat.le_refl _), hb⟩
theorem ListPost.empty {w w' : World} {r : Option (List ByteArray)} {lo hi : Nat} {A : Option Addr} {c : Nat} (h : r = none) (ho : OwnS w' lo hi A 0 c []) (hlo : w.heap.size ≤ lo) (hb : Below w.heap.size w w') : ListPost w r (.returned (.tuple #[.slice A 0 c, .bool false])) w' := by
  subst h
  exact ⟨A, 0, c, rfl, ho.wide hlo ho.2.2.1 (Nat.le_refl _), hb⟩
theorem ListPost.some_ {w w' : World} {r : Option (List ByteArray)} {xs : List ByteArray} {A : Option Addr} {n c : Nat} (h : r = some xs) (ho : OwnS w' w.heap.size w'.heap.size A n c xs) (hb : Below w.heap.size w w') : ListPost w r (.returned (.tuple #[.slice A n c, .bool true])) w' := by
  subst h
  exact ⟨A, n, c, rfl, ho, hb⟩

set_option maxHeartbeats 2000000 in
theorem ivote_any (A B C : Option Addr) (n c m d l e : Nat) (xs ys zs : List ByteArray) (w : World) (hn : n ≤ 9223372036854775807) (hm : m ≤ 9223372036854775807) (hl : l ≤ 9223372036854775807) (h : Strs w A n xs) (k : Strs w B m ys) (q : Strs w C l zs) :
    Calls Try.prog 39 #[.slice A n c, .slice B m d, .slice C l e] w (ListPost w (voteF xs ys zs)) := by
  have l1 := Lib.hid h.len
  have l2 := Lib.hid k.len
  have l3 := Lib.hid q.len
  cases h1 : speak xs with
  | false =>
    have hr := Lib.hid (voteF_no (a := xs) (b := ys) (c := zs) (by rw [h1]; rfl))
    go_enter Try.func39, Try.ntmps39
    go_wp2_with fail
    refine (ispeech_any A n c xs _ hn h).mono ?_
    rintro e w' ⟨rfl, rfl⟩
    rw [h1]
    go_wp2_with fail
    go_ret2
    exact ListPost.nil_ hr.out (Below.refl _ _)
  | true =>
    cases h2 : speak ys with
    | false =>
      have hr := Lib.hid (voteF_no (a := xs) (b := ys) (c := zs) (by rw [h1, h2]; rfl))
      go_enter Try.func39, Try.ntmps39
      go_wp2_with fail
      refine (ispeech_any A n c xs _ hn h).mono ?_
      rintro e w' ⟨rfl, rfl⟩
      rw [h1]
      go_wp2_with fail
      refine (ispeech_any B m d ys _ hm k).mono ?_
      rintro e w' ⟨rfl, rfl⟩
      rw [h2]
      go_wp2_with fail
      go_ret2
      exact ListPost.nil_ hr.out (Below.refl _ _)
    | true =>
      cases h3 : speak zs with
      | false =>
        have hr := Lib.hid (voteF_no (a := xs) (b := ys) (c := zs) (by rw [h1, h2, h3]; rfl))
        go_enter Try.func39, Try.ntmps39
        go_wp2_with fail
        refine (ispeech_any A n c xs _ hn h).mono ?_
        rintro e w' ⟨rfl, rfl⟩
        rw [h1]
        go_wp2_with fail
        refine (ispeech_any B m d ys _ hm k).mono ?_
        rintro e w' ⟨rfl, rfl⟩
        rw [h2]
        go_wp2_with fail
        refine (ispeech_any C l e zs _ hl q).mono ?_
        rintro e w' ⟨rfl, rfl⟩
        rw [h3]
        go_wp2_with fail
        go_ret2
        exact ListPost.nil_ hr.out (Below.refl _ _)
      | true =>
        by_cases hnm : n = m
        rotate_left
        · have hr := Lib.hid (voteF_no (a := xs) (b := ys) (c := zs) (by rw [h1, h2, h3, decide_eq_false (by rw [l1.out, l2.out]; exact hnm)]; rfl))
          have e1 : ((n : Int) != (m : Int)) = true := by simp; omega
          clear hnm
          go_enter Try.func39, Try.ntmps39
          go_wp2_with fail
          refine (ispeech_any A n c xs _ hn h).mono ?_
          rintro e w' ⟨rfl, rfl⟩
          rw [h1]
          go_wp2_with fail
          refine (ispeech_any B m d ys _ hm k).mono ?_
          rintro e w' ⟨rfl, rfl⟩
          rw [h2]
          go_wp2_with fail
          refine (ispeech_any C l e zs _ hl q).mono ?_
          rintro e w' ⟨rfl, rfl⟩
          rw [h3]
          go_wp2_with fail
          go_ret2
          exact ListPost.nil_ hr.out (Below.refl _ _)
        subst hnm
        by_cases hnm : n = l
        rotate_left
        · have hr := Lib.hid (voteF_no (a := xs) (b := ys) (c := zs) (by rw [h1, h2, h3, decide_eq_false (by rw [l1.out, l3.out]; exact hnm : ¬ xs.length = zs.length)]; simp))
          have e2 : ((n : Int) != (l : Int)) = true := by simp; omega
          have e1 : ((n : Int) != (n : Int)) = false := by simp
          clear hnm
          go_enter Try.func39, Try.ntmps39
          go_wp2_with fail
          refine (ispeech_any A n c xs _ hn h).mono ?_
          rintro e w' ⟨rfl, rfl⟩
          rw [h1]
          go_wp2_with fail
          refine (ispeech_any B n d ys _ hm k).mono ?_
          rintro e w' ⟨rfl, rfl⟩
          rw [h2]
          go_wp2_with fail
          refine (ispeech_any C l e zs _ hl q).mono ?_
          rintro e w' ⟨rfl, rfl⟩
          rw [h3]
          go_wp2_with fail
          go_ret2
          exact ListPost.nil_ hr.out (Below.refl _ _)
        subst hnm
        have hn20 : n ≤ 20 := by rw [← l1.out]; exact (Mk.speech_parts wok h1).1
        have hr := Lib.hid (voteF_yes h1 h2 h3 (l1.out.trans l2.out.symm) (l1.out.trans l3.out.symm))
        have e1 : ((n : Int) != (n : Int)) = false := by simp
        go_enter Try.func39, Try.ntmps39
        go_wp2_with fail
        refine (ispeech_any A n c xs _ hn h).mono ?_
        rintro e w' ⟨rfl, rfl⟩
        rw [h1]
        go_wp2_with fail
        refine (ispeech_any B n d ys _ hm k).mono ?_
        rintro e w' ⟨rfl, rfl⟩
        rw [h2]
        go_wp2_with fail
        refine (ispeech_any C n e zs _ hl q).mono ?_
        rintro e w' ⟨rfl, rfl⟩
        rw [h3]
        go_wp2_with fail
        go_loopw [8, 40] (fun v i wr => ∃ (j : Nat) (A' : Option Addr) (c' : Nat) (out : List ByteArray), j ≤ n ∧ i = .int .i64 j ∧ v = .slice A' j c' ∧ OwnS wr w.heap.size wr.heap.size A' j c' out ∧ Hid (Mk.vote xs ys zs = (Mk.vote (xs.drop j) (ys.drop j) (zs.drop j)).map (out ++ ·)) ∧ Below w.heap.size w wr) (fun _ i _ => n - (intOf i).toNat)
        case atStart => exact ⟨0, some ⟨w.heap.size, 0, none⟩, 0, [], Nat.zero_le _, rfl, rfl, by have := own_emptyS w w.heap.size (Nat.le_refl _); simpa using this.wide (Nat.le_refl _) (Nat.le_refl _) (by simp), Lib.hid (by simp), (Below.refl _ _).alloc (Nat.le_refl _) _⟩
        case round =>
          obtain ⟨j, A', c', out, hj, rfl, rfl, ho, hH, hbel⟩ := hrel
          by_cases hlt : j < n
          · obtain ⟨b1, o1, x, rfl, hx, x1, c1⟩ := (h.below hbel).at_ hlt
            obtain ⟨b2, o2, y, rfl, hy, y1, c2⟩ := (k.below hbel).at_ hlt
            obtain ⟨b3, o3, z, rfl, hz, z1, c3⟩ := (q.below hbel).at_ hlt
            have hX := Lib.hid hx
            have hY := Lib.hid hy
            have hZ := Lib.hid hz
            clear hx hy hz
            have i1 : (0 : Int) ≤ (j : Int) := by omega
            have i2 : (j : Int) < (n : Int) := by omega
            by_cases hxy : x = y
            · have b1' : (x.toList == y.toList) = true := by rw [bytes_eq]; simp [hxy]
              have hG : Hid (Mk.vote xs ys zs = (Mk.vote (xs.drop (j + 1)) (ys.drop (j + 1)) (zs.drop (j + 1))).map ((out ++ [x]) ++ ·)) := Lib.hid (Mk.vote_go hX.out hY.out hZ.out hH.out (by unfold Mk.vote1; rw [if_pos (.inl hxy)]))
              clear hxy hH
              go_wp2_with fail
              go_quiet (fail)
              have ho2 := ho.drewN nq
              have hb2 : Below w.heap.size w (wr.drewN nq) := below_drewN hbel _
              have c1W : (wr.drewN nq).cell? ⟨b1, o1 + j, none⟩ = some (.string x) := c1
              have c2W : (wr.drewN nq).cell? ⟨b2, o2 + j, none⟩ = some (.string y) := c2
              have c3W : (wr.drewN nq).cell? ⟨b3, o3 + j, none⟩ = some (.string z) := c3
              have hsz : (wr.drewN nq).heap.size = wr.heap.size := rfl
              rw [← hsz] at ho2
              clear hsz
              generalize wr.drewN nq = W at *
              go_wp2_with (at_builtin; go_must (refine wpList_pushS _ rfl (.tmp 64) (.tmp 69) rfl w.heap.size W.heap.size A' j c' out rfl (ho2.alloc _) x W.heap.size rfl x1 (by go_simp) (by omega) (by have := hb2.size; simp; omega) ?_); intro g c4 w4 ho4 hg4 _)
              have hb4 : Below w.heap.size w w4 := below_cat (hb2.alloc hb2.size _) hg4 (fun a ha => (ho2.lo_le a ha).1)
              go_roundw
              case rel => exact ⟨j + 1, _, _, _, by omega, by go_num, rfl, ho4, hG, hb4⟩
              case measure => simp [intOf]; omega
            by_cases hxz : x = z
            · have b1' : (x.toList == y.toList) = false := by rw [bytes_eq]; simp [hxy]
              have b2' : (x.toList == z.toList) = true := by rw [bytes_eq]; simp [hxz]
              have hG : Hid (Mk.vote xs ys zs = (Mk.vote (xs.drop (j + 1)) (ys.drop (j + 1)) (zs.drop (j + 1))).map ((out ++ [x]) ++ ·)) := Lib.hid (Mk.vote_go hX.out hY.out hZ.out hH.out (by unfold Mk.vote1; rw [if_pos (.inr hxz)]))
              clear hxy hxz hH
              go_wp2_with fail
              go_quiet (fail)
              have ho2 := ho.drewN nq
              have hb2 : Below w.heap.size w (wr.drewN nq) := below_drewN hbel _
              have c1W : (wr.drewN nq).cell? ⟨b1, o1 + j, none⟩ = some (.string x) := c1
              have c2W : (wr.drewN nq).cell? ⟨b2, o2 + j, none⟩ = some (.string y) := c2
              have c3W : (wr.drewN nq).cell? ⟨b3, o3 + j, none⟩ = some (.string z) := c3
              have hsz : (wr.drewN nq).heap.size = wr.heap.size := rfl
              rw [← hsz] at ho2
              clear hsz
              generalize wr.drewN nq = W at *
              go_wp2_with (at_builtin; go_must (refine wpList_pushS _ rfl (.tmp 64) (.tmp 69) rfl w.heap.size W.heap.size A' j c' out rfl (ho2.alloc _) x W.heap.size rfl x1 (by go_simp) (by omega) (by have := hb2.size; simp; omega) ?_); intro g c4 w4 ho4 hg4 _)
              have hb4 : Below w.heap.size w w4 := below_cat (hb2.alloc hb2.size _) hg4 (fun a ha => (ho2.lo_le a ha).1)
              go_roundw
              case rel => exact ⟨j + 1, _, _, _, by omega, by go_num, rfl, ho4, hG, hb4⟩
              case measure => simp [intOf]; omega
            by_cases hyz : y = z
            · have b1' : (x.toList == y.toList) = false := by rw [bytes_eq]; simp [hxy]
              have b2' : (x.toList == z.toList) = false := by rw [bytes_eq]; simp [hxz]
              have b3' : (y.toList == z.toList) = true := by rw [bytes_eq]; simp [hyz]
              have hG : Hid (Mk.vote xs ys zs = (Mk.vote (xs.drop (j + 1)) (ys.drop (j + 1)) (zs.drop (j + 1))).map ((out ++ [y]) ++ ·)) := Lib.hid (Mk.vote_go hX.out hY.out hZ.out hH.out (by unfold Mk.vote1; rw [if_neg (by simp [hxy, hxz]), if_pos hyz]))
              clear hxy hxz hyz hH
              go_wp2_with fail
              go_quiet (fail)
              have ho2 := ho.drewN nq
              have hb2 : Below w.heap.size w (wr.drewN nq) := below_drewN hbel _
              have c1W : (wr.drewN nq).cell? ⟨b1, o1 + j, none⟩ = some (.string x) := c1
              have c2W : (wr.drewN nq).cell? ⟨b2, o2 + j, none⟩ = some (.string y) := c2
              have c3W : (wr.drewN nq).cell? ⟨b3, o3 + j, none⟩ = some (.string z) := c3
              have hsz : (wr.drewN nq).heap.size = wr.heap.size := rfl
              rw [← hsz] at ho2
              clear hsz
              generalize wr.drewN nq = W at *
              go_wp2_with fail
              go_quiet (fail)
              have ho5 := ho2.drewN nq
              have hb5 : Below w.heap.size w (W.drewN nq) := below_drewN hb2 _
              have c1V : (W.drewN nq).cell? ⟨b1, o1 + j, none⟩ = some (.string x) := c1W
              have c2V : (W.drewN nq).cell? ⟨b2, o2 + j, none⟩ = some (.string y) := c2W
              have c3V : (W.drewN nq).cell? ⟨b3, o3 + j, none⟩ = some (.string z) := c3W
              have hsz : (W.drewN nq).heap.size = W.heap.size := rfl
              rw [← hsz] at ho5
              clear hsz
              generalize W.drewN nq = V at *
              go_wp2_with (at_builtin; go_must (refine wpList_pushS _ rfl (.tmp 81) (.tmp 86) rfl w.heap.size V.heap.size A' j c' out rfl (ho5.alloc _) y V.heap.size rfl y1 (by go_simp) (by omega) (by have := hb5.size; simp; omega) ?_); intro g c4 w4 ho4 hg4 _)
              have hb4 : Below w.heap.size w w4 := below_cat (hb5.alloc hb5.size _) hg4 (fun a ha => (ho5.lo_le a ha).1)
              go_roundw
              case rel => exact ⟨j + 1, _, _, _, by omega, by go_num, rfl, ho4, hG, hb4⟩
              case measure => simp [intOf]; omega
            · have b1' : (x.toList == y.toList) = false := by rw [bytes_eq]; simp [hxy]
              have b2' : (x.toList == z.toList) = false := by rw [bytes_eq]; simp [hxz]
              have b3' : (y.toList == z.toList) = false := by rw [bytes_eq]; simp [hyz]
              have hG := Lib.hid (hr.out.trans (Mk.vote_stop hX.out hY.out hZ.out hH.out (by unfold Mk.vote1; rw [if_neg (by simp [hxy, hxz]), if_neg hyz])))
              clear hxy hxz hyz hH
              go_wp2_with fail
              go_quiet (fail)
              have ho2 := ho.drewN nq
              have hb2 : Below w.heap.size w (wr.drewN nq) := below_drewN hbel _
              have c1W : (wr.drewN nq).cell? ⟨b1, o1 + j, none⟩ = some (.string x) := c1
              have c2W : (wr.drewN nq).cell? ⟨b2, o2 + j, none⟩ = some (.string y) := c2
              have c3W : (wr.drewN nq).cell? ⟨b3, o3 + j, none⟩ = some (.string z) := c3
              have hsz : (wr.drewN nq).heap.size = wr.heap.size := rfl
              rw [← hsz] at ho2
              clear hsz
              generalize wr.drewN nq = W at *
              go_wp2_with fail
              go_quiet (fail)
              have ho5 := ho2.drewN nq
              have hb5 : Below w.heap.size w (W.drewN nq) := below_drewN hb2 _
              have c1V : (W.drewN nq).cell? ⟨b1, o1 + j, none⟩ = some (.string x) := c1W
              have c2V : (W.drewN nq).cell? ⟨b2, o2 + j, none⟩ = some (.string y) := c2W
              have c3V : (W.drewN nq).cell? ⟨b3, o3 + j, none⟩ = some (.string z) := c3W
              have hsz : (W.drewN nq).heap.size = W.heap.size := rfl
              rw [← hsz] at ho5
              clear hsz
              generalize W.drewN nq = V at *
              go_wp2_with fail
              go_ret2
              exact ListPost.nil_ hG.out hb5
          · obtain rfl : j = n := by omega
            have h9 := hr.out.trans (Mk.vote_done (by rw [l1.out]; exact Nat.le_refl _) hH.out)
            have H9 := Lib.hid h9
            clear h9
            go_wp2_with fail
            go_ret2
            exact ListPost.some_ H9.out ho hbel

set_option maxHeartbeats 2000000 in
theorem svote_any (A B C : Option Addr) (n c m d l e : Nat) (xs ys zs : List ByteArray) (w : World) (hn : n ≤ 9223372036854775807) (hm : m ≤ 9223372036854775807) (hl : l ≤ 9223372036854775807) (h : Strs w A n xs) (k : Strs w B m ys) (q : Strs w C l zs) :
    Calls Try.prog 38 #[.slice A n c, .slice B m d, .slice C l e] w (ListPost w (voteF xs ys zs)) := by
  have l1 := Lib.hid h.len
  have l2 := Lib.hid k.len
  have l3 := Lib.hid q.len
  have hemp : OwnS (w.alloc (.cells #[] 9)) w.heap.size (w.heap.size + 1) (some ⟨w.heap.size, 0, none⟩) 0 0 [] := own_emptyS w w.heap.size (Nat.le_refl _)
  have b0 : Below w.heap.size w (w.alloc (.cells #[] 9)) := (Below.refl _ _).alloc (Nat.le_refl _) _
  have hE := Lib.hid hemp
  clear hemp
  cases h1 : speak xs with
  | false =>
    have hr := Lib.hid (voteF_no (a := xs) (b := ys) (c := zs) (by rw [h1]; rfl))
    go_enter Try.func38, Try.ntmps38
    go_wp2_with fail
    refine (sspeech_any A n c xs _ hn (h.below b0)).mono ?_
    rintro e w' ⟨rfl, rfl⟩
    rw [h1]
    go_wp2_with fail
    go_ret2
    exact ListPost.empty hr.out hE.out (Nat.le_refl _) b0
  | true =>
    cases h2 : speak ys with
    | false =>
      have hr := Lib.hid (voteF_no (a := xs) (b := ys) (c := zs) (by rw [h1, h2]; rfl))
      go_enter Try.func38, Try.ntmps38
      go_wp2_with fail
      refine (sspeech_any A n c xs _ hn (h.below b0)).mono ?_
      rintro e w' ⟨rfl, rfl⟩
      rw [h1]
      go_wp2_with fail
      refine (sspeech_any B m d ys _ hm (k.below b0)).mono ?_
      rintro e w' ⟨rfl, rfl⟩
      rw [h2]
      go_wp2_with fail
      go_ret2
      exact ListPost.empty hr.out hE.out (Nat.le_refl _) b0
    | true =>
      cases h3 : speak zs with
      | false =>
        have hr := Lib.hid (voteF_no (a := xs) (b := ys) (c := zs) (by rw [h1, h2, h3]; rfl))
        go_enter Try.func38, Try.ntmps38
        go_wp2_with fail
        refine (sspeech_any A n c xs _ hn (h.below b0)).mono ?_
        rintro e w' ⟨rfl, rfl⟩
        rw [h1]
        go_wp2_with fail
        refine (sspeech_any B m d ys _ hm (k.below b0)).mono ?_
        rintro e w' ⟨rfl, rfl⟩
        rw [h2]
        go_wp2_with fail
        refine (sspeech_any C l e zs _ hl (q.below b0)).mono ?_
        rintro e w' ⟨rfl, rfl⟩
        rw [h3]
        go_wp2_with fail
        go_ret2
        exact ListPost.empty hr.out hE.out (Nat.le_refl _) b0
      | true =>
        by_cases hnm : n = m
        rotate_left
        · have hr := Lib.hid (voteF_no (a := xs) (b := ys) (c := zs) (by rw [h1, h2, h3, decide_eq_false (by rw [l1.out, l2.out]; exact hnm)]; rfl))
          have e1 : ((n : Int) != (m : Int)) = true := by simp; omega
          clear hnm
          go_enter Try.func38, Try.ntmps38
          go_wp2_with fail
          refine (sspeech_any A n c xs _ hn (h.below b0)).mono ?_
          rintro e w' ⟨rfl, rfl⟩
          rw [h1]
          go_wp2_with fail
          refine (sspeech_any B m d ys _ hm (k.below b0)).mono ?_
          rintro e w' ⟨rfl, rfl⟩
          rw [h2]
          go_wp2_with fail
          refine (sspeech_any C l e zs _ hl (q.below b0)).mono ?_
          rintro e w' ⟨rfl, rfl⟩
          rw [h3]
          go_wp2_with fail
          go_ret2
          exact ListPost.empty hr.out hE.out (Nat.le_refl _) b0
        subst hnm
        by_cases hnm : n = l
        rotate_left
        · have hr := Lib.hid (voteF_no (a := xs) (b := ys) (c := zs) (by rw [h1, h2, h3, decide_eq_false (by rw [l1.out, l3.out]; exact hnm : ¬ xs.length = zs.length)]; simp))
          have e2 : ((n : Int) != (l : Int)) = true := by simp; omega
          have e1 : ((n : Int) != (n : Int)) = false := by simp
          clear hnm
          go_enter Try.func38, Try.ntmps38
          go_wp2_with fail
          refine (sspeech_any A n c xs _ hn (h.below b0)).mono ?_
          rintro e w' ⟨rfl, rfl⟩
          rw [h1]
          go_wp2_with fail
          refine (sspeech_any B n d ys _ hm (k.below b0)).mono ?_
          rintro e w' ⟨rfl, rfl⟩
          rw [h2]
          go_wp2_with fail
          refine (sspeech_any C l e zs _ hl (q.below b0)).mono ?_
          rintro e w' ⟨rfl, rfl⟩
          rw [h3]
          go_wp2_with fail
          go_ret2
          exact ListPost.empty hr.out hE.out (Nat.le_refl _) b0
        subst hnm
        have hn20 : n ≤ 20 := by rw [← l1.out]; exact (Mk.speech_parts wok h1).1
        have hr := Lib.hid (voteF_yes h1 h2 h3 (l1.out.trans l2.out.symm) (l1.out.trans l3.out.symm))
        have e1 : ((n : Int) != (n : Int)) = false := by simp
        go_enter Try.func38, Try.ntmps38
        go_wp2_with fail
        refine (sspeech_any A n c xs _ hn (h.below b0)).mono ?_
        rintro e w' ⟨rfl, rfl⟩
        rw [h1]
        go_wp2_with fail
        refine (sspeech_any B n d ys _ hm (k.below b0)).mono ?_
        rintro e w' ⟨rfl, rfl⟩
        rw [h2]
        go_wp2_with fail
        refine (sspeech_any C n e zs _ hl (q.below b0)).mono ?_
        rintro e w' ⟨rfl, rfl⟩
        rw [h3]
        go_wp2_with fail
        go_loopw [8, 9] (fun v i wr => ∃ (j : Nat) (A' : Option Addr) (c' : Nat) (out : List ByteArray), j ≤ n ∧ i = .int .i64 j ∧ v = .slice A' j c' ∧ OwnS wr w.heap.size wr.heap.size A' j c' out ∧ Hid (Mk.vote xs ys zs = (Mk.vote (xs.drop j) (ys.drop j) (zs.drop j)).map (out ++ ·)) ∧ Below w.heap.size w wr) (fun _ i _ => n - (intOf i).toNat)
        case atStart => exact ⟨0, some ⟨w.heap.size, 0, none⟩, 0, [], Nat.zero_le _, rfl, rfl, by have := hE.out; simpa using this.wide (Nat.le_refl _) (Nat.le_refl _) (by simp), Lib.hid (by simp), b0⟩
        case round =>
          obtain ⟨j, A', c', out, hj, rfl, rfl, ho, hH, hbel⟩ := hrel
          by_cases hlt : j < n
          · obtain ⟨b1, o1, x, rfl, hx, x1, c1⟩ := (h.below hbel).at_ hlt
            obtain ⟨b2, o2, y, rfl, hy, y1, c2⟩ := (k.below hbel).at_ hlt
            obtain ⟨b3, o3, z, rfl, hz, z1, c3⟩ := (q.below hbel).at_ hlt
            have hX := Lib.hid hx
            have hY := Lib.hid hy
            have hZ := Lib.hid hz
            clear hx hy hz
            have i1 : (0 : Int) ≤ (j : Int) := by omega
            have i2 : (j : Int) < (n : Int) := by omega
            by_cases hxy : x = y
            · have b1' : (x.toList == y.toList) = true := by rw [bytes_eq]; simp [hxy]
              have hG : Hid (Mk.vote xs ys zs = (Mk.vote (xs.drop (j + 1)) (ys.drop (j + 1)) (zs.drop (j + 1))).map ((out ++ [x]) ++ ·)) := Lib.hid (Mk.vote_go hX.out hY.out hZ.out hH.out (by unfold Mk.vote1; rw [if_pos (.inl hxy)]))
              clear hxy hH
              go_wp2_with fail
              go_quiet (fail)
              have ho2 := ho.drewN nq
              have hb2 : Below w.heap.size w (wr.drewN nq) := below_drewN hbel _
              have c1W : (wr.drewN nq).cell? ⟨b1, o1 + j, none⟩ = some (.string x) := c1
              have c2W : (wr.drewN nq).cell? ⟨b2, o2 + j, none⟩ = some (.string y) := c2
              have c3W : (wr.drewN nq).cell? ⟨b3, o3 + j, none⟩ = some (.string z) := c3
              have hsz : (wr.drewN nq).heap.size = wr.heap.size := rfl
              rw [← hsz] at ho2
              clear hsz
              generalize wr.drewN nq = W at *
              go_wp2_with (at_builtin; go_must (refine wpList_pushS _ rfl (.tmp 67) (.tmp 72) rfl w.heap.size W.heap.size A' j c' out rfl (ho2.alloc _) x W.heap.size rfl x1 (by go_simp) (by omega) (by have := hb2.size; simp; omega) ?_); intro g c4 w4 ho4 hg4 _)
              have hb4 : Below w.heap.size w w4 := below_cat (hb2.alloc hb2.size _) hg4 (fun a ha => (ho2.lo_le a ha).1)
              go_roundw
              case rel => exact ⟨j + 1, _, _, _, by omega, by go_num, rfl, ho4, hG, hb4⟩
              case measure => simp [intOf]; omega
            by_cases hxz : x = z
            · have b1' : (x.toList == y.toList) = false := by rw [bytes_eq]; simp [hxy]
              have b2' : (x.toList == z.toList) = true := by rw [bytes_eq]; simp [hxz]
              have hG : Hid (Mk.vote xs ys zs = (Mk.vote (xs.drop (j + 1)) (ys.drop (j + 1)) (zs.drop (j + 1))).map ((out ++ [x]) ++ ·)) := Lib.hid (Mk.vote_go hX.out hY.out hZ.out hH.out (by unfold Mk.vote1; rw [if_pos (.inr hxz)]))
              clear hxy hxz hH
              go_wp2_with fail
              go_quiet (fail)
              have ho2 := ho.drewN nq
              have hb2 : Below w.heap.size w (wr.drewN nq) := below_drewN hbel _
              have c1W : (wr.drewN nq).cell? ⟨b1, o1 + j, none⟩ = some (.string x) := c1
              have c2W : (wr.drewN nq).cell? ⟨b2, o2 + j, none⟩ = some (.string y) := c2
              have c3W : (wr.drewN nq).cell? ⟨b3, o3 + j, none⟩ = some (.string z) := c3
              have hsz : (wr.drewN nq).heap.size = wr.heap.size := rfl
              rw [← hsz] at ho2
              clear hsz
              generalize wr.drewN nq = W at *
              go_wp2_with (at_builtin; go_must (refine wpList_pushS _ rfl (.tmp 67) (.tmp 72) rfl w.heap.size W.heap.size A' j c' out rfl (ho2.alloc _) x W.heap.size rfl x1 (by go_simp) (by omega) (by have := hb2.size; simp; omega) ?_); intro g c4 w4 ho4 hg4 _)
              have hb4 : Below w.heap.size w w4 := below_cat (hb2.alloc hb2.size _) hg4 (fun a ha => (ho2.lo_le a ha).1)
              go_roundw
              case rel => exact ⟨j + 1, _, _, _, by omega, by go_num, rfl, ho4, hG, hb4⟩
              case measure => simp [intOf]; omega
            by_cases hyz : y = z
            · have b1' : (x.toList == y.toList) = false := by rw [bytes_eq]; simp [hxy]
              have b2' : (x.toList == z.toList) = false := by rw [bytes_eq]; simp [hxz]
              have b3' : (y.toList == z.toList) = true := by rw [bytes_eq]; simp [hyz]
              have hG : Hid (Mk.vote xs ys zs = (Mk.vote (xs.drop (j + 1)) (ys.drop (j + 1)) (zs.drop (j + 1))).map ((out ++ [y]) ++ ·)) := Lib.hid (Mk.vote_go hX.out hY.out hZ.out hH.out (by unfold Mk.vote1; rw [if_neg (by simp [hxy, hxz]), if_pos hyz]))
              clear hxy hxz hyz hH
              go_wp2_with fail
              go_quiet (fail)
              have ho2 := ho.drewN nq
              have hb2 : Below w.heap.size w (wr.drewN nq) := below_drewN hbel _
              have c1W : (wr.drewN nq).cell? ⟨b1, o1 + j, none⟩ = some (.string x) := c1
              have c2W : (wr.drewN nq).cell? ⟨b2, o2 + j, none⟩ = some (.string y) := c2
              have c3W : (wr.drewN nq).cell? ⟨b3, o3 + j, none⟩ = some (.string z) := c3
              have hsz : (wr.drewN nq).heap.size = wr.heap.size := rfl
              rw [← hsz] at ho2
              clear hsz
              generalize wr.drewN nq = W at *
              go_wp2_with fail
              go_quiet (fail)
              have ho5 := ho2.drewN nq
              have hb5 : Below w.heap.size w (W.drewN nq) := below_drewN hb2 _
              have c1V : (W.drewN nq).cell? ⟨b1, o1 + j, none⟩ = some (.string x) := c1W
              have c2V : (W.drewN nq).cell? ⟨b2, o2 + j, none⟩ = some (.string y) := c2W
              have c3V : (W.drewN nq).cell? ⟨b3, o3 + j, none⟩ = some (.string z) := c3W
              have hsz : (W.drewN nq).heap.size = W.heap.size := rfl
              rw [← hsz] at ho5
              clear hsz
              generalize W.drewN nq = V at *
              go_wp2_with (at_builtin; go_must (refine wpList_pushS _ rfl (.tmp 84) (.tmp 89) rfl w.heap.size V.heap.size A' j c' out rfl (ho5.alloc _) y V.heap.size rfl y1 (by go_simp) (by omega) (by have := hb5.size; simp; omega) ?_); intro g c4 w4 ho4 hg4 _)
              have hb4 : Below w.heap.size w w4 := below_cat (hb5.alloc hb5.size _) hg4 (fun a ha => (ho5.lo_le a ha).1)
              go_roundw
              case rel => exact ⟨j + 1, _, _, _, by omega, by go_num, rfl, ho4, hG, hb4⟩
              case measure => simp [intOf]; omega
            · have b1' : (x.toList == y.toList) = false := by rw [bytes_eq]; simp [hxy]
              have b2' : (x.toList == z.toList) = false := by rw [bytes_eq]; simp [hxz]
              have b3' : (y.toList == z.toList) = false := by rw [bytes_eq]; simp [hyz]
              have hG := Lib.hid (hr.out.trans (Mk.vote_stop hX.out hY.out hZ.out hH.out (by unfold Mk.vote1; rw [if_neg (by simp [hxy, hxz]), if_neg hyz])))
              clear hxy hxz hyz hH
              go_wp2_with fail
              go_quiet (fail)
              have ho2 := ho.drewN nq
              have hb2 : Below w.heap.size w (wr.drewN nq) := below_drewN hbel _
              have c1W : (wr.drewN nq).cell? ⟨b1, o1 + j, none⟩ = some (.string x) := c1
              have c2W : (wr.drewN nq).cell? ⟨b2, o2 + j, none⟩ = some (.string y) := c2
              have c3W : (wr.drewN nq).cell? ⟨b3, o3 + j, none⟩ = some (.string z) := c3
              have hsz : (wr.drewN nq).heap.size = wr.heap.size := rfl
              rw [← hsz] at ho2
              clear hsz
              generalize wr.drewN nq = W at *
              go_wp2_with fail
              go_quiet (fail)
              have ho5 := ho2.drewN nq
              have hb5 : Below w.heap.size w (W.drewN nq) := below_drewN hb2 _
              have c1V : (W.drewN nq).cell? ⟨b1, o1 + j, none⟩ = some (.string x) := c1W
              have c2V : (W.drewN nq).cell? ⟨b2, o2 + j, none⟩ = some (.string y) := c2W
              have c3V : (W.drewN nq).cell? ⟨b3, o3 + j, none⟩ = some (.string z) := c3W
              have hsz : (W.drewN nq).heap.size = W.heap.size := rfl
              rw [← hsz] at ho5
              clear hsz
              generalize W.drewN nq = V at *
              go_wp2_with fail
              go_ret2
              exact ListPost.empty hG.out (own_emptyS V w.heap.size hb5.size) (Nat.le_refl _) (hb5.alloc hb5.size _)
          · obtain rfl : j = n := by omega
            have h9 := hr.out.trans (Mk.vote_done (by rw [l1.out]; exact Nat.le_refl _) hH.out)
            have H9 := Lib.hid h9
            clear h9
            go_wp2_with fail
            go_ret2
            exact ListPost.some_ H9.out ho hbel

end Go.Proofs.Ytjhlcgjhdiheaaa
