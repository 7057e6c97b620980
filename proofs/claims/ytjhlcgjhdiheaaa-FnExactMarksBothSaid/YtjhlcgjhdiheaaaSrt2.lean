/- slices.SortStableFunc at twenty marks or fewer. -/
import Derived.Test.YtjhlcgjhdiheaaaSrt
import Derived.Test.YtjhlcgjhdiheaaaLay
namespace Go.Proofs.Ytjhlcgjhdiheaaa
open Go.RowKit Go.Sort
set_option linter.unusedVariables false
set_option linter.unusedSimpArgs false

set_option maxHeartbeats 400000 in
theorem cmp84 (x y : El) (W : World) : Calls Try.prog 84 #[.agg (encEl x).toArray, .agg (encEl y).toArray] W fun e w' => e = .returned (.int .i64 (cfEl x y)) ∧ ∃ q os', w' = grow (W.drewN q) os' := by
  obtain ⟨⟨⟨a, c, s⟩, ⟨A, n, k⟩⟩, h1⟩ := x
  obtain ⟨⟨⟨a2, c2, s2⟩, ⟨A2, n2, k2⟩⟩, h2⟩ := y
  dsimp only at h1 h2
  obtain ⟨p1, p2⟩ := h1
  obtain ⟨p3, p4⟩ := h2
  show Calls Try.prog 84 #[.agg #[.int .i64 a, .int .i64 c, .slice A n k], .agg #[.int .i64 a2, .int .i64 c2, .slice A2 n2 k2]] W fun e w' => e = .returned (.int .i64 (a - a2)) ∧ ∃ q os', w' = grow (W.drewN q) os'
  have u1 : IntKind.i64.wrap (a - a2) = a - a2 := IntWalk.i64_in _ (by omega)
  go_enter Try.func84, Try.ntmps84
  go_wp2
  go_ret
  exact ⟨ret_int rfl, 0, _, by rw [alloc_eq_grow, alloc_eq_grow, grow_grow]; rfl⟩
theorem enc_one (x : El) : ∀ v ∈ encEl x, v.oneCell' = true := by
  intro v hv
  simp only [encEl, List.mem_cons, List.not_mem_nil, or_false] at hv
  rcases hv with rfl | rfl | rfl <;> rfl
theorem ins111 (g n c a b : Nat) (d : Array El) (w : World) (hs : d.size = n) (hn : n ≤ 1000) (hab : a ≤ b) (hb : b ≤ n) (hH : HoldsK encEl 3 w g 0 d) (hl : g < w.heap.size) :
    Calls Try.prog 111 #[.slice (some ⟨g, 0, none⟩) n c, .int .i64 a, .int .i64 b, .func (.func 84) #[] #[]] w fun e w' => e = .returned (.tuple #[]) ∧ ∃ q os, w' = sortWorldK encEl 3 w g 0 q (Sort.insertionSort (ltOf cfEl) d a b) os := by
  have eg : ∀ args w, (callFunc 84 args).run Try.prog w = .ok (.enter 84 args) w := enters_of Try.func84 (by kernel_rfl) rfl
  subst hs
  exact AnyQ.insertionSortCmpFunc sortL 3 Try.isAgg58 Try.sizeOf58 encEl (fun _ => rfl) enc_one cfEl 84 #[] g 0 c a b d w eg (fun _ _ _ _ x y => cmp84 x y _) hH hl hab hb (by omega)
theorem sortWorld_two (w : World) (g q q2 : Nat) (d1 d2 : Array El) (os os2 : Array Obj) (hl : g < w.heap.size) (hs : d2.size = d1.size) :
    sortWorldK encEl 3 (sortWorldK encEl 3 w g 0 q d1 os) g 0 q2 d2 os2 = sortWorldK encEl 3 w g 0 (q + q2) d2 (os ++ os2) := by
  unfold sortWorldK putRowK
  exact grow_step_grow id w os os2 q q2 g 0 _ _ hl (by simp [hs])
theorem ins_done (d : Array El) (n : Nat) : Sort.insertionSort (ltOf cfEl) d n n = d := by
  unfold Sort.insertionSort Sort.insOuter
  rw [if_neg (by omega)]
/-- what the stable sort leaves -/
def SortPost (w : World) (g n : Nat) (d : Array El) (e : Ending) (w' : World) : Prop := e = .returned (.tuple #[]) ∧ ∃ q os, w' = sortWorldK encEl 3 w g 0 q (Sort.insertionSort (ltOf cfEl) d 0 n) os
set_option maxHeartbeats 1000000 in
theorem stable108_any (g n c : Nat) (d : Array El) (w : World) (hs : d.size = n) (hn : n ≤ 20) (hH : HoldsK encEl 3 w g 0 d) (hl : g < w.heap.size) :
    Calls Try.prog 108 #[.slice (some ⟨g, 0, none⟩) n c, .int .i64 n, .func (.func 84) #[] #[]] w (SortPost w g n d) := by
  have hperm := (insertionSort_holds swo_el d 0 n (Nat.zero_le _) (by omega)).1
  have hs2 : (Sort.insertionSort (ltOf cfEl) d 0 n).size = n := hperm.1.trans hs
  have HP := Lib.hid hs2
  have HS := Lib.hid hs
  clear hperm hs2 hs
  by_cases h20 : n = 20
  · subst h20
    go_enter Try.func108, Try.ntmps108
    go_wp2_with fail
    go_loopg [7, 8] 1 (fun g1 av bv wr => (g1 = 1 ∧ av = .int .i64 0 ∧ bv = .int .i64 20 ∧ Hid (wr = w)) ∨ (g1 = 0 ∧ av = .int .i64 20 ∧ bv = .int .i64 40 ∧ ∃ q os, Hid (wr = sortWorldK encEl 3 w g 0 q (Sort.insertionSort (ltOf cfEl) d 0 20) os)))
    case atStart => exact .inl ⟨rfl, rfl, rfl, Lib.hid rfl⟩
    case round =>
      rcases hrel with ⟨rfl, rfl, rfl, hw⟩ | ⟨rfl, rfl, rfl, q, os, hw⟩
      · obtain rfl : wr = w := hw.out
        go_wp2_with fail
        refine (ins111 g 20 c 0 20 d _ HS.out (by omega) (by omega) (by omega) hH hl).mono ?_
        rintro e w' ⟨rfl, q, os, hw'⟩
        have HW := Lib.hid hw'
        clear hw'
        go_wp2_with fail
        go_roundg 0
        case measure => omega
        case rel => exact .inr ⟨rfl, rfl, rfl, q, os, HW⟩
      · have hH2 : HoldsK encEl 3 wr g 0 (Sort.insertionSort (ltOf cfEl) d 0 20) := by rw [hw.out]; exact holdsK_sortWorldK_c encEl 3 w g 0 d _ _ _ hH hl (by rw [HP.out, HS.out])
        have hl2 : g < wr.heap.size := by rw [hw.out]; exact Nat.lt_of_lt_of_le hl (size_sortWorldK_c encEl 3 w g 0 _ _ _)
        go_wp2_with fail
        refine (ins111 g 20 c 20 20 _ _ HP.out (by omega) (by omega) (by omega) hH2 hl2).mono ?_
        rw [ins_done]
        rintro e w' ⟨rfl, q2, os2, hw'⟩
        rw [hw.out, sortWorld_two w g q q2 _ _ os os2 hl rfl] at hw'
        have HW := Lib.hid hw'
        clear hw'
        go_wp2_with fail
        go_loopg [6] 0 (fun g1 bv wx => bv = .int .i64 20 ∧ wx = w')
        case atStart => exact ⟨rfl, rfl⟩
        case round =>
          obtain ⟨rfl, rfl⟩ := hrel
          go_wp2_with fail
          go_end0
          exact ⟨rfl, q + q2, os ++ os2, HW.out⟩
  · have e1 : decide ((20 : Int) ≤ (n : Int)) = false := by simp; omega
    have e2 : decide ((20 : Int) < (n : Int)) = false := by simp; omega
    go_enter Try.func108, Try.ntmps108
    go_wp2_with fail
    go_loopg [7, 8] 0 (fun g1 av bv wr => av = .int .i64 0 ∧ bv = .int .i64 20 ∧ wr = w)
    case atStart => exact ⟨rfl, rfl, rfl⟩
    case round =>
      obtain ⟨rfl, rfl, rfl⟩ := hrel
      go_wp2_with fail
      refine (ins111 g n c 0 n d _ HS.out (by omega) (by omega) (by omega) hH hl).mono ?_
      rintro e w' ⟨rfl, q, os, hw'⟩
      have HW := Lib.hid hw'
      clear hw'
      go_wp2_with fail
      go_loopg [6] 0 (fun g1 bv wx => bv = .int .i64 20 ∧ wx = w')
      case atStart => exact ⟨rfl, rfl⟩
      case round =>
        obtain ⟨rfl, rfl⟩ := hrel
        go_wp2_with fail
        go_end0
        exact ⟨rfl, q, os, HW.out⟩
theorem stable83_any (g n c : Nat) (d : Array El) (w : World) (hs : d.size = n) (hn : n ≤ 20) (hH : HoldsK encEl 3 w g 0 d) (hl : g < w.heap.size) :
    Calls Try.prog 83 #[.slice (some ⟨g, 0, none⟩) n c, .func (.func 84) #[] #[]] w (SortPost w g n d) := by
  have HS := Lib.hid hs
  clear hs
  go_enter Try.func83, Try.ntmps83
  go_wp2_with fail
  refine (stable108_any g n c d _ HS.out hn hH hl).mono ?_
  rintro e w' ⟨rfl, q, os, rfl⟩
  go_wp2_with fail
  go_end0
  exact ⟨rfl, q, os, rfl⟩
/-- a row of at most twenty marks of the call's own is sorted by their indexes -/
theorem sort_marks (lo hi n c : Nat) (A : Option Addr) (ms : List M) (w : World) (h : OwnM w lo hi A n c ms) (hn : n ≤ 20) (hA : A ≠ none) (hsm : ∀ m ∈ ms, 0 ≤ m.at_ ∧ m.at_ ≤ 1000000) :
    Calls Try.prog 83 #[.slice A n c, .func (.func 84) #[] #[]] w fun e w' => e = .returned (.tuple #[]) ∧ ∃ ms', OwnM w' lo hi A n c ms' ∧ ms'.Perm ms ∧ (ms'.Pairwise fun a b => a.at_ ≤ b.at_) ∧ w.grownBy w' (A.map (·.block)) := by
  obtain ⟨g, rfl⟩ : ∃ g, A = some ⟨g, 0, none⟩ := by
    rcases h.root with ⟨e, _⟩ | e
    · exact absurd e hA
    · exact e
  obtain ⟨ps, hM⟩ := h
  obtain ⟨es, rfl, rfl⟩ := el_of ms ps (by rw [hM.1, hM.2.1]) hsm
  have hsz : es.toArray.size = n := by have := hM.2.1; simpa using this
  have hM' : OwnMp w lo hi (some ⟨g, 0, none⟩) n c (msOf es.toArray) (psOf es.toArray) := hM
  have hl : g < w.heap.size := (hM.2.2.1.lt g rfl).2
  refine (stable83_any g n c es.toArray w hsz hn hM'.holds hl).mono ?_
  rintro e w' ⟨rfl, q, os, rfl⟩
  obtain ⟨k1, k2⟩ := insertionSort_holds swo_el es.toArray 0 n (Nat.zero_le _) (by omega)
  have hp := permIn_whole (by rw [hsz]; exact k1)
  exact ⟨rfl, _, (hM'.sorted hp).own, hp.map _, sortedIn_ms (k1.1.trans hsz) k2, sorted_grown hl⟩
end Go.Proofs.Ytjhlcgjhdiheaaa
