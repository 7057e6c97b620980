/- Words that are drawn. -/
import Derived.Test.YtjhlcgjhdiheaaaDoorDraw1
namespace Go.Proofs.YtjhlcgjhdiheaaaDoor
open Go.RowKit
set_option linter.unusedVariables false
set_option linter.unusedSimpArgs false

theorem lit_sz (x : List UInt8) (h : x.length ≤ 100) : Sz ⟨x.toArray⟩ := by
  unfold Sz
  show x.length ≤ _
  omega
abbrev speechWords : List ByteArray := [⟨#[119, 101]⟩, ⟨#[97, 114, 101]⟩, ⟨#[110, 111, 116]⟩, ⟨#[104, 101, 114, 101]⟩, ⟨#[110, 111, 119]⟩]
abbrev oddWords : List ByteArray := [⟨#[]⟩, ⟨#[65]⟩, ⟨#[97, 49]⟩]
theorem sz_words : ∀ x ∈ speechWords, Sz x := by
  intro x hx
  simp only [speechWords, List.mem_cons, List.not_mem_nil, or_false] at hx
  rcases hx with rfl | rfl | rfl | rfl | rfl <;> exact lit_sz _ (by decide)
theorem sz_odd : ∀ x ∈ oddWords, Sz x := by
  intro x hx
  simp only [oddWords, List.mem_cons, List.not_mem_nil, or_false] at hx
  rcases hx with rfl | rfl | rfl <;> exact lit_sz _ (by decide)

set_option maxHeartbeats 1000000 in
theorem speechD_any (R m : Nat) (K : Int) (w : World) (h : RdB w R K) (hK0 : 0 ≤ K) (hK : K ≤ 100000) (hm : m ≤ 20) :
    Calls Tryd.prog 29 #[.pointer (some ⟨R, 0, none⟩), .int .i64 (m : Int)] w (SpeechPost w R (K + 30) m) := by
  have hR := h.lt
  have H0 := drawnS_start h
  have e1 : IntKind.i64.wrap ((m : Int) + 1) = (m : Int) + 1 := IntWalk.i64_in _ (by omega)
  go_enter Tryd.func29, Tryd.ntmps29
  go_wp2_with fail
  refine (pickB R K ((m : Int) + 1) _ H0.rd (by omega) (by omega) (by omega)).mono ?_
  rintro e w1 ⟨x, rfl, hx, hr1, hg1⟩
  have H1 := H0.pick hR hr1 hg1
  clear H0 hr1 hg1 h e1
  go_wp2_with fail
  go_loopg [5, 7] x (fun g o i wr => ∃ k : Nat, k ≤ x ∧ g = x - k ∧ i = .int .i64 k ∧ ∃ A c, o = .slice A k c ∧ DrawnS w R (K + 1 + k) k A c wr)
  case atStart => exact ⟨0, Nat.zero_le _, rfl, rfl, _, _, rfl, by simpa using H1⟩
  case round =>
    clear H1
    obtain ⟨k, hk, rfl, rfl, A, c, rfl, hd⟩ := hrel
    by_cases hlt : k < x
    · go_wp2_with fail
      refine (of_any R 5 5 (K + 1 + k) _ speechWords _ (hd.rd.alloc _) (by omega) (strs_lit wr speechWords sz_words) (by omega) (by omega)).mono ?_
      rintro e w2 ⟨y, rfl, hy, hr2, hg2⟩
      have hd2 := (hd.alloc _).pick hR hr2 hg2
      clear hd hr2 hg2
      go_wp2_with (at_builtin; go_must (refine drawnS_push w _ rfl (.tmp 18) (.tmp 22) rfl R k c (K + 1 + k + 1) A rfl (hd2.alloc _) hR y w2.heap.size rfl hy (by go_simp) (by omega) ?_); intro g c' w3 hd3)
      go_roundg (x - (k + 1))
      case measure => omega
      case rel => exact ⟨k + 1, by omega, rfl, by go_num, _, _, rfl, hd3.mono (by omega)⟩
    · obtain rfl : k = x := by omega
      by_cases hx0 : k = 0
      · subst hx0
        go_wp2_with fail
        go_ret
        exact ⟨A, 0, c, rfl, by omega, hd.mono (by omega)⟩
      · go_wp2_with fail
        refine (pickB R (K + 1 + k) 40 _ hd.rd (by omega) (by omega) (by omega)).mono ?_
        rintro e w2 ⟨y, rfl, hy, hr2, hg2⟩
        have hd2 := hd.pick hR hr2 hg2
        clear hd hr2 hg2
        cases hy0 : ((y : Int) == 0) with
        | true =>
          go_wp2_with fail
          refine (of_any R 3 3 (K + 1 + k + 1) _ oddWords _ (hd2.rd.alloc _) (by omega) (strs_lit w2 oddWords sz_odd) (by omega) (by omega)).mono ?_
          rintro e w3 ⟨v, rfl, hv, hr3, hg3⟩
          have hd3 := (hd2.alloc _).pick hR hr3 hg3
          clear hd2 hr3 hg3
          obtain ⟨xs, ho, hr, hg⟩ := hd3
          obtain ⟨g, q, rfl, hg1, hg2, hq, _, hc2, hf2⟩ := ho.at_ (k := 0) (by omega)
          have hs := Lib.hid (ho.store (k := 0) (x := v) hv)
          clear hq
          go_wp2
          go_ret
          refine ⟨_, k, c, rfl, by omega, xs.set 0 v, ?_, (hr.grown (grown_setCell _ _ _ _) (fun g' e => by injection e with e; omega)).mono (by omega), only_then hg (grown_setCell _ _ _ _) (fun g' e => by injection e with e; exact .inr (by omega))⟩
          have := hs.out
          simpa [World.setCell] using this
        | false =>
          go_wp2_with fail
          go_ret
          exact ⟨A, k, c, rfl, by omega, hd2.mono (by omega)⟩
end Go.Proofs.YtjhlcgjhdiheaaaDoor

