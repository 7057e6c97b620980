/- What the statements say of shifts, ways back and sizes, in the words of the walks. -/
import Derived.Test.YtjhlcgjhdiheaaaLawsQ
import Derived.Test.YtjhlcgjhdiheaaaShf
import Derived.Test.YtjhlcgjhdiheaaaDo
namespace Go.Proofs.Ytjhlcgjhdiheaaa

theorem sameI_bound (a b : List ByteArray) : -1 ≤ sameI a b ∧ sameI a b ≤ 20 := by
  by_cases h : 0 ≤ sameI a b
  · obtain ⟨h1, _, _⟩ := farI_parts (sameI_parts h)
    have := (sameI_min h).1
    have := speak_len h1
    omega
  · have : sameI a b = -1 := by
      unfold sameI at h ⊢
      split
      · rfl
      · rename_i h0
        rw [if_neg h0] at h
        have hf := farI_bound a b
        cases hs : (speak a && speak b) with
        | false => rw [farI_no hs] at h0; omega
        | true =>
          rw [Bool.and_eq_true] at hs
          rw [farI_yes hs.1 hs.2] at h ⊢
          have := Mk.far_le a b
          omega
    omega
theorem doM_doG {ws : List ByteArray} {ms : List M} (h : valid ws ms = true) : Mk.doM ws 0 ms = Mk.doG ws (Mk.gapsFrom 0 ms) := by
  obtain ⟨e, g⟩ := Mk.good_of_valid wok h
  conv => lhs; rw [← e]
  rw [Mk.doM_abs, List.drop_zero]
theorem shift_parts {ws : List ByteArray} {ms : List M} {i : Int} (h : shiftOk ws ms i = true) : valid ws ms = true ∧ 0 ≤ i ∧ i < ws.length ∧ Mk.inCut i ms = false := by
  unfold shiftOk at h
  simp only [Bool.and_eq_true, decide_eq_true_eq, Bool.not_eq_true'] at h
  exact ⟨h.1.1, h.1.2.1, h.1.2.2, h.2⟩
theorem shift_gap {ws : List ByteArray} {ms : List M} {k : Nat} (h : shiftOk ws ms (k : Int) = true) : ∃ o : Nat, shiftV ws ms (k : Int) = (o : Int) ∧ Mk.shiftG k (Mk.gapsFrom 0 ms) = some o := by
  obtain ⟨h1, h2, h3, h4⟩ := shift_parts h
  obtain ⟨e, g⟩ := Mk.good_of_valid wok h1
  rcases Mk.shift_abs (Mk.gapsFrom 0 ms) 0 k with ⟨_, h5⟩ | ⟨o, h5, _, h6⟩
  · rw [e, Nat.zero_add, h4] at h5; cases h5
  · rw [e, Nat.zero_add] at h6
    exact ⟨o, by rw [shift_yes h, h6], h5⟩
/-- a word that stays is found again -/
theorem shift_facts {ws : List ByteArray} {ms : List M} {k : Nat} (h : shiftOk ws ms (k : Int) = true) :
    ∃ o : Nat, shiftV ws ms (k : Int) = (o : Int) ∧ o < (Mk.doM ws 0 ms).length ∧ (Mk.doM ws 0 ms)[o]? = ws[k]? ∧ k < ws.length ∧ shiftOk (Mk.doM ws 0 ms) (Mk.backM ws 0 ms) (o : Int) = true ∧ shiftV (Mk.doM ws 0 ms) (Mk.backM ws 0 ms) (o : Int) = (k : Int) ∧
      (shiftOk ws ms ((k : Int) + 1) = true → (o : Int) < shiftV ws ms ((k : Int) + 1)) := by
  obtain ⟨h1, h2, h3, h4⟩ := shift_parts h
  obtain ⟨e, g⟩ := Mk.good_of_valid wok h1
  obtain ⟨o, h5, h6⟩ := shift_gap h
  have hk : k < ws.length := by omega
  have h7 := Mk.shift_do (Mk.gapsFrom 0 ms) ws k o g.fits hk h6
  rw [← doM_doG h1] at h7
  have hlt : o < (Mk.doM ws 0 ms).length := by
    rw [List.getElem?_eq_getElem hk] at h7
    exact (List.getElem?_eq_some_iff.1 h7).1
  have h8 := Mk.shift_back (Mk.gapsFrom 0 ms) ws k o g.fits hk h6
  have h9 := Mk.shift_abs (Mk.backG ws (Mk.gapsFrom 0 ms)) 0 o
  rw [← Mk.back_eq wok h1, Nat.zero_add, h8] at h9
  have hback : Mk.inCut (o : Int) (Mk.backM ws 0 ms) = false ∧ (k : Int) = o + Mk.moved (o : Int) (Mk.backM ws 0 ms) := by
    rcases h9 with ⟨h9, _⟩ | ⟨q, h9, h10, h11⟩
    · cases h9
    · injection h9 with h9
      subst h9
      exact ⟨h10, h11⟩
  have hok := ok_yes (Mk.valid_back wok h1) (i := (o : Int)) (by omega) (by omega) hback.1
  refine ⟨o, h5, hlt, h7, hk, hok, by rw [shift_yes hok]; exact hback.2.symm, fun h' => ?_⟩
  have h'' : shiftOk ws ms ((k + 1 : Nat) : Int) = true := h'
  obtain ⟨q, q1, q2⟩ := shift_gap h''
  have := Mk.shift_mono _ _ _ _ h6 q2
  have q1' : shiftV ws ms ((k : Int) + 1) = (q : Int) := q1
  rw [q1']
  omega
theorem sizeI_parts {ws : List ByteArray} {ms : List M} (h : 0 ≤ sizeI ws ms) : valid ws ms = true ∧ sizeI ws ms = Mk.sizeM ms := by
  cases hv : valid ws ms with
  | false => rw [sizeI_no hv] at h; omega
  | true => exact ⟨rfl, sizeI_yes hv⟩
theorem size_facts {ws : List ByteArray} {ms : List M} (h : valid ws ms = true) :
    sizeI (Mk.doM ws 0 ms) (Mk.backM ws 0 ms) = sizeI ws ms ∧ (sizeI ws ms = 0 ↔ ms.length = 0) ∧ farI ws (Mk.doM ws 0 ms) ≤ sizeI ws ms := by
  rw [sizeI_yes (Mk.valid_back wok h), sizeI_yes h, Mk.back_size wok h]
  refine ⟨rfl, by rw [(Mk.size_pos wok h).2, List.length_eq_zero_iff], ?_⟩
  rw [farI_yes (Mk.valid_parts wok h).1 (Mk.valid_after wok h)]
  exact Mk.far_size wok h
theorem voteF_facts {a b c out : List ByteArray} (h : voteF a b c = some out) : voteF b c a = some out ∧ voteF b a c = some out ∧ out.length = a.length ∧ a.length = b.length ∧ a.length = c.length ∧ (a = b → out = a) ∧
    ∀ (i : Nat) (v : ByteArray), out[i]? = some v → ∃ x y z, a[i]? = some x ∧ b[i]? = some y ∧ c[i]? = some z ∧ ((x = v ∧ y = v) ∨ (x = v ∧ z = v) ∨ (y = v ∧ z = v)) := by
  cases hc : (speak a && speak b && speak c && decide (a.length = b.length) && decide (a.length = c.length)) with
  | false => rw [voteF_no hc] at h; cases h
  | true =>
    simp only [Bool.and_eq_true, decide_eq_true_eq] at hc
    obtain ⟨⟨⟨⟨h1, h2⟩, h3⟩, h4⟩, h5⟩ := hc
    rw [voteF_yes h1 h2 h3 h4 h5] at h
    have h6 := Mk.vote_two a b c out h4 h5 h
    refine ⟨?_, ?_, h6.1, h4, h5, fun e => ?_, h6.2⟩
    · rw [voteF_yes h2 h3 h1 (by omega) (by omega), Mk.vote_rot]; exact h
    · rw [voteF_yes h2 h1 h3 (by omega) (by omega), Mk.vote_swap]; exact h
    · subst e
      rw [Mk.vote_same a c h5] at h
      injection h with h
      exact h.symm
end Go.Proofs.Ytjhlcgjhdiheaaa
