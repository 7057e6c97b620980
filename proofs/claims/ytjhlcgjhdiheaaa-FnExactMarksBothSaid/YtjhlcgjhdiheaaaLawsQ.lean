/- What the statements say of the least size and of the words that can stay. -/
import Derived.Test.YtjhlcgjhdiheaaaFar2
import Derived.Test.YtjhlcgjhdiheaaaPla
namespace Go.Proofs.Ytjhlcgjhdiheaaa

theorem farI_parts {a b : List ByteArray} (h : 0 ≤ farI a b) : speak a = true ∧ speak b = true ∧ farI a b = (Mk.far a b : Nat) := by
  cases hs : (speak a && speak b) with
  | false => rw [farI_no hs] at h; omega
  | true =>
    rw [Bool.and_eq_true] at hs
    exact ⟨hs.1, hs.2, farI_yes hs.1 hs.2⟩
theorem farI_symm (a b : List ByteArray) : farI b a = farI a b := by
  unfold farI
  rw [Bool.and_comm, Mk.far_symm]
theorem sameI_symm (a b : List ByteArray) : sameI b a = sameI a b := by
  unfold sameI
  rw [farI_symm]
  split
  · rfl
  · congr 1; omega
theorem speak_take {a : List ByteArray} (h : speak a = true) (k : Nat) : speak (a.take k) = true := by
  obtain ⟨h1, h2⟩ := Mk.speech_parts wok h
  exact Mk.speech_mk wok (by rw [List.length_take]; omega) (fun x hx => h2 x (List.mem_of_mem_take hx))
theorem farI_zero {a b : List ByteArray} (h : 0 ≤ farI a b) : farI a b = 0 ↔ a = b := by
  obtain ⟨_, _, e⟩ := farI_parts h
  rw [e]
  exact ⟨fun h => (Mk.far_zero_iff a b).1 (by omega), fun h => by rw [(Mk.far_zero_iff a b).2 h]; rfl⟩
theorem farI_three {a b : List ByteArray} (h : 0 ≤ farI a b) (k : Nat) : farI a b ≤ farI a (a.take k) + farI (a.take k) b := by
  obtain ⟨h1, h2, e⟩ := farI_parts h
  have h3 := speak_take h1 k
  rw [e, farI_yes h1 h3, farI_yes h3 h2]
  have f1 := Mk.far_suffix (a.take k) b (a.drop k)
  have f2 := Mk.far_prefix (a.take k) (a.drop k)
  rw [List.take_append_drop] at f1 f2
  omega
theorem farI_two {a b : List ByteArray} (h : 0 ≤ farI a b) : farI a b + 2 * sameI a b = a.length + b.length := by
  obtain ⟨h1, h2, e⟩ := farI_parts h
  rw [sameI_yes h1 h2, e]
  have := Mk.far_even a b
  have := Mk.far_le a b
  omega
theorem sameI_parts {a b : List ByteArray} (h : 0 ≤ sameI a b) : 0 ≤ farI a b := by
  unfold sameI at h
  split at h
  · omega
  · omega
theorem sameI_min {a b : List ByteArray} (h : 0 ≤ sameI a b) : sameI a b ≤ a.length ∧ sameI a b ≤ b.length := by
  obtain ⟨h1, h2, e⟩ := farI_parts (sameI_parts h)
  rw [sameI_yes h1 h2]
  have := Mk.far_ge a b
  have := Mk.far_ge' a b
  omega
theorem sameI_self {a : List ByteArray} (h : speak a = true) : sameI a a = a.length := by
  rw [sameI_yes h h, Mk.far_self]
  omega
theorem sameI_less {a b : List ByteArray} {k : Nat} (h : 0 ≤ sameI a b) (hk : a.length = k + 1) : sameI (a.take k) b ≤ sameI a b ∧ sameI a b - 1 ≤ sameI (a.take k) b := by
  obtain ⟨h1, h2, e⟩ := farI_parts (sameI_parts h)
  have h3 := speak_take h1 k
  rw [sameI_yes h1 h2, sameI_yes h3 h2]
  have hl : (a.take k).length = k := by rw [List.length_take]; omega
  have f1 := Mk.far_suffix (a.take k) b (a.drop k)
  obtain ⟨x, hx⟩ : ∃ x, a.drop k = [x] := by
    have : (a.drop k).length = 1 := by rw [List.length_drop]; omega
    exact List.length_eq_one_iff.1 this
  have f2 := Mk.far_snoc _ (a.take k) b x (Nat.le_refl _)
  rw [← hx] at f2
  rw [List.take_append_drop] at f1 f2
  rw [List.length_drop] at f1
  rw [hl, hk]
  have := Mk.far_even a b
  have := Mk.far_le a b
  have := Mk.far_even (a.take k) b
  have := Mk.far_le (a.take k) b
  omega
end Go.Proofs.Ytjhlcgjhdiheaaa
