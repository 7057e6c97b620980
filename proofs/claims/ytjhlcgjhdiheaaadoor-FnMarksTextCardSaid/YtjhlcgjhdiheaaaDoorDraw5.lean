/- The drawing functions of the marks chapter, whole. -/
import Derived.Test.YtjhlcgjhdiheaaaDoorDraw4
import Derived.Test.YtjhlcgjhdiheaaaDoorDo
namespace Go.Proofs.YtjhlcgjhdiheaaaDoor
open Go.RowKit
set_option linter.unusedVariables false
set_option linter.unusedSimpArgs false

theorem RdB.below {w w' : World} {R : Nat} {K : Int} (h : RdB w R K) (hb : Below w.heap.size w w') : RdB w' R K := h.grown (only_of_below hb none) (fun _ e => by cases e)
def MarksPost (w : World) (R : Nat) (K : Int) (e : Ending) (w' : World) : Prop := ∃ A n c ws B m d ms, e = .returned (.tuple #[.slice A n c, .slice B m d]) ∧ n ≤ 8 ∧ m ≤ 10 ∧ PutIn w' A n c ws ∧ MrkIn w' B m d ms ∧ RdB w' R K ∧ w.grownBy w' (some R)
set_option maxHeartbeats 400000 in
theorem marksD_any (R : Nat) (K : Int) (w : World) (h : RdB w R K) (hK0 : 0 ≤ K) (hK : K ≤ 5000) : Calls Tryd.prog 16 #[.pointer (some ⟨R, 0, none⟩)] w (MarksPost w R (K + 1200)) := by
  go_enter Tryd.func16, Tryd.ntmps16
  go_wp2_with fail
  refine (speechD_any R 8 K _ h hK0 (by omega) (by omega)).mono ?_
  rintro e w1 ⟨A, n, c, rfl, hn, xs, ho, hr, hg⟩
  have hp := ho.putIn
  go_wp2_with fail
  refine (someD_any R n c (K + 30) A _ hr (by omega) (by omega) (by omega)).mono ?_
  rintro e w2 ⟨B, m, d, ms, rfl, hm, hM, hr2, hg2⟩
  have hp2 := hp.rd hr hg2
  go_wp2_with fail
  go_ret2
  exact ⟨A, n, c, xs, B, m, d, ms, rfl, hn, by omega, hp2, hM, hr2.mono (by omega), only_again hg hg2⟩
theorem MrkIn.rest {w : World} {A : Option Addr} {n c k : Nat} {ms : List M} (h : MrkIn w A n c ms) (hk : k ≤ n) : MrkIn w (if c = k then A else A.map (·.add (k * 3))) (n - k) (c - k) (ms.drop k) := by
  obtain ⟨h1, h2, h3, h4⟩ := h
  refine ⟨?_, by omega, by omega, ?_⟩
  · rcases Nat.eq_zero_or_pos (n - k) with h0 | h0
    · rw [h0, List.drop_of_length_le (by rw [h1.len]; omega)]; exact Mrks.nil
    · rw [if_neg (by omega)]
      obtain ⟨b, off, e, _⟩ := h1.2 (by omega)
      subst e
      have := h1.cut (i := k) (k := n - k) (by omega)
      rw [List.take_of_length_le (by rw [List.length_drop, h1.len]; exact Nat.le_refl _)] at this
      rw [show (some (⟨b, off, none⟩ : Addr)).map (·.add (k * 3)) = some ⟨b, off + k * 3, none⟩ by
        unfold Addr.add
        simp only [Option.map_some]
        split
        · rename_i e; rw [e]; rfl
        · rfl]
      exact this
  · intro h
    split at h
    · omega
    · cases A with
      | none => have := h4 rfl; omega
      | some a => cases h
def WM (w : World) (e : Ending) (w' : World) : Prop := ∃ A n c ws B m d ms, e = .returned (.tuple #[.slice A n c, .slice B m d]) ∧ n ≤ 8 ∧ m ≤ 10 ∧ PutIn w' A n c ws ∧ MrkIn w' B m d ms ∧ Below w.heap.size w w'
set_option maxHeartbeats 400000 in
theorem drawDo (A : Option Addr) (n c : Nat) (w : World) (h : Bytes w w.heap.size A n) (hn : n ≤ 1048576) (hnc : n ≤ c) :
    Calls Tryd.prog 5 #[.slice A n c] w (WM w) := by
  go_enter Tryd.func5, Tryd.ntmps5
  go_wp2_with fail
  refine (open_any A n c _ h hn hnc).mono ?_
  rintro e w1 ⟨rfl, hr, hb⟩
  go_wp2_with fail
  refine (marksD_any _ 0 _ hr (by omega) (by omega)).mono ?_
  rintro e w2 ⟨A2, n2, c2, ws, B, m, d, ms, rfl, hn2, hm, hp, hM, hr2, hg⟩
  have hb2 := below_only hb hg (fun g e => by injection e with e; omega)
  go_wp2_with fail
  go_ret2
  exact ⟨A2, n2, c2, ws, B, m, d, ms, rfl, hn2, hm, hp, hM, hb2⟩

end Go.Proofs.YtjhlcgjhdiheaaaDoor

