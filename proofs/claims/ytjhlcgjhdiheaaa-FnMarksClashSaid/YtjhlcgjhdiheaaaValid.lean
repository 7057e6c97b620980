/- Valid marks in plain Lean, and the gaps of valid marks. -/
import Derived.Test.YtjhlcgjhdiheaaaMake
namespace Go.Proofs.Ytjhlcgjhdiheaaa
namespace Mk
variable {α : Type} (ok : α → Bool)

def speech (ws : List α) : Bool := decide (ws.length ≤ 20) && ws.all ok
/-- a mark fits into n words -/
def fitM (n : Nat) (m : Mark α) : Bool :=
  decide (0 ≤ m.at_) && decide (m.at_ ≤ n) && decide (0 ≤ m.cut) && decide (m.cut ≤ n - m.at_) && speech ok m.put && decide (0 < m.cut + m.put.length)
/-- marks fit, each behind the end of the one ahead of it -/
def chk (n : Nat) : Int → List (Mark α) → Bool
  | _, [] => true
  | e, m :: ms => fitM ok n m && decide (e < m.at_) && chk n (m.at_ + m.cut) ms
/-- how much longer the words are behind the marks -/
def grow : List (Mark α) → Int
  | [] => 0
  | m :: ms => (m.put.length : Int) - m.cut + grow ms
def validM (ws : List α) (ms : List (Mark α)) : Bool := speech ok ws && decide (ms.length ≤ 20) && chk ok ws.length (-1) ms && decide ((ws.length : Int) + grow ms ≤ 20)

theorem speech_parts {ws : List α} (h : speech ok ws = true) : ws.length ≤ 20 ∧ ∀ x ∈ ws, ok x = true := by
  simp only [speech, Bool.and_eq_true, decide_eq_true_eq, List.all_eq_true] at h
  exact h
theorem speech_mk {ws : List α} (h1 : ws.length ≤ 20) (h2 : ∀ x ∈ ws, ok x = true) : speech ok ws = true := by
  simp only [speech, Bool.and_eq_true, decide_eq_true_eq, List.all_eq_true]
  exact ⟨h1, h2⟩
theorem fit_parts {n : Nat} {m : Mark α} (h : fitM ok n m = true) : 0 ≤ m.at_ ∧ m.at_ ≤ n ∧ 0 ≤ m.cut ∧ m.cut ≤ n - m.at_ ∧ speech ok m.put = true ∧ 0 < m.cut + m.put.length := by
  simp only [fitM, Bool.and_eq_true, decide_eq_true_eq] at h
  exact ⟨h.1.1.1.1.1, h.1.1.1.1.2, h.1.1.1.2, h.1.1.2, h.1.2, h.2⟩
theorem fit_mk {n : Nat} {m : Mark α} (h1 : 0 ≤ m.at_) (h2 : m.at_ ≤ n) (h3 : 0 ≤ m.cut) (h4 : m.cut ≤ n - m.at_) (h5 : speech ok m.put = true) (h6 : 0 < m.cut + m.put.length) : fitM ok n m = true := by
  simp only [fitM, Bool.and_eq_true, decide_eq_true_eq]
  exact ⟨⟨⟨⟨⟨h1, h2⟩, h3⟩, h4⟩, h5⟩, h6⟩
theorem chk_cons {n : Nat} {e : Int} {m : Mark α} {ms : List (Mark α)} (h : chk ok n e (m :: ms) = true) : fitM ok n m = true ∧ e < m.at_ ∧ chk ok n (m.at_ + m.cut) ms = true := by
  simp only [chk, Bool.and_eq_true, decide_eq_true_eq] at h
  exact ⟨h.1.1, h.1.2, h.2⟩
theorem valid_parts {ws : List α} {ms : List (Mark α)} (h : validM ok ws ms = true) : speech ok ws = true ∧ ms.length ≤ 20 ∧ chk ok ws.length (-1) ms = true ∧ (ws.length : Int) + grow ms ≤ 20 := by
  simp only [validM, Bool.and_eq_true, decide_eq_true_eq] at h
  exact ⟨h.1.1.1, h.1.1.2, h.1.2, h.2⟩
theorem valid_mk {ws : List α} {ms : List (Mark α)} (h1 : speech ok ws = true) (h2 : ms.length ≤ 20) (h3 : chk ok ws.length (-1) ms = true) (h4 : (ws.length : Int) + grow ms ≤ 20) : validM ok ws ms = true := by
  simp only [validM, Bool.and_eq_true, decide_eq_true_eq]
  exact ⟨⟨⟨h1, h2⟩, h3⟩, h4⟩

/-- the gaps of marks behind p words -/
def gapsFrom (p : Nat) : List (Mark α) → List (Gap α)
  | [] => []
  | m :: ms => ⟨m.at_.toNat - p, m.cut.toNat, m.put⟩ :: gapsFrom (m.at_.toNat + m.cut.toNat) ms
def OkG (g : Gap α) : Prop := Some1 g ∧ speech ok g.put = true
theorem gaps_of_chk (n : Nat) (ms : List (Mark α)) : ∀ (p : Nat) (e : Int), p ≤ n → -1 ≤ e → (p : Int) ≤ e ∨ p = 0 ∧ e = -1 → e ≤ p → chk ok n e ms = true →
    abs p (gapsFrom p ms) = ms ∧ Fits (n - p) (gapsFrom p ms) ∧ (∀ g ∈ gapsFrom p ms, OkG ok g) ∧ ((p : Int) ≤ e → ∀ g ∈ gapsFrom p ms, 1 ≤ g.gap) ∧ Parted (gapsFrom p ms) := by
  induction ms with
  | nil => intro p e _ _ _ _ _; exact ⟨rfl, trivial, fun g hg => by simp [gapsFrom] at hg, fun _ g hg => by simp [gapsFrom] at hg, trivial⟩
  | cons m ms ih =>
    intro p e hp he1 hpe hep h
    obtain ⟨h1, h2, h3⟩ := chk_cons ok h
    obtain ⟨f1, f2, f3, f4, f5, f6⟩ := fit_parts ok h1
    obtain ⟨at_, cut, put⟩ := m
    simp only at f1 f2 f3 f4 f5 f6 h2 h3
    obtain ⟨a, rfl⟩ := Int.eq_ofNat_of_zero_le f1
    obtain ⟨c, rfl⟩ := Int.eq_ofNat_of_zero_le f3
    have hpa : p ≤ a := by omega
    have := ih (a + c) ((a : Int) + (c : Int)) (by omega) (by omega) (.inl (by omega)) (by omega) h3
    obtain ⟨g1, g2, g3, g4, g5⟩ := this
    simp only [gapsFrom, Int.toNat_natCast]
    refine ⟨?_, ?_, ?_, ?_, ?_⟩
    · simp only [abs]
      rw [show p + (a - p) = a by omega, g1]
    · simp only [Fits]
      refine ⟨by omega, ?_⟩
      rw [show n - p - (a - p + c) = n - (a + c) by omega]
      exact g2
    · intro g hg
      rcases List.mem_cons.1 hg with rfl | hg
      · exact ⟨by unfold Some1; simp only; omega, f5⟩
      · exact g3 g hg
    · intro hpe2 g hg
      rcases List.mem_cons.1 hg with rfl | hg
      · simp only; omega
      · exact g4 (by omega) g hg
    · exact fun g hg => g4 (by omega) g hg
theorem chk_of_gaps (n : Nat) (gs : List (Gap α)) : ∀ (p : Nat) (e : Int), p ≤ n → Fits (n - p) gs → (∀ g ∈ gs, OkG ok g) → (∀ g ∈ gs, 1 ≤ g.gap) ∨ e < p ∧ Parted gs → e ≤ p → chk ok n e (abs p gs) = true := by
  induction gs with
  | nil => intro p e _ _ _ _ _; rfl
  | cons g gs ih =>
    intro p e hp hf ho hg he
    obtain ⟨f1, f2⟩ := hf
    have hog := ho g (by simp)
    have hs := hog.1
    unfold Some1 at hs
    have h3 := ih (p + g.gap + g.cut) (((p + g.gap : Nat) : Int) + (g.cut : Int)) (by omega) (by rw [show n - (p + g.gap + g.cut) = n - p - (g.gap + g.cut) by omega]; exact f2) (fun h hh => ho h (by simp [hh])) (by
      rcases hg with hg | ⟨_, hg⟩
      · exact .inl fun h hh => hg h (by simp [hh])
      · exact .inl hg) (by omega)
    simp only [abs, chk, Bool.and_eq_true, decide_eq_true_eq]
    refine ⟨⟨fit_mk ok ?_ ?_ ?_ ?_ hog.2 ?_, ?_⟩, h3⟩
    · simp only; omega
    · simp only; omega
    · simp only; omega
    · simp only; omega
    · simp only; omega
    · rcases hg with hg | ⟨hg, _⟩
      · have := hg g (by simp); omega
      · omega
theorem grow_abs (gs : List (Gap α)) : ∀ p, grow (abs p gs) = (putG gs : Int) - cutG gs := by
  induction gs with
  | nil => intro p; rfl
  | cons g gs ih =>
    intro p
    simp only [abs, grow, ih, putG, cutG]
    omega
theorem abs_len (gs : List (Gap α)) : ∀ p, (abs p gs).length = gs.length := by
  induction gs with
  | nil => intro p; rfl
  | cons g gs ih => intro p; simp [abs, ih]
/-- what valid marks are -/
structure Good (ws : List α) (gs : List (Gap α)) : Prop where
  words : speech ok ws = true
  fits : Fits ws.length gs
  each : ∀ g ∈ gs, OkG ok g
  parted : Parted gs
  long : (doG ws gs).length ≤ 20
theorem good_of_valid {ws : List α} {ms : List (Mark α)} (h : validM ok ws ms = true) : abs 0 (gapsFrom 0 ms) = ms ∧ Good ok ws (gapsFrom 0 ms) := by
  obtain ⟨h1, h2, h3, h4⟩ := valid_parts ok h
  obtain ⟨g1, g2, g3, _, g5⟩ := gaps_of_chk ok ws.length ms 0 (-1) (Nat.zero_le _) (by omega) (.inr ⟨rfl, rfl⟩) (by omega) h3
  rw [Nat.sub_zero] at g2
  refine ⟨g1, h1, g2, g3, g5, ?_⟩
  have hl := doG_len (gapsFrom 0 ms) ws g2
  have hg := grow_abs (gapsFrom 0 ms) 0
  rw [g1] at hg
  omega
/-- so many marks need so many words -/
theorem count_gaps (gs : List (Gap α)) : ∀ n, Fits n gs → (∀ g ∈ gs, OkG ok g) → (∀ g ∈ gs, 1 ≤ g.gap) → gs.length + cutG gs ≤ n ∧ gs.length ≤ cutG gs + putG gs := by
  induction gs with
  | nil => intro n _ _ _; simp [cutG, putG]
  | cons g gs ih =>
    intro n hf ho hg
    obtain ⟨f1, f2⟩ := hf
    have := ih _ f2 (fun h hh => ho h (by simp [hh])) (fun h hh => hg h (by simp [hh]))
    have h1 := hg g (by simp)
    have h2 := (ho g (by simp)).1
    unfold Some1 at h2
    simp only [List.length_cons, cutG, putG]
    omega
theorem good_count {ws : List α} {gs : List (Gap α)} (h : Good ok ws gs) : gs.length ≤ 20 := by
  have hl := doG_len gs ws h.fits
  have h20 := h.long
  have hw := (speech_parts ok h.words).1
  cases gs with
  | nil => simp
  | cons g gs =>
    obtain ⟨f1, f2⟩ := h.fits
    have h1 := count_gaps ok gs _ f2 (fun x hx => h.each x (by simp [hx])) h.parted
    have h2 := (h.each g (by simp)).1
    unfold Some1 at h2
    simp only [List.length_cons, cutG, putG] at hl ⊢
    omega
theorem valid_of_good {ws : List α} {gs : List (Gap α)} (h : Good ok ws gs) : validM ok ws (abs 0 gs) = true := by
  refine valid_mk ok h.words (by rw [abs_len]; exact good_count ok h) ?_ ?_
  · exact chk_of_gaps ok ws.length gs 0 (-1) (Nat.zero_le _) (by rw [Nat.sub_zero]; exact h.fits) h.each (.inr ⟨by omega, h.parted⟩) (by omega)
  · have hl := doG_len gs ws h.fits
    have := h.long
    rw [grow_abs]
    omega
/-- the words behind valid marks are a speech -/
theorem do_words (gs : List (Gap α)) : ∀ ws : List α, (∀ x ∈ ws, ok x = true) → (∀ g ∈ gs, OkG ok g) → ∀ x ∈ doG ws gs, ok x = true := by
  induction gs with
  | nil => intro ws hw _ x hx; exact hw x hx
  | cons g gs ih =>
    intro ws hw ho x hx
    simp only [doG, List.mem_append] at hx
    rcases hx with (hx | hx) | hx
    · exact hw x (List.mem_of_mem_take hx)
    · exact (speech_parts ok (ho g (by simp)).2).2 x hx
    · exact ih _ (fun y hy => hw y (List.mem_of_mem_drop hy)) (fun h hh => ho h (by simp [hh])) x hx
theorem good_after {ws : List α} {gs : List (Gap α)} (h : Good ok ws gs) : speech ok (doG ws gs) = true :=
  speech_mk ok h.long (do_words ok gs ws (speech_parts ok h.words).2 h.each)
theorem back_each (gs : List (Gap α)) : ∀ ws : List α, ws.length ≤ 20 → (∀ x ∈ ws, ok x = true) → Fits ws.length gs → (∀ g ∈ gs, OkG ok g) → ∀ g ∈ backG ws gs, OkG ok g := by
  induction gs with
  | nil => intro ws _ _ _ _ g hg; simp [backG] at hg
  | cons g gs ih =>
    intro ws hl hw hf ho h hh
    obtain ⟨f1, f2⟩ := hf
    simp only [backG] at hh
    rcases List.mem_cons.1 hh with rfl | hh
    · have h1 := (ho g (by simp)).1
      unfold Some1 at h1
      refine ⟨?_, speech_mk ok ?_ fun x hx => hw x (List.mem_of_mem_drop (List.mem_of_mem_take hx))⟩
      · unfold Some1
        simp only [List.length_take, List.length_drop]
        omega
      · rw [List.length_take, List.length_drop]; omega
    · exact ih _ (by rw [List.length_drop]; omega) (fun y hy => hw y (List.mem_of_mem_drop hy)) (by rw [List.length_drop]; exact f2) (fun x hx => ho x (by simp [hx])) h hh
theorem back_gaps (gs : List (Gap α)) : ∀ ws : List α, (∀ g ∈ gs, 1 ≤ g.gap) → ∀ g ∈ backG ws gs, 1 ≤ g.gap := by
  induction gs with
  | nil => intro ws _ g hg; simp [backG] at hg
  | cons g gs ih =>
    intro ws hg h hh
    simp only [backG] at hh
    rcases List.mem_cons.1 hh with rfl | hh
    · exact hg g (by simp)
    · exact ih _ (fun x hx => hg x (by simp [hx])) h hh
theorem back_parted (gs : List (Gap α)) (ws : List α) (h : Parted gs) : Parted (backG ws gs) := by
  cases gs with
  | nil => trivial
  | cons g gs => exact back_gaps gs _ h
/-- the way back of valid marks is valid -/
theorem good_back {ws : List α} {gs : List (Gap α)} (h : Good ok ws gs) : Good ok (doG ws gs) (backG ws gs) := by
  have hw := speech_parts ok h.words
  refine ⟨good_after ok h, back_fits gs ws h.fits, back_each ok gs ws hw.1 hw.2 h.fits h.each, back_parted gs ws h.parted, ?_⟩
  rw [do_back gs ws h.fits]
  exact hw.1
/-- made marks are valid -/
theorem path_puts [DecidableEq α] (n : Nat) : ∀ (a b : List α), a.length + b.length ≤ n → ∀ y, some (some y) ∈ path a b → y ∈ b := by
  induction n with
  | zero =>
    intro a b h y hy
    obtain rfl : a = [] := List.eq_nil_of_length_eq_zero (by omega)
    obtain rfl : b = [] := List.eq_nil_of_length_eq_zero (by omega)
    rw [path_nil] at hy
    simp at hy
  | succ n ih =>
    intro a b h y hy
    cases a with
    | nil =>
      cases b with
      | nil => rw [path_nil] at hy; simp at hy
      | cons z b =>
        simp only [List.length_cons, List.length_nil] at h
        rw [path_put] at hy
        rcases List.mem_cons.1 hy with e | hy
        · injection e with e; injection e with e; rw [e]; simp
        · exact List.mem_cons_of_mem _ (ih [] b (by simp; omega) y hy)
    | cons x a =>
      cases b with
      | nil =>
        simp only [List.length_cons, List.length_nil] at h
        rw [path_cut] at hy
        rcases List.mem_cons.1 hy with e | hy
        · injection e with e; cases e
        · exact ih a [] (by simp; omega) y hy
      | cons z b =>
        simp only [List.length_cons] at h
        by_cases e : x = z
        · subst e
          rw [path_keep] at hy
          rcases List.mem_cons.1 hy with e | hy
          · cases e
          · exact List.mem_cons_of_mem _ (ih a b (by omega) y hy)
        · rw [path_ne e] at hy
          split at hy
          · rcases List.mem_cons.1 hy with e | hy
            · injection e with e; cases e
            · exact ih a (z :: b) (by simp; omega) y hy
          · rcases List.mem_cons.1 hy with e | hy
            · injection e with e; injection e with e; rw [e]; simp
            · exact List.mem_cons_of_mem _ (ih (x :: a) b (by simp; omega) y hy)
theorem gapsOf_puts (s : List (Step α)) : ∀ g c (p : List α) (P : α → Prop), (∀ x ∈ p, P x) → (∀ y, some (some y) ∈ s → P y) → ∀ m ∈ gapsOf g c p s, ∀ x ∈ m.put, P x := by
  induction s with
  | nil =>
    intro g c p P hp _ m hm
    simp only [gapsOf] at hm
    split at hm
    · rw [List.mem_singleton.1 hm]; exact hp
    · simp at hm
  | cons t s ih =>
    intro g c p P hp hs m hm
    have hs' : ∀ y, some (some y) ∈ s → P y := fun y hy => hs y (List.mem_cons_of_mem _ hy)
    match t with
    | none =>
      simp only [gapsOf] at hm
      split at hm
      · rcases List.mem_cons.1 hm with rfl | hm
        · exact hp
        · exact ih _ _ _ P (fun x hx => by simp at hx) hs' m hm
      · exact ih _ _ _ P (fun x hx => by simp at hx) hs' m hm
    | some none => exact ih _ _ _ P hp hs' m hm
    | some (some y) =>
      refine ih _ _ _ P (fun x hx => ?_) hs' m hm
      rcases List.mem_append.1 hx with hx | hx
      · exact hp x hx
      · rw [List.mem_singleton.1 hx]; exact hs y (by simp)
theorem putG_le (gs : List (Gap α)) : ∀ g ∈ gs, g.put.length ≤ putG gs := by
  induction gs with
  | nil => intro g hg; simp at hg
  | cons h gs ih =>
    intro g hg
    simp only [putG]
    rcases List.mem_cons.1 hg with rfl | hg
    · omega
    · have := ih g hg; omega
theorem do_puts (gs : List (Gap α)) : ∀ ws : List α, Fits ws.length gs → putG gs ≤ (doG ws gs).length := by
  intro ws h
  have h1 := doG_len gs ws h
  have h2 := cut_le gs _ h
  omega
theorem good_made [DecidableEq α] {a b : List α} (ha : speech ok a = true) (hb : speech ok b = true) : Good ok a (made a b) := by
  have h1 := made_fits a b
  have h2 := made_do a b
  have hbp := speech_parts ok hb
  have h3 := do_puts (made a b) a h1
  rw [h2] at h3
  refine ⟨ha, h1, fun g hg => ⟨made_some a b g hg, speech_mk ok ?_ ?_⟩, made_parted a b, by rw [h2]; exact hbp.1⟩
  · have := putG_le (made a b) g hg
    omega
  · exact gapsOf_puts (path a b) 0 0 [] (fun x => ok x = true) (fun x hx => by simp at hx) (fun y hy => hbp.2 y (path_puts _ a b (Nat.le_refl _) y hy)) g hg
end Mk
end Go.Proofs.Ytjhlcgjhdiheaaa
