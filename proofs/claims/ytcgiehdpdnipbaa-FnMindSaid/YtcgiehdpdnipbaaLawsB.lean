/- Plain laws of the talk chapter, second part: parts, rates, holds, peaks, tails, relays. -/
import Derived.Test.YtcgiehdpdnipbaaLaws
namespace Go.Proofs.Ytcgiehdpdnipbaa
namespace Talk
theorem valid_take {xs : List Int} (h : valid xs = true) (k : Nat) : valid (xs.take k) = true := by
  simp only [valid, Bool.and_eq_true, decide_eq_true_eq] at h ⊢
  exact ⟨by rw [List.length_take]; omega, allIn_take h.2 k⟩
theorem valid_drop {xs : List Int} (h : valid xs = true) (k : Nat) : valid (xs.drop k) = true := by
  simp only [valid, Bool.and_eq_true, decide_eq_true_eq] at h ⊢
  exact ⟨by rw [List.length_drop]; omega, allIn_drop h.2 k⟩
theorem lost_cases (xs : List Int) (r h : Int) : ok xs r h = false ∧ lost xs r h = -1 ∨ ok xs r h = true ∧ 0 ≤ lost xs r h ∧ lost xs r h ≤ 300 := by
  cases hok : ok xs r h with
  | false => exact .inl ⟨rfl, lost_no hok⟩
  | true =>
    obtain ⟨hv, hr, hh⟩ := ok_parts hok
    have h2 := lostF_le_sum (r := r) (h := h) (by omega) hh.1 (valid_all hv)
    have h3 := (sum_bd (valid_all hv)).2
    have h4 := valid_len hv
    rw [lost_yes hok]
    exact .inr ⟨rfl, lostF_nonneg r h xs 0, by omega⟩
theorem lost_parts {xs : List Int} {r h : Int} (hok : ok xs r h = true) (k : Nat) : 0 ≤ lost (xs.take k) r h ∧ 0 ≤ lost (xs.drop k) r h ∧ lost (xs.take k) r h + lost (xs.drop k) r h ≤ lost xs r h := by
  obtain ⟨hv, hr, hh⟩ := ok_parts hok
  rw [lost_yes (ok_mk (valid_take hv k) hr hh), lost_yes (ok_mk (valid_drop hv k) hr hh), lost_yes hok]
  have := lostF_part r h (xs.take k) (xs.drop k) hh.1
  rw [List.take_append_drop] at this
  exact ⟨lostF_nonneg _ _ _ _, lostF_nonneg _ _ _ _, this⟩
theorem words_cases (xs : List Int) : valid xs = false ∧ words xs = -1 ∨ valid xs = true ∧ 0 ≤ words xs ∧ words xs ≤ 270 := by
  cases hv : valid xs with
  | false => exact .inl ⟨rfl, words_no hv⟩
  | true =>
    have h1 := sum_bd (valid_all hv)
    have h2 := valid_len hv
    rw [words_yes hv]
    exact .inr ⟨rfl, h1.1, by omega⟩
theorem words_law {xs : List Int} {r h : Int} (hok : ok xs r h = true) : 0 ≤ endM r h 0 xs ∧ endM r h 0 xs ≤ 50 ∧ 0 ≤ words xs - endM r h 0 xs - lost xs r h ∧ words xs - endM r h 0 xs - lost xs r h ≤ r * xs.length := by
  obtain ⟨hv, hr, hh⟩ := ok_parts hok
  rw [lost_yes hok, words_yes hv]
  have h1 := balance (r := r) (h := h) (by omega) hh.1 xs (valid_all hv) 0 (Int.le_refl 0) hh.1
  have h2 := endM_bd (r := r) hh.1 xs 0 (Int.le_refl 0) hh.1
  omega
/-- a greater hold loses no more -/
theorem lost_hold {xs : List Int} {r h h' : Int} (hok : ok xs r h = true) (hok' : ok xs r h' = true) (hh : h ≤ h') : lost xs r h' ≤ lost xs r h := by
  obtain ⟨hv, hr, h0⟩ := ok_parts hok
  rw [lost_yes hok, lost_yes hok']
  have := lostF_hold (r := r) h0.1 hh xs 0 0 0 (Int.le_refl 0) (by omega)
  omega
theorem lost_rate {xs : List Int} {r r' h : Int} (hok : ok xs r h = true) (hok' : ok xs r' h = true) (hh : r ≤ r') : lost xs r' h ≤ lost xs r h := by
  rw [lost_yes hok, lost_yes hok']
  exact lostF_mono hh xs 0 0 (Int.le_refl 0)
theorem rate_cases (xs : List Int) (h : Int) : rate xs h = -1 ∨ (1 ≤ rate xs h ∧ rate xs h ≤ 9 ∧ lost xs (rate xs h) h = 0 ∧ (rate xs h = 1 ∨ 0 < lost xs (rate xs h - 1) h) ∧ rate xs (h + 1) ≤ rate xs h) := by
  rcases least_cases (fun r => lost xs r h == 0) 9 1 with ⟨h1, _⟩ | ⟨h1, h2, h3, h4⟩
  · exact .inl h1
  · have e : least (fun r => lost xs r h == 0) 1 9 = rate xs h := rfl
    rw [e] at h1 h2 h3 h4
    refine .inr ⟨h1, by omega, by simpa using h3, ?_, ?_⟩
    · by_cases e1 : rate xs h = 1
      · exact .inl e1
      · refine .inr ?_
        have h5 := h4 (rate xs h - 1) (by omega) (by omega)
        have hne : lost xs (rate xs h - 1) h ≠ 0 := by simpa using h5
        have hok : ok xs (rate xs h) h = true := by
          rcases lost_cases xs (rate xs h) h with ⟨_, h6⟩ | ⟨h6, _⟩
          · rw [h6] at h3; simp at h3
          · exact h6
        obtain ⟨hv, hr, hh⟩ := ok_parts hok
        rcases lost_cases xs (rate xs h - 1) h with ⟨h6, _⟩ | ⟨_, h6, _⟩
        · rw [ok_mk hv ⟨by omega, by omega⟩ hh] at h6; cases h6
        · omega
    · have hok : ok xs (rate xs h) h = true := by
        rcases lost_cases xs (rate xs h) h with ⟨_, h6⟩ | ⟨h6, _⟩
        · rw [h6] at h3; simp at h3
        · exact h6
      obtain ⟨hv, hr, hh⟩ := ok_parts hok
      rcases least_cases (fun r => lost xs r (h + 1) == 0) 9 1 with ⟨g1, _⟩ | ⟨g1, g2, g3, g4⟩
      · show least _ 1 9 ≤ _
        rw [g1]; omega
      · show least _ 1 9 ≤ _
        refine Int.not_lt.1 fun hlt => ?_
        have h5 := g4 (rate xs h) (by omega) hlt
        have hok2 : ok xs (least (fun r => lost xs r (h + 1) == 0) 1 9) (h + 1) = true := by
          rcases lost_cases xs (least (fun r => lost xs r (h + 1) == 0) 1 9) (h + 1) with ⟨_, h6⟩ | ⟨h6, _⟩
          · rw [h6] at g3; simp at g3
          · exact h6
        obtain ⟨_, _, hh2⟩ := ok_parts hok2
        have hok3 : ok xs (rate xs h) (h + 1) = true := ok_mk hv hr hh2
        have h7 := lost_hold hok hok3 (by omega)
        have h8 : lost xs (rate xs h) h = 0 := by simpa using h3
        rcases lost_cases xs (rate xs h) (h + 1) with ⟨h9, _⟩ | ⟨_, h9, _⟩
        · rw [hok3] at h9; cases h9
        · have : lost xs (rate xs h) (h + 1) = 0 := by omega
          rw [this] at h5; simp at h5
/-- what holds of the least hold -/
theorem hold_spec (xs : List Int) (r : Int) : hold xs r = -1 ∧ (∀ h, ok xs r h = true → 0 < lost xs r h) ∨
    (0 ≤ hold xs r ∧ hold xs r ≤ 50 ∧ ok xs r (hold xs r) = true ∧ lost xs r (hold xs r) = 0 ∧ ∀ h, ok xs r h = true → (lost xs r h = 0 ↔ hold xs r ≤ h)) := by
  rcases least_cases (fun h => lost xs r h == 0) 51 0 with ⟨h1, h2⟩ | ⟨h1, h2, h3, h4⟩
  · refine .inl ⟨h1, fun h hok => ?_⟩
    obtain ⟨_, _, hh⟩ := ok_parts hok
    have h5 : lost xs r h ≠ 0 := by simpa using h2 h (by omega) (by omega)
    rcases lost_cases xs r h with ⟨h6, _⟩ | ⟨_, h6, _⟩
    · rw [hok] at h6; cases h6
    · omega
  · have e : least (fun h => lost xs r h == 0) 0 51 = hold xs r := rfl
    rw [e] at h1 h2 h3 h4
    have h30 : lost xs r (hold xs r) = 0 := by simpa using h3
    have hok0 : ok xs r (hold xs r) = true := by
      rcases lost_cases xs r (hold xs r) with ⟨_, h6⟩ | ⟨h6, _⟩
      · omega
      · exact h6
    refine .inr ⟨h1, by omega, hok0, h30, fun h hok => ⟨fun h5 => ?_, fun h5 => ?_⟩⟩
    · refine Int.not_lt.1 fun hlt => ?_
      obtain ⟨_, _, hh⟩ := ok_parts hok
      have := h4 h hh.1 hlt
      rw [h5] at this; simp at this
    · have h6 := lost_hold hok0 hok h5
      rcases lost_cases xs r h with ⟨h7, _⟩ | ⟨_, h7, _⟩
      · rw [hok] at h7; cases h7
      · omega
/-- the greatest of a list, or 0 -/
def most : List Int → Int
  | [] => 0
  | x :: xs => max x (most xs)
def mostF (l : List Int) : Int := l.foldl max 0
theorem foldl_max (l : List Int) : ∀ a : Int, a ≤ l.foldl max a ∧ (∀ x ∈ l, x ≤ l.foldl max a) ∧ (l.foldl max a = a ∨ l.foldl max a ∈ l) := by
  induction l with
  | nil => intro a; simp
  | cons x l ih =>
    intro a
    obtain ⟨h1, h2, h3⟩ := ih (max a x)
    simp only [List.foldl_cons, List.mem_cons]
    refine ⟨by omega, ?_, ?_⟩
    · rintro y (rfl | hy)
      · omega
      · exact h2 y hy
    · rcases h3 with h3 | h3
      · rw [h3]
        by_cases hax : x ≤ a
        · exact .inl (by omega)
        · exact .inr (.inl (by omega))
      · exact .inr (.inr h3)
theorem hold_most {xs : List Int} {r : Int} (h0 : 0 ≤ hold xs r) : ok xs r 50 = true ∧ mostF (minds r 50 0 xs) = hold xs r ∧ lost xs r (hold xs r) = 0 ∧ (hold xs r = 0 ∨ 0 < lost xs r (hold xs r - 1)) := by
  rcases hold_spec xs r with ⟨h1, _⟩ | ⟨_, h2, h3, h4, h5⟩
  · omega
  · obtain ⟨hv, hr, hh⟩ := ok_parts h3
    have hok50 : ok xs r 50 = true := ok_mk hv hr ⟨by omega, by omega⟩
    have hz50 : lostF r 50 0 xs = 0 := by
      have := (h5 50 hok50).2 h2
      rwa [lost_yes hok50] at this
    have key : ∀ h, 0 ≤ h → h ≤ 50 → (hold xs r ≤ h ↔ ∀ y ∈ minds r 50 0 xs, y ≤ h) := by
      intro h g0 g1
      have hok : ok xs r h = true := ok_mk hv hr ⟨g0, g1⟩
      rw [← h5 h hok, lost_yes hok]
      exact lost_zero_iff g0 g1 xs 0 (Int.le_refl 0) g0 hz50
    obtain ⟨m1, m2, m3⟩ := foldl_max (minds r 50 0 xs) 0
    have hm : mostF (minds r 50 0 xs) = hold xs r := by
      have a1 : ∀ y ∈ minds r 50 0 xs, y ≤ hold xs r := (key (hold xs r) h0 h2).1 (Int.le_refl _)
      have a2 : mostF (minds r 50 0 xs) ≤ hold xs r := by
        unfold mostF
        rcases m3 with e | e
        · omega
        · exact a1 _ e
      have a3 : hold xs r ≤ mostF (minds r 50 0 xs) := (key _ m1 (by have := a2; unfold mostF at this; omega)).2 m2
      omega
    refine ⟨hok50, hm, h4, ?_⟩
    by_cases e : hold xs r = 0
    · exact .inl e
    · refine .inr ?_
      have hok : ok xs r (hold xs r - 1) = true := ok_mk hv hr ⟨by omega, by omega⟩
      rcases lost_cases xs r (hold xs r - 1) with ⟨h7, _⟩ | ⟨_, h7, _⟩
      · rw [hok] at h7; cases h7
      · have : lost xs r (hold xs r - 1) ≠ 0 := fun e0 => by have := (h5 _ hok).1 e0; omega
        omega
theorem hold_cases (xs : List Int) (r : Int) : hold xs r = -1 ∨ 0 ≤ hold xs r ∧ hold xs r ≤ 50 := by
  rcases hold_spec xs r with ⟨h1, _⟩ | ⟨h1, h2, _⟩
  · exact .inl h1
  · exact .inr ⟨h1, h2⟩
theorem lost_law {xs : List Int} {r h : Int} (hok : ok xs r h = true) : lost xs r h ≤ words xs ∧ lost xs (r + 1) h ≤ lost xs r h ∧ lost xs r (h + 1) ≤ lost xs r h ∧ -1 ≤ lost xs r (h + 1) ∧
    ((lost xs r h == 0) = (decide (0 ≤ hold xs r) && decide (hold xs r ≤ h))) := by
  obtain ⟨hv, hr, hh⟩ := ok_parts hok
  have hpos : 0 ≤ lost xs r h := by rw [lost_yes hok]; exact lostF_nonneg _ _ _ _
  refine ⟨by rw [lost_yes hok, words_yes hv]; exact lostF_le_sum (by omega) hh.1 (valid_all hv), ?_, ?_, ?_, ?_⟩
  · rcases lost_cases xs (r + 1) h with ⟨_, h1⟩ | ⟨h1, _⟩
    · omega
    · exact lost_rate hok h1 (by omega)
  · rcases lost_cases xs r (h + 1) with ⟨_, h1⟩ | ⟨h1, _⟩
    · omega
    · exact lost_hold hok h1 (by omega)
  · rcases lost_cases xs r (h + 1) with ⟨_, h1⟩ | ⟨_, h1, _⟩ <;> omega
  · rcases hold_spec xs r with ⟨h1, h2⟩ | ⟨h1, h2, h3, h4, h5⟩
    · have := h2 h hok
      rw [h1, Bool.eq_iff_iff]
      simp; omega
    · have := h5 h hok
      rw [Bool.eq_iff_iff]
      simp [this, h1]
theorem relay_law {xs : List Int} {r h t : Int} (hok : relayOk xs r h t = true) : 0 ≤ relay xs r h t ∧ relay xs r h t ≤ lost xs r h ∧ ((xs.length : Int) ≤ t → relay xs r h t = lost xs r h) := by
  have hok' := hok
  unfold relayOk at hok'
  simp only [Bool.and_eq_true] at hok'
  obtain ⟨h1, h2⟩ := hok'
  obtain ⟨hv, hr, hh⟩ := ok_parts h1
  have ht := inB_true h2
  have e : relay xs r h t = lostF r h 0 (heard xs 0 t) + lostF r h 0 (heard xs 1 t) := by simp [relay, hok]
  rw [e, lost_yes h1]
  refine ⟨by have := lostF_nonneg r h (heard xs 0 t) 0; have := lostF_nonneg r h (heard xs 1 t) 0; omega, ?_, fun hl => ?_⟩
  · exact relay_le (by omega) hh.1 t.toNat xs (valid_all hv) 0 0 0 0 (Int.le_refl 0) (Int.le_refl 0) (Int.le_refl 0) (Int.le_refl 0) hh.1
  · have := hear_first t.toNat xs 0 (by omega)
    unfold heard
    rw [this.1, this.2, lostF_zeros (by omega) hh.1]
    omega
theorem relay_cases (xs : List Int) (r h t : Int) : relayOk xs r h t = false ∧ relay xs r h t = -1 ∨ relayOk xs r h t = true ∧ 0 ≤ relay xs r h t := by
  cases hok : relayOk xs r h t with
  | false => exact .inl ⟨rfl, by simp [relay, hok]⟩
  | true => exact .inr ⟨rfl, (relay_law hok).1⟩
/-- peaks -/
theorem pk_mono (xs : List Int) (k : Nat) (n : Nat) : ∀ j, j < n → sum ((xs.drop j).take k) ≤ pk xs k n := by
  induction n with
  | zero => intro j hj; omega
  | succ n ih =>
    intro j hj
    unfold pk
    by_cases e : j = n
    · subst e; omega
    · have := ih j (by omega); omega
theorem pk_le (xs : List Int) (k : Nat) (M : Int) (hM : 0 ≤ M) (n : Nat) (h : ∀ j, j < n → sum ((xs.drop j).take k) ≤ M) : pk xs k n ≤ M := by
  induction n with
  | zero => exact hM
  | succ n ih =>
    unfold pk
    have h1 := h n (by omega)
    have h2 := ih (fun j hj => h j (by omega))
    omega
theorem pk_nonneg (xs : List Int) (k n : Nat) : 0 ≤ pk xs k n := by
  induction n with
  | zero => exact Int.le_refl 0
  | succ n ih => unfold pk; omega
theorem allIn_sub {xs : List Int} (h : allIn xs = true) (j k : Nat) : allIn ((xs.drop j).take k) = true := allIn_take (allIn_drop h j) k
theorem sum_take_succ {xs : List Int} {j k : Nat} {x : Int} (hx : xs[j + k]? = some x) : sum ((xs.drop j).take (k + 1)) = sum ((xs.drop j).take k) + x := by
  rw [take_snoc (x := x) (by rw [List.getElem?_drop]; exact hx), sum_append]
  simp [sum]
theorem peak_law {xs : List Int} {k : Nat} (hv : valid xs = true) (h1 : 1 ≤ k) (h2 : k ≤ xs.length) : 0 ≤ peak xs k ∧ peak xs k ≤ 9 * k ∧
    ((k : Int) = xs.length ∧ peak xs ((k : Int) + 1) = -1 ∨ peak xs k ≤ peak xs ((k : Int) + 1) ∧ peak xs ((k : Int) + 1) ≤ peak xs k + 9) := by
  have hp := peak_yes hv h1 h2
  have ha := valid_all hv
  refine ⟨by rw [hp]; exact pk_nonneg _ _ _, ?_, ?_⟩
  · rw [hp]
    refine pk_le _ _ _ (by omega) _ (fun j hj => ?_)
    have h3 := (sum_bd (allIn_sub ha j k)).2
    have h4 : ((xs.drop j).take k).length ≤ k := List.length_take_le _ _
    omega
  · by_cases e : k = xs.length
    · refine .inl ⟨by omega, peak_no (by omega)⟩
    · refine .inr ?_
      have hp2 : peak xs ((k : Int) + 1) = pk xs (k + 1) (xs.length - (k + 1) + 1) := by
        have := peak_yes (k := k + 1) hv (by omega) (by omega)
        rw [← this]; congr 1
      rw [hp, hp2]
      constructor
      · refine pk_le _ _ _ (pk_nonneg _ _ _) _ (fun j hj => ?_)
        by_cases hj2 : j < xs.length - (k + 1) + 1
        · have h3 := pk_mono xs (k + 1) (xs.length - (k + 1) + 1) j hj2
          have hx : xs[j + k]? = some (xs[j + k]'(by omega)) := List.getElem?_eq_getElem (by omega)
          have h4 := sum_take_succ hx
          have h5 := allIn_at ha hx
          omega
        · have e1 : j = (j - 1) + 1 := by omega
          have h3 := pk_mono xs (k + 1) (xs.length - (k + 1) + 1) (j - 1) (by omega)
          have hx : xs[j - 1]? = some (xs[j - 1]'(by omega)) := List.getElem?_eq_getElem (by omega)
          have h5 := allIn_at ha hx
          have e2 : (xs.drop (j - 1)).take (k + 1) = (xs[j - 1]'(by omega)) :: (xs.drop j).take k := by
            rw [List.drop_eq_getElem_cons (by omega : j - 1 < xs.length)]
            simp only [List.take_succ_cons]
            rw [← e1]
          rw [e2] at h3
          simp only [sum] at h3
          omega
      · refine pk_le _ _ _ (by have := pk_nonneg xs k (xs.length - k + 1); omega) _ (fun j hj => ?_)
        have hx : xs[j + k]? = some (xs[j + k]'(by omega)) := List.getElem?_eq_getElem (by omega)
        have h4 := sum_take_succ hx
        have h5 := allIn_at ha hx
        have h3 := pk_mono xs k (xs.length - k + 1) j (by omega)
        omega
theorem peak_cases (xs : List Int) (q : Int) : peak xs q = -1 ∨ ∃ k : Nat, q = (k : Int) ∧ valid xs = true ∧ 1 ≤ k ∧ k ≤ xs.length := by
  by_cases h : valid xs = true ∧ 1 ≤ q ∧ q ≤ xs.length
  · obtain ⟨k, rfl⟩ := Int.eq_ofNat_of_zero_le (show 0 ≤ q by omega)
    exact .inr ⟨k, rfl, h.1, by omega, by omega⟩
  · exact .inl (peak_no h)
/-- the peak of one second is the greatest second -/
theorem peak_one {xs : List Int} (hv : valid xs = true) (h0 : xs.length ≠ 0) : (∀ x ∈ xs, x ≤ peak xs 1) ∧ 0 ≤ peak xs 1 ∧ peak xs 1 ≤ 9 ∧ (peak xs 1 = 0 ∨ peak xs 1 ∈ xs) := by
  have hp : peak xs 1 = pk xs 1 (xs.length - 1 + 1) := peak_yes (k := 1) hv (by omega) (by omega)
  have e1 : ∀ j, (hj : j < xs.length) → sum ((xs.drop j).take 1) = xs[j] := by
    intro j hj
    rw [List.drop_eq_getElem_cons hj]
    simp only [List.take_succ_cons, List.take_zero, sum]
    omega
  have hl := peak_law (k := 1) hv (by omega) (by omega)
  refine ⟨fun x hx => ?_, hl.1, by have := hl.2.1; simpa using this, ?_⟩
  · obtain ⟨j, hj, rfl⟩ := List.getElem_of_mem hx
    rw [hp]
    have := pk_mono xs 1 (xs.length - 1 + 1) j (by omega)
    rw [e1 j hj] at this
    exact this
  · rw [hp]
    have : ∀ n, n ≤ xs.length → (pk xs 1 n = 0 ∨ pk xs 1 n ∈ xs) := by
      intro n
      induction n with
      | zero => intro _; exact .inl rfl
      | succ n ih =>
        intro hn
        unfold pk
        rw [e1 n (by omega)]
        by_cases hle : xs[n] ≤ pk xs 1 n
        · rw [show max (pk xs 1 n) xs[n] = pk xs 1 n by omega]; exact ih (by omega)
        · rw [show max (pk xs 1 n) xs[n] = xs[n] by omega]; exact .inr (List.getElem_mem _)
    exact this _ (by omega)
theorem minds_zero {r : Int} {xs : List Int} (h : ∀ x ∈ xs, x ≤ r) : sum (minds r 0 0 xs) = 0 ∧ ∀ y ∈ minds r 0 0 xs, y = 0 := by
  induction xs with
  | nil => simp [minds, sum]
  | cons x xs ih =>
    have hx := h x (by simp)
    have e : nxt r 0 0 x = 0 := by unfold nxt; omega
    have := ih (fun y hy => h y (by simp [hy]))
    simp only [minds, e, sum, List.mem_cons]
    exact ⟨by omega, by rintro y (rfl | hy); rfl; exact this.2 y hy⟩
theorem peak_join {a b : List Int} (hv : valid (a ++ b) = true) : peak (a ++ b) 1 = max (peak a 1) (peak b 1) := by
  have he := joinOk_eq a b
  unfold joinOk at he
  rw [hv] at he
  have he := he.symm
  simp only [Bool.and_eq_true, decide_eq_true_eq] at he
  obtain ⟨⟨ha, hb⟩, _⟩ := he
  by_cases a0 : a.length = 0
  · obtain rfl : a = [] := List.eq_nil_of_length_eq_zero a0
    have h1 : peak [] 1 = -1 := peak_no (by simp)
    rw [h1, List.nil_append]
    by_cases b0 : b.length = 0
    · rw [peak_no (xs := b) (by omega)]; rfl
    · have := (peak_one hb b0).2.1; omega
  · by_cases b0 : b.length = 0
    · obtain rfl : b = [] := List.eq_nil_of_length_eq_zero b0
      have h1 : peak [] 1 = -1 := peak_no (by simp)
      rw [h1, List.append_nil]
      have := (peak_one ha a0).2.1; omega
    · obtain ⟨p1, p2, p3, p4⟩ := peak_one ha a0
      obtain ⟨q1, q2, q3, q4⟩ := peak_one hb b0
      obtain ⟨s1, s2, s3, s4⟩ := peak_one hv (by rw [List.length_append]; omega)
      have c1 : peak a 1 ≤ peak (a ++ b) 1 := by
        rcases p4 with e | e
        · omega
        · exact s1 _ (List.mem_append.2 (.inl e))
      have c2 : peak b 1 ≤ peak (a ++ b) 1 := by
        rcases q4 with e | e
        · omega
        · exact s1 _ (List.mem_append.2 (.inr e))
      have c3 : peak (a ++ b) 1 ≤ max (peak a 1) (peak b 1) := by
        rcases s4 with e | e
        · omega
        · rcases List.mem_append.1 e with e | e
          · have := p1 _ e; omega
          · have := q1 _ e; omega
      omega
theorem join_law {a b : List Int} (hj : joinOk a b = true) : words (a ++ b) = words a + words b ∧ 0 ≤ words a ∧ words a ≤ 270 ∧ 0 ≤ words b ∧ words b ≤ 270 ∧ (valid (a ++ [0] ++ b) = true → lost (a ++ [0] ++ b) 2 3 ≤ lost (a ++ b) 2 3) ∧ peak (a ++ b) 1 = max (peak a 1) (peak b 1) := by
  have he := joinOk_eq a b
  rw [hj] at he
  have he := he.symm
  simp only [Bool.and_eq_true, decide_eq_true_eq] at he
  obtain ⟨⟨ha, hb⟩, _⟩ := he
  have h1 : valid (a ++ b) = true := hj
  have w1 := words_cases a
  have w2 := words_cases b
  rw [ha] at w1
  rw [hb] at w2
  simp at w1 w2
  refine ⟨by rw [words_yes h1, words_yes ha, words_yes hb, sum_append], w1.1, w1.2, w2.1, w2.2, fun hx => ?_, peak_join h1⟩
  rw [lost_yes (ok_mk hx ⟨by omega, by omega⟩ ⟨by omega, by omega⟩), lost_yes (ok_mk h1 ⟨by omega, by omega⟩ ⟨by omega, by omega⟩)]
  rw [lostF_append, lostF_append, lostF_append, endM_append]
  have hb0 := endM_bd (r := 2) (h := 3) (by omega) a 0 (Int.le_refl 0) (by omega)
  have e1 : lostF 2 3 (endM 2 3 0 a) [0] = 0 := by simp only [lostF, los]; omega
  have e2 : endM 2 3 (endM 2 3 0 a) [0] ≤ endM 2 3 0 a := by simp only [endM, nxt]; omega
  have := lostF_mono (h := 3) (Int.le_refl 2) b (endM 2 3 0 a) _ e2
  omega
/-- the tail -/
theorem tail_law {xs : List Int} {r h : Int} (hok : ok xs r h = true) : 0 ≤ tailS xs r h ∧ tailS xs r h ≤ 50 ∧ endM r h 0 xs ≤ tailS xs r h * r ∧ tailS xs r h * r < endM r h 0 xs + r ∧ endM r h 0 xs + r ≤ 59 ∧
    endM r h 0 (xs ++ List.replicate (tailS xs r h).toNat 0) = 0 := by
  obtain ⟨hv, hr, hh⟩ := ok_parts hok
  have hE := endM_bd (r := r) hh.1 xs 0 (Int.le_refl 0) hh.1
  have e : tailS xs r h = (endM r h 0 xs + r - 1) / r := by simp [tailS, hok]
  have hd := div_facts (a := endM r h 0 xs + r - 1) (n := r) (by omega) (by omega)
  rw [← e] at hd
  have h1 : endM r h 0 xs ≤ tailS xs r h * r := by omega
  have h2 : tailS xs r h ≤ 50 := by
    rw [e]
    refine Int.le_of_lt_add_one (Int.ediv_lt_of_lt_mul (by omega) ?_)
    have : r * 1 ≤ r * 9 := by omega
    have : (50 + 1) * r = 50 * r + r := by omega
    omega
  refine ⟨hd.1, h2, h1, by omega, by omega, ?_⟩
  rw [endM_append, endM_silent (by omega) _ _ hE.1 hE.2, Int.toNat_of_nonneg hd.1]
  omega
end Talk
end Go.Proofs.Ytcgiehdpdnipbaa
