/- What the writers of the talk chapter do, in plain Lean: words in mind, words lost, the least rate and hold, peaks, relays; and the laws of these. -/
import Derived.Test.YtcgiehdpdnipbaaPlain
namespace Go.Proofs.Ytcgiehdpdnipbaa
namespace Talk

/-- the words in mind after a second -/
def nxt (r h m x : Int) : Int := min (max 0 (m + x - r)) h
/-- the words lost in a second -/
def los (r h m x : Int) : Int := max 0 (max 0 (m + x - r) - h)
def minds (r h : Int) : Int → List Int → List Int
  | _, [] => []
  | m, x :: xs => nxt r h m x :: minds r h (nxt r h m x) xs
def lostF (r h : Int) : Int → List Int → Int
  | _, [] => 0
  | m, x :: xs => los r h m x + lostF r h (nxt r h m x) xs
def endM (r h : Int) : Int → List Int → Int
  | m, [] => m
  | m, x :: xs => endM r h (nxt r h m x) xs

theorem minds_len (r h : Int) (xs : List Int) : ∀ m, (minds r h m xs).length = xs.length := by
  induction xs with
  | nil => intro m; rfl
  | cons x xs ih => intro m; simp [minds, ih]
theorem endM_append (r h : Int) (xs ys : List Int) : ∀ m, endM r h m (xs ++ ys) = endM r h (endM r h m xs) ys := by
  induction xs with
  | nil => intro m; rfl
  | cons x xs ih => intro m; simp [endM, ih]
theorem minds_append (r h : Int) (xs ys : List Int) : ∀ m, minds r h m (xs ++ ys) = minds r h m xs ++ minds r h (endM r h m xs) ys := by
  induction xs with
  | nil => intro m; rfl
  | cons x xs ih => intro m; simp [minds, endM, ih]
theorem lostF_append (r h : Int) (xs ys : List Int) : ∀ m, lostF r h m (xs ++ ys) = lostF r h m xs + lostF r h (endM r h m xs) ys := by
  induction xs with
  | nil => intro m; simp [lostF, endM]
  | cons x xs ih => intro m; simp [lostF, endM, ih]; omega
theorem minds_take (r h : Int) (xs : List Int) (k : Nat) : ∀ m, minds r h m (xs.take k) = (minds r h m xs).take k := by
  induction xs generalizing k with
  | nil => intro m; simp [minds]
  | cons x xs ih =>
    intro m
    cases k with
    | zero => simp [minds]
    | succ k => simp [minds, ih]
theorem los_nonneg (r h m x : Int) : 0 ≤ los r h m x := by unfold los; omega
theorem lostF_nonneg (r h : Int) (xs : List Int) : ∀ m, 0 ≤ lostF r h m xs := by
  induction xs with
  | nil => intro m; simp [lostF]
  | cons x xs ih => intro m; have := ih (nxt r h m x); have := los_nonneg r h m x; simp only [lostF]; omega
theorem nxt_bd {r h m x : Int} (hh : 0 ≤ h) : 0 ≤ nxt r h m x ∧ nxt r h m x ≤ h := by unfold nxt; omega
theorem endM_bd {r h : Int} (hh : 0 ≤ h) (xs : List Int) : ∀ m, 0 ≤ m → m ≤ h → 0 ≤ endM r h m xs ∧ endM r h m xs ≤ h := by
  induction xs with
  | nil => intro m h0 h1; exact ⟨h0, h1⟩
  | cons x xs ih => intro m _ _; have := nxt_bd (r := r) (m := m) (x := x) hh; exact ih _ this.1 this.2
theorem endM_last (r h : Int) (xs : List Int) (hx : xs ≠ []) : ∀ m, (minds r h m xs).getLast? = some (endM r h m xs) := by
  induction xs with
  | nil => exact absurd rfl hx
  | cons x xs ih =>
    intro m
    cases xs with
    | nil => simp [minds, endM]
    | cons y ys =>
      have := ih (by simp) (nxt r h m x)
      simp only [minds, endM] at this ⊢
      rw [List.getLast?_cons_cons]
      exact this
/-- what is written in each second is at most the rate: words = written + left + lost -/
theorem balance {r h : Int} (hr : 0 ≤ r) (hh : 0 ≤ h) (xs : List Int) (ha : allIn xs = true) : ∀ m, 0 ≤ m → m ≤ h →
    0 ≤ m + sum xs - endM r h m xs - lostF r h m xs ∧ m + sum xs - endM r h m xs - lostF r h m xs ≤ r * xs.length := by
  induction xs with
  | nil => intro m _ _; simp [sum, endM, lostF]
  | cons x xs ih =>
    intro m h0 h1
    simp only [allIn, List.all_cons, Bool.and_eq_true] at ha
    have hx := inB_true ha.1
    have hb := nxt_bd (r := r) (m := m) (x := x) hh
    have := ih ha.2 _ hb.1 hb.2
    simp only [sum, endM, lostF, List.length_cons]
    have e : nxt r h m x + los r h m x = max 0 (m + x - r) := by unfold nxt los; omega
    have e2 : r * ((xs.length + 1 : Nat) : Int) = r * xs.length + r := by rw [Int.natCast_add]; simp [Int.mul_add]
    rw [e2]
    generalize r * (xs.length : Int) = q at *
    omega
theorem nxt_mono {r h m m' x x' : Int} (hm : m ≤ m') (hx : x ≤ x') : nxt r h m x ≤ nxt r h m' x' := by unfold nxt; omega
theorem lostF_mono {r r' h : Int} (hr : r ≤ r') (xs : List Int) : ∀ m m', m' ≤ m → lostF r' h m' xs ≤ lostF r h m xs := by
  induction xs with
  | nil => intro m m' _; simp [lostF]
  | cons x xs ih =>
    intro m m' hm
    have h1 : nxt r' h m' x ≤ nxt r h m x := by unfold nxt; omega
    have h2 : los r' h m' x ≤ los r h m x := by unfold los; omega
    have := ih _ _ h1
    simp only [lostF]; omega
/-- a greater hold loses no more: what is kept more is at most what was lost less -/
theorem lostF_hold {r h h' : Int} (h0 : 0 ≤ h) (hh : h ≤ h') (xs : List Int) : ∀ m m' d : Int, m ≤ m' → m' ≤ m + d → lostF r h' m' xs ≤ d + lostF r h m xs := by
  induction xs with
  | nil => intro m m' d h1 h2; simp only [lostF]; omega
  | cons x xs ih =>
    intro m m' d h1 h2
    simp only [lostF]
    have := ih (nxt r h m x) (nxt r h' m' x) (d + los r h m x - los r h' m' x) (by unfold nxt; omega) (by unfold nxt los; omega)
    omega
theorem lostF_part (r h : Int) (xs ys : List Int) (hr : 0 ≤ h) : lostF r h 0 xs + lostF r h 0 ys ≤ lostF r h 0 (xs ++ ys) := by
  rw [lostF_append]
  have := (endM_bd (r := r) hr xs 0 (Int.le_refl 0) hr).1
  have := lostF_mono (h := h) (Int.le_refl r) ys (endM r h 0 xs) 0 this
  omega
theorem lostF_le_sum {r h : Int} (hr : 0 ≤ r) (hh : 0 ≤ h) {xs : List Int} (ha : allIn xs = true) : lostF r h 0 xs ≤ sum xs := by
  have h1 := balance hr hh xs ha 0 (Int.le_refl 0) hh
  have h2 := endM_bd (r := r) hh xs 0 (Int.le_refl 0) hh
  omega
/-- with a rate of nine nothing is lost -/
theorem lostF_nine {h : Int} (hh : 0 ≤ h) {xs : List Int} (ha : allIn xs = true) : lostF 9 h 0 xs = 0 := by
  induction xs with
  | nil => rfl
  | cons x xs ih =>
    simp only [allIn, List.all_cons, Bool.and_eq_true] at ha
    have hx := inB_true ha.1
    have e1 : nxt 9 h 0 x = 0 := by unfold nxt; omega
    have e2 : los 9 h 0 x = 0 := by unfold los; omega
    simp only [lostF, e1, e2]
    rw [ih ha.2]; rfl
/-- nothing is lost if and only if nobody has more in mind than the hold, with a hold that does not matter -/
theorem lost_zero_iff {r h H : Int} (h0 : 0 ≤ h) (hH : h ≤ H) (xs : List Int) : ∀ m, 0 ≤ m → m ≤ h → lostF r H m xs = 0 → (lostF r h m xs = 0 ↔ ∀ y ∈ minds r H m xs, y ≤ h) := by
  induction xs with
  | nil => intro m _ _ _; simp [lostF, minds]
  | cons x xs ih =>
    intro m hm0 hm1 hz
    simp only [lostF, minds, List.mem_cons, forall_eq_or_imp] at hz ⊢
    have n1 := los_nonneg r H m x
    have n2 := lostF_nonneg r H xs (nxt r H m x)
    have hz1 : los r H m x = 0 := by omega
    have hz2 : lostF r H (nxt r H m x) xs = 0 := by omega
    have n3 := los_nonneg r h m x
    have n4 := lostF_nonneg r h xs (nxt r h m x)
    by_cases hle : nxt r H m x ≤ h
    · have e : nxt r h m x = nxt r H m x := by unfold nxt at *; unfold los at *; omega
      have e2 : los r h m x = 0 := by unfold nxt at *; unfold los at *; omega
      have := ih (nxt r H m x) (nxt_bd (by omega)).1 hle hz2
      rw [e, e2]
      constructor
      · intro h1; exact ⟨hle, this.1 (by omega)⟩
      · intro h1; rw [this.2 h1.2]; rfl
    · have e2 : 0 < los r h m x := by unfold nxt at *; unfold los at *; omega
      constructor
      · intro h1; omega
      · intro h1; exact absurd h1.1 hle
/-- the tail: after as many silent seconds as the tail nothing is in mind -/
theorem endM_silent {r h : Int} (hr : 1 ≤ r) (n : Nat) : ∀ m : Int, 0 ≤ m → m ≤ h → endM r h m (List.replicate n 0) = max 0 (m - n * r) := by
  induction n with
  | zero => intro m h0 h1; simp [endM]; omega
  | succ n ih =>
    intro m h0 h1
    have e : nxt r h m 0 = max 0 (m - r) := by unfold nxt; omega
    simp only [List.replicate_succ, endM, e]
    rw [ih _ (by omega) (by omega)]
    have e2 : ((n + 1 : Nat) : Int) * r = n * r + r := by rw [Int.natCast_add]; simp [Int.add_mul]
    rw [e2]
    have : 0 ≤ (n : Int) * r := Int.mul_nonneg (by omega) (by omega)
    generalize (n : Int) * r = q at *
    omega

/-- the first number from lo on, of n, that p lets; -1 if none -/
def least (p : Int → Bool) : Int → Nat → Int
  | _, 0 => -1
  | lo, n + 1 => if p lo = true then lo else least p (lo + 1) n
theorem least_at {p : Int → Bool} (n : Nat) : ∀ (lo k : Int), lo ≤ k → k < lo + n → p k = true → (∀ j, lo ≤ j → j < k → p j = false) → least p lo n = k := by
  induction n with
  | zero => intro lo k h1 h2; omega
  | succ n ih =>
    intro lo k h1 h2 hk hn
    unfold least
    by_cases e : lo = k
    · subst e; rw [if_pos hk]
    · rw [if_neg (by rw [hn lo (Int.le_refl _) (by omega)]; decide)]
      exact ih (lo + 1) k (by omega) (by omega) hk (fun j h3 h4 => hn j (by omega) h4)
theorem least_none {p : Int → Bool} (n : Nat) : ∀ (lo : Int), (∀ j, lo ≤ j → j < lo + n → p j = false) → least p lo n = -1 := by
  induction n with
  | zero => intro lo _; rfl
  | succ n ih =>
    intro lo hn
    unfold least
    rw [if_neg (by rw [hn lo (Int.le_refl _) (by omega)]; decide)]
    exact ih (lo + 1) (fun j h3 h4 => hn j (by omega) (by omega))
theorem least_cases (p : Int → Bool) (n : Nat) : ∀ (lo : Int), (least p lo n = -1 ∧ ∀ j, lo ≤ j → j < lo + n → p j = false) ∨
    (lo ≤ least p lo n ∧ least p lo n < lo + n ∧ p (least p lo n) = true ∧ ∀ j, lo ≤ j → j < least p lo n → p j = false) := by
  induction n with
  | zero => intro lo; exact .inl ⟨rfl, fun j h1 h2 => by omega⟩
  | succ n ih =>
    intro lo
    unfold least
    by_cases e : p lo = true
    · rw [if_pos e]; exact .inr ⟨Int.le_refl _, by omega, e, fun j h1 h2 => by omega⟩
    · rw [if_neg e]
      have e' : p lo = false := by simpa using e
      rcases ih (lo + 1) with ⟨h1, h2⟩ | ⟨h1, h2, h3, h4⟩
      · refine .inl ⟨h1, fun j h5 h6 => ?_⟩
        by_cases ej : j = lo
        · rw [ej]; exact e'
        · exact h2 j (by omega) (by omega)
      · refine .inr ⟨by omega, by omega, h3, fun j h5 h6 => ?_⟩
        by_cases ej : j = lo
        · rw [ej]; exact e'
        · exact h4 j (by omega) h6

def ok (xs : List Int) (r h : Int) : Bool := valid xs && inB 1 9 r && inB 0 50 h
def lost (xs : List Int) (r h : Int) : Int := if ok xs r h = true then lostF r h 0 xs else -1
def mind (xs : List Int) (r h : Int) : List Int := if ok xs r h = true then minds r h 0 xs else []
def tailS (xs : List Int) (r h : Int) : Int := if ok xs r h = true then (endM r h 0 xs + r - 1) / r else -1
def rate (xs : List Int) (h : Int) : Int := least (fun r => lost xs r h == 0) 1 9
def hold (xs : List Int) (r : Int) : Int := least (fun h => lost xs r h == 0) 0 51
theorem lost_no {xs : List Int} {r h : Int} (e : ok xs r h = false) : lost xs r h = -1 := by simp [lost, e]
theorem lost_yes {xs : List Int} {r h : Int} (e : ok xs r h = true) : lost xs r h = lostF r h 0 xs := by simp [lost, e]
theorem ok_parts {xs : List Int} {r h : Int} (e : ok xs r h = true) : valid xs = true ∧ (1 ≤ r ∧ r ≤ 9) ∧ 0 ≤ h ∧ h ≤ 50 := by
  simp only [ok, Bool.and_eq_true] at e
  exact ⟨e.1.1, inB_true e.1.2, inB_true e.2⟩
theorem ok_mk {xs : List Int} {r h : Int} (e : valid xs = true) (h1 : 1 ≤ r ∧ r ≤ 9) (h2 : 0 ≤ h ∧ h ≤ 50) : ok xs r h = true := by
  simp only [ok, Bool.and_eq_true]
  exact ⟨⟨e, inB_mk h1⟩, inB_mk h2⟩

/-- the greatest sum of k seconds from one of the first n seconds on -/
def pk (xs : List Int) (k : Nat) : Nat → Int
  | 0 => 0
  | n + 1 => max (pk xs k n) (sum ((xs.drop n).take k))
def peak (xs : List Int) (k : Int) : Int := if valid xs = true ∧ 1 ≤ k ∧ k ≤ xs.length then pk xs k.toNat (xs.length - k.toNat + 1) else -1

def joinOk (a b : List Int) : Bool := valid (a ++ b)
theorem joinOk_eq (a b : List Int) : joinOk a b = (valid a && valid b && decide (a.length + b.length ≤ 30)) := by
  rw [Bool.eq_iff_iff]
  simp only [joinOk, valid, allIn_append, Bool.and_eq_true, decide_eq_true_eq, List.length_append]
  constructor
  · rintro ⟨h1, h2, h3⟩; exact ⟨⟨⟨by omega, h2⟩, by omega, h3⟩, h1⟩
  · rintro ⟨⟨⟨_, h2⟩, _, h3⟩, h1⟩; exact ⟨h1, h2, h3⟩

/-- the talk as a writer hears it, from second i on -/
def hear (t : Nat) (wr : Int) : Nat → List Int → List Int
  | _, [] => []
  | i, x :: xs => (if ((i / t % 2 : Nat) : Int) = wr then x else 0) :: hear t wr (i + 1) xs
theorem hear_len (t : Nat) (wr : Int) (xs : List Int) : ∀ i, (hear t wr i xs).length = xs.length := by
  induction xs with
  | nil => intro i; rfl
  | cons x xs ih => intro i; simp [hear, ih]
theorem hear_append (t : Nat) (wr : Int) (xs ys : List Int) : ∀ i, hear t wr i (xs ++ ys) = hear t wr i xs ++ hear t wr (i + xs.length) ys := by
  induction xs with
  | nil => intro i; simp [hear]
  | cons x xs ih => intro i; simp [hear, ih, Nat.add_assoc, Nat.add_comm 1]
theorem hear_all (t : Nat) (wr : Int) {xs : List Int} (ha : allIn xs = true) : ∀ i, allIn (hear t wr i xs) = true := by
  induction xs with
  | nil => intro i; rfl
  | cons x xs ih =>
    intro i
    simp only [allIn, List.all_cons, Bool.and_eq_true] at ha
    have := ih ha.2 (i + 1)
    simp only [hear, allIn, List.all_cons, Bool.and_eq_true]
    refine ⟨?_, this⟩
    split
    · exact ha.1
    · rfl
theorem hear_valid (t : Nat) (wr : Int) {xs : List Int} (ha : valid xs = true) (i : Nat) : valid (hear t wr i xs) = true := by
  simp only [valid, Bool.and_eq_true, hear_len] at ha ⊢
  exact ⟨ha.1, hear_all t wr ha.2 i⟩
def heardOk (xs : List Int) (wr t : Int) : Bool := valid xs && inB 0 1 wr && inB 1 30 t
def heard (xs : List Int) (wr t : Int) : List Int := hear t.toNat wr 0 xs
def relayOk (xs : List Int) (r h t : Int) : Bool := ok xs r h && inB 1 30 t
def relay (xs : List Int) (r h t : Int) : Int := if relayOk xs r h t = true then lostF r h 0 (heard xs 0 t) + lostF r h 0 (heard xs 1 t) else -1
/-- two writers lose no more than one -/
theorem relay_le {r h : Int} (hr : 0 ≤ r) (hh : 0 ≤ h) (t : Nat) (xs : List Int) (ha : allIn xs = true) : ∀ (i : Nat) (m a b : Int), 0 ≤ a → a ≤ m → 0 ≤ b → b ≤ m → m ≤ h →
    lostF r h a (hear t 0 i xs) + lostF r h b (hear t 1 i xs) ≤ lostF r h m xs := by
  induction xs with
  | nil => intro i m a b _ _ _ _ _; simp [lostF, hear]
  | cons x xs ih =>
    intro i m a b h1 h2 h3 h4 h5
    simp only [allIn, List.all_cons, Bool.and_eq_true] at ha
    have hx := inB_true ha.1
    simp only [hear, lostF]
    have hb := nxt_bd (r := r) (m := m) (x := x) hh
    rcases Nat.mod_two_eq_zero_or_one (i / t) with e | e
    · simp only [e]
      have c1 : nxt r h a x ≤ nxt r h m x := nxt_mono h2 (Int.le_refl _)
      have c2 : nxt r h b 0 ≤ nxt r h m x := nxt_mono h4 hx.1
      have := ih ha.2 (i + 1) (nxt r h m x) (nxt r h a x) (nxt r h b 0) (nxt_bd hh).1 c1 (nxt_bd hh).1 c2 hb.2
      have d1 : los r h a x ≤ los r h m x := by unfold los; omega
      have d2 : los r h b 0 = 0 := by unfold los; omega
      simp
      omega
    · simp only [e]
      have c1 : nxt r h b x ≤ nxt r h m x := nxt_mono h4 (Int.le_refl _)
      have c2 : nxt r h a 0 ≤ nxt r h m x := nxt_mono h2 hx.1
      have := ih ha.2 (i + 1) (nxt r h m x) (nxt r h a 0) (nxt r h b x) (nxt_bd hh).1 c2 (nxt_bd hh).1 c1 hb.2
      have d1 : los r h b x ≤ los r h m x := by unfold los; omega
      have d2 : los r h a 0 = 0 := by unfold los; omega
      simp
      omega
/-- a turn that is not over before the talk is: the first writer hears all, the second one nothing -/
theorem hear_first (t : Nat) (xs : List Int) : ∀ i, i + xs.length ≤ t → hear t 0 i xs = xs ∧ hear t 1 i xs = List.replicate xs.length 0 := by
  induction xs with
  | nil => intro i _; simp [hear]
  | cons x xs ih =>
    intro i hi
    simp only [List.length_cons] at hi
    have := ih (i + 1) (by omega)
    have e : i / t = 0 := Nat.div_eq_of_lt (by omega)
    simp [hear, e, this.1, this.2, List.replicate_succ]
theorem lostF_zeros {r h : Int} (hr : 0 ≤ r) (hh : 0 ≤ h) (n : Nat) : lostF r h 0 (List.replicate n 0) = 0 := by
  induction n with
  | zero => rfl
  | succ n ih =>
    have e1 : nxt r h 0 0 = 0 := by unfold nxt; omega
    have e2 : los r h 0 0 = 0 := by unfold los; omega
    simp [List.replicate_succ, lostF, e1, e2, ih]

/-- the first of the numbers 1 to n with the least value -/
def best (f : Int → Int) : Nat → Int
  | 0 => 1
  | n + 1 => if f (n + 1) < f (best f n) then n + 1 else best f n
theorem best_spec (f : Int → Int) (n : Nat) (hn : 1 ≤ n) : 1 ≤ best f n ∧ best f n ≤ n ∧ (∀ t : Int, 1 ≤ t → t ≤ n → f (best f n) ≤ f t) ∧ ∀ t : Int, 1 ≤ t → t < best f n → f (best f n) < f t := by
  induction n with
  | zero => omega
  | succ n ih =>
    by_cases h0 : n = 0
    · subst h0
      have : best f 1 = 1 := by simp [best]
      rw [this]
      refine ⟨by omega, by omega, fun t h1 h2 => ?_, fun t h1 h2 => by omega⟩
      obtain rfl : t = 1 := by omega
      exact Int.le_refl _
    · obtain ⟨i1, i2, i3, i4⟩ := ih (by omega)
      unfold best
      split
      · rename_i hlt
        refine ⟨by omega, by omega, fun t h1 h2 => ?_, fun t h1 h2 => ?_⟩
        · by_cases e : t = (n : Int) + 1
          · rw [e]; exact Int.le_refl _
          · have := i3 t h1 (by omega); omega
        · have := i3 t h1 (by omega); omega
      · rename_i hlt
        refine ⟨i1, by omega, fun t h1 h2 => ?_, i4⟩
        by_cases e : t = (n : Int) + 1
        · rw [e]; omega
        · exact i3 t h1 (by omega)
end Talk
end Go.Proofs.Ytcgiehdpdnipbaa
