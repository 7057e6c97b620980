/- What the talk functions compute, in plain Lean. -/
namespace Go.Proofs.Ytcgiehdpdnipbaa
namespace Talk

def inB (lo hi n : Int) : Bool := decide (lo ≤ n) && decide (n ≤ hi)
theorem inB_true {lo hi n : Int} (h : inB lo hi n = true) : lo ≤ n ∧ n ≤ hi := by simpa [inB] using h
theorem inB_false {lo hi n : Int} (h : inB lo hi n = false) : n < lo ∨ hi < n := by
  simp [inB] at h
  by_cases h1 : lo ≤ n
  · exact .inr (h h1)
  · exact .inl (by omega)
theorem inB_mk {lo hi n : Int} (h : lo ≤ n ∧ n ≤ hi) : inB lo hi n = true := by simpa [inB] using h
theorem inB_no {lo hi n : Int} (h : n < lo ∨ hi < n) : inB lo hi n = false := by
  simp [inB]; intro h1; omega

def allIn (xs : List Int) : Bool := xs.all fun x => inB 0 9 x
def valid (xs : List Int) : Bool := decide (xs.length ≤ 30) && allIn xs
def sum : List Int → Int
  | [] => 0
  | x :: xs => x + sum xs

theorem sum_append (xs ys : List Int) : sum (xs ++ ys) = sum xs + sum ys := by
  induction xs with
  | nil => simp [sum]
  | cons x xs ih => simp [sum, ih]; omega
theorem allIn_append (xs ys : List Int) : allIn (xs ++ ys) = (allIn xs && allIn ys) := by simp [allIn]
theorem allIn_at {xs : List Int} (h : allIn xs = true) {k : Nat} {x : Int} (hx : xs[k]? = some x) : 0 ≤ x ∧ x ≤ 9 :=
  inB_true (List.all_eq_true.1 h x (List.mem_of_getElem? hx))
theorem allIn_not {xs : List Int} {k : Nat} {x : Int} (hx : xs[k]? = some x) (h : inB 0 9 x = false) : allIn xs = false := by
  rw [Bool.eq_false_iff]
  intro ha
  have := List.all_eq_true.1 ha x (List.mem_of_getElem? hx)
  rw [h] at this
  cases this
theorem valid_len {xs : List Int} (h : valid xs = true) : xs.length ≤ 30 := by simp [valid] at h; exact h.1
theorem valid_all {xs : List Int} (h : valid xs = true) : allIn xs = true := by simp [valid] at h; exact h.2
theorem sum_bd {xs : List Int} (h : allIn xs = true) : 0 ≤ sum xs ∧ sum xs ≤ 9 * xs.length := by
  induction xs with
  | nil => simp [sum]
  | cons x xs ih =>
    simp only [allIn, List.all_cons, Bool.and_eq_true] at h
    have h1 := inB_true h.1
    have h2 := ih h.2
    simp only [sum, List.length_cons]
    omega
theorem allIn_take {xs : List Int} (h : allIn xs = true) (k : Nat) : allIn (xs.take k) = true :=
  List.all_eq_true.2 fun x hx => List.all_eq_true.1 h x (List.mem_of_mem_take hx)
theorem allIn_drop {xs : List Int} (h : allIn xs = true) (k : Nat) : allIn (xs.drop k) = true :=
  List.all_eq_true.2 fun x hx => List.all_eq_true.1 h x (List.mem_of_mem_drop hx)
theorem valid_bd {xs : List Int} (h : valid xs = true) : ∀ x ∈ xs, 0 ≤ x ∧ x ≤ 1000 := fun x hx => by
  have := inB_true (List.all_eq_true.1 (valid_all h) x hx)
  omega
def speed (xs : List Int) : Int := if valid xs = true ∧ xs.length ≠ 0 then 60 * sum xs / xs.length else -1
theorem speed_no {xs : List Int} (h : valid xs = false) : speed xs = -1 := by simp [speed, h]
theorem speed_nil {xs : List Int} (h : xs.length = 0) : speed xs = -1 := by simp [speed, h]
theorem speed_yes {xs : List Int} (h : valid xs = true) (h0 : xs.length ≠ 0) : speed xs = 60 * sum xs / xs.length := by rw [speed, if_pos ⟨h, h0⟩]
def words (xs : List Int) : Int := if valid xs = true then sum xs else -1
theorem words_no {xs : List Int} (h : valid xs = false) : words xs = -1 := by simp [words, h]
theorem words_yes {xs : List Int} (h : valid xs = true) : words xs = sum xs := by simp [words, h]
end Talk
end Go.Proofs.Ytcgiehdpdnipbaa
