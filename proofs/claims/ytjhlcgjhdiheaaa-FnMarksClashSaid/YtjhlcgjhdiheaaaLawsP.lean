/- What the statements say of marks, in plain Lean. -/
import Derived.Test.YtjhlcgjhdiheaaaUnion
namespace Go.Proofs.Ytjhlcgjhdiheaaa
namespace Mk
variable {α : Type}

theorem grow_of (ok : α → Bool) {ws : List α} {ms : List (Mark α)} (h : validM ok ws ms = true) : ((doM ws 0 ms).length : Int) = ws.length + grow ms := by
  obtain ⟨e, g⟩ := good_of_valid ok h
  rw [← e, doM_abs, List.drop_zero, grow_abs]
  have := doG_len _ ws g.fits
  omega
theorem valid_after (ok : α → Bool) {ws : List α} {ms : List (Mark α)} (h : validM ok ws ms = true) : speech ok (doM ws 0 ms) = true := by
  obtain ⟨e, g⟩ := good_of_valid ok h
  rw [← e, doM_abs, List.drop_zero]
  exact good_after ok g
theorem back_eq (ok : α → Bool) {ws : List α} {ms : List (Mark α)} (h : validM ok ws ms = true) : backM ws 0 ms = abs 0 (backG ws (gapsFrom 0 ms)) := by
  obtain ⟨e, g⟩ := good_of_valid ok h
  have := backM_abs ws (gapsFrom 0 ms) 0 0
  rw [e] at this
  simpa using this
theorem valid_back (ok : α → Bool) {ws : List α} {ms : List (Mark α)} (h : validM ok ws ms = true) : validM ok (doM ws 0 ms) (backM ws 0 ms) = true := by
  obtain ⟨e, g⟩ := good_of_valid ok h
  rw [back_eq ok h]
  conv => lhs; rw [← e]
  rw [doM_abs, List.drop_zero]
  rw [show gapsFrom 0 (abs 0 (gapsFrom 0 ms)) = gapsFrom 0 ms by rw [e]]
  exact valid_of_good ok (good_back ok g)
theorem do_do (ok : α → Bool) {ws : List α} {ms : List (Mark α)} (h : validM ok ws ms = true) : doM (doM ws 0 ms) 0 (backM ws 0 ms) = ws := by
  obtain ⟨e, g⟩ := good_of_valid ok h
  rw [back_eq ok h, doM_abs, List.drop_zero]
  have h2 : doM ws 0 ms = doG ws (gapsFrom 0 ms) := by
    conv => lhs; rw [← e]
    rw [doM_abs, List.drop_zero]
  rw [h2]
  exact do_back _ ws g.fits
theorem gaps_abs (gs : List (Gap α)) : ∀ p, gapsFrom p (abs p gs) = gs := by
  induction gs with
  | nil => intro p; rfl
  | cons g gs ih =>
    intro p
    simp only [abs, gapsFrom, Int.toNat_natCast, ih]
    rw [show p + g.gap - p = g.gap by omega]
theorem back_again (ok : α → Bool) {ws : List α} {ms : List (Mark α)} (h : validM ok ws ms = true) : backM (doM ws 0 ms) 0 (backM ws 0 ms) = ms := by
  obtain ⟨e, g⟩ := good_of_valid ok h
  rw [back_eq ok (valid_back ok h), back_eq ok h, gaps_abs]
  have h2 : doM ws 0 ms = doG ws (gapsFrom 0 ms) := by
    conv => lhs; rw [← e]
    rw [doM_abs, List.drop_zero]
  rw [h2, back_back _ ws g.fits, e]
theorem back_size (ok : α → Bool) {ws : List α} {ms : List (Mark α)} (h : validM ok ws ms = true) : sizeM (backM ws 0 ms) = sizeM ms := by
  obtain ⟨e, g⟩ := good_of_valid ok h
  rw [back_eq ok h, sizeM_abs]
  conv => rhs; rw [← e]
  rw [sizeM_abs, sizeG_eq, sizeG_eq]
  have := back_cut _ ws g.fits
  omega
theorem size_pos (ok : α → Bool) {ws : List α} {ms : List (Mark α)} (h : validM ok ws ms = true) : 0 ≤ sizeM ms ∧ (sizeM ms = 0 ↔ ms = []) := by
  obtain ⟨e, g⟩ := good_of_valid ok h
  have h3 : sizeM ms = (sizeG (gapsFrom 0 ms) : Nat) := by
    conv => lhs; rw [← e]
    rw [sizeM_abs]
  rw [h3]
  refine ⟨by omega, ?_⟩
  constructor
  · intro h0
    cases ms with
    | nil => rfl
    | cons m ms =>
      have := (g.each ⟨m.at_.toNat - 0, m.cut.toNat, m.put⟩ (List.mem_cons_self ..)).1
      unfold Some1 at this
      simp only [gapsFrom, sizeG] at h0
      simp only at this
      omega
  · rintro rfl; rfl
theorem far_size [DecidableEq α] (ok : α → Bool) {ws : List α} {ms : List (Mark α)} (h : validM ok ws ms = true) : (far ws (doM ws 0 ms) : Int) ≤ sizeM ms := by
  obtain ⟨e, g⟩ := good_of_valid ok h
  have := far_do _ ws g.fits
  have h2 : doM ws 0 ms = doG ws (gapsFrom 0 ms) := by
    conv => lhs; rw [← e]
    rw [doM_abs, List.drop_zero]
  have h3 : sizeM ms = (sizeG (gapsFrom 0 ms) : Nat) := by
    conv => lhs; rw [← e]
    rw [sizeM_abs]
  rw [h2, h3]
  omega
theorem valid_take (ok : α → Bool) {ws : List α} {ms : List (Mark α)} (h : validM ok ws ms = true) (k : Nat) : validM ok ws (ms.take k) = decide ((ws.length : Int) + grow (ms.take k) ≤ 20) := by
  obtain ⟨h1, h2, h3, h4⟩ := valid_parts ok h
  have h5 : chk ok ws.length (-1) (ms.take k) = true := by
    have e := chk_append ok ws.length (ms.take k) (ms.drop k) (-1)
    rw [List.take_append_drop, h3] at e
    cases hc : chk ok ws.length (-1) (ms.take k) with
    | true => rfl
    | false => rw [hc] at e; simp at e
  exact valid_end ok h1 (by rw [List.length_take]; omega) h5
theorem chk_mem (ok : α → Bool) {n : Nat} {ms : List (Mark α)} : ∀ {e : Int}, chk ok n e ms = true → ∀ m ∈ ms, fitM ok n m = true := by
  induction ms with
  | nil => intro e _ m hm; cases hm
  | cons x xs ih =>
    intro e h m hm
    obtain ⟨h1, _, h3⟩ := chk_cons ok h
    rcases List.mem_cons.1 hm with rfl | hm
    · exact h1
    · exact ih h3 m hm
theorem valid_mem (ok : α → Bool) {ws : List α} {ms : List (Mark α)} (h : validM ok ws ms = true) : ∀ m ∈ ms, fitM ok ws.length m = true := chk_mem ok (valid_parts ok h).2.2.1
theorem back_at (ws : List α) {ms : List (Mark α)} {k : Nat} {m : Mark α} (hm : ms[k]? = some m) (s : Int) : (backM ws s ms)[k]? = some ⟨m.at_ + (s + grow (ms.take k)), (m.put.length : Int), (ws.drop m.at_.toNat).take m.cut.toNat⟩ := by
  have e : ms = ms.take k ++ [m] ++ ms.drop (k + 1) := by rw [← snoc_at hm, List.take_append_drop]
  have h2 : ∀ (xs ys : List (Mark α)) (s : Int), backM ws s (xs ++ ys) = backM ws s xs ++ backM ws (s + grow xs) ys := by
    intro xs
    induction xs with
    | nil => intro ys s; simp [backM, grow]
    | cons x xs ih =>
      intro ys s
      simp only [List.cons_append, backM, ih, grow]
      rw [show s + ((x.put.length : Int) - x.cut) + grow xs = s + ((x.put.length : Int) - x.cut + grow xs) by omega]
  have hl : (ms.take k).length = k := by
    rw [List.length_take]; have := (List.getElem?_eq_some_iff.1 hm).1; omega
  conv => lhs; rw [e]
  rw [h2, backM_snoc, List.getElem?_append, if_pos (by simp [backM_len]; have := (List.getElem?_eq_some_iff.1 hm).1; omega), List.getElem?_append, if_neg (by rw [backM_len]; omega), backM_len, hl, Nat.sub_self]
  rfl
theorem cut_len (ok : α → Bool) {ws : List α} {m : Mark α} (h : fitM ok ws.length m = true) : (((ws.drop m.at_.toNat).take m.cut.toNat).length : Int) = m.cut := by
  have := fit_parts ok h
  rw [List.length_take, List.length_drop]
  omega

theorem asc_head {m : Mark α} {ms : List (Mark α)} (h : Asc (m :: ms)) (hp : Pos (m :: ms)) : (∀ x ∈ ms, m.at_ < x.at_) ∧ Asc ms ∧ Pos ms := by
  obtain ⟨h1, h2⟩ := List.pairwise_cons.1 h
  have := hp m (List.mem_cons_self ..)
  exact ⟨fun x hx => by have := h1 x hx; omega, h2, fun x hx => hp x (List.mem_cons_of_mem _ hx)⟩

/-! made marks -/
variable [DecidableEq α]
theorem valid_made (ok : α → Bool) {a b : List α} (ha : speech ok a = true) (hb : speech ok b = true) : validM ok a (abs 0 (made a b)) = true := valid_of_good ok (good_made ok ha hb)
theorem do_made (a b : List α) : doM a 0 (abs 0 (made a b)) = b := by rw [doM_abs, List.drop_zero, made_do]
theorem size_made (a b : List α) : sizeM (abs 0 (made a b)) = (far a b : Nat) := by rw [sizeM_abs, made_size]
theorem made_none (a b : List α) : (abs 0 (made a b)).length = 0 ↔ a = b := by
  rw [abs_len, List.length_eq_zero_iff, made_nil]

/-! both -/
/-- what marks of one list are again in the other -/
def common1 (a : Mark α) : List (Mark α) → Int
  | [] => 0
  | b :: bs => (if sameM a b = true then a.cut + a.put.length else 0) + common1 a bs
def common : List (Mark α) → List (Mark α) → Int
  | [], _ => 0
  | a :: as, bs => common1 a bs + common as bs
theorem common1_no (a : Mark α) (bs : List (Mark α)) (h : ∀ b ∈ bs, a ≠ b) : common1 a bs = 0 := by
  induction bs with
  | nil => rfl
  | cons b bs ih =>
    simp only [common1]
    rw [if_neg (by rw [sameM_false (h b (List.mem_cons_self ..))]; simp), ih fun x hx => h x (List.mem_cons_of_mem _ hx)]; rfl
theorem common_no (as : List (Mark α)) (b : Mark α) (bs : List (Mark α)) (h : ∀ a ∈ as, a ≠ b) : common as (b :: bs) = common as bs := by
  induction as with
  | nil => rfl
  | cons a as ih =>
    simp only [common, common1]
    rw [if_neg (by rw [sameM_false (h a (List.mem_cons_self ..))]; simp), ih fun x hx => h x (List.mem_cons_of_mem _ hx)]; omega
theorem size_merge (n : Nat) : ∀ (as bs : List (Mark α)), as.length + bs.length ≤ n → Asc as → Asc bs → Pos as → Pos bs → sizeM (merge as bs) = sizeM as + sizeM bs - common as bs := by
  induction n with
  | zero =>
    intro as bs h _ _ _ _
    obtain rfl : as = [] := List.eq_nil_of_length_eq_zero (by omega)
    obtain rfl : bs = [] := List.eq_nil_of_length_eq_zero (by omega)
    rw [merge_nil]; rfl
  | succ n ih =>
    intro as bs h h1 h2 h3 h4
    cases as with
    | nil => rw [merge_nil]; simp [sizeM, common]
    | cons a as =>
      cases bs with
      | nil =>
        rw [merge_nil']
        have : ∀ xs : List (Mark α), common xs [] = 0 := by
          intro xs; induction xs with
          | nil => rfl
          | cons x xs ih => simp [common, common1, ih]
        rw [this]; simp [sizeM]
      | cons b bs =>
        obtain ⟨a1, a2, a3⟩ := asc_head h1 h3
        obtain ⟨b1, b2, b3⟩ := asc_head h2 h4
        simp only [List.length_cons] at h
        rw [merge_cons]
        by_cases hs : sameM a b = true
        · rw [if_pos hs]
          have hab := (sameM_iff a b).1 hs
          subst hab
          have i := ih as bs (by omega) a2 b2 a3 b3
          have c1 := common1_no a bs (fun x hx e => by subst e; have := b1 _ hx; omega)
          have c2 := common_no as a bs (fun x hx e => by subst e; have := a1 _ hx; omega)
          simp only [sizeM, common, common1, if_pos hs, i, c1, c2]; omega
        · rw [if_neg hs]
          have hne : a ≠ b := fun e => hs ((sameM_iff a b).2 e)
          by_cases hlt : a.at_ < b.at_
          · rw [if_pos hlt]
            have i := ih as (b :: bs) (by simp only [List.length_cons]; omega) a2 h2 a3 h4
            have c1 := common1_no a (b :: bs) (fun x hx e => by
              subst e
              rcases List.mem_cons.1 hx with e | hx
              · exact hne e
              · have := b1 _ hx; omega)
            simp only [sizeM, common, i, c1]; omega
          · rw [if_neg hlt]
            have i := ih (a :: as) bs (by simp only [List.length_cons]; omega) h1 b2 h3 b3
            have c1 := common_no (a :: as) b bs (fun x hx e => by
              subst e
              rcases List.mem_cons.1 hx with e | hx
              · exact hne e.symm
              · have := a1 _ hx; omega)
            simp only [sizeM, i, c1]; omega
end Mk
end Go.Proofs.Ytjhlcgjhdiheaaa
