/- Marks of two lists together, in plain Lean: clashes, unions, their order. -/
import Derived.Test.YtjhlcgjhdiheaaaShift
namespace Go.Proofs.Ytjhlcgjhdiheaaa
namespace Mk
variable {α : Type}

def sameM [DecidableEq α] (a b : Mark α) : Bool := decide (a.at_ = b.at_) && decide (a.cut = b.cut) && decide (a.put = b.put)
theorem sameM_iff [DecidableEq α] (a b : Mark α) : sameM a b = true ↔ a = b := by
  cases a; cases b
  simp [sameM, and_assoc]
theorem sameM_false [DecidableEq α] {a b : Mark α} (h : a ≠ b) : sameM a b = false := by
  rw [Bool.eq_false_iff]
  exact fun e => h ((sameM_iff a b).1 e)
theorem sameM_self [DecidableEq α] (a : Mark α) : sameM a a = true := (sameM_iff a a).2 rfl
theorem sameM_symm [DecidableEq α] (a b : Mark α) : sameM a b = sameM b a := by
  rw [Bool.eq_iff_iff, sameM_iff, sameM_iff]
  exact ⟨Eq.symm, Eq.symm⟩
def touch (a b : Mark α) : Bool := decide (a.at_ ≤ b.at_ + b.cut) && decide (b.at_ ≤ a.at_ + a.cut)
theorem touch_symm (a b : Mark α) : touch a b = touch b a := by unfold touch; rw [Bool.and_comm]
def clash1 [DecidableEq α] (a b : Mark α) : Bool := !sameM a b && touch a b
theorem clash1_symm [DecidableEq α] (a b : Mark α) : clash1 a b = clash1 b a := by unfold clash1; rw [sameM_symm, touch_symm]
def clashL [DecidableEq α] (as bs : List (Mark α)) : Bool := as.any fun a => bs.any fun b => clash1 a b
theorem clashL_iff [DecidableEq α] (as bs : List (Mark α)) : clashL as bs = true ↔ ∃ a ∈ as, ∃ b ∈ bs, clash1 a b = true := by
  simp [clashL, List.any_eq_true]
theorem clashL_false [DecidableEq α] {as bs : List (Mark α)} (h : clashL as bs = false) : ∀ a ∈ as, ∀ b ∈ bs, a = b ∨ a.at_ + a.cut < b.at_ ∨ b.at_ + b.cut < a.at_ := by
  intro a ha b hb
  by_cases e : a = b
  · exact .inl e
  · refine .inr ?_
    have h1 : ¬ clash1 a b = true := fun h2 => by
      have := (clashL_iff as bs).2 ⟨a, ha, b, hb, h2⟩
      rw [h] at this
      cases this
    simp only [clash1, sameM_false e, Bool.not_false, Bool.true_and, touch, Bool.and_eq_true, decide_eq_true_eq] at h1
    omega
theorem clashL_symm [DecidableEq α] (as bs : List (Mark α)) : clashL as bs = clashL bs as := by
  rw [Bool.eq_iff_iff, clashL_iff, clashL_iff]
  constructor
  · rintro ⟨a, ha, b, hb, h⟩; exact ⟨b, hb, a, ha, by rw [clash1_symm]; exact h⟩
  · rintro ⟨b, hb, a, ha, h⟩; exact ⟨a, ha, b, hb, by rw [clash1_symm]; exact h⟩

/-- each mark ends ahead of the next ones -/
def Asc (ms : List (Mark α)) : Prop := ms.Pairwise fun a b => a.at_ + a.cut < b.at_
def Pos (ms : List (Mark α)) : Prop := ∀ m ∈ ms, 0 ≤ m.cut
theorem chk_asc (ok : α → Bool) (n : Nat) (ms : List (Mark α)) : ∀ e : Int, chk ok n e ms = true → Asc ms ∧ Pos ms ∧ (∀ m ∈ ms, fitM ok n m = true ∧ e < m.at_) := by
  induction ms with
  | nil => intro e _; exact ⟨List.Pairwise.nil, fun m hm => by simp at hm, fun m hm => by simp at hm⟩
  | cons m ms ih =>
    intro e h
    obtain ⟨h1, h2, h3⟩ := chk_cons ok h
    obtain ⟨i1, i2, i3⟩ := ih _ h3
    have f := fit_parts ok h1
    refine ⟨List.Pairwise.cons (fun b hb => (i3 b hb).2) i1, fun x hx => ?_, fun x hx => ?_⟩
    · rcases List.mem_cons.1 hx with rfl | hx
      · exact f.2.2.1
      · exact i2 x hx
    · rcases List.mem_cons.1 hx with rfl | hx
      · exact ⟨h1, h2⟩
      · exact ⟨(i3 x hx).1, by have := (i3 x hx).2; omega⟩
theorem asc_chk (ok : α → Bool) (n : Nat) (ms : List (Mark α)) : ∀ e : Int, Asc ms → (∀ m ∈ ms, fitM ok n m = true ∧ e < m.at_) → chk ok n e ms = true := by
  induction ms with
  | nil => intro e _ _; rfl
  | cons m ms ih =>
    intro e ha hf
    have h1 := hf m (by simp)
    have h2 := List.pairwise_cons.1 ha
    simp only [chk, Bool.and_eq_true, decide_eq_true_eq]
    exact ⟨⟨h1.1, h1.2⟩, ih _ h2.2 (fun x hx => ⟨(hf x (by simp [hx])).1, h2.1 x hx⟩)⟩
/-- two ascending lists with the same marks are equal -/
theorem asc_unique (as : List (Mark α)) : ∀ bs : List (Mark α), Asc as → Asc bs → Pos as → Pos bs → (∀ m, m ∈ as ↔ m ∈ bs) → as = bs := by
  induction as with
  | nil =>
    intro bs _ _ _ _ h
    cases bs with
    | nil => rfl
    | cons b bs => have := (h b).2 (by simp); simp at this
  | cons a as ih =>
    intro bs ha hb pa pb h
    cases bs with
    | nil => have := (h a).1 (by simp); simp at this
    | cons b bs =>
      have a1 := List.pairwise_cons.1 ha
      have b1 := List.pairwise_cons.1 hb
      have ca := pa a (by simp)
      have cb := pb b (by simp)
      have e : a = b := by
        rcases List.mem_cons.1 ((h a).1 (by simp)) with e | e
        · exact e
        · rcases List.mem_cons.1 ((h b).2 (by simp)) with e2 | e2
          · exact e2.symm
          · have h1 := b1.1 a e
            have h2 := a1.1 b e2
            omega
      subst e
      have : as = bs := ih bs a1.2 b1.2 (fun m hm => pa m (by simp [hm])) (fun m hm => pb m (by simp [hm])) (fun m => by
        constructor
        · intro hm
          rcases List.mem_cons.1 ((h m).1 (by simp [hm])) with e | e
          · subst e; have := a1.1 m hm; omega
          · exact e
        · intro hm
          rcases List.mem_cons.1 ((h m).2 (by simp [hm])) with e | e
          · subst e; have := b1.1 m hm; omega
          · exact e)
      rw [this]
/-- the marks of both lists, the lesser index first -/
def merge [DecidableEq α] : List (Mark α) → List (Mark α) → List (Mark α)
  | [], bs => bs
  | a :: as, [] => a :: as
  | a :: as, b :: bs => if sameM a b = true then a :: merge as bs else if a.at_ < b.at_ then a :: merge as (b :: bs) else b :: merge (a :: as) bs
termination_by as bs => as.length + bs.length
theorem merge_nil [DecidableEq α] (bs : List (Mark α)) : merge [] bs = bs := by unfold merge; rfl
theorem merge_nil' [DecidableEq α] (as : List (Mark α)) : merge as [] = as := by cases as <;> unfold merge <;> rfl
theorem merge_cons [DecidableEq α] (a b : Mark α) (as bs : List (Mark α)) : merge (a :: as) (b :: bs) = if sameM a b = true then a :: merge as bs else if a.at_ < b.at_ then a :: merge as (b :: bs) else b :: merge (a :: as) bs := by
  conv => lhs; unfold merge
theorem merge_mem [DecidableEq α] (n : Nat) : ∀ (as bs : List (Mark α)), as.length + bs.length ≤ n → ∀ m, m ∈ merge as bs ↔ m ∈ as ∨ m ∈ bs := by
  induction n with
  | zero =>
    intro as bs h m
    obtain rfl : as = [] := List.eq_nil_of_length_eq_zero (by omega)
    obtain rfl : bs = [] := List.eq_nil_of_length_eq_zero (by omega)
    rw [merge_nil]; simp
  | succ n ih =>
    intro as bs h m
    cases as with
    | nil => rw [merge_nil]; simp
    | cons a as =>
      cases bs with
      | nil => rw [merge_nil']; simp
      | cons b bs =>
        simp only [List.length_cons] at h
        rw [merge_cons]
        split
        · rename_i e
          have e := (sameM_iff a b).1 e
          subst e
          have := ih as bs (by omega) m
          simp only [List.mem_cons, this]
          constructor
          · rintro (h | h | h)
            · exact .inl (.inl h)
            · exact .inl (.inr h)
            · exact .inr (.inr h)
          · rintro ((h | h) | (h | h))
            · exact .inl h
            · exact .inr (.inl h)
            · exact .inl h
            · exact .inr (.inr h)
        · split
          · have := ih as (b :: bs) (by simp; omega) m
            simp only [List.mem_cons] at this ⊢
            rw [this]
            constructor
            · rintro (h | h | h)
              · exact .inl (.inl h)
              · exact .inl (.inr h)
              · exact .inr h
            · rintro ((h | h) | h)
              · exact .inl h
              · exact .inr (.inl h)
              · exact .inr (.inr h)
          · have := ih (a :: as) bs (by simp; omega) m
            simp only [List.mem_cons] at this ⊢
            rw [this]
            constructor
            · rintro (h | h | h)
              · exact .inr (.inl h)
              · exact .inl h
              · exact .inr (.inr h)
            · rintro (h | h | h)
              · exact .inr (.inl h)
              · exact .inl h
              · exact .inr (.inr h)
theorem mem_merge [DecidableEq α] (as bs : List (Mark α)) (m : Mark α) : m ∈ merge as bs ↔ m ∈ as ∨ m ∈ bs := merge_mem _ as bs (Nat.le_refl _) m
theorem merge_asc [DecidableEq α] (n : Nat) : ∀ (as bs : List (Mark α)), as.length + bs.length ≤ n → Asc as → Asc bs → Pos as → Pos bs → (∀ a ∈ as, ∀ b ∈ bs, a = b ∨ a.at_ + a.cut < b.at_ ∨ b.at_ + b.cut < a.at_) → Asc (merge as bs) := by
  induction n with
  | zero =>
    intro as bs h _ _ _ _ _
    obtain rfl : as = [] := List.eq_nil_of_length_eq_zero (by omega)
    obtain rfl : bs = [] := List.eq_nil_of_length_eq_zero (by omega)
    rw [merge_nil]; exact List.Pairwise.nil
  | succ n ih =>
    intro as bs h ha hb pa pb hc
    cases as with
    | nil => rw [merge_nil]; exact hb
    | cons a as =>
      cases bs with
      | nil => rw [merge_nil']; exact ha
      | cons b bs =>
        simp only [List.length_cons] at h
        have a1 := List.pairwise_cons.1 ha
        have b1 := List.pairwise_cons.1 hb
        have ca := pa a (by simp)
        have cb := pb b (by simp)
        have pa' : Pos as := fun m hm => pa m (by simp [hm])
        have pb' : Pos bs := fun m hm => pb m (by simp [hm])
        rw [merge_cons]
        split
        · rename_i e
          have e := (sameM_iff a b).1 e
          subst e
          refine List.Pairwise.cons (fun m hm => ?_) (ih as bs (by omega) a1.2 b1.2 pa' pb' (fun x hx y hy => hc x (by simp [hx]) y (by simp [hy])))
          rcases (mem_merge as bs m).1 hm with h1 | h1
          · exact a1.1 m h1
          · exact b1.1 m h1
        · rename_i e
          have hab := hc a (by simp) b (by simp)
          have hne : a ≠ b := fun e2 => e ((sameM_iff a b).2 e2)
          split
          · rename_i hlt
            have hlt2 : a.at_ + a.cut < b.at_ := by
              rcases hab with h1 | h1 | h1
              · exact absurd h1 hne
              · exact h1
              · omega
            refine List.Pairwise.cons (fun m hm => ?_) (ih as (b :: bs) (by simp; omega) a1.2 hb pa' pb (fun x hx y hy => hc x (by simp [hx]) y hy))
            rcases (mem_merge as (b :: bs) m).1 hm with h1 | h1
            · exact a1.1 m h1
            · rcases List.mem_cons.1 h1 with rfl | h1
              · exact hlt2
              · have := b1.1 m h1; omega
          · rename_i hlt
            have hlt2 : b.at_ + b.cut < a.at_ := by
              rcases hab with h1 | h1 | h1
              · exact absurd h1 hne
              · omega
              · exact h1
            refine List.Pairwise.cons (fun m hm => ?_) (ih (a :: as) bs (by simp; omega) ha b1.2 pa pb' (fun x hx y hy => hc x hx y (by simp [hy])))
            rcases (mem_merge (a :: as) bs m).1 hm with h1 | h1
            · rcases List.mem_cons.1 h1 with rfl | h1
              · exact hlt2
              · have := a1.1 m h1; omega
            · exact b1.1 m h1
/-- what two valid lists that do not clash come to -/
theorem both_facts [DecidableEq α] (ok : α → Bool) {ws : List α} {as bs : List (Mark α)} (ha : validM ok ws as = true) (hb : validM ok ws bs = true) (hc : clashL as bs = false) :
    Asc (merge as bs) ∧ Pos (merge as bs) ∧ chk ok ws.length (-1) (merge as bs) = true := by
  obtain ⟨a1, a2, a3, a4⟩ := valid_parts ok ha
  obtain ⟨b1, b2, b3, b4⟩ := valid_parts ok hb
  obtain ⟨x1, x2, x3⟩ := chk_asc ok ws.length as (-1) a3
  obtain ⟨y1, y2, y3⟩ := chk_asc ok ws.length bs (-1) b3
  have h1 := merge_asc _ as bs (Nat.le_refl _) x1 y1 x2 y2 (clashL_false hc)
  refine ⟨h1, fun m hm => ?_, asc_chk ok _ _ _ h1 fun m hm => ?_⟩
  · rcases (mem_merge as bs m).1 hm with h | h
    · exact x2 m h
    · exact y2 m h
  · rcases (mem_merge as bs m).1 hm with h | h
    · exact x3 m h
    · exact y3 m h
theorem merge_comm [DecidableEq α] (ok : α → Bool) {ws : List α} {as bs : List (Mark α)} (ha : validM ok ws as = true) (hb : validM ok ws bs = true) (hc : clashL as bs = false) : merge bs as = merge as bs := by
  have h1 := both_facts ok ha hb hc
  have h2 := both_facts ok hb ha (by rw [clashL_symm]; exact hc)
  refine asc_unique _ _ h2.1 h1.1 h2.2.1 h1.2.1 fun m => ?_
  rw [mem_merge, mem_merge]
  exact ⟨Or.symm, Or.symm⟩
theorem merge_self [DecidableEq α] (ms : List (Mark α)) : merge ms ms = ms := by
  induction ms with
  | nil => exact merge_nil []
  | cons m ms ih => rw [merge_cons, if_pos (sameM_self m), ih]
theorem asc_get {ms : List (Mark α)} (h : Asc ms) : ∀ a ∈ ms, ∀ b ∈ ms, a = b ∨ a.at_ + a.cut < b.at_ ∨ b.at_ + b.cut < a.at_ := by
  induction ms with
  | nil => intro a ha; simp at ha
  | cons m ms ih =>
    have h1 := List.pairwise_cons.1 h
    intro a ha b hb
    rcases List.mem_cons.1 ha with e1 | ha' <;> rcases List.mem_cons.1 hb with e2 | hb'
    · exact .inl (e1.trans e2.symm)
    · rw [e1]; exact .inr (.inl (h1.1 b hb'))
    · rw [e2]; exact .inr (.inr (h1.1 a ha'))
    · exact ih h1.2 a ha' b hb'
theorem no_self_clash [DecidableEq α] {ms : List (Mark α)} (h : Asc ms) : clashL ms ms = false := by
  rw [Bool.eq_false_iff]
  intro hc
  obtain ⟨a, ha, b, hb, h1⟩ := (clashL_iff ms ms).1 hc
  simp only [clash1, touch, Bool.and_eq_true, Bool.not_eq_true', decide_eq_true_eq] at h1
  rcases asc_get h a ha b hb with e | e
  · rw [e, sameM_self] at h1; cases h1.1
  · omega
/-- equal marks once: the marks of the first list, then those of the second that are not there yet -/
def uniq [DecidableEq α] (as bs : List (Mark α)) : List (Mark α) := as ++ bs.filter fun b => !as.any (sameM b)
theorem any_same [DecidableEq α] (as : List (Mark α)) (b : Mark α) : as.any (sameM b) = true ↔ b ∈ as := by
  rw [List.any_eq_true]
  constructor
  · rintro ⟨x, hx, h⟩; rw [(sameM_iff b x).1 h]; exact hx
  · intro h; exact ⟨b, h, sameM_self b⟩
theorem mem_uniq [DecidableEq α] (as bs : List (Mark α)) (m : Mark α) : m ∈ uniq as bs ↔ m ∈ as ∨ m ∈ bs := by
  unfold uniq
  rw [List.mem_append, List.mem_filter]
  by_cases h : m ∈ as
  · simp [h]
  · have : as.any (sameM m) = false := by rw [Bool.eq_false_iff]; exact fun e => h ((any_same as m).1 e)
    simp [h, this]
theorem asc_distinct {ms : List (Mark α)} (h : Asc ms) (hp : Pos ms) : ms.Pairwise (· ≠ ·) := by
  induction ms with
  | nil => exact List.Pairwise.nil
  | cons m ms ih =>
    have h1 := List.pairwise_cons.1 h
    refine List.Pairwise.cons (fun b hb e => ?_) (ih h1.2 fun x hx => hp x (by simp [hx]))
    have := h1.1 b hb
    have := hp m (by simp)
    rw [← e] at *
    omega
theorem uniq_distinct [DecidableEq α] {as bs : List (Mark α)} (ha : as.Pairwise (· ≠ ·)) (hb : bs.Pairwise (· ≠ ·)) : (uniq as bs).Pairwise (· ≠ ·) := by
  unfold uniq
  rw [List.pairwise_append]
  refine ⟨ha, hb.filter _, fun a h1 b h2 e => ?_⟩
  rw [List.mem_filter] at h2
  have : as.any (sameM b) = true := (any_same as b).2 (e ▸ h1)
  rw [this] at h2
  simp at h2
/-- a list with the same marks, once each, sorted by their index, is the merged list -/
theorem sorted_is_merge [DecidableEq α] (ok : α → Bool) {ws : List α} {as bs s : List (Mark α)} (ha : validM ok ws as = true) (hb : validM ok ws bs = true) (hc : clashL as bs = false)
    (hm : ∀ m, m ∈ s ↔ m ∈ as ∨ m ∈ bs) (hd : s.Pairwise (· ≠ ·)) (hs : s.Pairwise fun a b => a.at_ ≤ b.at_) : s = merge as bs := by
  obtain ⟨h1, h2, h3⟩ := both_facts ok ha hb hc
  have hmem : ∀ m, m ∈ s ↔ m ∈ merge as bs := fun m => by rw [hm, mem_merge]
  have hasc : Asc s := by
    have : s.Pairwise fun a b => a ∈ s ∧ b ∈ s ∧ a ≠ b ∧ a.at_ ≤ b.at_ := by
      refine List.Pairwise.imp_of_mem (fun {a b} ha hb h => ⟨ha, hb, h.1, h.2⟩) (hd.and hs)
    refine this.imp fun {a b} h => ?_
    obtain ⟨ma, mb, hne, hle⟩ := h
    rcases asc_get h1 a ((hmem a).1 ma) b ((hmem b).1 mb) with e | e | e
    · exact absurd e hne
    · exact e
    · have := h2 b ((hmem b).1 mb); omega
  exact asc_unique s _ hasc h1 (fun m hm => h2 m ((hmem m).1 hm)) h2 hmem
theorem asc_len (ok : α → Bool) {n : Nat} {ms : List (Mark α)} (h : chk ok n (-1) ms = true) (hn : n ≤ 20) (hz : ms.length = 21) : ∀ m ∈ ms, m.cut = 0 := by
  obtain ⟨g1, g2, g3, _, g5⟩ := gaps_of_chk ok n ms 0 (-1) (Nat.zero_le _) (by omega) (.inr ⟨rfl, rfl⟩) (by omega) h
  rw [Nat.sub_zero] at g2
  have hl : (gapsFrom 0 ms).length = 21 := by
    have := abs_len (gapsFrom 0 ms) 0
    rw [g1] at this
    omega
  have hcut : cutG (gapsFrom 0 ms) = 0 := by
    cases hg : gapsFrom 0 ms with
    | nil => rfl
    | cons g gs =>
      rw [hg] at g2 g3 g5 hl
      have h1 := count_gaps ok gs _ g2.2 (fun x hx => g3 x (by simp [hx])) g5
      have := g2.1
      simp only [List.length_cons] at hl
      simp only [cutG]
      omega
  intro m hm
  rw [← g1] at hm
  have : ∀ (gs : List (Gap α)) (p : Nat), cutG gs = 0 → ∀ m ∈ abs p gs, m.cut = 0 := by
    intro gs
    induction gs with
    | nil => intro p _ m hm; simp [abs] at hm
    | cons g gs ih =>
      intro p hc m hm
      simp only [cutG] at hc
      simp only [abs] at hm
      rcases List.mem_cons.1 hm with rfl | hm
      · simp only; omega
      · exact ih _ (by omega) m hm
  exact this _ 0 hcut m hm
theorem no_cut_nil (ok : α → Bool) {ws : List α} {ms : List (Mark α)} (h : validM ok ws ms = true) (hn : ws.length = 20) (hz : ∀ m ∈ ms, m.cut = 0) : ms = [] := by
  obtain ⟨_, _, h3, h4⟩ := valid_parts ok h
  have : ∀ (ms : List (Mark α)), (∀ m ∈ ms, m.cut = 0) → (∀ m ∈ ms, fitM ok ws.length m = true) → grow ms ≤ 0 → ms = [] := by
    intro ms
    cases ms with
    | nil => intro _ _ _; rfl
    | cons m ms =>
      intro hz hf hg
      have f := fit_parts ok (hf m (by simp))
      have hzm := hz m (by simp)
      have : ∀ (l : List (Mark α)), (∀ m ∈ l, m.cut = 0) → 0 ≤ grow l := by
        intro l
        induction l with
        | nil => intro _; exact Int.le_refl 0
        | cons x l ih =>
          intro hx
          have := ih fun y hy => hx y (by simp [hy])
          have := hx x (by simp)
          simp only [grow]
          omega
      have := this ms fun y hy => hz y (by simp [hy])
      simp only [grow] at hg
      omega
  exact this ms hz (fun m hm => ((chk_asc ok ws.length ms (-1) h3).2.2 m hm).1) (by omega)
/-- at most twenty marks come together -/
theorem both_count [DecidableEq α] (ok : α → Bool) {ws : List α} {as bs : List (Mark α)} (ha : validM ok ws as = true) (hb : validM ok ws bs = true) (hc : clashL as bs = false) : (merge as bs).length ≤ 20 := by
  have h1 := (both_facts ok ha hb hc).2.2
  have hw := (speech_parts ok (valid_parts ok ha).1).1
  obtain ⟨g1, g2, g3, _, g5⟩ := gaps_of_chk ok ws.length (merge as bs) 0 (-1) (Nat.zero_le _) (by omega) (.inr ⟨rfl, rfl⟩) (by omega) h1
  rw [Nat.sub_zero] at g2
  have hl : (gapsFrom 0 (merge as bs)).length = (merge as bs).length := by
    have := abs_len (gapsFrom 0 (merge as bs)) 0
    rw [g1] at this
    omega
  have h21 : (merge as bs).length ≤ ws.length + 1 := by
    cases hg : gapsFrom 0 (merge as bs) with
    | nil => rw [hg] at hl; simp at hl; omega
    | cons g gs =>
      rw [hg] at g2 g3 g5 hl
      have h1 := count_gaps ok gs _ g2.2 (fun x hx => g3 x (by simp [hx])) g5
      have := g2.1
      simp only [List.length_cons] at hl
      omega
  by_cases e : (merge as bs).length = 21
  · have hz := asc_len ok h1 hw e
    have ea := no_cut_nil ok ha (by omega) (fun m hm => hz m ((mem_merge as bs m).2 (.inl hm)))
    have eb := no_cut_nil ok hb (by omega) (fun m hm => hz m ((mem_merge as bs m).2 (.inr hm)))
    rw [ea, eb, merge_nil] at e
    simp at e
  · omega
end Mk
end Go.Proofs.Ytjhlcgjhdiheaaa
