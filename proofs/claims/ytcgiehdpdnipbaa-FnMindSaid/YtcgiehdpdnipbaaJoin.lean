/- TalkJoin, TalkPeak and TalkHeard, of the program and of the reference: what they return. -/
import Derived.Test.YtcgiehdpdnipbaaRate
import Derived.Laws.AppendOwnNone
namespace Go.Proofs.Ytcgiehdpdnipbaa
open Go.RowKit
set_option linter.unusedVariables false

theorem own_value {w : World} {lo n : Nat} {v : Value} {xs : List Int} (h : w.ownsRow lo 3 1 v n (xs.map (Value.int .i64))) (hw : ∀ x ∈ xs, I64 x) : ∃ A c, v = .slice A n c ∧ OwnI w lo w.heap.size A n c xs := by
  rcases h.2 with ⟨rfl, rfl⟩ | ⟨g, cap, cur, rfl, _⟩
  · exact ⟨none, 0, rfl, h, hw, Nat.le_refl _, fun _ e => by cases e⟩
  · exact ⟨_, cap, rfl, h, hw, Nat.le_refl _, fun a ha => (h.lt a.block (by injection ha with ha; subst ha; rfl)).2⟩

/-- a slice of ints appended to a row of the call's own -/
theorem wpList_cat {ops : Array Oper} {rest : List Oper} {o : Oper} {a : Act} {Q : Exit → Act → World → Prop} (w : World) (hgd : o.guard = none) (s x : Operand)
    (ho : o.op = .call { callee := .builtin .append, args := #[s, x], argTypes := #[22, 22] })
    (lo hi : Nat) (A : Option Addr) (n c : Nat) (xs : List Int) (hs : a.eval s = .slice A n c) (hown : OwnI w lo hi A n c xs)
    (B : Option Addr) (m d : Nat) (ys : List Int) (hx : a.eval x = .slice B m d) (hy : Ints w B m ys) (hd : B = none → d = 0) (hn : n + m ≤ 4194304) (hlo : lo ≤ w.heap.size)
    (h : ∀ A' c' w', OwnI w' lo w'.heap.size A' (n + m) c' (xs ++ ys) → w.grownBy w' (A.map (·.block)) → wpList Try.prog ops Q rest (a.put o.dst (.slice A' (n + m) c')) w') :
    wpList Try.prog ops Q (o :: rest) a w := by
  obtain ⟨i0, hi0, hz0, hz1, hz2⟩ := info_parts Try.infoInt
  have hwf : ∀ z ∈ xs ++ ys, I64 z := fun z hz => by
    rcases List.mem_append.1 hz with h1 | h1
    · exact hown.2.1 z h1
    · exact hy.wf z h1
  cases B with
  | none =>
    have hm : m = 0 := by
      rcases Nat.eq_zero_or_pos m with h0 | h0
      · exact h0
      · obtain ⟨b, off, e, _⟩ := hy.2.2 h0
        cases e
    subst hm
    obtain rfl : ys = [] := List.eq_nil_of_length_eq_zero hy.len
    obtain rfl := hd rfl
    refine wpList_append_own_none hgd s x 22 ho lo 3 i0 1 Try.underlying22 hi0 (.slice A n c) n _ hs hown.1 hx ?_
    have := h A c w (by simpa using hown.wide (Nat.le_refl _) hown.2.2.1 (Nat.le_refl _)) (World.grownBy.refl _ _)
    simpa using this
  | some ad =>
    refine wpList_append_own w hgd s x 22 ho lo 3 i0 (.int .i64 0) 1 8 Try.underlying22 hi0 hz0 hz1 hz2 rfl (by omega) (.slice A n c) n (xs.map (Value.int .i64)) hs hown.1
      ad m d (ys.map (Value.int .i64)) hx (by simp [hy.len]) ?_ (by simp [Value.oneCell']) (by unfold maxLen; omega) (by omega) hlo ?_
    · intro j u hu
      simp only [List.getElem?_map, Option.map_eq_some_iff] at hu
      obtain ⟨z, hz, rfl⟩ := hu
      have hj : j < ys.length := (List.getElem?_eq_some_iff.1 hz).1
      obtain ⟨b, off, e, _, hc⟩ := hy.2.2 (by have := hy.len; omega)
      injection e with e
      subst e
      have := hc j z hz
      rw [← this]
      congr 1
      unfold Addr.add
      split
      · rename_i h0; subst h0; rfl
      · rfl
    · intro v' w' hown' hg _
      rw [← List.map_append] at hown'
      obtain ⟨A', c', rfl, ho'⟩ := own_value hown' hwf
      refine h A' c' w' ho' ?_
      cases A with
      | none => exact hg
      | some a => exact hg

theorem below_cat {w w1 w2 : World} {A : Option Addr} (hb : Below w.heap.size w w1) (hg : w1.grownBy w2 (A.map (·.block))) (hA : ∀ a, A = some a → w.heap.size ≤ a.block) : Below w.heap.size w w2 := by
  refine hb.grown hg hb.size (fun g e => ?_)
  cases A with
  | none => cases e
  | some a =>
    have e : a.block = g := by injection e
    have := hA a rfl
    omega
def joinL (a b : List Int) : List Int := if Talk.joinOk a b = true then a ++ b else []
theorem joinL_no {a b : List Int} (h : Talk.joinOk a b = false) : joinL a b = [] := by simp [joinL, h]
theorem joinL_yes {a b : List Int} (h : Talk.joinOk a b = true) : joinL a b = a ++ b := by simp [joinL, h]

set_option maxHeartbeats 400000 in
theorem sjoin_any (A B : Option Addr) (n m c d : Nat) (xs ys : List Int) (w : World) (hn : n ≤ 1048576) (hm : m ≤ 1048576) (hx : Ints w A n xs) (hy : Ints w B m ys) (hc : A = none → c = 0) (hd : B = none → d = 0) :
    Calls Try.prog 34 #[.slice A n c, .slice B m d] w (ListPost w (Talk.joinOk xs ys) (joinL xs ys)) := by
  have hemp : OwnI (w.alloc (.cells #[] 3)) w.heap.size (w.heap.size + 1) (some ⟨w.heap.size, 0, none⟩) 0 0 [] := own_empty w w.heap.size (Nat.le_refl _)
  have b0 : Below w.heap.size w (w.alloc (.cells #[] 3)) := (Below.refl _ _).alloc (Nat.le_refl _) _
  go_enter Try.func34, Try.ntmps34
  go_wp2_with (first
    | (at_builtin; have _t := hemp; refine wpList_cat _ rfl (.tmp 7) (.tmp 8) rfl w.heap.size (w.heap.size + 1) (some ⟨w.heap.size, 0, none⟩) 0 0 [] rfl hemp A n c xs rfl (hx.below b0) hc (by omega) b0.size ?_; intro A1 c1 w1 o1 g1; clear hemp; have b1 := below_cat b0 g1 (fun a ha => by injection ha with ha; subst ha; exact Nat.le_refl _); rw [List.nil_append] at o1; rw [Nat.zero_add] at *)
    | (at_builtin; refine wpList_cat _ rfl (.tmp 9) (.tmp 10) rfl w.heap.size w1.heap.size A1 n c1 xs rfl o1 B m d ys rfl (hy.below b1) hd (by omega) b1.size ?_; intro A2 c2 w2 o2 g2; have b2 := below_cat b1 g2 (fun a ha => (o1.lo_le a ha).1)))
  refine (svalid_any A2 (n + m) c2 (xs ++ ys) _ (by omega) o2.ints).mono ?_
  rintro e w' ⟨rfl, rfl⟩
  cases hj : Talk.valid (xs ++ ys) with
  | false =>
    have hs := Lib.hid (joinL_no (a := xs) (b := ys) hj)
    have hk := Lib.hid (show Talk.joinOk xs ys = false from hj)
    go_wp2
    go_ret2
    rw [hs.out, hk.out]
    exact ⟨_, 0, 0, rfl, by have := own_empty w2 w.heap.size b2.size; simpa using this.wide (Nat.le_refl _) (by simp) (Nat.le_refl _), b2.alloc b2.size _⟩
  | true =>
    have hs := Lib.hid (joinL_yes (a := xs) (b := ys) hj)
    have hk := Lib.hid (show Talk.joinOk xs ys = true from hj)
    go_wp2
    go_ret2
    rw [hs.out, hk.out]
    exact ⟨A2, n + m, c2, rfl, o2, b2⟩

theorem OwnI.cap0 {w : World} {lo hi n c : Nat} {A : Option Addr} {xs : List Int} (h : OwnI w lo hi A n c xs) : A = none → c = 0 := by
  rintro rfl
  rcases h.1.2 with ⟨e, _⟩ | ⟨g, cap, cur, hv, _⟩
  · injection e
  · injection hv with hv; cases hv

set_option maxHeartbeats 400000 in
theorem ijoin_any (A B : Option Addr) (n m c d : Nat) (xs ys : List Int) (w : World) (hn : n ≤ 1048576) (hm : m ≤ 1048576) (hx : Ints w A n xs) (hy : Ints w B m ys) (hc : A = none → c = 0) (hd : B = none → d = 0) :
    Calls Try.prog 35 #[.slice A n c, .slice B m d] w (ListPost w (Talk.joinOk xs ys) (joinL xs ys)) := by
  have hl1 := Lib.hid hx.len
  have hl2 := Lib.hid hy.len
  have hje := Lib.hid (Talk.joinOk_eq xs ys)
  cases hv : Talk.valid xs with
  | false =>
    have hk := Lib.hid (show Talk.joinOk xs ys = false by rw [hje.out, hv]; rfl)
    have hs := Lib.hid (joinL_no hk.out)
    go_enter Try.func35, Try.ntmps35
    go_wp2_with (go_at_call 72; refine (ivalid_any A n c xs _ (by omega) hx).mono ?_; rintro e w' ⟨rfl, rfl⟩)
    go_ret2
    rw [hs.out, hk.out]
    exact ListPost.nil_ w
  | true =>
    cases hv2 : Talk.valid ys with
    | false =>
      have hk := Lib.hid (show Talk.joinOk xs ys = false by rw [hje.out, hv, hv2]; rfl)
      have hs := Lib.hid (joinL_no hk.out)
      go_enter Try.func35, Try.ntmps35
      go_wp2_with fail
      refine (ivalid_any A n c xs _ (by omega) hx).mono ?_
      rintro e w' ⟨rfl, rfl⟩
      go_wp2_with fail
      refine (ivalid_any B m d ys _ (by omega) hy).mono ?_
      rintro e w' ⟨rfl, rfl⟩
      go_wp2
      go_ret2
      rw [hs.out, hk.out]
      exact ListPost.nil_ w
    | true =>
      have hl3 := Talk.valid_len hv
      have hl4 := Talk.valid_len hv2
      rw [hl1.out] at hl3
      rw [hl2.out] at hl4
      by_cases h30 : n + m ≤ 30
      · have hk := Lib.hid (show Talk.joinOk xs ys = true by rw [hje.out, hv, hv2, hl1.out, hl2.out]; simpa using h30)
        have hs := Lib.hid (joinL_yes hk.out)
        obtain ⟨i0, hi0, hz0, hz1, hz2⟩ := info_parts Try.infoInt
        have hb8 : i0.bytes * (n + m) ≤ 281474976710656 := by rw [hz2]; omega
        have hml : n + m ≤ maxLen := by unfold maxLen; omega
        have H2 := Lib.hid hz2
        clear hz2
        go_enter Try.func35, Try.ntmps35
        go_wp2_with fail
        refine (ivalid_any A n c xs _ (by omega) hx).mono ?_
        rintro e w' ⟨rfl, rfl⟩
        go_wp2_with fail
        refine (ivalid_any B m d ys _ (by omega) hy).mono ?_
        rintro e w' ⟨rfl, rfl⟩
        go_wp2_with (first
          | (at_make; go_must (refine wpList_make_own _ rfl _ _ 22 rfl w.heap.size 3 i0 (.int .i64 0) 1 Try.underlying22 hi0 hz0 hz1 .i64 .i64 _ (n + m) rfl rfl (by omega) hb8 hml (Nat.le_refl _) ?_); intro w1 hown hgrow; have o1 : OwnI w1 w.heap.size w1.heap.size (some ⟨w.heap.size, 0, none⟩) 0 (n + m) [] := ⟨by simpa using hown, by simp, Nat.le_refl _, fun a ha => (hown.lt a.block (by injection ha with ha; subst ha; rfl)).2⟩; have b1 : Below w.heap.size w w1 := below_of_grown hgrow (Nat.le_refl _) (fun _ e => by cases e); clear hown hgrow)
          | (at_builtin; refine wpList_cat _ rfl (.tmp 29) (.tmp 30) rfl w.heap.size w1.heap.size (some ⟨w.heap.size, 0, none⟩) 0 (n + m) [] rfl o1 A n c xs rfl (hx.below b1) hc (by omega) b1.size ?_; intro A1 c1 w2 o2 g1; have b2 := below_cat b1 g1 (fun a ha => (o1.lo_le a ha).1); rw [List.nil_append] at o2; rw [Nat.zero_add] at *)
          | (at_builtin; refine wpList_cat _ rfl (.tmp 32) (.tmp 33) rfl w.heap.size w2.heap.size A1 n c1 xs rfl o2 B m d ys rfl (hy.below b2) hd (by omega) b2.size ?_; intro A2 c2 w3 o3 g2; have b3 := below_cat b2 g2 (fun a ha => (o2.lo_le a ha).1)))
        go_ret2
        rw [hs.out, hk.out]
        exact ⟨A2, n + m, c2, rfl, o3, b3⟩
      · have hk := Lib.hid (show Talk.joinOk xs ys = false by rw [hje.out, hv, hv2, hl1.out, hl2.out]; simpa using h30)
        have hs := Lib.hid (joinL_no hk.out)
        go_enter Try.func35, Try.ntmps35
        go_wp2_with fail
        refine (ivalid_any A n c xs _ (by omega) hx).mono ?_
        rintro e w' ⟨rfl, rfl⟩
        go_wp2_with fail
        refine (ivalid_any B m d ys _ (by omega) hy).mono ?_
        rintro e w' ⟨rfl, rfl⟩
        go_wp2
        go_ret2
        rw [hs.out, hk.out]
        exact ListPost.nil_ w
end Go.Proofs.Ytcgiehdpdnipbaa
