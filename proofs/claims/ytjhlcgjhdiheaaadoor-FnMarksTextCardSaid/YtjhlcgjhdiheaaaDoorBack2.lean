/- The mark of a change; MarksBack of both programs. -/
import Derived.Test.YtjhlcgjhdiheaaaDoorBack
namespace Go.Proofs.YtjhlcgjhdiheaaaDoor
open Go.RowKit
set_option linter.unusedVariables false
theorem call3 (v : Value) (W : World) : (callMethod (.iface 75 v) "loop.example/shorthand/impl.mark" #[]).run Tryd.prog W = .ok (.enter 76 #[v]) W := by kernel_rfl
theorem call5 (v : Value) (W : World) : (callMethod (.iface 77 v) "loop.example/shorthand/impl.mark" #[]).run Tryd.prog W = .ok (.enter 77 #[v]) W := by kernel_rfl
theorem call7 (v : Value) (W : World) : (callMethod (.iface 79 v) "loop.example/shorthand/impl.mark" #[]).run Tryd.prog W = .ok (.enter 79 #[v]) W := by kernel_rfl
theorem exec_invoke {o : Oper} {a : Act} {t : Operand} {W : World} (ho : o.op = .call { callee := .invoke t "loop.example/shorthand/impl.mark", args := #[], argTypes := #[] }) :
    (execOp a.eval o).run Tryd.prog W = (callMethod (a.eval t) "loop.example/shorthand/impl.mark" #[]).run Tryd.prog W := by
  simp [execOp, ho, resolve, invoke]
/-- the mark of a change -/
theorem wpList_mark {ops : Array Oper} {rest : List Oper} {o : Oper} {a : Act} {Q : Exit → Act → World → Prop} (w : World) (hgd : o.guard = none) (t : Operand)
    (ho : o.op = .call { callee := .invoke t "loop.example/shorthand/impl.mark", args := #[], argTypes := #[] }) (m : M) (A : Option Addr) (n c : Nat) (ht : a.eval t = chgV m A n c) (hn : n ≤ 1000) (h : PutIn w A n c m.put) (hs : n ≠ 0 ∨ m.put = [])
    (k : ∀ A' n' c' w', OwnS w' w.heap.size w'.heap.size A' n' c' m.put → Below w.heap.size w w' → wpList Tryd.prog ops Q rest (a.put o.dst (mv m A' n' c')) w') : wpList Tryd.prog ops Q (o :: rest) a w := by
  refine wpList_plain hgd fun K hK => ?_
  unfold Oper.wp
  rw [exec_invoke ho, ht]
  have fin : ∀ e w', MarkPost w m e w' → (match e, w' with
    | .returned v, w'' => K (a.put o.dst v) w''
    | .panicked chain, w'' => Q (.panic chain) a w''
    | .outgrown, _ => LetsOut Q) := by
    rintro e w' ⟨A', n', c', rfl, h1, h2⟩
    exact hK _ _ (k A' n' c' w' h1 h2)
  by_cases h1 : n = 0
  · have hp : m.put = [] := by
      rcases hs with h | h
      · exact absurd h1 h
      · exact h
    rw [chgV_leave h1, call3, Oper.upon_enter]
    have := leaving_any m.at_ m.cut w
    rw [show (⟨m.at_, m.cut, []⟩ : M) = m by rw [← hp]] at this
    exact this.mono fin
  · by_cases h2 : m.cut = 0
    · rw [chgV_put h1 h2, call5, Oper.upon_enter]
      have := putting_any m.at_ A n c m.put w hn h
      rw [show (⟨m.at_, 0, m.put⟩ : M) = m by rw [← h2]] at this
      exact this.mono fin
    · rw [chgV_both h1 h2, call7, Oper.upon_enter]
      exact (replacing_any m.at_ m.cut A n c m.put w hn h).mono fin

/-- the marks back, if the marks are valid -/
def backF (ws : List ByteArray) (ms : List M) : Option (List M) := if valid ws ms = true then some (Mk.backM ws 0 ms) else none
theorem backF_no {ws : List ByteArray} {ms : List M} (h : valid ws ms = false) : backF ws ms = none := by unfold backF; rw [h]; rfl
theorem backF_yes {ws : List ByteArray} {ms : List M} (h : valid ws ms = true) : backF ws ms = some (Mk.backM ws 0 ms) := by unfold backF; rw [h]; rfl
/-- a list of marks and whether -/
def MrkPost (w : World) (r : Option (List M)) (e : Ending) (w' : World) : Prop := ∃ A n c, e = .returned (.tuple #[.slice A n c, .bool r.isSome]) ∧ OwnM w' w.heap.size w'.heap.size A n c (r.getD []) ∧ Below w.heap.size w w'
theorem MrkPost.nil_ {w w' : World} {r : Option (List M)} (h : r = none) (hb : Below w.heap.size w w') : MrkPost w r (.returned (.tuple #[.slice none 0 0, .bool false])) w' := by
  subst h
  exact ⟨none, 0, 0, rfl, OwnM.nil _ _ _ (Nat.le_refl _), hb⟩
theorem MrkPost.empty {w w' : World} {r : Option (List M)} {lo hi : Nat} {A : Option Addr} {c : Nat} (h : r = none) (ho : OwnM w' lo hi A 0 c []) (hlo : w.heap.size ≤ lo) (hb : Below w.heap.size w w') : MrkPost w r (.returned (.tuple #[.slice A 0 c, .bool false])) w' := by
  subst h
  exact ⟨A, 0, c, rfl, ho.wide hlo ho.top (Nat.le_refl _), hb⟩
theorem MrkPost.some_ {w w' : World} {r : Option (List M)} {xs : List M} {A : Option Addr} {n c : Nat} (h : r = some xs) (ho : OwnM w' w.heap.size w'.heap.size A n c xs) (hb : Below w.heap.size w w') : MrkPost w r (.returned (.tuple #[.slice A n c, .bool true])) w' := by
  subst h
  exact ⟨A, n, c, rfl, ho, hb⟩
theorem back_go {ws : List ByteArray} {ms : List M} {j : Nat} {x : M} (hx : ms[j]? = some x) (s : Int) (hs : s = Mk.grow (ms.take j)) : Mk.backM ws 0 (ms.take (j + 1)) = Mk.backM ws 0 (ms.take j) ++ [⟨x.at_ + s, (x.put.length : Int), (ws.drop x.at_.toNat).take x.cut.toNat⟩] := by
  rw [take_snoc hx, Mk.backM_snoc, hs, Int.zero_add]
theorem grow_go {ms : List M} {j : Nat} {x : M} (hx : ms[j]? = some x) : Mk.grow (ms.take (j + 1)) = Mk.grow (ms.take j) + (x.put.length - x.cut) := by
  rw [take_snoc hx, Mk.grow_snoc]

set_option maxRecDepth 10000 in
set_option maxHeartbeats 4000000 in
theorem iback_any (A B : Option Addr) (n c m d : Nat) (ws : List ByteArray) (ms : List M) (w : World) (hn : n ≤ 9223372036854775807) (hm : m ≤ 9223372036854775807) (hnc : n ≤ c) (hcm : c ≤ 9223372036854775807) (hz : A = none → c = 0) (h : Strs w A n ws) (k : Mrks w B m ms) :
    Calls Tryd.prog 9 #[.slice A n c, .slice B m d] w (MrkPost w (backF ws ms)) := by
  have hlen := Lib.hid h.len
  have hlen2 := Lib.hid k.len
  cases hv : valid ws ms with
  | false =>
    have hr := Lib.hid (backF_no hv)
    go_enter Tryd.func9, Tryd.ntmps9
    go_wp2_with fail
    refine (ivalidm_any A B n c m d ws ms _ hn hm h k).mono ?_
    rintro e W ⟨rfl, hb⟩
    rw [hv]
    go_wp2_with fail
    go_ret2
    exact MrkPost.nil_ hr.out hb
  | true =>
    have hr := Lib.hid (backF_yes hv)
    have hV := Lib.hid hv
    have hn20 : n ≤ 20 := by rw [← hlen.out]; exact (Mk.speech_parts wok (Mk.valid_parts wok hv).1).1
    have hm20 : m ≤ 20 := by rw [← hlen2.out]; exact (Mk.valid_parts wok hv).2.1
    go_enter Tryd.func9, Tryd.ntmps9
    go_wp2_with fail
    refine (ivalidm_any A B n c m d ws ms _ hn hm h k).mono ?_
    rintro e W ⟨rfl, hb⟩
    rw [hv]
    clear hv
    go_wp2_with fail
    go_loopw [6, 7, 17] (fun v sv i wr => ∃ (j : Nat) (s : Int) (A' : Option Addr) (c' hi : Nat), j ≤ m ∧ i = .int .i64 j ∧ sv = .int .i64 s ∧ v = .slice A' j c' ∧ -(40 * (j : Int)) ≤ s ∧ s ≤ 40 * (j : Int) ∧ OwnM wr w.heap.size hi A' j c' (Mk.backM ws 0 (ms.take j)) ∧ Hid (s = Mk.grow (ms.take j)) ∧ w.heap.size ≤ hi ∧ Below w.heap.size w wr) (fun _ _ i _ => m - (intOf i).toNat)
    case atStart => exact ⟨0, 0, some ⟨W.heap.size, 0, none⟩, 0, W.heap.size + 1, Nat.zero_le _, rfl, rfl, rfl, by omega, by omega, (own_emptyM W w.heap.size hb.size), Lib.hid (by simp [Mk.grow]), by have := hb.size; omega, hb.alloc hb.size _⟩
    case round =>
      obtain ⟨j, s, A', c', hi, hj, rfl, rfl, rfl, s0, s1, ho, hS, hhi, hbel⟩ := hrel
      by_cases hlt : j < m
      · obtain ⟨b, off, x, rfl, hx, x1, x2, d0, d1, B', n', c2, d2, hp⟩ := k.at_ hlt
        have hf := fit_of hV.out (mem_at hx)
        obtain ⟨f1, f2, f3, f4, f5, f6, f7, f8⟩ := hf
        have hpl := hp.len
        have hn2 : n' ≤ 20 := by omega
        obtain ⟨q, hq⟩ := Int.eq_ofNat_of_zero_le f1
        obtain ⟨r, hr'⟩ := Int.eq_ofNat_of_zero_le f3
        have q3 : q + r ≤ n := by have := hlen.out; omega
        have q4 : 0 < r + n' := by omega
        have hG := Lib.hid (back_go (ws := ws) hx s hS.out)
        have hS2 : Hid (s + ((n' : Int) - (r : Int)) = Mk.grow (ms.take (j + 1))) := Lib.hid (by rw [grow_go hx, ← hS.out, hr']; omega)
        have k0 := (hbel.cell (lt_of_cell d0)).trans d0
        have k1 := (hbel.cell (lt_of_cell d1)).trans d1
        have k2 := (hbel.cell (lt_of_cell d2)).trans d2
        have hp' := hp.below hbel
        rw [hq] at k0
        rw [hr'] at k1
        have hPut : PutIn wr (if c = q then A else A.map (·.add q)) r (c - q) ((ws.drop q).take r) := by
          refine ⟨?_, by omega, by omega, cut_none hz⟩
          have := (h.below hbel).cut_if (p := q) (q := q + r) (by omega) q3 hnc
          rwa [show q + r - q = r by omega] at this
        have hPsome : r ≠ 0 ∨ (ws.drop q).take r = [] := by
          by_cases h0 : r = 0
          · exact .inr (by rw [h0, List.take_zero])
          · exact .inl h0
        have HP := Lib.hid hPut
        have hne : some wr.heap.size ≠ A'.map (·.block) := by
          intro e
          cases A' with
          | none => cases e
          | some a =>
            have e : wr.heap.size = a.block := by injection e
            have := (ho.lo_le a rfl).2
            have := ho.top
            omega
        have I1 : Hid (I64 ((q : Int) + s)) := Lib.hid (by unfold I64; omega)
        have I2 : Hid (I64 (n' : Int)) := Lib.hid (by unfold I64; omega)
        have hG2 : Hid (Mk.backM ws 0 (ms.take (j + 1)) = Mk.backM ws 0 (ms.take j) ++ [⟨(q : Int) + s, (n' : Int), (ws.drop q).take r⟩]) := Lib.hid (by
          have := hG.out
          rw [hq, hr', hpl] at this
          simpa only [Int.toNat_natCast] using this)
        have HX := Lib.hid (Blk.new wr 46 #[.int .i64 (q : Int), .int .i64 (r : Int), .slice B' n' c2])
        have HO := Lib.hid ho
        have htop := ho.top
        have hcap := hbel.size
        have u1 : IntKind.i64.wrap ((n' : Int) - (r : Int)) = (n' : Int) - (r : Int) := IntWalk.i64_in _ (by omega)
        have u2 : IntKind.i64.wrap (s + ((n' : Int) - (r : Int))) = s + ((n' : Int) - (r : Int)) := IntWalk.i64_in _ (by omega)
        clear hx hpl f1 f2 f3 f4 f5 f6 f7 f8 hG hS hp hp' hPut ho d0 d1 d2
        go_wp2_with fail
        refine (change_any ⟨(q : Int), (r : Int), x.put⟩ B' n' c2 _ (by omega)).mono ?_
        rintro e w2 ⟨rfl, hw2⟩
        have b2 : Below wr.heap.size wr w2 := by subst hw2; exact ((Below.refl _ _).alloc (Nat.le_refl _) _).alloc (by simp) _
        have y2 : Blk w2 wr.heap.size 46 #[.int .i64 (q : Int), .int .i64 (r : Int), .slice B' n' c2] := by subst hw2; exact HX.out.alloc _
        have l2 : wr.heap.size < w2.heap.size := y2.lt
        clear hw2
        go_wp2_with fail
        refine (backof_any A n c ws ⟨(q : Int), (r : Int), x.put⟩ B' n' c2 s _ q r rfl rfl q3 hn20 hnc hcm hn2 q4 (by omega) (by omega)).mono ?_
        rintro e w3 ⟨rfl, b3⟩
        have y3 := y2.below b3 l2
        have b23 := Below.next b2 (b3.mono (by omega))
        generalize (if c = q then A else A.map (·.add q)) = A9 at HP ⊢
        generalize c - q = c9 at HP ⊢
        have hPut3 := Lib.hid (HP.out.below b23)
        have l3 := b3.size
        clear HX
        go_wp2_with (first
          | (refine wpList_mark _ rfl (.tmp 26) rfl ⟨(q : Int) + s, (n' : Int), (ws.drop q).take r⟩ A9 r c9 rfl (by omega) hPut3.out hPsome ?_; intro A4 n4 c4 w4 o4 b4; have y4 := Lib.hid (y3.below b4 (by omega)); have B4 := Lib.hid (Below.next b23 (b4.mono (by omega))); have l4 := b4.size)
          | (at_builtin; go_must (refine wpList_pushM _ rfl (.tmp 21) (.tmp 28) rfl w.heap.size hi A' j c' _ rfl ((HO.out.below B4.out).alloc _) ⟨(q : Int) + s, (n' : Int), (ws.drop q).take r⟩ ⟨A4, n4, c4⟩ (w4.heap.size + 1) w4.heap.size rfl I1.out I2.out ((o4.alloc _).wide (by omega) (by simp) (by simp)) ((Blk.new w4 46 #[.int .i64 ((q : Int) + s), .int .i64 (n' : Int), .slice A4 n4 c4]).cell 0) ((Blk.new w4 46 #[.int .i64 ((q : Int) + s), .int .i64 (n' : Int), .slice A4 n4 c4]).cell 1) ((Blk.new w4 46 #[.int .i64 ((q : Int) + s), .int .i64 (n' : Int), .slice A4 n4 c4]).cell 2) (by omega) hhi ?_); intro A5 c5 w5 o5 g5; rw [← hG2.out] at o5; have y5 := (y4.out.alloc (.cells #[.int .i64 ((q : Int) + s), .int .i64 (n' : Int), .slice A4 n4 c4] 46)).grown g5 hne; have b5 := below_cat ((hbel.trans (B4.out.mono hcap)).alloc (by omega) (.cells #[.int .i64 ((q : Int) + s), .int .i64 (n' : Int), .slice A4 n4 c4] 46)) g5 (fun a ha => (HO.out.lo_le a ha).1); have v1 := y5.cell 1; have v2 := y5.cell 2; simp at v1 v2; have B5 := Lib.hid b5; have O5 := Lib.hid o5; clear g5 o5 b5 y5 hbel y4 B4 HO o4 b4 hG2))
        go_roundw
        case rel => exact ⟨j + 1, s + ((n' : Int) - (r : Int)), A5, c5, w5.heap.size, by omega, by go_num, rfl, rfl, by omega, by omega, O5.out, hS2, by have := B5.out.size; omega, B5.out⟩
        case measure => simp [intOf]; omega
      · obtain rfl : j = m := by omega
        have he : Mk.backM ws 0 (ms.take j) = Mk.backM ws 0 ms := by rw [List.take_of_length_le (by rw [hlen2.out]; exact Nat.le_refl _)]
        rw [he] at ho
        have HO := Lib.hid ho
        clear he ho hS
        go_wp2_with fail
        go_ret2
        exact MrkPost.some_ hr.out (HO.out.wide (Nat.le_refl _) HO.out.top (Nat.le_refl _)) hbel
end Go.Proofs.YtjhlcgjhdiheaaaDoor

