/- MarksBoth of the program. -/
import Derived.Test.YtjhlcgjhdiheaaaUse2
import Derived.Test.YtjhlcgjhdiheaaaBo1
import Derived.Test.YtjhlcgjhdiheaaaSrt2
import Derived.Deep.LoopGhost
namespace Go.Proofs.Ytjhlcgjhdiheaaa
open Go.RowKit
set_option linter.unusedVariables false
set_option linter.unusedSimpArgs false

theorem blk_newAt {w : World} {g : Nat} (t : TypeId) (cs : Array Value) (hg : w.heap.size = g) : Blk (w.alloc (.cells cs t)) g t cs := by subst hg; exact Blk.new w t cs
/-- the first mark appended to a row without room -/
theorem wpList_pushM0 {ops : Array Oper} {rest : List Oper} {o : Oper} {a : Act} {Q : Exit → Act → World → Prop} (w : World) (hgd : o.guard = none) (s x : Operand)
    (ho : o.op = .call { callee := .builtin .append, args := #[s, x], argTypes := #[29, 29] })
    (lo hi g0 : Nat) (hs : a.eval s = .slice (some ⟨g0, 0, none⟩) 0 0) (hlo : lo ≤ hi) (hhi : hi ≤ w.heap.size)
    (m : M) (p : SlV) (hi2 b : Nat) (hx : a.eval x = .slice (some ⟨b, 0, none⟩) 1 1) (h1 : I64 m.at_) (h2 : I64 m.cut) (hp : OwnS w hi hi2 p.a p.n p.c m.put)
    (c0 : w.cell? ⟨b, 0, none⟩ = some (.int .i64 m.at_)) (c1 : w.cell? ⟨b, 1, none⟩ = some (.int .i64 m.cut)) (c2 : w.cell? ⟨b, 2, none⟩ = some (.slice p.a p.n p.c))
    (h : ∀ A' c' w', OwnM w' lo w'.heap.size A' (0 + 1) c' ([] ++ [m]) → w.grownBy w' none → wpList Try.prog ops Q rest (a.put o.dst (.slice A' (0 + 1) c')) w') :
    wpList Try.prog ops Q (o :: rest) a w := by
  obtain ⟨i0, hi0, hz0, hz1, hz2⟩ := info_parts Try.infoMark
  refine wpList_plain hgd fun K hK => ?_
  have hnews : ∀ j u, ([.int .i64 m.at_, .int .i64 m.cut, .slice p.a p.n p.c] : List Value)[j]? = some u → w.cell? ((⟨b, 0, none⟩ : Addr).add j) = some u := by
    intro j u hu
    match j, hu with
    | 0, hu => simp at hu; subst hu; rw [add_none]; exact c0
    | 1, hu => simp at hu; subst hu; rw [add_none]; exact c1
    | 2, hu => simp at hu; subst hu; rw [add_none]; exact c2
    | j + 3, hu => simp at hu
  have hr := run_append_grow (P := Try.prog) w 29 o.type 58 i0 _ Try.underlying29 hi0 hz0 ⟨g0, 0, none⟩ 0 0 [] (by simp) (by simp) ⟨b, 0, none⟩ 1 1 [.int .i64 m.at_, .int .i64 m.cut, .slice p.a p.n p.c] (by rw [hz1]; rfl) hnews (by omega) (by omega) (growslice_fits (by omega) (by rw [hz2]; omega))
  have hge := grownCap_ge w (0 + 1) 0 58
  have hcm := grownCap_le_maxLen w (0 + 1) 0 58 (by unfold maxLen; omega)
  have hgr : w.grownBy (w.drew.alloc (.cells (([] : List Value).toArray ++ [Value.int .i64 m.at_, .int .i64 m.cut, .slice p.a p.n p.c].toArray ++ Builtin.zeroCells (Value.agg #[.int .i64 0, .int .i64 0, .slice none 0 0]).cells (grownCap w (0 + 1) 0 58 - (0 + 1))) 58)) none := ⟨rfl, rfl, rfl, by simp, fun k hk hne => (World.grownBy_alloc w.drew _ none).block k hk hne⟩
  have hrow : (w.drew.alloc (.cells (([] : List Value).toArray ++ [Value.int .i64 m.at_, .int .i64 m.cut, .slice p.a p.n p.c].toArray ++ Builtin.zeroCells (Value.agg #[.int .i64 0, .int .i64 0, .slice none 0 0]).cells (grownCap w (0 + 1) 0 58 - (0 + 1))) 58)).ownsRow lo 58 3 (.slice (some ⟨w.heap.size, 0, none⟩) (0 + 1) (grownCap w (0 + 1) 0 58)) (0 + 1) (flat [] [] ++ [.int .i64 m.at_, .int .i64 m.cut, .slice p.a p.n p.c]) := by
    refine ⟨rfl, .inr ⟨w.heap.size, _, _, rfl, by omega, heap_alloc_new w.drew _, hge, hcm, ?_, ?_⟩⟩
    · have hc3 : (Value.agg #[.int .i64 0, .int .i64 0, .slice none 0 0]).cells.size = 3 := rfl
      rw [Array.size_append, Array.size_append, size_zeroCells, hc3]
      simp only [List.size_toArray, List.length_nil, List.length_cons]
      omega
    · simp [flat]
  have hnil : OwnMp w lo hi none 0 0 [] [] := ⟨rfl, rfl, World.ownsRow_nil _ _ _ _, fun j m p hm => by simp at hm, fun i j p q a b _ hp => by simp at hp, hhi, fun _ e => by cases e⟩
  obtain ⟨A', c', e, ho'⟩ := hnil.snoc hrow hgr h1 h2 hp hlo
  unfold Oper.wp execOp
  simp only [ho, resolve, invoke, builtin, Sem.run_bind, Sem.run_pure, Result.andThen_ok, List.map_toArray, List.map_cons, List.map_nil, hs, hx, hr]
  rw [e]
  exact hK _ _ (h A' c' _ ho' hgr)
/-- the marks of both, if there is no clash and they can be done together -/
def bothF (ws : List ByteArray) (xs ys : List M) : Option (List M) := if (valid ws xs && valid ws ys && !clash xs ys && valid ws (Mk.merge xs ys)) = true then some (Mk.merge xs ys) else none
theorem bothF_no {ws : List ByteArray} {xs ys : List M} (h : (valid ws xs && valid ws ys && !clash xs ys && valid ws (Mk.merge xs ys)) = false) : bothF ws xs ys = none := by unfold bothF; rw [h]; rfl
theorem bothF_yes {ws : List ByteArray} {xs ys : List M} (h1 : valid ws xs = true) (h2 : valid ws ys = true) (h3 : clash xs ys = false) (h4 : valid ws (Mk.merge xs ys) = true) : bothF ws xs ys = some (Mk.merge xs ys) := by
  unfold bothF; rw [h1, h2, h3, h4]; rfl
theorem bothF_bound (ws : List ByteArray) (xs ys : List M) : ((bothF ws xs ys).getD []).length ≤ 20 ∧ totPut ((bothF ws xs ys).getD []) ≤ 400 := by
  unfold bothF
  split
  · rename_i h
    simp only [Bool.and_eq_true] at h
    exact valid_bound h.2
  · exact ⟨by simp, by simp [totPut]⟩
section
variable {ws : List ByteArray} {xs ys : List M}
theorem uniq_of (h1 : valid ws xs = true) (h2 : valid ws ys = true) : Mk.dd [] (xs ++ ys) = Mk.uniq xs ys := by
  obtain ⟨a1, p1, _⟩ := Mk.chk_asc wok _ xs _ (Mk.valid_parts wok h1).2.2.1
  obtain ⟨a2, p2, _⟩ := Mk.chk_asc wok _ ys _ (Mk.valid_parts wok h2).2.2.1
  exact Mk.dd_uniq (Mk.asc_distinct a1 p1) (Mk.asc_distinct a2 p2)
theorem sorted_of (h1 : valid ws xs = true) (h2 : valid ws ys = true) (hc : clash xs ys = false) {s : List M} (hp : s.Perm (Mk.uniq xs ys)) (hs : s.Pairwise fun a b => a.at_ ≤ b.at_) : s = Mk.merge xs ys := by
  obtain ⟨a1, p1, _⟩ := Mk.chk_asc wok _ xs _ (Mk.valid_parts wok h1).2.2.1
  obtain ⟨a2, p2, _⟩ := Mk.chk_asc wok _ ys _ (Mk.valid_parts wok h2).2.2.1
  have hd := Mk.uniq_distinct (Mk.asc_distinct a1 p1) (Mk.asc_distinct a2 p2)
  refine Mk.sorted_is_merge wok h1 h2 hc (fun m => by rw [hp.mem_iff, Mk.mem_uniq]) ?_ hs
  exact (hp.pairwise_iff (fun h => Ne.symm h)).2 hd
theorem uniq_small (h1 : valid ws xs = true) (h2 : valid ws ys = true) : ∀ m ∈ Mk.uniq xs ys, 0 ≤ m.at_ ∧ m.at_ ≤ 1000000 := fun m hm => by
  rcases (Mk.mem_uniq xs ys m).1 hm with h | h
  · have := small_of h1 m h; unfold Small at this; omega
  · have := small_of h2 m h; unfold Small at this; omega
theorem uniq_len (h1 : valid ws xs = true) (h2 : valid ws ys = true) (hc : clash xs ys = false) : (Mk.uniq xs ys).length ≤ 20 := by
  obtain ⟨es, e1, _⟩ := el_of (Mk.uniq xs ys) ((Mk.uniq xs ys).map fun _ => ⟨none, 0, 0⟩) (by simp) (uniq_small h1 h2)
  have hsz : es.toArray.size = (Mk.uniq xs ys).length := by rw [← e1]; simp
  obtain ⟨k1, k2⟩ := Go.Sort.insertionSort_holds swo_el es.toArray 0 es.toArray.size (Nat.zero_le _) (Nat.le_refl _)
  have hp := (permIn_whole k1).map (fun e => e.1.1)
  have e2 : (es.toArray.toList.map fun e => e.1.1) = Mk.uniq xs ys := e1
  rw [e2] at hp
  have := sorted_of h1 h2 hc hp (sortedIn_ms k1.1 k2)
  have hl := hp.length_eq
  rw [this] at hl
  have := Mk.both_count wok h1 h2 hc
  omega
end
set_option maxRecDepth 10000 in
set_option maxHeartbeats 4000000 in
theorem iboth_any (A B C : Option Addr) (n c m d l e0 : Nat) (ws : List ByteArray) (xs ys : List M) (w : World) (h : PutIn w A n c ws) (k : MrkIn w B m d xs) (q : MrkIn w C l e0 ys) :
    Calls Try.prog 33 #[.slice A n c, .slice B m d, .slice C l e0] w (MrkPost w (bothF ws xs ys)) := by
  have hm := Nat.le_trans k.2.1 k.2.2.1
  have hl := Nat.le_trans q.2.1 q.2.2.1
  cases hv1 : valid ws xs with
  | false =>
    have hr := Lib.hid (bothF_no (ws := ws) (xs := xs) (ys := ys) (by rw [hv1]; rfl))
    go_enter Try.func33, Try.ntmps33
    go_wp2_with fail
    refine (ivalid_is A B n c m d ws xs _ h k.1 hm hv1).mono ?_
    rintro e w1 ⟨rfl, b1⟩
    go_wp2_with fail
    go_ret2
    exact MrkPost.nil_ hr.out b1
  | true =>
    cases hv2 : valid ws ys with
    | false =>
      have hr := Lib.hid (bothF_no (ws := ws) (xs := xs) (ys := ys) (by rw [hv1, hv2]; rfl))
      have V1 := Lib.hid hv1
      have V2 := Lib.hid hv2
      clear hv1 hv2
      go_enter Try.func33, Try.ntmps33
      go_wp2_with fail
      refine (ivalid_is A B n c m d ws xs _ h k.1 hm V1.out).mono ?_
      rintro e w1 ⟨rfl, b1⟩
      have h := h.below b1
      have q := q.below b1
      go_wp2_with fail
      refine (ivalid_is A C n c l e0 ws ys _ h q.1 hl V2.out).mono ?_
      rintro e w2 ⟨rfl, b2⟩
      have b12 := Below.next b1 b2
      go_wp2_with fail
      go_ret2
      exact MrkPost.nil_ hr.out b12
    | true =>
      cases hcl : clash xs ys with
      | true =>
        have hr := Lib.hid (bothF_no (ws := ws) (xs := xs) (ys := ys) (by rw [hv1, hv2, hcl]; rfl))
        refine (iboth_clash A B C n c m d l e0 ws xs ys w h hm hl k.1 q.1 (by unfold clashI; rw [hv1, hv2, hcl]; rfl)).mono ?_
        rintro e w' ⟨rfl, hb⟩
        exact MrkPost.nil_ hr.out hb
      | false =>
        have V1 := Lib.hid hv1
        have V2 := Lib.hid hv2
        have HC := Lib.hid hcl
        have HCI := Lib.hid (show clashI ws xs ys = false by unfold clashI; rw [hv1, hv2, hcl]; rfl)
        have HD := Lib.hid (uniq_of hv1 hv2)
        have HL := Lib.hid (uniq_len hv1 hv2 hcl)
        have HS := Lib.hid (uniq_small hv1 hv2)
        have HXS := Lib.hid (small_of hv1)
        have HYS := Lib.hid (small_of hv2)
        have hm20 := (valid_bound hv1).1
        have hl20 := (valid_bound hv2).1
        rw [k.1.len] at hm20
        rw [q.1.len] at hl20
        clear hv1 hv2 hcl
        go_enter Try.func33, Try.ntmps33
        go_wp2_with fail
        refine (ivalid_is A B n c m d ws xs _ h k.1 hm V1.out).mono ?_
        rintro e w1 ⟨rfl, b1⟩
        have h1 := h.below b1
        have k1 := k.below b1
        have q1 := q.below b1
        go_wp2_with fail
        refine (ivalid_is A C n c l e0 ws ys _ h1 q1.1 hl V2.out).mono ?_
        rintro e w2 ⟨rfl, b2⟩
        have h2 := h1.below b2
        have k2 := k1.below b2
        have q2 := q1.below b2
        have b12 := Below.next b1 b2
        clear h1 k1 q1 b1 b2
        go_wp2_with fail
        refine (iclash_any A B C n c m d l e0 ws xs ys _ h2.max hm hl h2.1 k2.1 q2.1).mono ?_
        rw [HCI.out]
        rintro e w3 ⟨rfl, b3⟩
        have h3 := h2.below b3
        have k3 := k2.below b3
        have q3 := q2.below b3
        have b13 := Below.next b12 b3
        clear h2 k2 q2 b12 b3
        have E0 := own_emptyM w3 w.heap.size b13.size
        have bE : Below w3.heap.size w3 (w3.alloc (.cells #[] 58)) := (Below.refl _ _).alloc (Nat.le_refl _) _
        have bT := bE.alloc bE.size (.cells #[.slice B m d, .slice C l e0] 29)
        have xT := blk_newAt (w := w3.alloc (.cells #[] 58)) (g := w3.heap.size + 1) 29 #[.slice B m d, .slice C l e0] (by simp)
        go_wp2_with fail
        refine (concat79_any (w3.heap.size + 1) m d l e0 B C xs ys _ (xT.cell 0) (xT.cell 1) (by omega) (by omega) (k3.below bT) (q3.below bT)).mono ?_
        rintro e W ⟨Ac, cc9, rfl, hAll, bW⟩
        have E1 := (E0.alloc (.cells #[.slice B m d, .slice C l e0] 29)).below bW
        have bW3 := Below.next bT bW
        have bWw := Below.next b13 bW3
        generalize hg0 : w3.heap.size = g0 at *
        have hg1 : g0 < W.heap.size := by have := bW3.size; have := E1.top; omega
        have hw0 : w.heap.size ≤ g0 := by rw [← hg0]; exact b13.size
        have hall20 := Lib.hid hAll.len
        clear hg0 E0 bE bT xT bW bW3 b13 k3 q3 k q
        go_wp2_with fail
        go_loopg [8, 33] (m + l) (fun g1 bv iv wr => ∃ (j K c2 hi : Nat) (A2 : Option Addr) (acc : List M), j ≤ m + l ∧ m + l ≤ g1 + j ∧ K ≤ j ∧ iv = .int .i64 j ∧ bv = .slice A2 K c2 ∧ Hid (Mk.uniq xs ys = Mk.dd acc ((xs ++ ys).drop j)) ∧ Below W.heap.size W wr ∧ ((K = 0 ∧ c2 = 0 ∧ A2 = some ⟨g0, 0, none⟩ ∧ acc = []) ∨ (0 < K ∧ W.heap.size ≤ hi ∧ OwnM wr W.heap.size hi A2 K c2 acc)))
        case atStart => exact ⟨0, 0, 0, 0, _, [], Nat.zero_le _, by omega, Nat.le_refl _, rfl, rfl, Lib.hid (by rw [← HD.out]; rfl), Below.refl _ _, .inl ⟨rfl, rfl, rfl, rfl⟩⟩
        case round =>
          obtain ⟨j, K, c2, hi, A2, acc, hj, hg1', hK, rfl, rfl, hU, hbel, hrow⟩ := hrel
          by_cases hlt : j < m + l
          · obtain ⟨b, off, x, rfl, hx, x1, x2, d0, d1, B', n', cc, d2, hp⟩ := (hAll.below hbel).at_ hlt
            have hSm : Small x := by
              rcases List.mem_append.1 (mem_at hx) with e | e
              · exact HXS.out x e
              · exact HYS.out x e
            obtain ⟨s1, s2, s3, s4, s5⟩ := hSm
            have hpl := hp.len
            have hn2 : n' ≤ 20 := by omega
            have hpm := hp.max
            have hsome : n' ≠ 0 ∨ x.put = [] := by
              by_cases e : n' = 0
              · exact .inr (List.eq_nil_of_length_eq_zero (by omega))
              · exact .inl e
            have HSOME := Lib.hid hsome
            have hgo := Lib.hid (Mk.dd_go hx hU.out)
            have I1 := Lib.hid x1
            have I2 := Lib.hid x2
            have HXB := Lib.hid (Blk.new wr 58 #[.int .i64 x.at_, .int .i64 x.cut, .slice B' n' cc])
            have bA : Below wr.heap.size wr (wr.alloc (.cells #[.int .i64 x.at_, .int .i64 x.cut, .slice B' n' cc] 58)) := (Below.refl _ _).alloc (Nat.le_refl _) _
            have hpA := hp.below bA
            have HPr := Lib.hid hp
            have u1 : IntKind.i64.wrap ((j : Int) + 1) = (j : Int) + 1 := IntWalk.i64_in _ (by omega)
            have j1 : (0 : Int) ≤ (j : Int) := by omega
            have j2 : (j : Int) < ((m + l : Nat) : Int) := by omega
            have hcap := hbel.size
            clear hx hpl hsome x1 x2 s1 s2 s3 s4 s5 hU hp
            rcases hrow with ⟨rfl, rfl, rfl, rfl⟩ | ⟨k0, hh, ho⟩
            · go_wp2_with fail
              refine (contains81_any (some ⟨g0, 0, none⟩) 0 0 [] x B' n' cc _ (by omega) hpm hpA.1 Mrks.nil).mono ?_
              rw [show ([] : List M).any (fun y => Mk.sameM x y) = false from rfl]
              rintro e w1 ⟨rfl, b1⟩
              have y1 := HXB.out.below b1 HXB.out.lt
              have z0 := y1.cell 0
              have z1 := y1.cell 1
              have z2 := y1.cell 2
              simp at z0 z1 z2
              have hgo2 : Hid (Mk.uniq xs ys = Mk.dd ([] ++ [x]) ((xs ++ ys).drop (j + 1))) := Lib.hid (by have := hgo.out; rw [if_neg (by simp)] at this; exact this)
              clear hgo
              go_wp2_with fail
              refine (change_any x B' n' cc _ (by omega)).mono ?_
              rintro e w2 ⟨rfl, hw2⟩
              have b2 : Below w1.heap.size w1 w2 := by subst hw2; exact (Below.refl _ _).alloc (Nat.le_refl _) _
              have bq := Below.next (Below.next bA b1) b2
              have hP2 := Lib.hid (HPr.out.below bq)
              have l2 := bq.size
              clear hw2 b1 b2 y1 z0 z1 z2 HXB hpA
              go_wp2_with (first
                | (refine wpList_mark _ rfl (.tmp 44) rfl x B' n' cc rfl (by omega) hP2.out HSOME.out ?_; intro A4 n4 c4 w4 o4 b4; have B4 := Lib.hid (Below.next bq b4); have l4 := b4.size)
                | (at_builtin; go_must (refine wpList_pushM0 _ rfl (.tmp 42) (.tmp 46) rfl W.heap.size w2.heap.size g0 rfl (by omega) (by simp; omega) x ⟨A4, n4, c4⟩ w4.heap.size w4.heap.size rfl I1.out I2.out (o4.alloc (.cells #[.int .i64 x.at_, .int .i64 x.cut, .slice A4 n4 c4] 58)) ((Blk.new w4 58 #[.int .i64 x.at_, .int .i64 x.cut, .slice A4 n4 c4]).cell 0) ((Blk.new w4 58 #[.int .i64 x.at_, .int .i64 x.cut, .slice A4 n4 c4]).cell 1) ((Blk.new w4 58 #[.int .i64 x.at_, .int .i64 x.cut, .slice A4 n4 c4]).cell 2) ?_); intro A5 c5 w5 o5 g5; have O5 := Lib.hid o5; have B5 := Lib.hid (below_cat (A := none) ((hbel.trans (B4.out.mono hcap)).alloc (by omega) (.cells #[.int .i64 x.at_, .int .i64 x.cut, .slice A4 n4 c4] 58)) g5 (fun a ha => by cases ha)); clear o5 g5))
              go_roundg (gk - 1)
              case measure => omega
              case rel => exact ⟨j + 1, 0 + 1, c5, w5.heap.size, A5, [] ++ [x], by omega, by omega, by omega, by go_num, rfl, hgo2, B5.out, .inr ⟨by omega, by have := B5.out.size; omega, O5.out⟩⟩
            · have hMA := (ho.alloc (.cells #[.int .i64 x.at_, .int .i64 x.cut, .slice B' n' cc] 58)).ints
              have HO := Lib.hid ho
              have htop := ho.top
              cases hany : acc.any (fun y => Mk.sameM x y) with
              | true =>
                have hgo2 : Hid (Mk.uniq xs ys = Mk.dd acc ((xs ++ ys).drop (j + 1))) := Lib.hid (by have := hgo.out; rw [if_pos hany] at this; exact this)
                go_wp2_with fail
                refine (contains81_any A2 K c2 acc x B' n' cc _ (by omega) hpm hpA.1 hMA).mono ?_
                rw [hany]
                clear hany hgo ho hMA
                rintro e w1 ⟨rfl, b1⟩
                have y1 := HXB.out.below b1 HXB.out.lt
                have z0 := y1.cell 0
                have z1 := y1.cell 1
                have z2 := y1.cell 2
                simp at z0 z1 z2
                have bq := Below.next bA b1
                have O5 := Lib.hid (HO.out.below bq)
                have B5 := Lib.hid (hbel.trans (bq.mono hcap))
                clear b1 y1 z0 z1 z2
                go_wp2_with fail
                go_roundg (gk - 1)
                case measure => omega
                case rel => exact ⟨j + 1, K, c2, hi, A2, acc, by omega, by omega, by omega, by go_num, rfl, hgo2, B5.out, .inr ⟨k0, hh, O5.out⟩⟩
              | false =>
                have hgo2 : Hid (Mk.uniq xs ys = Mk.dd (acc ++ [x]) ((xs ++ ys).drop (j + 1))) := Lib.hid (by have := hgo.out; rw [if_neg (by rw [hany]; simp)] at this; exact this)
                go_wp2_with fail
                refine (contains81_any A2 K c2 acc x B' n' cc _ (by omega) hpm hpA.1 hMA).mono ?_
                rw [hany]
                clear hany hgo ho hMA
                rintro e w1 ⟨rfl, b1⟩
                have y1 := HXB.out.below b1 HXB.out.lt
                have z0 := y1.cell 0
                have z1 := y1.cell 1
                have z2 := y1.cell 2
                simp at z0 z1 z2
                go_wp2_with fail
                refine (change_any x B' n' cc _ (by omega)).mono ?_
                rintro e w2 ⟨rfl, hw2⟩
                have b2 : Below w1.heap.size w1 w2 := by subst hw2; exact (Below.refl _ _).alloc (Nat.le_refl _) _
                have bq := Below.next (Below.next bA b1) b2
                have hP2 := Lib.hid (HPr.out.below bq)
                have l2 := bq.size
                clear hw2 b1 b2 y1 z0 z1 z2 HXB hpA
                go_wp2_with (first
                  | (refine wpList_mark _ rfl (.tmp 44) rfl x B' n' cc rfl (by omega) hP2.out HSOME.out ?_; intro A4 n4 c4 w4 o4 b4; have B4 := Lib.hid (Below.next bq b4); have l4 := b4.size)
                  | (at_builtin; go_must (refine wpList_pushM _ rfl (.tmp 42) (.tmp 46) rfl W.heap.size hi A2 K c2 acc rfl ((HO.out.below B4.out).alloc (.cells #[.int .i64 x.at_, .int .i64 x.cut, .slice A4 n4 c4] 58)) x ⟨A4, n4, c4⟩ w4.heap.size w4.heap.size rfl I1.out I2.out ((o4.alloc (.cells #[.int .i64 x.at_, .int .i64 x.cut, .slice A4 n4 c4] 58)).wide (by omega) (Nat.le_refl _) (by simp)) ((Blk.new w4 58 #[.int .i64 x.at_, .int .i64 x.cut, .slice A4 n4 c4]).cell 0) ((Blk.new w4 58 #[.int .i64 x.at_, .int .i64 x.cut, .slice A4 n4 c4]).cell 1) ((Blk.new w4 58 #[.int .i64 x.at_, .int .i64 x.cut, .slice A4 n4 c4]).cell 2) (by omega) hh ?_); intro A5 c5 w5 o5 g5; have O5 := Lib.hid o5; have B5 := Lib.hid (below_cat ((hbel.trans (B4.out.mono hcap)).alloc (by omega) (.cells #[.int .i64 x.at_, .int .i64 x.cut, .slice A4 n4 c4] 58)) g5 (fun a ha => (HO.out.lo_le a ha).1)); clear o5 g5))
                go_roundg (gk - 1)
                case measure => omega
                case rel => exact ⟨j + 1, K + 1, c5, w5.heap.size, A5, acc ++ [x], by omega, by omega, by omega, by go_num, rfl, hgo2, B5.out, .inr ⟨by omega, by have := B5.out.size; omega, O5.out⟩⟩
          · obtain rfl : j = m + l := by omega
            have hacc := Mk.dd_end (by rw [hall20.out]; exact Nat.le_refl _) hU.out
            obtain ⟨hi9, hO9, hA9⟩ : ∃ hi9, OwnM wr w.heap.size hi9 A2 K c2 acc ∧ A2 ≠ none := by
              rcases hrow with ⟨rfl, rfl, rfl, rfl⟩ | ⟨k0, hh, ho⟩
              · exact ⟨_, E1.below hbel, by simp⟩
              · refine ⟨_, ho.wide (by omega) (Nat.le_refl _) ho.top, fun e => ?_⟩
                have := ho.cap_le
                rcases ho.root with ⟨_, e2⟩ | ⟨g, e2⟩
                · omega
                · rw [e] at e2; cases e2
            rw [← hacc] at hO9
            have HO9 := Lib.hid hO9
            have hK20 : K ≤ 20 := by rw [← hO9.len]; exact HL.out
            have bw := bWw.trans (hbel.mono bWw.size)
            clear hrow hU hAll h3 hacc hO9 E1
            go_wp2_with fail
            refine (sort_marks w.heap.size hi9 K c2 A2 _ _ HO9.out hK20 hA9 HS.out).mono ?_
            rintro e w9 ⟨rfl, s, o9, hp9, hs9, g9⟩
            have hsm := sorted_of V1.out V2.out HC.out hp9 hs9
            subst hsm
            have b9 := below_cat bw g9 (fun a ha => (HO9.out.lo_le a ha).1)
            have h9 := h.below b9
            have O9 := Lib.hid o9
            clear hp9 hs9 g9 HO9
            go_wp2_with fail
            cases hv3 : valid ws (Mk.merge xs ys) with
            | false =>
              have hr := Lib.hid (bothF_no (ws := ws) (xs := xs) (ys := ys) (by rw [V1.out, V2.out, HC.out, hv3]; rfl))
              refine (ivalid_is A A2 n c K c2 ws _ _ h9 O9.out.ints (by omega) hv3).mono ?_
              rintro e w8 ⟨rfl, b8⟩
              have bb := Below.next b9 b8
              clear hv3
              go_wp2_with fail
              go_ret2
              exact MrkPost.nil_ hr.out bb
            | true =>
              have hr := Lib.hid (bothF_yes V1.out V2.out HC.out hv3)
              refine (ivalid_is A A2 n c K c2 ws _ _ h9 O9.out.ints (by omega) hv3).mono ?_
              rintro e w8 ⟨rfl, b8⟩
              have bb := Below.next b9 b8
              have O8 := Lib.hid (O9.out.below b8)
              clear hv3 b8
              go_wp2_with fail
              go_ret2
              exact MrkPost.some_ hr.out (O8.out.wide (Nat.le_refl _) O8.out.top (Nat.le_refl _)) bb
end Go.Proofs.Ytjhlcgjhdiheaaa
