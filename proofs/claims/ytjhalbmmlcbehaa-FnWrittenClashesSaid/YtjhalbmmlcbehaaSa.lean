/- A sign added to a system, by the reference. -/
import Derived.Test.YtjhalbmmlcbehaaAr
import Derived.Test.YtjhalbmmlcbehaaDw
import Derived.Deep.RegionLaw
namespace Go.Proofs.Ytjhalbmmlcbehaa
open Go.RowKit Wr
set_option linter.unusedVariables false
set_option linter.unusedSimpArgs false

theorem own_valueR {α : Type} {enc : α → List Value} {k : Nat} {t : TypeId} {w : World} {lo n : Nat} {v : Value} {xs : List α} (h : w.ownsRow lo t k v n (xs.flatMap enc)) (hl : xs.length = n) : ∃ A c, v = .slice A n c ∧ OwnR enc k t w lo w.heap.size A n c xs := by
  have hv : ∃ A c, v = .slice A n c := by
    rcases h.2 with ⟨rfl, rfl⟩ | ⟨g, cap, cur, rfl, _⟩
    · exact ⟨none, 0, rfl⟩
    · exact ⟨_, cap, rfl⟩
  obtain ⟨A, c, rfl⟩ := hv
  exact ⟨A, c, rfl, h, hl, Nat.le_refl _, fun a ha => (h.lt a.block (by subst ha; rfl)).2⟩
/-- a row of signs appended to a row of the call's own, as a step of a region that draws its order -/
theorem step_catG {ops : Array Oper} {o : Oper} {a : Act} {K : Act → World → Prop} {Q : Exit → Act → World → Prop} {E : Prop} {w : World} (hgd : o.guard = none) (s x : Operand)
    (ho : o.op = .call { callee := .builtin .append, args := #[s, x], argTypes := #[23, 23] })
    (lo hi : Nat) (A : Option Addr) (n c : Nat) (xs : List Sgn) (hs : a.eval s = .slice A n c) (hown : OwnG w lo hi A n c xs)
    (g m d : Nat) (ys : List Sgn) (hx : a.eval x = .slice (some ⟨g, 0, none⟩) m d) (hy : Sgns w (some ⟨g, 0, none⟩) m ys) (hn : n + m ≤ 1000) (hlo : lo ≤ w.heap.size)
    (h : ∀ A' c' w', OwnG w' lo w'.heap.size A' (n + m) c' (xs ++ ys) → w.grownBy w' (A.map (·.block)) → K (a.put o.dst (.slice A' (n + m) c')) w') :
    if Region.wanted o (yielded ops a.tmps) = true then Oper.wp Try.prog o a w K Q else E := by
  have hw : Region.wanted o (yielded ops a.tmps) = true := by simp [Region.wanted, hgd]
  rw [if_pos hw]
  obtain ⟨i0, hi0, hz0, hz1, hz2⟩ := info_parts info89
  refine wp_append_own w s x 23 ho lo 89 i0 (.agg #[.string ⟨#[]⟩, .int .i64 0, .int .i64 0]) 3 32 Try.underlying23 hi0 hz0 hz1 hz2 rfl (by omega) (.slice A n c) n (xs.flatMap encG) hs hown.1
    ⟨g, 0, none⟩ m d (ys.flatMap encG) hx (by rw [flat_size encG_len, hy.1]) ?_ ?_ (by unfold maxLen; omega) (by omega) hlo ?_
  · intro j u hu
    have hj : j < (ys.flatMap encG).length := (List.getElem?_eq_some_iff.1 hu).1
    rw [flat_size encG_len, hy.1] at hj
    obtain ⟨b, off, e, _, hc⟩ := hy.2 (by omega)
    obtain rfl : g = b := congrArg Addr.block (Option.some.inj e)
    obtain rfl : 0 = off := congrArg Addr.off (Option.some.inj e)
    have hq : j / 3 < ys.length := by rw [hy.1]; omega
    have hx3 := List.getElem?_eq_getElem (l := ys) hq
    have h1 := hc (j / 3) _ hx3 (j % 3) u (by
      have h2 := flat_at encG_len ys (j / 3) (j % 3) _ (by omega) hx3
      rw [show j / 3 * 3 + j % 3 = j by omega] at h2
      rw [← h2]; exact hu)
    rw [add_none]
    rwa [Nat.zero_add, show j / 3 * 3 + j % 3 = j by omega] at h1
  · intro u hu
    obtain ⟨y, _, hy2⟩ := List.mem_flatMap.1 hu
    exact encG_one y u hy2
  · intro v' w' hown' hg _
    rw [← List.flatMap_append] at hown'
    obtain ⟨A', c', rfl, ho'⟩ := own_valueR hown' (by rw [List.length_append, hown.len, hy.1])
    rw [ownBlock_slice] at hg
    exact h A' c' w' ho' hg
/-- a sign appended, as a step of a region that draws its order -/
theorem step_pushG {ops : Array Oper} {o : Oper} {a : Act} {K : Act → World → Prop} {Q : Exit → Act → World → Prop} {E : Prop} {w : World} (hgd : o.guard = none) (s x : Operand)
    (ho : o.op = .call { callee := .builtin .append, args := #[s, x], argTypes := #[23, 23] })
    (lo hi : Nat) (A : Option Addr) (n c : Nat) (xs : List Sgn) (hs : a.eval s = .slice A n c) (hown : OwnG w lo hi A n c xs)
    (b : Nat) (y : Sgn) (hx : a.eval x = .slice (some ⟨b, 0, none⟩) 1 1) (hb : Blk w b 89 (gv y)) (hn : n ≤ 900) (hlo : lo ≤ w.heap.size)
    (h : ∀ A' c' w', OwnG w' lo w'.heap.size A' (n + 1) c' (xs ++ [y]) → w.grownBy w' (A.map (·.block)) → K (a.put o.dst (.slice A' (n + 1) c')) w') :
    if Region.wanted o (yielded ops a.tmps) = true then Oper.wp Try.prog o a w K Q else E := by
  refine step_catG hgd s x ho lo hi A n c xs hs hown b 1 1 [y] hx ⟨rfl, fun _ => ⟨b, 0, rfl, hb.lt, fun j x' hj c' v hv => ?_⟩⟩ (by omega) hlo h
  have hj0 : j = 0 := by
    have := (List.getElem?_eq_some_iff.1 hj).1
    simpa using this
  subst hj0
  simp at hj
  subst hj
  rw [hb.cell]
  simpa [encG] using hv
/-- what SystemAdd hands back -/
def SaPost (w : World) (ss : List Sgn) (x : Sgn) (e : Ending) (w' : World) : Prop :=
  ∃ A n c b, e = .returned (.tuple #[.slice A n c, .bool b]) ∧ (b = true → n = ss.length + 1 ∧ n ≤ 21 ∧ OwnG w' w.heap.size w'.heap.size A n c (ss ++ [x])) ∧ Below w.heap.size w w'
set_option maxRecDepth 8000 in
set_option maxHeartbeats 8000000 in
theorem sadd_any (g n c : Nat) (ss : List Sgn) (x : Sgn) (w : World) (h : Sgns w (some ⟨g, 0, none⟩) n ss) (hok : ∀ y ∈ ss, OkG y) (hx : OkG x) (hn : n ≤ 100) :
    Calls Try.prog 68 #[.slice (some ⟨g, 0, none⟩) n c, .agg (gv x)] w (SaPost w ss x) := by
  have hlen := Lib.hid h.len
  have hok2 : Hid (∀ y ∈ ss ++ [x], OkG y) := Lib.hid (fun y hy => by
    rcases List.mem_append.1 hy with h1 | h1
    · exact hok y h1
    · rw [List.mem_singleton] at h1; subst h1; exact hx)
  have b0 : Below w.heap.size w (w.alloc (.cells (gv x) 89)) := (Below.refl _ _).alloc (Nat.le_refl _) _
  have y0 := Blk.new w 89 (gv x)
  have h0 := h.below b0
  have hwl : w.heap.size < (w.alloc (.cells (gv x) 89)).heap.size := by simp
  clear hx
  go_enter Try.func68, Try.ntmps68
  go_wp2_with fail
  generalize hW : w.alloc (.cells (gv x) 89) = W at *
  have HB0 := Lib.hid b0
  have HY := Lib.hid y0
  have HS := Lib.hid h0
  have HWl := Lib.hid hwl
  have c0 := y0.cell 0
  have c1 := y0.cell 1
  have c2 := y0.cell 2
  -- the empty row and the sign's block, in either order
  have bE : Below W.heap.size W (W.alloc (.cells #[] 89)) := (Below.refl _ _).alloc (Nat.le_refl _) _
  have bG : Below W.heap.size W (W.alloc (.cells (gv x) 89)) := (Below.refl _ _).alloc (Nat.le_refl _) _
  have E1 := Lib.hid (own_emptyR (enc := encG) (k := 3) (t := 89) W W.heap.size (Nat.le_refl _))
  have E2 := Lib.hid (E1.out.alloc (.cells (gv x) 89))
  have e3 := own_emptyR (enc := encG) (k := 3) (t := 89) (W.alloc (.cells (gv x) 89)) W.heap.size (by simp)
  simp only [World.size_alloc] at e3
  have E3 := Lib.hid e3
  clear e3
  have S1 := Lib.hid (HS.out.below bE)
  have S2 := Lib.hid ((HS.out.below bE).below ((Below.refl _ _).alloc (Nat.le_refl _) (.cells (gv x) 89)))
  have S3 := Lib.hid ((HS.out.below bG).below ((Below.refl _ _).alloc (Nat.le_refl _) (.cells #[] 89)))
  have v2 := Blk.new (W.alloc (.cells #[] 89)) 89 (gv x)
  simp only [World.size_alloc] at v2
  have V2 := Lib.hid v2
  clear v2
  have V3 := Lib.hid ((Blk.new W 89 (gv x)).alloc (.cells #[] 89))
  clear b0 y0 h0 bE bG hW
  have bE' := Lib.hid (Below.alloc (Below.refl W.heap.size W) (Nat.le_refl _) (.cells #[] 89))
  have bE2 := Lib.hid (bE'.out.alloc bE'.out.size (.cells (gv x) 89))
  have bG' := Lib.hid (Below.alloc (Below.refl W.heap.size W) (Nat.le_refl _) (.cells (gv x) 89))
  have bE3 := Lib.hid (bG'.out.alloc bG'.out.size (.cells #[] 89))
  go_region_law (first
    | (refine step_catG rfl (.tmp 7) (.tmp 8) rfl W.heap.size (W.heap.size + 1) (some ⟨W.heap.size, 0, none⟩) 0 0 [] rfl E1.out g n c ss rfl S1.out (by omega) bE'.out.size ?_
       intro A4 c4 w4 o4 g4
       have g5 : (W.alloc (.cells #[] 89)).grownBy w4 (some W.heap.size) := ⟨g4.os, g4.tape, g4.output, g4.size, g4.block⟩
       have BF4 : Below W.heap.size W w4 := below_only bE'.out g5 (fun q e => by injection e with e; omega)
       have Y4 := HY.out.below BF4 HY.out.lt
       have d0 := Y4.cell 0
       have d1 := Y4.cell 1
       have d2 := Y4.cell 2
       have dl := Y4.lt
       rw [List.nil_append, Nat.zero_add] at o4
       clear g4 g5 Y4)
    | (refine step_catG rfl (.tmp 7) (.tmp 8) rfl W.heap.size (W.heap.size + 1) (some ⟨W.heap.size, 0, none⟩) 0 0 [] rfl E2.out g n c ss rfl S2.out (by omega) bE2.out.size ?_
       intro A4 c4 w4 o4 g4
       have g5 : ((W.alloc (.cells #[] 89)).alloc (.cells (gv x) 89)).grownBy w4 (some W.heap.size) := ⟨g4.os, g4.tape, g4.output, g4.size, g4.block⟩
       have BF4 : Below W.heap.size W w4 := below_only bE2.out g5 (fun q e => by injection e with e; omega)
       have V4 := V2.out.grown g5 (by simp)
       have Y4 := HY.out.below BF4 HY.out.lt
       have d0 := Y4.cell 0
       have d1 := Y4.cell 1
       have d2 := Y4.cell 2
       have dl := Y4.lt
       rw [List.nil_append, Nat.zero_add] at o4
       clear g4 g5 Y4)
    | (refine step_catG rfl (.tmp 7) (.tmp 8) rfl W.heap.size (W.heap.size + 1 + 1) (some ⟨W.heap.size + 1, 0, none⟩) 0 0 [] rfl E3.out g n c ss rfl S3.out (by omega) bE3.out.size ?_
       intro A4 c4 w4 o4 g4
       have g5 : ((W.alloc (.cells (gv x) 89)).alloc (.cells #[] 89)).grownBy w4 (some (W.heap.size + 1)) := ⟨g4.os, g4.tape, g4.output, g4.size, g4.block⟩
       have BF4 : Below W.heap.size W w4 := below_only bE3.out g5 (fun q e => by injection e with e; omega)
       have V4 := V3.out.grown g5 (by simp)
       have Y4 := HY.out.below BF4 HY.out.lt
       have d0 := Y4.cell 0
       have d1 := Y4.cell 1
       have d2 := Y4.cell 2
       have dl := Y4.lt
       rw [List.nil_append, Nat.zero_add] at o4
       clear g4 g5 Y4)
    | (refine step_pushG rfl (.tmp 9) (.tmp 11) rfl W.heap.size w4.heap.size A4 n c4 ss rfl (o4.alloc (.cells (gv x) 89)) w4.heap.size x rfl (Blk.new w4 89 (gv x)) (by omega) (BF4.alloc BF4.size (.cells (gv x) 89)).size ?_
       intro A5 c5 w5 o5 g5
       have g6 : (w4.alloc (.cells (gv x) 89)).grownBy w5 (A4.map (·.block)) := ⟨g5.os, g5.tape, g5.output, g5.size, g5.block⟩
       have BF5 := Lib.hid (below_cat (BF4.alloc BF4.size (.cells (gv x) 89)) g6 (fun a ha => (o4.lo_le a ha).1))
       have O5 := Lib.hid o5
       clear g5 g6 o5)
    | (refine step_pushG rfl (.tmp 9) (.tmp 11) rfl W.heap.size w4.heap.size A4 n c4 ss rfl o4 (W.heap.size + 1) x rfl V4 (by omega) BF4.size ?_
       intro A5 c5 w5 o5 g5
       have g6 : w4.grownBy w5 (A4.map (·.block)) := ⟨g5.os, g5.tape, g5.output, g5.size, g5.block⟩
       have BF5 := Lib.hid (below_cat BF4 g6 (fun a ha => (o4.lo_le a ha).1))
       have O5 := Lib.hid o5
       clear g5 g6 o5)
    | (refine step_pushG rfl (.tmp 9) (.tmp 11) rfl W.heap.size w4.heap.size A4 n c4 ss rfl o4 W.heap.size x rfl V4 (by omega) BF4.size ?_
       intro A5 c5 w5 o5 g5
       have g6 : w4.grownBy w5 (A4.map (·.block)) := ⟨g5.os, g5.tape, g5.output, g5.size, g5.block⟩
       have BF5 := Lib.hid (below_cat BF4 g6 (fun a ha => (o4.lo_le a ha).1))
       have O5 := Lib.hid o5
       clear g5 g6 o5))
  all_goals
    have HB6 := Lib.hid (HB0.out.trans (BF5.out.mono HB0.out.size))
    have O6 := Lib.hid (O5.out.wide HB0.out.size (Nat.le_refl _) (Nat.le_refl _))
    clear d0 d1 d2 dl BF5 O5 o4 BF4 c0 c1 c2
    go_wp2_with fail
    refine (ssys_any A5 (n + 1) c5 (ss ++ [x]) _ (OwnR.reads encG_len O6.out) hok2.out (by omega)).mono ?_
    rintro e w6 ⟨rfl, hb⟩
    have HB7 := Lib.hid (HB6.out.trans (hb.mono HB6.out.size))
    have O7 := Lib.hid ((O6.out.below hb).wide (Nat.le_refl _) hb.size (Nat.le_refl _))
    clear hb
    cases hq : sysOk (ss ++ [x]) with
    | false =>
      clear hq
      go_wp2_with fail
      go_ret2
      exact ⟨_, _, _, _, rfl, (fun e => by cases e), HB7.out.alloc HB7.out.size _⟩
    | true =>
      have hn21 : n + 1 ≤ 21 := by
        unfold sysOk at hq
        simp only [Bool.and_eq_true, decide_eq_true_eq] at hq
        have h1 := hq.1
        rw [List.length_append, hlen.out] at h1
        exact h1
      clear hq
      go_wp2_with fail
      go_ret2
      exact ⟨_, _, _, _, rfl, (fun _ => ⟨by rw [hlen.out], hn21, O7.out⟩), HB7.out⟩
end Go.Proofs.Ytjhalbmmlcbehaa
