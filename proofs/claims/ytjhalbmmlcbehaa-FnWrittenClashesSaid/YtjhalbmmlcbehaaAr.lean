/- Lists of signs that are measured, copied, compared. -/
import Derived.Test.YtjhalbmmlcbehaaQb
namespace Go.Proofs.Ytjhalbmmlcbehaa
open Go.RowKit Wr
set_option linter.unusedVariables false
set_option linter.unusedSimpArgs false

theorem encG_len (x : Sgn) : (encG x).length = 3 := rfl
theorem encG_one (x : Sgn) : ∀ u ∈ encG x, u.oneCell' = true := by
  intro u hu
  simp [encG] at hu
  rcases hu with rfl | rfl | rfl <;> rfl
theorem info89 : (Try.prog.info? 89).map (fun i => (i.zero, i.size, i.bytes)) = some (some (.agg #[.string ⟨#[]⟩, .int .i64 0, .int .i64 0]), 3, 32) := by kernel_rfl
def sgn0 : Sgn := ⟨⟨#[]⟩, ⟨0, 0⟩⟩
theorem flat_rep : ∀ n, (List.replicate n sgn0).flatMap encG = (List.range (n * 3)).map fun i => (#[Value.string ⟨#[]⟩, .int .i64 0, .int .i64 0] : Array Value).getD (i % 3) undef
  | 0 => rfl
  | n + 1 => by
    rw [List.replicate_succ', List.flatMap_append, flat_rep n, Nat.succ_mul, List.range_add, List.map_append, List.map_map]
    congr 1
    simp [encG, sgn0, List.range_succ]
theorem own_madeG (w1 : World) (lo n : Nat) (hm : w1.ownsRow lo 89 3 (.slice (some ⟨lo, 0, none⟩) n n) n (madeCells (Value.agg #[.string ⟨#[]⟩, .int .i64 0, .int .i64 0]).cells (n * 3)).toList) :
    OwnG w1 lo (lo + 1) (some ⟨lo, 0, none⟩) n n (List.replicate n sgn0) := by
  have h1 := hm.lt lo rfl
  refine ⟨?_, by simp, by omega, fun a ha => by injection ha with ha; subst ha; exact Nat.lt_succ_self _⟩
  have : (madeCells (Value.agg #[.string ⟨#[]⟩, .int .i64 0, .int .i64 0]).cells (n * 3)).toList = (List.replicate n sgn0).flatMap encG := by
    show (madeCells #[.string ⟨#[]⟩, .int .i64 0, .int .i64 0] (n * 3)).toList = _
    apply List.ext_getElem?
    intro t
    rw [flat_rep]
    by_cases ht : t < n * 3
    · have h3 : t % 3 = 0 ∨ t % 3 = 1 ∨ t % 3 = 2 := by omega
      rcases h3 with h3 | h3 | h3 <;> simp [madeCells, ht, h3]
    · rw [List.getElem?_eq_none (by simp [madeCells]; omega), List.getElem?_eq_none (by simp; omega)]
  rwa [this] at hm
theorem flat_set3 (x : Sgn) : ∀ (xs : List Sgn) (k : Nat), k < xs.length → (((xs.flatMap encG).set (k * 3) (.string x.letter)).set (k * 3 + 1) (.int .i64 x.stk.dir)).set (k * 3 + 2) (.int .i64 x.stk.size) = (xs.set k x).flatMap encG
  | [], k, h => by simp at h
  | y :: ys, 0, h => by simp [encG]
  | y :: ys, k + 1, h => by
    have ih := flat_set3 x ys k (by simpa using h)
    rw [List.set_cons_succ, List.flatMap_cons, List.flatMap_cons, ← ih, Nat.succ_mul]
    simp [encG]
theorem OwnG.store {w : World} {lo hi g n c k : Nat} {xs : List Sgn} {x : Sgn} (h : OwnG w lo hi (some ⟨g, 0, none⟩) n c xs) (hk : k < n) :
    OwnG (((w.setCell ⟨g, k * 3, none⟩ (.string x.letter)).setCell ⟨g, k * 3 + 1, none⟩ (.int .i64 x.stk.dir)).setCell ⟨g, k * 3 + 2, none⟩ (.int .i64 x.stk.size)) lo hi (some ⟨g, 0, none⟩) n c (xs.set k x) := by
  have hl := h.len
  refine ⟨?_, by rw [List.length_set]; exact hl, by simpa [World.setCell] using h.2.2.1, h.2.2.2⟩
  rw [← flat_set3 x xs k (by omega)]
  exact ((((h.1.stored (k * 3) (.string x.letter)).1).stored (k * 3 + 1) (.int .i64 x.stk.dir)).1.stored (k * 3 + 2) (.int .i64 x.stk.size)).1
theorem OwnG.at3 {w : World} {lo hi g n c k : Nat} {xs : List Sgn} (h : OwnG w lo hi (some ⟨g, 0, none⟩) n c xs) (hk : k < n) :
    ∃ x : Sgn, xs[k]? = some x ∧ w.cell? ⟨g, k * 3, none⟩ = some (.string x.letter) ∧ w.cell? ⟨g, k * 3 + 1, none⟩ = some (.int .i64 x.stk.dir) ∧ w.cell? ⟨g, k * 3 + 2, none⟩ = some (.int .i64 x.stk.size) ∧ ∀ j, w.frozen? ⟨g, j, none⟩ = false := by
  obtain ⟨b, off, x, e, hx, c0, c1, c2⟩ := Sgns.at3 (OwnR.reads encG_len h) hk
  injection e with e
  injection e with e1 e2
  subst e1 e2
  rw [Nat.zero_add] at c0 c1 c2
  exact ⟨x, hx, c0, c1, c2, fun j => h.1.frozenAt j⟩
theorem load3 {W : World} {b o : Nat} {v0 v1 v2 : Value} (h0 : W.cell? ⟨b, o, none⟩ = some v0) (h1 : W.cell? ⟨b, o + 1, none⟩ = some v1) (h2 : W.cell? ⟨b, o + 2, none⟩ = some v2) :
    Sem.run Try.prog (loadCellsFrom ⟨b, o, none⟩ 0 3 #[]) W = .ok #[v0, v1, v2] W := by
  refine run_loadCellsFrom_list Try.prog _ _ [v0, v1, v2] 3 rfl (fun i v hi => ?_)
  rw [Addr.add_lit]
  match i, hi with
  | 0, hi => simp at hi; subst hi; exact h0
  | 1, hi => simp at hi; subst hi; exact h1
  | 2, hi => simp at hi; subst hi; exact h2
  | i + 3, hi => simp at hi
theorem copy_stepG {xs : List Sgn} {n k : Nat} {x z : Sgn} (hl : xs.length = n) (hk : k < n) (hx : xs[k]? = some x) : (xs.take k ++ List.replicate (n - k) z).set k x = xs.take (k + 1) ++ List.replicate (n - (k + 1)) z := by
  have h1 : (xs.take k).length = k := by rw [List.length_take]; omega
  obtain ⟨d, hd⟩ : ∃ d, n - k = d + 1 := ⟨n - k - 1, by omega⟩
  rw [hd, show n - (k + 1) = d by omega, List.replicate_succ, List.set_append, if_neg (by omega), h1, Nat.sub_self, List.set_cons_zero, take_snoc hx]
  simp
theorem ret_of {P : Program} {fn : Func} {R : Ending → World → Prop} {a : Act} {w : World} {v : Value} (hr : (results fn a.tmps).run P w = .ok v w) (hd : a.defers = []) (hR : R (.returned v) w) : bodyPost P fn R .ret a w := bodyPost_ret hr hd hR
set_option maxRecDepth 8000 in
set_option maxHeartbeats 4000000 in
theorem tostk_any (s : Stk) (w : World) : Calls Try.prog 65 #[kv s] w fun e w' => e = .returned (kv s) ∧ Below w.heap.size w w' := by
  obtain ⟨d, z⟩ := s
  have b1 : Below w.heap.size w (w.alloc (.cells #[.int .i64 d, .int .i64 z] 85)) := (Below.refl _ _).alloc (Nat.le_refl _) _
  have b2 := b1.alloc b1.size (.cells #[.int .i64 d, .int .i64 z] 75)
  have b3 := b2.alloc b2.size (.cells #[.int .i64 d, .int .i64 z] 75)
  have k2 := (Blk.new (w.alloc (.cells #[.int .i64 d, .int .i64 z] 85)) 75 #[.int .i64 d, .int .i64 z]).alloc (.cells #[.int .i64 d, .int .i64 z] 75)
  simp only [World.size_alloc] at k2
  have B3 := Lib.hid b3
  have K2 := Lib.hid k2
  clear b1 b2 b3 k2
  go_enter Try.func65, Try.ntmps65
  go_wp2_with fail
  have y0 := K2.out.cell 0
  have y1 := K2.out.cell 1
  refine ret_of (v := kv ⟨d, z⟩) (by simp [results, Try.results65, go_sem, y0, y1]) rfl ⟨rfl, B3.out⟩
set_option maxRecDepth 8000 in
set_option maxHeartbeats 4000000 in
theorem tosgn_any (x : Sgn) (w : World) : Calls Try.prog 44 #[.agg (gv x)] w fun e w' => e = .returned (.agg (gv x)) ∧ Below w.heap.size w w' := by
  obtain ⟨L, d, z⟩ := x
  have b1 : Below w.heap.size w (w.alloc (.cells #[.string L, .int .i64 d, .int .i64 z] 87)) := (Below.refl _ _).alloc (Nat.le_refl _) _
  have k1 := Blk.new w 87 #[.string L, .int .i64 d, .int .i64 z]
  have b2 := b1.alloc b1.size (.cells #[.string ⟨#[]⟩, .int .i64 0, .int .i64 0] 89)
  have b3 := b2.alloc b2.size (.cells #[.string L, .int .i64 0, .int .i64 0] 89)
  have k2 := (Blk.new (w.alloc (.cells #[.string L, .int .i64 d, .int .i64 z] 87)) 89 #[.string ⟨#[]⟩, .int .i64 0, .int .i64 0]).alloc (.cells #[.string L, .int .i64 0, .int .i64 0] 89)
  have k3 := Blk.new ((w.alloc (.cells #[.string L, .int .i64 d, .int .i64 z] 87)).alloc (.cells #[.string ⟨#[]⟩, .int .i64 0, .int .i64 0] 89)) 89 #[.string L, .int .i64 0, .int .i64 0]
  simp only [World.size_alloc] at k2 k3
  have hz : (((w.alloc (.cells #[.string L, .int .i64 d, .int .i64 z] 87)).alloc (.cells #[.string ⟨#[]⟩, .int .i64 0, .int .i64 0] 89)).alloc (.cells #[.string L, .int .i64 0, .int .i64 0] 89)).heap.size = w.heap.size + 1 + 1 + 1 := by simp
  have B3 := Lib.hid b3
  have K2 := Lib.hid k2
  have K3 := Lib.hid k3
  have HZ := Lib.hid hz
  clear b1 b2 b3 k1 k2 k3 hz
  go_enter Try.func44, Try.ntmps44
  go_wp2_with fail
  refine (tostk_any ⟨d, z⟩ _).mono ?_
  rintro e w1 ⟨rfl, hb⟩
  have B4 := Lib.hid (B3.out.trans (hb.mono B3.out.size))
  have K2 := Lib.hid (K2.out.below hb K2.out.lt)
  have K3 := Lib.hid (K3.out.below hb K3.out.lt)
  clear hb B3 HZ
  have c20 := K2.out.cell 0
  have c21 := K2.out.cell 1
  have c22 := K2.out.cell 2
  have c30 := K3.out.cell 0
  have c31 := K3.out.cell 1
  have c32 := K3.out.cell 2
  have f20 := K2.out.free 0
  have f21 := K2.out.free 1
  have f22 := K2.out.free 2
  have f31 := K3.out.free 1
  have f32 := K3.out.free 2
  have l2 := K2.out.lt
  have l3 := K3.out.lt
  have HL2 := Lib.hid l2
  clear l2 l3
  go_wp2_with fail
  have l2 := HL2.out
  refine ret_of (v := .agg (gv ⟨L, ⟨d, z⟩⟩)) (by simp [results, Try.results44, go_sem, c20, c21, c22, l2]) rfl ⟨rfl, ?_⟩
  exact ((((B4.out.setCell (p := ⟨w.heap.size + 1 + 1, 1, none⟩) (by show _ ≤ w.heap.size + 1 + 1; omega) _).setCell (p := ⟨w.heap.size + 1 + 1, 2, none⟩) (by show _ ≤ w.heap.size + 1 + 1; omega) _).setCell (p := ⟨w.heap.size + 1, 0, none⟩) (by show _ ≤ w.heap.size + 1; omega) _).setCell (p := ⟨w.heap.size + 1, 1, none⟩) (by show _ ≤ w.heap.size + 1; omega) _).setCell (p := ⟨w.heap.size + 1, 2, none⟩) (by show _ ≤ w.heap.size + 1; omega) _
set_option maxRecDepth 8000 in
set_option maxHeartbeats 4000000 in
theorem szsgn_any (x : Sgn) (m : Int) (w : World) (m0 : 0 ≤ m) (m1 : m ≤ 1048576) (hx : x.letter.size ≤ 9223372036854775807) : Calls Try.prog 43 #[.agg (gv x), .int .i64 m] w fun e w' => (∃ r : Int, e = .returned (.int .i64 r) ∧ -1 ≤ r ∧ r ≤ m) ∧ Below w.heap.size w w' := by
  obtain ⟨L, d, z⟩ := x
  have b1 := Lib.hid (Below.alloc (Below.refl w.heap.size w) (Nat.le_refl _) (.cells #[.string L, .int .i64 d, .int .i64 z] 87))
  dsimp only at hx
  by_cases hL : (L.size : Int) ≤ m
  · go_enter Try.func43, Try.ntmps43
    go_wp2_with fail
    go_ret
    exact ⟨⟨_, rfl, by omega, by omega⟩, b1.out⟩
  · go_enter Try.func43, Try.ntmps43
    go_wp2_with fail
    go_ret
    exact ⟨⟨_, rfl, by omega, by omega⟩, b1.out⟩
set_option maxRecDepth 8000 in
set_option maxHeartbeats 4000000 in
theorem szsgns_any (A : Option Addr) (n c : Nat) (ss : List Sgn) (m : Int) (w : World) (h : Sgns w A n ss) (hok : ∀ x ∈ ss, OkG x) (hn : n ≤ 9223372036854775807) (m0 : 0 ≤ m) (m1 : m ≤ 1048576) :
    Calls Try.prog 20 #[.slice A n c, .int .i64 m] w fun e w' => (∃ r : Int, e = .returned (.int .i64 r) ∧ (r < 0 ∨ (0 ≤ r ∧ r ≤ m ∧ (n : Int) ≤ m))) ∧ Below w.heap.size w w' := by
  by_cases hnm : (n : Int) ≤ m
  rotate_left
  · go_enter Try.func20, Try.ntmps20
    go_wp2_with fail
    go_ret
    exact ⟨⟨_, rfl, .inl (by omega)⟩, Below.refl _ _⟩
  go_enter Try.func20, Try.ntmps20
  go_wp2_with fail
  go_loopw [1, 5] (fun tv iv wr => ∃ (k : Nat) (t : Int), k ≤ n ∧ iv = .int .i64 k ∧ tv = .int .i64 t ∧ 0 ≤ t ∧ t ≤ m ∧ Below w.heap.size w wr) (fun _ iv _ => n - (intOf iv).toNat)
  case atStart => exact ⟨0, m - n, Nat.zero_le _, rfl, rfl, by omega, by omega, Below.refl _ _⟩
  case round =>
    obtain ⟨k, t, hk, rfl, rfl, t0, t1, hbel⟩ := hrel
    by_cases hlt : k < n
    · obtain ⟨b, off, x, rfl, hx, c0, c1, c2⟩ := Sgns.at3 (j := k) (h.below hbel) hlt
      have hX := (hok x (mem_at hx)).1
      have HB := Lib.hid hbel
      have k1 : (0 : Int) ≤ (k : Int) := by omega
      have k2 : (k : Int) < (n : Int) := by omega
      clear hx hbel
      go_wp2_with fail
      refine (szsgn_any x t _ t0 (by omega) hX).mono ?_
      rintro e w1 ⟨⟨r, rfl, r0, r1⟩, hb⟩
      have HB1 := Lib.hid (HB.out.trans (hb.mono HB.out.size))
      clear HB hb c0 c1 c2
      by_cases hr : r < 0
      · go_wp2_with fail
        go_ret
        exact ⟨⟨_, rfl, .inl (by omega)⟩, HB1.out⟩
      · go_wp2_with fail
        go_roundw
        case rel => exact ⟨k + 1, r, by omega, by go_num, rfl, by omega, by omega, HB1.out⟩
        case measure => simp [intOf]; omega
    · obtain rfl : k = n := by omega
      go_wp2_with fail
      go_ret
      exact ⟨⟨_, rfl, .inr ⟨t0, t1, hnm⟩⟩, hbel⟩
set_option maxRecDepth 8000 in
set_option maxHeartbeats 4000000 in
theorem tosgns_any (A : Option Addr) (n c : Nat) (ss : List Sgn) (w : World) (h : Sgns w A n ss) (hm : n ≤ 1048576) :
    Calls Try.prog 22 #[.slice A n c] w fun e w' => ∃ A' c', e = .returned (.slice A' n c') ∧ OwnG w' w.heap.size w'.heap.size A' n c' ss ∧ Below w.heap.size w w' := by
  obtain ⟨i0, hi, hz0, hz1, hz2⟩ := info_parts info89
  have hlen := Lib.hid h.len
  have hb8 : i0.bytes * n ≤ 281474976710656 := by rw [hz2]; omega
  have hml : n ≤ maxLen := by unfold maxLen; omega
  go_enter Try.func22, Try.ntmps22
  go_wp2_with (at_make; refine wpList_make_full _ rfl _ _ 23 rfl w.heap.size 89 i0 (.agg #[.string ⟨#[]⟩, .int .i64 0, .int .i64 0]) 3 Try.underlying23 hi hz0 hz1 .i64 .i64 _ _ n rfl rfl rfl rfl hb8 hml (Nat.le_refl _) ?_; intro w1 hown hgrow)
  have hO := Lib.hid (own_madeG w1 w.heap.size n hown)
  have hb1 : Below w.heap.size w w1 := below_of_grown hgrow (Nat.le_refl _) (fun _ e => by cases e)
  clear hown hgrow hi hz0 hz1 hz2 hb8 hml
  go_loopw [4] (fun i wr => ∃ k : Nat, k ≤ n ∧ i = .int .i64 k ∧ Hid (OwnG wr w.heap.size (w.heap.size + 1) (some ⟨w.heap.size, 0, none⟩) n n (ss.take k ++ List.replicate (n - k) sgn0)) ∧ Below w.heap.size w wr) (fun i _ => n - (intOf i).toNat)
  case atStart => exact ⟨0, Nat.zero_le _, rfl, Lib.hid (by simpa using hO.out), hb1⟩
  case round =>
    obtain ⟨k, hk, rfl, hown, hbel⟩ := hrel
    by_cases hlt : k < n
    · obtain ⟨b, off, x, rfl, hx, c0, c1, c2⟩ := Sgns.at3 (j := k) (h.below hbel) hlt
      have hX := Lib.hid hx
      have HB := Lib.hid hbel
      have k1 : (0 : Int) ≤ (k : Int) := by omega
      have k2 : (k : Int) < (n : Int) := by omega
      clear hx hbel
      go_wp2_with fail
      refine (tosgn_any x _).mono ?_
      rintro e w1 ⟨rfl, hb⟩
      have HB1 := Lib.hid (HB.out.trans (hb.mono HB.out.size))
      have hO := hown.out.below hb
      obtain ⟨y, hy, d0, d1, d2, hf⟩ := OwnG.at3 hO hlt
      have f0 := hf (k * 3)
      have f1 := hf (k * 3 + 1)
      have f2 := hf (k * 3 + 2)
      have hs := OwnG.store (x := x) hO hlt
      rw [copy_stepG hlen.out hlt hX.out] at hs
      have hS := Lib.hid hs
      clear HB hb hO hy hf hs c0 c1 c2 hown
      go_wp2_with fail
      go_roundw
      case rel => exact ⟨k + 1, by omega, by go_num, hS, ((HB1.out.setCell (Nat.le_refl _) _).setCell (Nat.le_refl _) _).setCell (Nat.le_refl _) _⟩
      case measure => simp [intOf]; omega
    · have he : ss.take k ++ List.replicate (n - k) sgn0 = ss := by rw [List.take_of_length_le (by rw [hlen.out]; omega), show n - k = 0 by omega]; simp
      rw [he] at hown
      go_wp2_with fail
      go_ret
      exact ⟨_, _, rfl, hown.out.wide (Nat.le_refl _) hown.out.2.2.1 (Nat.le_refl _), hbel⟩
set_option maxRecDepth 8000 in
set_option maxHeartbeats 4000000 in
theorem eqstk_same (s : Stk) (w : World) : Calls Try.prog 66 #[kv s, kv s] w fun e w' => e = .returned (.bool true) ∧ Below w.heap.size w w' := by
  obtain ⟨d, z⟩ := s
  have b1 := Below.alloc (Below.refl w.heap.size w) (Nat.le_refl _) (.cells #[.int .i64 d, .int .i64 z] 75)
  have B2 := Lib.hid (b1.alloc b1.size (.cells #[.int .i64 d, .int .i64 z] 75))
  clear b1
  go_enter Try.func66, Try.ntmps66
  go_wp2_with fail
  go_ret
  exact ⟨rfl, B2.out⟩
set_option maxRecDepth 8000 in
set_option maxHeartbeats 4000000 in
theorem eqsgn_same (x : Sgn) (w : World) : Calls Try.prog 45 #[.agg (gv x), .agg (gv x)] w fun e w' => e = .returned (.bool true) ∧ Below w.heap.size w w' := by
  obtain ⟨L, d, z⟩ := x
  have b1 := Below.alloc (Below.refl w.heap.size w) (Nat.le_refl _) (.cells #[.string L, .int .i64 d, .int .i64 z] 89)
  have B2 := Lib.hid (b1.alloc b1.size (.cells #[.string L, .int .i64 d, .int .i64 z] 89))
  have hb : (L.toList == L.toList) = true := by rw [bytes_eq]; simp
  have hb' : (L.toList != L.toList) = false := by simp [bne, hb]
  clear b1
  go_enter Try.func45, Try.ntmps45
  go_wp2_with fail
  refine (eqstk_same ⟨d, z⟩ _).mono ?_
  rintro e w1 ⟨rfl, hb1⟩
  have B3 := Lib.hid (B2.out.trans (hb1.mono B2.out.size))
  clear hb1 B2
  go_wp2_with fail
  go_ret
  exact ⟨rfl, B3.out⟩
set_option maxRecDepth 8000 in
set_option maxHeartbeats 4000000 in
theorem eqsgns_same (A B : Option Addr) (n c d : Nat) (ss : List Sgn) (w : World) (h : Sgns w A n ss) (k : Sgns w B n ss) (hn : n ≤ 1048576) :
    Calls Try.prog 24 #[.slice A n c, .slice B n d] w fun e w' => e = .returned (.bool true) ∧ Below w.heap.size w w' := by
  go_enter Try.func24, Try.ntmps24
  go_wp2_with fail
  go_loopw [5] (fun iv wr => ∃ j : Nat, j ≤ n ∧ iv = .int .i64 j ∧ Below w.heap.size w wr) (fun iv _ => n - (intOf iv).toNat)
  case atStart => exact ⟨0, Nat.zero_le _, rfl, Below.refl _ _⟩
  case round =>
    obtain ⟨j, hj, rfl, hbel⟩ := hrel
    by_cases hlt : j < n
    · obtain ⟨b, off, x, rfl, hx, c0, c1, c2⟩ := Sgns.at3 (h.below hbel) hlt
      obtain ⟨b2, off2, y, rfl, hy, d0, d1, d2⟩ := Sgns.at3 (k.below hbel) hlt
      obtain rfl : x = y := by rw [hx] at hy; injection hy
      have j1 : (0 : Int) ≤ (j : Int) := by omega
      have j2 : (j : Int) < (n : Int) := by omega
      have C0 := cell_after (lt_of_cell c0) c0
      have C1 := cell_after (lt_of_cell c1) c1
      have C2 := cell_after (lt_of_cell c2) c2
      have D0 := cell_after (lt_of_cell d0) d0
      have D1 := cell_after (lt_of_cell d1) d1
      have D2 := cell_after (lt_of_cell d2) d2
      have LC := fun q os => load3 (C0 q os) (C1 q os) (C2 q os)
      have LD := fun q os => load3 (D0 q os) (D1 q os) (D2 q os)
      have HB := Lib.hid hbel
      have hmix := mixed
      clear hx hy hbel c0 c1 c2 d0 d1 d2
      go_wp2_with fail
      refine wp_region_after (by assumption) (by kernel_rfl) ?_
      repeat (go_big_quiet_step (first | (go_at_call 45; refine Calls.after_of (eqsgn_same x _))))
      refine wpQuiet_nil ?_
      intro _ hw'
      obtain ⟨⟨nq, osq⟩, hw9⟩ := hw'
      subst hw9
      go_wp2_with fail
      go_roundw
      case rel => exact ⟨j + 1, by omega, by go_num, HB.out.trans ((below_after _ _ _).mono HB.out.size)⟩
      case measure => simp [intOf]; omega
    · obtain rfl : j = n := by omega
      go_wp2_with fail
      go_ret
      exact ⟨rfl, hbel⟩
end Go.Proofs.Ytjhalbmmlcbehaa
