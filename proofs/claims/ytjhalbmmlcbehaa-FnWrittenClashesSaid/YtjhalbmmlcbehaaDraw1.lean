/- The small drawing functions: a word of a list, an index, the reader that is opened, words. -/
import Derived.Test.YtjhalbmmlcbehaaPick
import Derived.Test.YtjhalbmmlcbehaaCat
namespace Go.Proofs.Ytjhalbmmlcbehaa
open Go.RowKit
set_option linter.unusedVariables false

/-- What a walk is told of a slice of integers that came in. -/
def IsRow (k : IntKind) (w : World) (a : Option Addr) (len cap : Nat) (zs : List Int) : Prop :=
  (a = none ∧ len = 0 ∧ cap = 0 ∧ zs = []) ∨
  ∃ x, a = some x ∧ len ≤ cap ∧ cap ≤ maxLen ∧ zs.length = cap ∧ (∀ i, i < zs.length → w.cell? (x.add i) = some (.int k (zs.getD i 0))) ∧ ∀ n ∈ zs, (Lit.int k n).wf = true
theorem IsRow.len_le {k : IntKind} {w : World} {a : Option Addr} {len cap : Nat} {zs : List Int} (h : IsRow k w a len cap zs) : len ≤ 9223372036854775807 := by
  rcases h with ⟨_, rfl, _⟩ | ⟨x, _, h1, h2, _⟩
  · omega
  · unfold maxLen at h2; omega
/-- the reader lies in block R, and has been asked at most K times -/
def RdB (w : World) (R : Nat) (K : Int) : Prop := ∃ p, Rd w R p ∧ p ≤ K
def PickB (w : World) (R : Nat) (K n : Int) (e : Ending) (w' : World) : Prop := ∃ x : Nat, e = .returned (.int .i64 (x : Int)) ∧ (x : Int) < n ∧ RdB w' R (K + 1) ∧ w.grownBy w' (some R)
theorem pickB (R : Nat) (K n : Int) (w : World) (h : RdB w R K) (hK : K ≤ 1000000) (hn : 1 ≤ n) (hn2 : n ≤ 1000000) :
    Calls Try.prog 67 #[.pointer (some ⟨R, 0, none⟩), .int .i64 n] w (PickB w R K n) := by
  obtain ⟨p, hp, hpk⟩ := h
  refine (pick_any R p n w hp (by omega) hn hn2).mono ?_
  rintro e w' ⟨x, rfl, x0, x1, hr, hg⟩
  obtain ⟨k, rfl⟩ := Int.eq_ofNat_of_zero_le x0
  exact ⟨k, rfl, x1, ⟨p + 1, hr, by omega⟩, hg⟩
theorem RdB.mono {w : World} {R : Nat} {K K' : Int} (h : RdB w R K) (hk : K ≤ K') : RdB w R K' := by obtain ⟨p, hp, hpk⟩ := h; exact ⟨p, hp, by omega⟩
theorem RdB.alloc {w : World} {R : Nat} {K : Int} (h : RdB w R K) (o : Obj) : RdB (w.alloc o) R K := by obtain ⟨p, hp, hpk⟩ := h; exact ⟨p, hp.alloc o, hpk⟩
theorem RdB.lt {w : World} {R : Nat} {K : Int} (h : RdB w R K) : R < w.heap.size := by obtain ⟨p, hp, _⟩ := h; exact hp.lt
theorem RdB.grown {w w' : World} {R : Nat} {K : Int} {row : Option Nat} (h : RdB w R K) (hg : w.grownBy w' row) (hr : ∀ g, row = some g → R < g) : RdB w' R K := by obtain ⟨p, hp, hpk⟩ := h; exact ⟨p, hp.grown hg hr, hpk⟩

/-- a row of literals that is read at an index -/
theorem lit_cell {w w' : World} {R k : Nat} {cs : Array Value} {lo hi : Int} (hR : R < w.heap.size) (hg : (w.alloc (.cells cs 3)).grownBy w' (some R)) (hcs : ∀ i, i < cs.size → ∃ y : Int, cs[i]? = some (.int .i64 y) ∧ lo ≤ y ∧ y ≤ hi) (hk : k < cs.size) :
    ∃ y : Int, w'.cell? ⟨w.heap.size, k, none⟩ = some (.int .i64 y) ∧ lo ≤ y ∧ y ≤ hi := by
  obtain ⟨y, h1, h2⟩ := hcs k hk
  have hb := (Blk.new w 3 cs).grown hg (fun e => by injection e with e; omega)
  exact ⟨y, (hb.cell k).trans h1, h2⟩
theorem only_again {a b c : World} {R : Nat} (h : a.grownBy b (some R)) (k : b.grownBy c (some R)) : a.grownBy c (some R) := only_then h k (fun g e => .inl e.symm)

def NumPost (w : World) (R : Nat) (K lo hi : Int) (e : Ending) (w' : World) : Prop := ∃ x : Int, e = .returned (.int .i64 x) ∧ lo ≤ x ∧ x ≤ hi ∧ RdB w' R K ∧ w.grownBy w' (some R)

theorem at_lits (n : Nat) (hn : n ≤ 31) : ∀ i, i < (#[Value.int .i64 (-1), Value.int .i64 (n : Int)] : Array Value).size → ∃ y : Int, (#[Value.int .i64 (-1), Value.int .i64 (n : Int)] : Array Value)[i]? = some (.int .i64 y) ∧ -1 ≤ y ∧ y ≤ 31 := by
  intro i hi
  match i, hi with
  | 0, _ => exact ⟨-1, rfl, by omega, by omega⟩
  | 1, _ => exact ⟨n, rfl, by omega, by omega⟩
/-- the reader is opened -/
def OpenPost (w : World) (e : Ending) (w' : World) : Prop := e = .returned (.pointer (some ⟨w.heap.size, 0, none⟩)) ∧ RdB w' w.heap.size 0 ∧ Below w.heap.size w w'
theorem IsRow.bytes {w : World} {a : Option Addr} {len cap : Nat} {zs : List Int} (h : IsRow .u8 w a len cap zs) : Bytes w w.heap.size a len := by
  intro hn
  rcases h with ⟨rfl, rfl, _, rfl⟩ | ⟨x, rfl, h1, h2, h3, h4, h5⟩
  · omega
  · obtain ⟨b, off, spot⟩ := x
    have hc := h4 0 (by omega)
    have hspot : spot = none := by simpa [Addr.add] using World.cell?_spot hc
    subst hspot
    refine ⟨b, off, rfl, by have := lt_of_cell hc; simpa [Addr.add] using this, fun j hj => ?_⟩
    have hz : zs[j]? = some (zs[j]'(by omega)) := List.getElem?_eq_getElem (by omega)
    have h6 := bounds_u8 (h5 (zs[j]'(by omega)) (List.getElem_mem _))
    have h7 := h4 j (by omega)
    rw [List.getD_eq_getElem?_getD, hz, Option.getD_some] at h7
    refine ⟨_, h6.1, h6.2, ?_⟩
    rw [← h7]
    congr 1
    unfold Addr.add
    split
    · rename_i h0; subst h0; rfl
    · rfl
theorem Bytes.less {w : World} {B n m : Nat} {A : Option Addr} (h : Bytes w B A n) (hm : m ≤ n) : Bytes w B A m := fun h0 => by
  obtain ⟨b, off, e, hb, hc⟩ := h (by omega)
  exact ⟨b, off, e, hb, fun j hj => hc j (by omega)⟩
theorem open_end {w : World} {A : Option Addr} {n c : Nat} (h : Bytes w w.heap.size A n) (hn : n ≤ 2000) : RdB (w.alloc (.cells #[.slice A n c, .int .i64 0] 95)) w.heap.size 0 ∧ Below w.heap.size w (w.alloc (.cells #[.slice A n c, .int .i64 0] 95)) := by
  have hb : Below w.heap.size w (w.alloc (.cells #[.slice A n c, .int .i64 0] 95)) := (Below.refl _ _).alloc (Nat.le_refl _) _
  exact ⟨⟨0, ⟨Int.le_refl _, A, n, c, Blk.new w 95 _, hn, h.keep fun i hi => hb.block i hi⟩, Int.le_refl _⟩, hb⟩
theorem open_any (A : Option Addr) (n c : Nat) (w : World) (h : Bytes w w.heap.size A n) (hn : n ≤ 1048576) (hnc : n ≤ c) :
    Calls Try.prog 27 #[.slice A n c] w (OpenPost w) := by
  by_cases h2 : n ≤ 2000
  · have H := Lib.hid (open_end (c := c) h h2)
    go_enter Try.func27, Try.ntmps27
    go_wp2
    go_ret
    exact ⟨rfl, H.out⟩
  · have H := Lib.hid (open_end (c := c) (h.less (m := 2000) (by omega)) (Nat.le_refl _))
    obtain ⟨b, off, rfl, _⟩ := h (by omega)
    have h3 : ((c : Int) == 0) = false := by simp; omega
    go_enter Try.func27, Try.ntmps27
    go_wp2
    go_ret
    exact ⟨rfl, H.out⟩

theorem IsRow.len_cap {k : IntKind} {w : World} {a : Option Addr} {len cap : Nat} {zs : List Int} (h : IsRow k w a len cap zs) : len ≤ cap := by
  rcases h with ⟨_, rfl, rfl, _⟩ | ⟨x, _, h1, _⟩
  · omega
  · exact h1
/-! words -/
theorem Strs.rd {w w' : World} {R n : Nat} {K : Int} {A : Option Addr} {xs : List ByteArray} (h : Strs w A n xs) (hr : RdB w R K) (hg : w.grownBy w' (some R)) : Strs w' A n xs := by
  rcases Nat.eq_zero_or_pos n with rfl | h0
  · obtain rfl : xs = [] := List.eq_nil_of_length_eq_zero h.len
    exact Strs.nil
  · refine h.grown hg fun a ha e => ?_
    obtain ⟨p, ⟨_, B, m, d, hb, _⟩, _⟩ := hr
    obtain ⟨b, off, x, e1, _, _, hc⟩ := h.at_ (k := 0) h0
    rw [ha] at e1
    injection e1 with e1
    subst e1
    injection e with e
    dsimp only at e
    rw [e, hb.cell] at hc
    match off, hc with
    | 0, hc => simp at hc
    | 1, hc => simp at hc
    | k + 2, hc => simp at hc
theorem strs_lit (w : World) (xs : List ByteArray) (hx : ∀ x ∈ xs, Sz x) : Strs (w.alloc (.cells (xs.map Value.string).toArray 9)) (some ⟨w.heap.size, 0, none⟩) xs.length xs := by
  refine ⟨rfl, hx, fun _ => ⟨w.heap.size, 0, rfl, by simp, fun j x h => ?_⟩⟩
  rw [Nat.zero_add, (Blk.new w 9 _).cell j]
  simp [h]
def WordPost (w : World) (R : Nat) (K : Int) (e : Ending) (w' : World) : Prop := ∃ x : ByteArray, e = .returned (.string x) ∧ Sz x ∧ RdB w' R (K + 1) ∧ w.grownBy w' (some R)
set_option maxHeartbeats 400000 in
theorem of_any (R n c : Nat) (K : Int) (A : Option Addr) (xs : List ByteArray) (w : World) (h : RdB w R K) (hK : K ≤ 1000000) (hs : Strs w A n xs) (hn : 1 ≤ n) (hn2 : n ≤ 1000000) :
    Calls Try.prog 69 #[.pointer (some ⟨R, 0, none⟩), .slice A n c] w (WordPost w R K) := by
  go_enter Try.func69, Try.ntmps69
  go_wp2_with fail
  refine (pickB R K n _ h (by omega) (by omega) (by omega)).mono ?_
  rintro e w1 ⟨y, rfl, hy, hr, hg⟩
  obtain ⟨b, off, x, rfl, hx, x1, hc⟩ := (hs.rd h hg).at_ (k := y) (by omega)
  go_wp2
  go_ret
  exact ⟨x, rfl, x1, hr, hg⟩

/-- words that are drawn, in the world -/
def DrawnS (w : World) (R : Nat) (K : Int) (n : Nat) (A : Option Addr) (c : Nat) (wr : World) : Prop :=
  ∃ xs, OwnS wr w.heap.size wr.heap.size A n c xs ∧ RdB wr R K ∧ w.grownBy wr (some R)
theorem DrawnS.pick {w wr w1 : World} {R n c : Nat} {K K' : Int} {A : Option Addr} (h : DrawnS w R K n A c wr) (hR : R < w.heap.size) (hr : RdB w1 R K') (hg : wr.grownBy w1 (some R)) : DrawnS w R K' n A c w1 := by
  obtain ⟨xs, ho, _, hg0⟩ := h
  exact ⟨xs, (ho.far hg (fun g e => by injection e with e; omega)).wide (Nat.le_refl _) hg.size (Nat.le_refl _), hr, only_again hg0 hg⟩
theorem DrawnS.alloc {w wr : World} {R n c : Nat} {K : Int} {A : Option Addr} (h : DrawnS w R K n A c wr) (o : Obj) : DrawnS w R K n A c (wr.alloc o) := by
  obtain ⟨xs, ho, hr, hg0⟩ := h
  exact ⟨xs, (ho.alloc o).wide (Nat.le_refl _) (by simp) (Nat.le_refl _), hr.alloc o, only_alloc hg0 o⟩
theorem DrawnS.mono {w wr : World} {R n c : Nat} {K K' : Int} {A : Option Addr} (h : DrawnS w R K n A c wr) (hk : K ≤ K') : DrawnS w R K' n A c wr := by
  obtain ⟨xs, ho, hr, hg0⟩ := h
  exact ⟨xs, ho, hr.mono hk, hg0⟩
theorem DrawnS.rd {w wr : World} {R n c : Nat} {K : Int} {A : Option Addr} (h : DrawnS w R K n A c wr) : RdB wr R K := by obtain ⟨xs, ho, hr, hg0⟩ := h; exact hr
theorem DrawnS.size {w wr : World} {R n c : Nat} {K : Int} {A : Option Addr} (h : DrawnS w R K n A c wr) : w.heap.size ≤ wr.heap.size := by obtain ⟨xs, ho, hr, hg0⟩ := h; exact hg0.size
theorem drawnS_start {w : World} {R : Nat} {K : Int} (h : RdB w R K) : DrawnS w R K 0 (some ⟨w.heap.size, 0, none⟩) 0 (w.alloc (.cells #[] 9)) := by
  have he := own_emptyS w w.heap.size (Nat.le_refl _)
  exact ⟨[], by simpa using he, h.alloc _, World.grownBy_alloc _ _ _⟩
/-- a word is pushed onto drawn words -/
theorem drawnS_push {ops : Array Oper} {rest : List Oper} {o : Oper} {a : Act} {Q : Exit → Act → World → Prop} (w wr : World) (hgd : o.guard = none) (s x : Operand)
    (ho : o.op = .call { callee := .builtin .append, args := #[s, x], argTypes := #[24, 24] })
    (R n c : Nat) (K : Int) (A : Option Addr) (hs : a.eval s = .slice A n c) (hd : DrawnS w R K n A c wr) (hR : R < w.heap.size)
    (y : ByteArray) (b : Nat) (hx : a.eval x = .slice (some ⟨b, 0, none⟩) 1 1) (hy : Sz y) (hc : wr.cell? ⟨b, 0, none⟩ = some (.string y)) (hn : n ≤ 1000)
    (h : ∀ g c' w', DrawnS w R K (n + 1) (some ⟨g, 0, none⟩) c' w' → wpList Try.prog ops Q rest (a.put o.dst (.slice (some ⟨g, 0, none⟩) (n + 1) c')) w') :
    wpList Try.prog ops Q (o :: rest) a wr := by
  obtain ⟨xs, hown, hr, hg0⟩ := hd
  refine wpList_pushS wr hgd s x ho w.heap.size wr.heap.size A n c xs hs hown y b hx hy hc (by omega) hg0.size ?_
  intro g c' w' ho' hg' _
  have hlo : ∀ g, A.map (·.block) = some g → w.heap.size ≤ g := by
    intro g e
    cases A with
    | none => cases e
    | some a =>
      have e : a.block = g := by injection e
      have := hown.lo_le a rfl
      omega
  exact h g c' w' ⟨xs ++ [y], ho', hr.grown hg' (fun g e => by have := hlo g e; omega), only_then hg0 hg' (fun g e => .inr (hlo g e))⟩
def SpeechPost (w : World) (R : Nat) (K : Int) (m : Nat) (e : Ending) (w' : World) : Prop := ∃ A n c, e = .returned (.slice A n c) ∧ n ≤ m ∧ DrawnS w R K n A c w'
end Go.Proofs.Ytjhalbmmlcbehaa

