/- Systems, outlines and written forms, in plain Lean. -/
import Derived.Test.YtjhalbmmlcbehaaBase2
namespace Go.Proofs.Ytjhalbmmlcbehaa
namespace Wr
set_option linter.unusedVariables false

/-- a stroke: its direction and its size -/
structure Stk where
  dir : Int
  size : Int
deriving DecidableEq
/-- a sign: a letter and its stroke -/
structure Sgn where
  letter : ByteArray
  stk : Stk
def stkOk (s : Stk) : Bool := decide (0 ≤ s.dir) && decide (s.dir ≤ 7) && decide (1 ≤ s.size) && decide (s.size ≤ 3)
theorem stkOk_iff (s : Stk) : stkOk s = true ↔ 0 ≤ s.dir ∧ s.dir ≤ 7 ∧ 1 ≤ s.size ∧ s.size ≤ 3 := by
  simp [stkOk, and_assoc]
/-- the second stroke can follow the first one -/
def lead (a b : Stk) : Bool := !decide ((b.dir - a.dir) % 4 = 0)
def chainOk : List Stk → Bool
  | [] => true
  | [s] => stkOk s
  | a :: b :: r => stkOk a && lead a b && chainOk (b :: r)
def outOk (l : List Stk) : Bool := decide (l.length ≤ 8) && chainOk l
theorem chain_cons (a : Stk) (r : List Stk) : chainOk (a :: r) = (stkOk a && (match r with | [] => true | b :: _ => lead a b) && chainOk r) := by
  cases r with
  | nil => simp [chainOk]
  | cons b r => rfl
theorem chain_snoc (s : Stk) : ∀ l : List Stk, chainOk (l ++ [s]) = (chainOk l && (match l.getLast? with | none => true | some p => lead p s) && stkOk s)
  | [] => by simp [chainOk]
  | [a] => by simp [chainOk, Bool.and_assoc]
  | a :: b :: r => by
    have ih := chain_snoc s (b :: r)
    rw [List.cons_append, List.cons_append, chainOk, ← List.cons_append, ih, chainOk, List.getLast?_cons_cons]
    simp [Bool.and_assoc]
/-- the neighbours of the reference, one step on -/
theorem chain_go {l : List Stk} {k : Nat} {s : Stk} (hs : l[k]? = some s) : chainOk (l.take (k + 1)) = (chainOk (l.take k) && (match (l.take k).getLast? with | none => true | some p => lead p s) && stkOk s) := by
  rw [List.take_add_one, hs, Option.toList_some, chain_snoc]
theorem last_take {l : List Stk} {k : Nat} {p : Stk} (h : l[k]? = some p) : (l.take (k + 1)).getLast? = some p := by
  rw [List.take_add_one, h, Option.toList_some, List.getLast?_append]
  rfl
theorem chain_take_false {l : List Stk} {k : Nat} (h : chainOk (l.take k) = false) : ∀ n, chainOk (l.take (k + n)) = false := by
  intro n
  induction n with
  | zero => exact h
  | succ n ih =>
    cases hs : l[k + n]? with
    | none =>
      rw [← Nat.add_assoc, List.take_add_one, hs]
      simpa using ih
    | some s => rw [← Nat.add_assoc, chain_go hs, ih]; rfl
theorem chain_stop {l : List Stk} {k : Nat} (h : chainOk (l.take k) = false) : chainOk l = false := by
  have := chain_take_false h l.length
  rwa [List.take_of_length_le (by omega)] at this
/-- the chain of the program goes from the end -/
theorem chain_drop {l : List Stk} {k : Nat} {s : Stk} (hs : l[k]? = some s) : chainOk (l.drop k) = (stkOk s && (match (l.drop (k + 1)) with | [] => true | b :: _ => lead s b) && chainOk (l.drop (k + 1))) := by
  have hk := (List.getElem?_eq_some_iff.1 hs)
  obtain ⟨h1, h2⟩ := hk
  rw [List.drop_eq_getElem_cons h1, h2, chain_cons]
theorem chain_drop_false {l : List Stk} {k : Nat} (h : chainOk (l.drop k) = false) : ∀ n, n ≤ k → chainOk (l.drop (k - n)) = false := by
  intro n
  induction n with
  | zero => intro _; exact h
  | succ n ih =>
    intro hn
    have h1 := ih (by omega)
    by_cases hl : k - (n + 1) < l.length
    · rw [chain_drop (List.getElem?_eq_getElem hl), show k - (n + 1) + 1 = k - n by omega, h1]
      simp
    · rw [List.drop_of_length_le (by omega)] at h1
      cases h1
theorem chain_drop_stop {l : List Stk} {k : Nat} (h : chainOk (l.drop k) = false) : chainOk l = false := by
  have := chain_drop_false h k (Nat.le_refl _)
  simpa using this

def vowel (c : UInt8) : Bool := c == 97 || c == 101 || c == 105 || c == 111 || c == 117
/-- a word without its vowels and doubled letters -/
def bareF : Option UInt8 → List UInt8 → List UInt8
  | _, [] => []
  | p, c :: cs => (if vowel c || p == some c then [] else [c]) ++ bareF (some c) cs
theorem bareF_snoc (c : UInt8) : ∀ (l : List UInt8) (p : Option UInt8), bareF p (l ++ [c]) = bareF p l ++ (if vowel c || (match l.getLast? with | none => p | some q => some q) == some c then [] else [c])
  | [], p => by simp [bareF]
  | [a], p => by simp [bareF]
  | a :: b :: l, p => by
    have ih := bareF_snoc c (b :: l) (some a)
    have e1 : bareF p (a :: (b :: l ++ [c])) = (if vowel a || p == some a then [] else [a]) ++ bareF (some a) (b :: l ++ [c]) := rfl
    have e2 : bareF p (a :: b :: l) = (if vowel a || p == some a then [] else [a]) ++ bareF (some a) (b :: l) := rfl
    rw [List.cons_append, e1, ih, e2, List.getLast?_cons_cons, List.append_assoc]
    cases h : (b :: l).getLast? with
    | none => simp at h
    | some q => rfl
def bare (s : ByteArray) : List UInt8 := bareF none s.data.toList
def vowels (s : ByteArray) : List UInt8 := s.data.toList.filter vowel
def posW (s : ByteArray) : Int :=
  if wok s = true then (match (vowels s).head? with | none => 1 | some c => if c = 97 ∨ c = 111 then 0 else if c = 101 then 1 else 2) else -1
/-- two signs that can't stand in one system -/
def meets (a b : Sgn) : Bool := decide (a.letter = b.letter) || decide (a.stk = b.stk)
def conso (s : ByteArray) : Bool := wok s && decide (s.size = 1) && !(s.data.toList.any vowel)
def sgnOk (s : Sgn) : Bool := conso s.letter && stkOk s.stk
def sysChk : List Sgn → List Sgn → Bool
  | _, [] => true
  | seen, s :: r => sgnOk s && !(seen.any (meets s)) && sysChk (seen ++ [s]) r
def sysOk (ss : List Sgn) : Bool := decide (ss.length ≤ 21) && sysChk [] ss
theorem sysChk_snoc (s : Sgn) : ∀ (l seen : List Sgn), sysChk seen (l ++ [s]) = (sysChk seen l && sgnOk s && !((seen ++ l).any (meets s)))
  | [], seen => by simp [sysChk]
  | a :: l, seen => by
    have ih := sysChk_snoc s l (seen ++ [a])
    rw [List.cons_append, sysChk, ih, sysChk]
    simp [Bool.and_assoc, List.append_assoc]
theorem sys_go {ss : List Sgn} {k : Nat} {s : Sgn} (hs : ss[k]? = some s) : sysChk [] (ss.take (k + 1)) = (sysChk [] (ss.take k) && sgnOk s && !((ss.take k).any (meets s))) := by
  rw [List.take_add_one, hs, Option.toList_some, sysChk_snoc, List.nil_append]
theorem sys_take_false {ss : List Sgn} {k : Nat} (h : sysChk [] (ss.take k) = false) : ∀ n, sysChk [] (ss.take (k + n)) = false := by
  intro n
  induction n with
  | zero => exact h
  | succ n ih =>
    cases hs : ss[k + n]? with
    | none =>
      rw [← Nat.add_assoc, List.take_add_one, hs]
      simpa using ih
    | some s => rw [← Nat.add_assoc, sys_go hs, ih]; rfl
theorem sys_stop {ss : List Sgn} {k : Nat} (h : sysChk [] (ss.take k) = false) : sysChk [] ss = false := by
  have := sys_take_false h ss.length
  rwa [List.take_of_length_le (by omega)] at this
/-- the stroke of a letter -/
def findS (ss : List Sgn) (c : UInt8) : Option Stk := (ss.find? fun s => decide (s.letter = ⟨#[c]⟩)).map (·.stk)
/-- all strokes of letters, if each letter has one -/
def mapS (ss : List Sgn) : List UInt8 → Option (List Stk)
  | [] => some []
  | c :: cs => match findS ss c, mapS ss cs with | some s, some l => some (s :: l) | _, _ => none
theorem mapS_snoc (ss : List Sgn) (c : UInt8) : ∀ l : List UInt8, mapS ss (l ++ [c]) = (match mapS ss l, findS ss c with | some l, some s => some (l ++ [s]) | _, _ => none)
  | [] => by
    simp only [List.nil_append, mapS]
    cases findS ss c <;> rfl
  | a :: l => by
    rw [List.cons_append, mapS, mapS_snoc ss c l, mapS]
    cases findS ss a <;> cases mapS ss l <;> cases findS ss c <;> rfl
theorem mapS_len (ss : List Sgn) : ∀ (l : List UInt8) (o : List Stk), mapS ss l = some o → o.length = l.length
  | [], o, h => by simp [mapS] at h; subst h; rfl
  | c :: cs, o, h => by
    rw [mapS] at h
    cases h1 : findS ss c with
    | none => simp [h1] at h
    | some s =>
      cases h2 : mapS ss cs with
      | none => simp [h1, h2] at h
      | some l =>
        simp [h1, h2] at h
        subst h
        simp [mapS_len ss cs l h2]
/-- the outline of a word, if it is written -/
def outF (ss : List Sgn) (s : ByteArray) : Option (List Stk) :=
  if (sysOk ss && wok s) = true then (match mapS ss (bare s) with | some l => if outOk l = true then some l else none | none => none) else none
/-- the written form of a word -/
def formF (ss : List Sgn) (s : ByteArray) : Option (List Stk × Int) := (outF ss s).map fun l => (l, posW s)
def dictChk : List ByteArray → List ByteArray → Bool
  | _, [] => true
  | seen, s :: r => wok s && !(seen.contains s) && dictChk (seen ++ [s]) r
def dictOk (ws : List ByteArray) : Bool := decide (ws.length ≤ 20) && dictChk [] ws
theorem dictChk_snoc (s : ByteArray) : ∀ (l seen : List ByteArray), dictChk seen (l ++ [s]) = (dictChk seen l && wok s && !((seen ++ l).contains s))
  | [], seen => by simp [dictChk]
  | a :: l, seen => by
    have ih := dictChk_snoc s l (seen ++ [a])
    rw [List.cons_append, dictChk, ih, dictChk]
    simp [Bool.and_assoc, List.append_assoc]
theorem dict_go {ws : List ByteArray} {k : Nat} {s : ByteArray} (hs : ws[k]? = some s) : dictChk [] (ws.take (k + 1)) = (dictChk [] (ws.take k) && wok s && !((ws.take k).contains s)) := by
  rw [List.take_add_one, hs, Option.toList_some, dictChk_snoc, List.nil_append]
theorem dict_take_false {ws : List ByteArray} {k : Nat} (h : dictChk [] (ws.take k) = false) : ∀ n, dictChk [] (ws.take (k + n)) = false := by
  intro n
  induction n with
  | zero => exact h
  | succ n ih =>
    cases hs : ws[k + n]? with
    | none =>
      rw [← Nat.add_assoc, List.take_add_one, hs]
      simpa using ih
    | some s => rw [← Nat.add_assoc, dict_go hs, ih]; rfl
theorem dict_stop {ws : List ByteArray} {k : Nat} (h : dictChk [] (ws.take k) = false) : dictChk [] ws = false := by
  have := dict_take_false h ws.length
  rwa [List.take_of_length_le (by omega)] at this
/-- how many forms ahead of the k-th one are equal to it, summed up -/
def cnt {α : Type} [DecidableEq α] (x : Option α) (l : List (Option α)) : Nat := match x with | none => 0 | some y => l.countP fun z => decide (z = some y)
def pairsF {α : Type} [DecidableEq α] : List (Option α) → List (Option α) → Nat
  | _, [] => 0
  | seen, x :: r => cnt x seen + pairsF (seen ++ [x]) r
theorem pairs_snoc {α : Type} [DecidableEq α] (x : Option α) : ∀ (l seen : List (Option α)), pairsF seen (l ++ [x]) = pairsF seen l + cnt x (seen ++ l)
  | [], seen => by simp [pairsF]
  | a :: l, seen => by
    have ih := pairs_snoc x l (seen ++ [a])
    rw [List.cons_append, pairsF, ih, pairsF, List.append_assoc]
    simp only [List.singleton_append]
    omega
theorem pairs_go {α : Type} [DecidableEq α] {l : List (Option α)} {k : Nat} {x : Option α} (hx : l[k]? = some x) : pairsF [] (l.take (k + 1)) = pairsF [] (l.take k) + cnt x (l.take k) := by
  rw [List.take_add_one, hx, Option.toList_some, pairs_snoc, List.nil_append]
/-- the clashes of a dictionary -/
def clashN (ss : List Sgn) (ws : List ByteArray) : Int := if (sysOk ss && dictOk ws) = true then ((pairsF [] (ws.map (formF ss)) : Nat) : Int) else -1
end Wr
end Go.Proofs.Ytjhalbmmlcbehaa
