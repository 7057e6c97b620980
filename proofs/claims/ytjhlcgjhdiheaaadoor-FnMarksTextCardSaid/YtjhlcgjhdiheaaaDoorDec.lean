/- Decimals of the reference, at numbers less than a hundred. -/
import Derived.Test.YtjhlcgjhdiheaaaDoorDraw5
import Derived.Test.YtjhlcgjhdiheaaaDoorTxt
import Derived.Laws.BytesArg
import Derived.Great.BuildSlice
import Derived.Deep.RegionWith
import Derived.Deep.RegionLaw
namespace Go.Proofs.YtjhlcgjhdiheaaaDoor
open Go.RowKit Go.Sort
set_option linter.unusedVariables false
set_option linter.unusedSimpArgs false

theorem byte_text (w : World) (x : Int) : (convert 22 9 (.slice (some ⟨w.heap.size, 0, none⟩) 1 1)).run Tryd.prog (w.alloc (.cells #[.int .u8 x] 5)) = .ok (.string (strOfNums [x])) (w.alloc (.cells #[.int .u8 x] 5)) := by
  refine run_convert_bytes_arg _ 22 5 Tryd.underlying22 Tryd.underlying5 w.heap.size 0 1 1 [x] rfl ?_ 9 Tryd.underlying9
  intro i hi
  obtain rfl : i = 0 := by omega
  rw [(Blk.new w 5 #[.int .u8 x]).cell]
  rfl
theorem ret_str {s t : ByteArray} (h : s = t) : Ending.returned (.string s) = Ending.returned (.string t) := by rw [h]
/-- the decimals of a number, as bytes -/
def decB (n : Nat) : ByteArray := ⟨(Lib.decDigits n).toArray⟩
theorem decB_one {n : Nat} (h : n < 10) : decB n = strOfNums [48 + (n : Int)] := by
  unfold decB strOfNums
  rw [Lib.decDigits_one h]
  have : (48 + (n : Int)).toNat = 48 + n := by omega
  simp only [List.map_cons, List.map_nil, this]
theorem decB_two {n : Nat} (h1 : ¬ n < 10) (h2 : n < 100) : decB n = decB (n / 10) ++ strOfNums [48 + (n : Int) % 10] := by
  rw [decB_one (n := n / 10) (by omega)]
  unfold decB strOfNums
  rw [Lib.decDigits_two h1 h2]
  have e1 : (48 + ((n / 10 : Nat) : Int)).toNat = 48 + n / 10 := by omega
  have e2 : (48 + (n : Int) % 10).toNat = 48 + n % 10 := by omega
  simp only [List.map_cons, List.map_nil, e1, e2]
  rfl
set_option maxRecDepth 4000 in
set_option maxHeartbeats 400000 in
theorem dec_one (n : Nat) (w : World) (h : n < 10) : Calls Tryd.prog 22 #[.int .i64 n] w fun e w' => e = .returned (.string (decB n)) ∧ w' = w.alloc (.cells #[.int .u8 (48 + (n : Int))] 5) := by
  have hcv := byte_text w (48 + (n : Int))
  have hd := Lib.hid (decB_one h)
  have h1 : ¬ (n : Int) < -9223372036854775807 := by omega
  have h2 : ¬ (n : Int) < 0 := by omega
  have h3 : (n : Int) < 10 := by omega
  generalize strOfNums [48 + (n : Int)] = S at *
  go_enter Tryd.func22, Tryd.ntmps22
  go_wp2_with fail
  go_ret
  exact ⟨ret_str hd.out.symm, rfl⟩
theorem exec22 (o : Oper) (a : Act) (x : Operand) (v : Value) (t : Array TypeId) (w : World) (ho : o.op = .call { callee := .value (.func 22), args := #[x], argTypes := t }) (hx : a.eval x = v) :
    (execOp a.eval o).run Tryd.prog w = .ok (.enter 22 #[v]) w := by
  simp only [execOp, ho, resolve, List.map_toArray, List.map_cons, List.map_nil, hx]
  kernel_rfl
/-- the call of l6Dec at a digit, as a step of a region that draws its order -/
theorem step_dec {ops : Array Oper} {o : Oper} {a : Act} {K : Act → World → Prop} {Q : Exit → Act → World → Prop} {E : Prop} {w : World} (hgd : o.guard = none) (x : Operand) (t : Array TypeId)
    (ho : o.op = .call { callee := .value (.func 22), args := #[x], argTypes := t }) (n : Nat) (hx : a.eval x = .int .i64 n) (hn : n < 10)
    (h : K (a.put o.dst (.string (decB n))) (w.alloc (.cells #[.int .u8 (48 + (n : Int))] 5))) :
    if Region.wanted o (yielded ops a.tmps) = true then Oper.wp Tryd.prog o a w K Q else E := by
  rw [if_pos (by simp [Region.wanted, hgd])]
  unfold Oper.wp
  rw [exec22 o a x _ t w ho hx, Oper.upon_enter]
  refine (dec_one n w hn).mono ?_
  rintro e w' ⟨rfl, rfl⟩
  exact h
theorem byte_at {w : World} {g : Nat} {x : Int} (h : Blk w g 5 #[.int .u8 x]) : (convert 22 9 (.slice (some ⟨g, 0, none⟩) 1 1)).run Tryd.prog w = .ok (.string (strOfNums [x])) w := by
  refine run_convert_bytes_arg _ 22 5 Tryd.underlying22 Tryd.underlying5 g 0 1 1 [x] rfl ?_ 9 Tryd.underlying9
  intro i hi
  obtain rfl : i = 0 := by omega
  rw [h.cell]
  rfl
theorem blk_newAt {w : World} {g : Nat} (t : TypeId) (cs : Array Value) (hg : w.heap.size = g) : Blk (w.alloc (.cells cs t)) g t cs := by subst hg; exact Blk.new w t cs
theorem Blk.drew1 {w : World} {g : Nat} {t : TypeId} {cs : Array Value} (h : Blk w g t cs) : Blk w.drew g t cs := h
/-- a byte made a text, as a step of a region that draws its order -/
theorem step_conv {ops : Array Oper} {o : Oper} {a : Act} {K : Act → World → Prop} {Q : Exit → Act → World → Prop} {E : Prop} {w : World} (hgd : o.guard = none) (x : Operand)
    (ho : o.op = .convert 22 9 x) (g : Nat) (y : Int) (hx : a.eval x = .slice (some ⟨g, 0, none⟩) 1 1) (hb : Blk w g 5 #[.int .u8 y])
    (h : K (a.put o.dst (.string (strOfNums [y]))) w) :
    if Region.wanted o (yielded ops a.tmps) = true then Oper.wp Tryd.prog o a w K Q else E := by
  rw [if_pos (by simp [Region.wanted, hgd])]
  have hr := byte_at hb
  unfold Oper.wp
  simp only [execOp, ho, hx, Sem.run_bind, hr, Result.andThen_ok, Sem.run_pure, Oper.upon_value]
  exact h
theorem grow_two (w : World) (o1 o2 : Obj) : ((w.alloc o1).alloc o2).drew = Go.Sort.grow (w.drewN 1) #[o1, o2] := by
  show (w.drew.alloc o1).alloc o2 = Go.Sort.grow w.drew #[o1, o2]
  rw [alloc_eq_grow, alloc_eq_grow, grow_grow]
  rfl
theorem grow_two2 (w : World) (o1 o2 : Obj) : ((w.alloc o1).alloc o2).drew.drew = Go.Sort.grow (w.drewN 2) #[o1, o2] := by
  show (w.drew.drew.alloc o1).alloc o2 = Go.Sort.grow w.drew.drew #[o1, o2]
  rw [alloc_eq_grow, alloc_eq_grow, grow_grow]
  rfl
set_option maxRecDepth 4000 in
set_option maxHeartbeats 8000000 in
theorem dec_two (n : Nat) (w : World) (h1 : ¬ n < 10) (h2 : n < 100) : Calls Tryd.prog 22 #[.int .i64 n] w fun e w' => e = .returned (.string (decB n)) ∧ ∃ q os', w' = Go.Sort.grow (w.drewN q) os' := by
  have hd := Lib.hid (decB_two h1 h2)
  have k1 : ¬ (n : Int) < -9223372036854775807 := by omega
  have k2 : ¬ (n : Int) < 0 := by omega
  have k3 : ¬ (n : Int) < 10 := by omega
  have u1 : IntKind.i64.wrap ((n : Int) / 10) = ((n / 10 : Nat) : Int) := by rw [IntWalk.i64_in _ (by omega)]; rfl
  have u0 : (n : Int).tmod 10 = (n : Int) % 10 := Int.tmod_eq_emod_of_nonneg (by omega)
  have u2 : IntKind.i64.wrap ((n : Int) % 10) = (n : Int) % 10 := IntWalk.i64_in _ (by omega)
  have u3 : IntKind.i64.wrap (48 + (n : Int) % 10) = 48 + (n : Int) % 10 := IntWalk.i64_in _ (by omega)
  have u4 : IntKind.u8.wrap (48 + (n : Int) % 10) = 48 + (n : Int) % 10 := by unfold IntKind.wrap; simp [IntKind.bits, IntKind.signed]; omega
  have c1 : (convert 22 9 (.slice (some ⟨w.heap.size + 1, 0, none⟩) 1 1)).run Tryd.prog (((w.alloc (.cells #[.int .u8 (48 + (n : Int) / 10)] 5)).alloc (.cells #[.int .u8 (48 + (n : Int) % 10)] 5)).drew) = .ok (.string (strOfNums [48 + (n : Int) % 10])) (((w.alloc (.cells #[.int .u8 (48 + (n : Int) / 10)] 5)).alloc (.cells #[.int .u8 (48 + (n : Int) % 10)] 5)).drew) := byte_at ((blk_newAt _ _ (by simp)).drew1)
  have c2 : (convert 22 9 (.slice (some ⟨w.heap.size, 0, none⟩) 1 1)).run Tryd.prog (((w.alloc (.cells #[.int .u8 (48 + (n : Int) % 10)] 5)).alloc (.cells #[.int .u8 (48 + (n : Int) / 10)] 5)).drew) = .ok (.string (strOfNums [48 + (n : Int) % 10])) (((w.alloc (.cells #[.int .u8 (48 + (n : Int) % 10)] 5)).alloc (.cells #[.int .u8 (48 + (n : Int) / 10)] 5)).drew) := byte_at (((blk_newAt _ _ rfl).alloc _).drew1)
  have c3 : (convert 22 9 (.slice (some ⟨w.heap.size, 0, none⟩) 1 1)).run Tryd.prog ((w.alloc (.cells #[.int .u8 (48 + (n : Int) % 10)] 5)).drew) = .ok (.string (strOfNums [48 + (n : Int) % 10])) ((w.alloc (.cells #[.int .u8 (48 + (n : Int) % 10)] 5)).drew) := byte_at ((blk_newAt _ _ rfl).drew1)
  have sS : (strOfNums [48 + (n : Int) % 10]).size = 1 := strOfNums_size _
  have sd : (decB (n / 10)).size = 1 := by rw [decB_one (by omega)]; exact strOfNums_size _
  generalize strOfNums [48 + (n : Int) % 10] = S at *
  go_enter Tryd.func22, Tryd.ntmps22
  go_wp2_with fail
  go_region_law (refine step_dec rfl (.tmp 19) _ rfl (n / 10) rfl (by omega) ?_)
  all_goals
    go_wp2_with fail
    go_ret
    refine ⟨ret_str hd.out.symm, ?_⟩
    first
      | exact ⟨1, _, grow_two w _ _⟩
      | exact ⟨2, _, grow_two2 w _ _⟩
end Go.Proofs.YtjhlcgjhdiheaaaDoor
