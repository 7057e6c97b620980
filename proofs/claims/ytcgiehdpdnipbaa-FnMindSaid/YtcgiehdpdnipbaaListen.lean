/- The writer behind a talk: listen returns the words in mind, the words lost and the minds after each second. -/
import Derived.Test.YtcgiehdpdnipbaaQueue
namespace Go.Proofs.Ytcgiehdpdnipbaa
open Go.RowKit
set_option linter.unusedVariables false

/-- the values vs are stages ts, each with a box of its own below hi -/
def Staged (w : World) (hi : Nat) (vs : List Value) (ts : List (Nat × Int)) : Prop :=
  vs.length = ts.length ∧ ∀ (j : Nat) (a : Nat × Int), ts[j]? = some a → ∃ pb, vs[j]? = some (stageV a pb) ∧ pb < hi ∧ Blk w pb 3 #[.int .i64 a.2]
theorem Staged.keep {w w' : World} {hi hi' : Nat} {vs : List Value} {ts : List (Nat × Int)} (h : Staged w hi vs ts) (hh : hi ≤ hi') (hk : ∀ pb cs, pb < hi → Blk w pb 3 cs → Blk w' pb 3 cs) : Staged w' hi' vs ts :=
  ⟨h.1, fun j a ha => by
    obtain ⟨pb, h1, h2, h3⟩ := h.2 j a ha
    exact ⟨pb, h1, by omega, hk pb _ h2 h3⟩⟩
theorem Staged.append {w : World} {hi : Nat} {vs vs' : List Value} {ts ts' : List (Nat × Int)} (h : Staged w hi vs ts) (k : Staged w hi vs' ts') : Staged w hi (vs ++ vs') (ts ++ ts') := by
  refine ⟨by simp [h.1, k.1], fun j a ha => ?_⟩
  by_cases hj : j < ts.length
  · rw [List.getElem?_append_left hj] at ha
    rw [List.getElem?_append_left (by rw [h.1]; exact hj)]
    exact h.2 j a ha
  · rw [List.getElem?_append_right (by omega)] at ha
    rw [List.getElem?_append_right (by rw [h.1]; omega), h.1]
    exact k.2 _ a ha

def ListenRel (w : World) (xs : List Int) (r h : Int) (k : Nat) (wr : World) : Prop :=
  ∃ (WA : Option Addr) (wc : Nat) (vs : List Value), Blk wr (w.heap.size + 1) 69 #[.slice WA (3 * k) wc] ∧ wr.ownsRow (w.heap.size + 2) 74 1 (.slice WA (3 * k) wc) (3 * k) vs ∧ Staged wr wr.heap.size vs (Talk.acts r h (xs.take k)) ∧
    Blk wr w.heap.size 59 #[.int .i64 0, .int .i64 0, .slice none 0 0] ∧ Below w.heap.size w wr ∧ w.heap.size + 2 ≤ wr.heap.size

theorem listen_start (w : World) (xs : List Int) (r h : Int) : ListenRel w xs r h 0 ((w.alloc (.cells #[.int .i64 0, .int .i64 0, .slice none 0 0] 59)).alloc (.cells #[.slice none 0 0] 69)) := by
  have b2 := Blk.new (w.alloc (.cells #[.int .i64 0, .int .i64 0, .slice none 0 0] 59)) 69 #[.slice none 0 0]
  refine ⟨none, 0, [], by simpa using b2, World.ownsRow_nil _ _ _ _, ⟨rfl, fun j a ha => by simp [Talk.acts] at ha⟩, (Blk.new w 59 _).alloc _, ?_, by simp⟩
  exact ((Below.refl _ _).alloc (Nat.le_refl _) _).alloc (by simp) _

theorem listen_next {w wr w1 w2 : World} {xs : List Int} {r h x : Int} {k : Nat} {e : Ending} (WA : Option Addr) (wc : Nat) (vs : List Value) (hx : xs[k]? = some x)
    (bQ : Blk wr (w.heap.size + 1) 69 #[.slice WA (3 * k) wc]) (ho : wr.ownsRow (w.heap.size + 2) 74 1 (.slice WA (3 * k) wc) (3 * k) vs) (hs : Staged wr wr.heap.size vs (Talk.acts r h (xs.take k))) (bR : Blk wr w.heap.size 59 #[.int .i64 0, .int .i64 0, .slice none 0 0]) (hb : Below w.heap.size w wr) (hsz : w.heap.size + 2 ≤ wr.heap.size)
    (h1 : SecPost wr x r h e w1) (h2 : ∃ e', AddPost w1 (w.heap.size + 1) (w.heap.size + 2) (3 * k) WA vs [stageV (0, x) wr.heap.size, stageV (1, r) (wr.heap.size + 1), stageV (2, h) (wr.heap.size + 2)] e' w2) :
    ListenRel w xs r h (k + 1) w2 := by
  obtain ⟨_, s1, s2, s3, s4, s5, s6⟩ := h1
  obtain ⟨e', g, cap, _, a1, a2, a3⟩ := h2
  have bR1 : Blk w1 w.heap.size 59 #[.int .i64 0, .int .i64 0, .slice none 0 0] := bR.below s5 (by omega)
  have ho1 : w1.ownsRow (w.heap.size + 2) 74 1 (.slice WA (3 * k) wc) (3 * k) vs := ho.kept (only_of_below s5 none) (by cases WA with | none => exact .inl rfl | some a => exact .inr (by simp [Value.ownBlock]))
  have bQ1 := bQ.below s5 (by omega)
  have keep3 : ∀ pb cs, Blk w1 pb 3 cs → Blk w2 pb 3 cs := fun pb cs hp => hp.chg a3 (fun e => by
    rcases e with e | e
    · exact (hp.ne bQ1 (by decide)) e
    · exact own_ne ho1 hp (by decide) e)
  have hw2 : w1.heap.size ≤ w2.heap.size := a3.size
  refine ⟨some ⟨g, 0, none⟩, cap, _, by rw [show 3 * (k + 1) = 3 * k + 3 by omega]; exact a1, by rw [show 3 * (k + 1) = 3 * k + 3 by omega]; exact a2, ?_, ?_, ?_, ?_⟩
  · rw [take_snoc hx, Talk.acts_append]
    refine Staged.append ?_ ?_
    · exact hs.keep (by omega) (fun pb cs hlt hp => keep3 pb cs (hp.below s5 hlt))
    · refine ⟨rfl, fun j a ha => ?_⟩
      match j, ha with
      | 0, ha => simp [Talk.acts] at ha; subst ha; exact ⟨wr.heap.size, rfl, by omega, keep3 _ _ s1⟩
      | 1, ha => simp [Talk.acts] at ha; subst ha; exact ⟨wr.heap.size + 1, rfl, by omega, keep3 _ _ s2⟩
      | 2, ha => simp [Talk.acts] at ha; subst ha; exact ⟨wr.heap.size + 2, rfl, by omega, keep3 _ _ s3⟩
      | j + 3, ha => simp [Talk.acts] at ha
  · exact bR1.chg a3 (fun e => by
      rcases e with e | e
      · omega
      · exact own_ne ho1 bR1 (by decide) e)
  · refine (hb.trans (s5.mono (by omega))).trans (a3.below (by omega) (fun i hi e => ?_))
    rcases e with e | e
    · omega
    · cases WA with
      | none => cases e
      | some a => have := (ho1.lt a.block rfl).1; injection e with e; simp only at e; omega
  · omega

/-- what waits at the end -/
theorem listen_waits {wr : World} {lo n wc : Nat} {WA : Option Addr} {vs : List Value} {ts : List (Nat × Int)} {Q : Nat} {u : Value} (ho : wr.ownsRow lo 74 1 (.slice WA n wc) n vs) (hs : Staged wr wr.heap.size vs ts) (bQ : Blk wr Q 69 #[u]) : Waits wr wr.heap.size Q WA ts := by
  intro j a ha
  obtain ⟨pb, h1, h2, h3⟩ := hs.2 j a ha
  have hlen := ho.1
  have hj : j < vs.length := (List.getElem?_eq_some_iff.1 h1).1
  obtain ⟨g, cap, hv, _, hlt⟩ := ho.form (by omega)
  injection hv with hv hv2 hv3
  subst hv hv3
  have hne := own_ne ho bQ (by decide)
  refine ⟨g, 0, pb, rfl, hlt, fun e => hne (by rw [e]; rfl), ?_, h2, fun e => (h3.ne bQ (by decide)) e, h3.cell 0⟩
  rw [Nat.zero_add, ho.cellAt j (by omega), h1]
theorem own_cap {wr : World} {lo n wc : Nat} {WA : Option Addr} {vs : List Value} (ho : wr.ownsRow lo 74 1 (.slice WA n wc) n vs) : n ≤ wc ∧ wc ≤ 9223372036854775807 := by
  rcases ho.2 with ⟨e, h0⟩ | ⟨g, cap, cur, hv, _, _, hc, hm, _⟩
  · injection e with _ _ e; omega
  · injection hv with _ _ e; subst e; unfold maxLen at hm; omega

theorem listen_end {w wr w2 : World} {n c : Nat} {A : Option Addr} {ls : List Int} {u0 u1 u2 : Value} {o : Obj} (hb : Below w.heap.size w wr) (hsz : w.heap.size < wr.heap.size) (ho : OwnI w2 wr.heap.size w2.heap.size A n c ls) (ch : Chg (wr.alloc o) w2 (fun i => i = w.heap.size + 1 ∨ wr.heap.size ≤ i))
    (bR : Blk w2 w.heap.size 59 #[u0, u1, u2]) (v0 v1 v2 : Value) :
    OwnI (((w2.setCell ⟨w.heap.size, 0, none⟩ v0).setCell ⟨w.heap.size, 1, none⟩ v1).setCell ⟨w.heap.size, 2, none⟩ v2) w.heap.size (((w2.setCell ⟨w.heap.size, 0, none⟩ v0).setCell ⟨w.heap.size, 1, none⟩ v1).setCell ⟨w.heap.size, 2, none⟩ v2).heap.size A n c ls ∧
    Below w.heap.size w (((w2.setCell ⟨w.heap.size, 0, none⟩ v0).setCell ⟨w.heap.size, 1, none⟩ v1).setCell ⟨w.heap.size, 2, none⟩ v2) := by
  have ne := ho.ne_blk bR (by decide)
  have ho' := ho.wide (lo' := w.heap.size) (Nat.le_of_lt hsz) (Nat.le_refl _) (Nat.le_refl _)
  refine ⟨?_, ?_⟩
  · have := ((ho'.set_far _ 0 ne v0).set_far _ 1 ne v1).set_far _ 2 ne v2
    simpa [World.setCell] using this
  · have b1 : Below w.heap.size (wr.alloc o) w2 := ch.below (by simp; omega) (fun i hi e => by omega)
    have b2 : Below w.heap.size w w2 := (hb.alloc (by omega) o).trans b1
    exact ((b2.setCell (p := ⟨w.heap.size, 0, none⟩) (Nat.le_refl _) v0).setCell (p := ⟨w.heap.size, 1, none⟩) (Nat.le_refl _) v1).setCell (p := ⟨w.heap.size, 2, none⟩) (Nat.le_refl _) v2

def ListenPost (w : World) (xs : List Int) (r h : Int) (e : Ending) (w' : World) : Prop :=
  ∃ A c, e = .returned (wrV (Talk.endM r h 0 xs) (Talk.lostF r h 0 xs) A xs.length c) ∧ OwnI w' w.heap.size w'.heap.size A xs.length c (Talk.minds r h 0 xs) ∧ Below w.heap.size w w'

set_option maxHeartbeats 1000000 in
theorem listen_any (A : Option Addr) (n c : Nat) (xs : List Int) (r h : Int) (w : World) (hi : Ints w A n xs) (hok : Talk.ok xs r h = true) :
    Calls Try.prog 84 #[.slice A n c, .int .i64 r, .int .i64 h] w (ListenPost w xs r h) := by
  have hlen := Lib.hid hi.len
  obtain ⟨hv, hr, hh⟩ := Talk.ok_parts hok
  have hl := Talk.valid_len hv
  rw [hlen.out] at hl
  have hbd := Lib.hid (Talk.valid_all hv)
  obtain ⟨r0, r1⟩ := hr
  obtain ⟨h0, h1⟩ := hh
  have HS := Lib.hid (listen_start w xs r h)
  clear hok hv
  go_enter Try.func84, Try.ntmps84
  go_wp2
  go_loopg [9, 14] n (fun g _ i wr => ∃ k : Nat, k ≤ n ∧ g = n - k ∧ i = .int .i64 k ∧ ListenRel w xs r h k wr)
  case atStart => exact ⟨0, Nat.zero_le _, rfl, rfl, HS.out⟩
  case round =>
    clear HS
    obtain ⟨k, hk, rfl, rfl, WA, wc, vs, bQ, ho, hs, bR, hb, hsz⟩ := hrel
    by_cases hlt : k < n
    · obtain ⟨b, off, x, rfl, hx, hx1, hx2, hc⟩ := (hi.below hb).at_ hlt
      have hX := Lib.hid hx
      clear hx
      go_wp2_with fail
      refine (second_any x r h _).mono ?_
      rintro e w1 hsec
      obtain rfl := hsec.1
      have hsec' := hsec
      obtain ⟨_, s1, s2, s3, s4, s5, s6⟩ := hsec'
      have S6 := Lib.hid s6
      have Z := Lib.hid (show wr.heap.size ≤ w1.heap.size from s5.size)
      have ho1 : w1.ownsRow (w.heap.size + 2) 74 1 (.slice WA (3 * k) wc) (3 * k) vs := ho.kept (only_of_below s5 none) (by cases WA with | none => exact .inl rfl | some a => exact .inr (by simp [Value.ownBlock]))
      have bQ1 := bQ.below s5 (by omega)
      clear s6
      go_wp2_with fail
      refine (add_any (w.heap.size + 1) (wr.heap.size + 3) (3 * k) wc (w.heap.size + 2) WA vs _ _ _ _ bQ1 ho1 s4 (by simp [stageV, Value.oneCell']) (by omega) (by have := Z.out; omega)).mono ?_
      rintro e w2 hadd
      have hn := Lib.hid (listen_next WA wc vs hX.out bQ ho hs bR hb hsz hsec ⟨_, hadd⟩)
      obtain ⟨g, cap, rfl, _⟩ := hadd
      clear hsec s1 s2 s3 s4 s5 ho1 bQ1 bQ ho hs bR hb hc
      go_wp2
      go_roundg (n - (k + 1))
      case measure => omega
      case rel => exact ⟨k + 1, by omega, rfl, by go_num, hn.out⟩
    · obtain rfl : k = n := by omega
      have he : xs.take k = xs := List.take_of_length_le (by rw [hlen.out]; omega)
      rw [he] at hs
      clear he
      have hw := listen_waits ho hs bQ
      have hcap := own_cap ho
      have hsm : ∀ a ∈ Talk.acts r h xs, Talk.Small a := Talk.acts_small ⟨by omega, by omega⟩ ⟨by omega, by omega⟩ (fun y hy => by have := Talk.inB_true (List.all_eq_true.1 hbd.out y hy); omega)
      have HW := Lib.hid hw
      have HC := Lib.hid hcap
      have HM := Lib.hid hsm
      clear hw hcap hsm
      go_wp2_with fail
      have hempty := own_empty wr wr.heap.size (Nat.le_refl _)
      refine (run_any (w.heap.size + 1) wr.heap.size (3 * k) wc WA (Talk.acts r h xs) 0 0 (some ⟨wr.heap.size, 0, none⟩) 0 0 [] _ (by rw [Talk.acts_len, hlen.out]) HC.out.1 HC.out.2 (bQ.alloc _) (HW.out.chg (S := fun _ => False) ((Chg.refl wr _).alloc _) (fun _ _ _ h => h)) HM.out (by omega) (by simp) (by simpa using hempty) (by omega) (by omega) (by omega) (by omega) (by omega)).mono ?_
      rintro e w2 ⟨A2, c2, rfl, ho2, ch2⟩
      rw [Talk.runM_acts, Talk.runL_acts, Talk.runA_acts, List.nil_append, Int.zero_add, Talk.minds_len, hlen.out]
      rw [Talk.runA_acts, List.nil_append, Talk.minds_len, hlen.out] at ho2
      have bR2 := (bR.alloc (.cells #[] 3)).chg ch2 (by omega)
      have FIN := Lib.hid (listen_end hb (by omega) ho2 ch2 bR2)
      obtain ⟨y0, y1, y2, z0, z1, z2⟩ := bR2.three
      clear hempty bR2 ho2 ch2 bQ ho hs bR hb
      unfold wrV
      go_wp2
      refine bodyPost_ret (v := .agg #[.int .i64 (Talk.endM r h 0 xs), .int .i64 (Talk.lostF r h 0 xs), .slice A2 k c2]) (by simp [results, Try.results84, go_sem, y0, y1, y2]) rfl ?_
      exact ⟨A2, c2, by rw [hlen.out]; rfl, by rw [hlen.out]; exact (FIN.out _ _ _).1, (FIN.out _ _ _).2⟩
end Go.Proofs.Ytcgiehdpdnipbaa
