/- Texts Bk, Bl, Ig, Bm in one file; each begins with a word on what it proves. -/
import Derived.RangeFuncCalls
import Derived.RangeFuncWrites
import Derived.RangeFuncBound
import Derived.RangeFuncBox
import Derived.Test.YtagjepclobobjaaVb
import Derived.Test.YtagjepclobobjaaVa

/- Package grade: a grade is opened: it is valid, and all else is; else a stop. -/
namespace Go.Proofs.Ytagjepclobobjaa
set_option linter.unusedVariables false
set_option linter.unusedSimpArgs false
open Go.RowKit Go.Shelf
attribute [local go_sem] Oper.semAt_some
def spanG2 (s : Int × Int) : List Value := [.int .i64 s.1, .int .i64 s.2]
theorem flatG2 : ∀ (l : List (Int × Int)) (i : Nat) (h : i < l.length) (k : Nat), k < 2 → (l.flatMap spanG2)[i * 2 + k]? = (spanG2 l[i])[k]?
  | [], i, h, _, _ => by simp at h
  | f :: l, 0, _, k, hk => by
    rw [List.flatMap_cons, Nat.zero_mul, Nat.zero_add, List.getElem?_append_left (by simpa [spanG2] using hk)]
    rfl
  | f :: l, i + 1, h, k, hk => by
    rw [List.flatMap_cons, List.getElem?_append_right (by simp [spanG2]; omega), show (i + 1) * 2 + k - (spanG2 f).length = i * 2 + k by simp [spanG2]; omega, flatG2 l i (by simpa using h) k hk]
    rfl
theorem lenG2 : ∀ (l : List (Int × Int)), (l.flatMap spanG2).length = l.length * 2
  | [] => rfl
  | r :: l => by rw [List.flatMap_cons, List.length_append, lenG2 l, List.length_cons]; simp [spanG2]; omega
theorem underLimits : Try.prog.underlying 27 = some (.slice 82) := by kernel_rfl
/-- Limits are copied into a row of one more. -/
theorem copy_limits (l : List (Int × Int)) (h0 : l ≠ []) (ao : Option Addr) (cap : Nat) (Rd : Nat → Prop) (W : World) (h : SpansAt W (.slice ao l.length cap) l Rd) (ob : Nat) (cur : Array Value) (hl : l.length ≤ 1000) (hob : W.heap[ob]? = some (.cells cur 82 (0, 0))) (hsz : cur.size = (l.length + 1) * 2) (hdr : cur.toList.drop (l.length * 2) = [.int .i64 0, .int .i64 0]) :
    (Builtin.copy_ #[27, 27] 3 #[.slice (some ⟨ob, 0, none⟩) (l.length + 1) (l.length + 1), .slice ao l.length cap]).run Try.prog W = .ok (.int .i64 l.length) (W.setRow ob ((l ++ [(0, 0)]).flatMap spanG2).toArray) := by
  obtain ⟨ao', cap', he, _, _, hel⟩ := h
  cases he
  obtain ⟨b, off, rfl, _⟩ := hel 0 (List.length_pos_iff.2 h0)
  have hmin : Nat.min l.length (l.length + 1) = l.length := Nat.min_eq_left (Nat.le_succ _)
  have hrow : (cur.toList.take 0 ++ l.flatMap spanG2 ++ cur.toList.drop (0 + (l.flatMap spanG2).length)) = (l ++ [(0, 0)]).flatMap spanG2 := by
    rw [List.take_zero, List.nil_append, Nat.zero_add, lenG2, hdr, List.flatMap_append]
    rfl
  have hrun := run_copy_rows (P := Try.prog) W 27 27 3 82 2 ob 0 (l.length + 1) (l.length + 1) ⟨b, off, none⟩ l.length cap cur 82 (l.flatMap spanG2) underLimits (by kernel_rfl) hob (by rw [lenG2, hmin]) (fun j v hj => ?_) (by rw [lenG2]; omega) (fun v hv => ?_)
  · rw [hrun, hrow, hmin]
    simp [goInt]
  · have hjl : j < l.length * 2 := by have := (List.getElem?_eq_some_iff.1 hj).1; rwa [lenG2] at this
    obtain ⟨b2, off2, he2, _, _, e1, e2⟩ := hel (j / 2) (by omega)
    cases he2
    have hq : j % 2 < 2 := Nat.mod_lt _ (by omega)
    have hj2 : j = j / 2 * 2 + j % 2 := by omega
    have hjl2 : j / 2 < l.length := by omega
    rw [hj2, flatG2 l (j / 2) hjl2 (j % 2) hq] at hj
    rw [Addr.add_mid, show off + j = off + j / 2 * 2 + j % 2 by omega]
    have hjc : j % 2 = 0 ∨ j % 2 = 1 := by omega
    rcases hjc with hc | hc <;> rw [hc] at hj ⊢ <;> simp [spanG2] at hj <;> subst hj
    · exact e1
    · exact e2
  · obtain ⟨r, _, hr⟩ := List.mem_flatMap.1 hv
    simp only [spanG2, List.mem_cons, List.not_mem_nil, or_false] at hr
    rcases hr with rfl | rfl <;> rfl
theorem row_limits {W : World} {ob : Nat} {l : List (Int × Int)} {t : TypeId} (h : W.heap[ob]? = some (.cells (l.flatMap spanG2).toArray t (0, 0))) (hl : l.length ≤ 1000) : SpansAt W (.slice (some ⟨ob, 0, none⟩) l.length l.length) l (fun k => k = ob) := by
  refine ⟨_, _, rfl, Nat.le_refl _, by unfold maxLen; omega, fun i hi => ⟨ob, 0, rfl, rfl, lt_of_block h, ?_⟩⟩
  have hc : ∀ k, k < 2 → W.cell? ⟨ob, 0 + i * 2 + k, none⟩ = (spanG2 l[i])[k]? := fun k hk => by
    rw [cell_of_row _ _ _ _ _ _ h, Nat.zero_add, List.getElem?_toArray]
    exact flatG2 l i hi k hk
  exact ⟨hc 0 (by omega), hc 1 (by omega)⟩
def gradeV (lv : Value) (p : List (Int × Int)) (step : Int) : Value := .agg (gradeC lv p step).toArray
theorem grade_0 (lv : Value) (p : List (Int × Int)) (step : Int) : (gradeC lv p step).toArray[0]? = some lv := rfl
theorem grade_11 (lv : Value) (p : List (Int × Int)) (hp : p.length = 5) (step : Int) : (gradeC lv p step).toArray[11]? = some (.int .i64 step) := by
  have := pts_len p
  unfold gradeC
  rw [List.getElem?_toArray, List.getElem?_cons_succ, List.getElem?_append_right (by simp [this, hp])]
  simp [this, hp]
/-- What opening comes to. -/
def OpenR (g : GradeD) (lv : Value) (is : Bool) (w : World) (e : Ending) (w' : World) : Prop :=
  Below w.heap.size w w' ∧ if validG g then (if is then ∃ bp l2, e = .returned (.pointer (some ⟨bp, 0, none⟩)) ∧ w.heap.size ≤ bp ∧ w'.heap[bp]? = some (.cells (benchC lv g.pts g.step l2).toArray 154 (0, 0)) ∧ SpansAt w' l2 (g.lim ++ [(40, 40)]) (fun k => w.heap.size ≤ k)
    else e = .panicked [{ v := gstopV 2, recovered := false }]) else e = .panicked [{ v := gstopV 1, recovered := false }]
theorem list5' {α : Type} {x : List α} (h : x.length = 5) : ∃ a b c d f, x = [a, b, c, d, f] := by
  match x, h with
  | [a, b, c, d, f], _ => exact ⟨a, b, c, d, f, rfl⟩
theorem index5 (a0 b0 a1 b1 a2 b2 a3 b3 a4 b4 : Int) (w : World) (i : Nat) (hi : i < 5) : ∃ a b, ([(a0, b0), (a1, b1), (a2, b2), (a3, b3), (a4, b4)] : List (Int × Int))[i]? = some (a, b) ∧ ∀ w, (Instr.index 51 (.agg #[.int .i64 a0, .int .i64 b0, .int .i64 a1, .int .i64 b1, .int .i64 a2, .int .i64 b2, .int .i64 a3, .int .i64 b3, .int .i64 a4, .int .i64 b4]) (.int .i64 (i : Int))).run Try.prog w = .ok (.agg #[.int .i64 a, .int .i64 b]) w := by
  rcases (show i = 0 ∨ i = 1 ∨ i = 2 ∨ i = 3 ∨ i = 4 by omega) with rfl | rfl | rfl | rfl | rfl
  · exact ⟨a0, b0, rfl, fun w => by kernel_rfl⟩
  · exact ⟨a1, b1, rfl, fun w => by kernel_rfl⟩
  · exact ⟨a2, b2, rfl, fun w => by kernel_rfl⟩
  · exact ⟨a3, b3, rfl, fun w => by kernel_rfl⟩
  · exact ⟨a4, b4, rfl, fun w => by kernel_rfl⟩
theorem valid_pt {g : GradeD} {s : Int × Int} (h : s ∈ g.pts) (hb : ptOk s = false) : validG g = false := by
  unfold validG
  have : (g.pts.all ptOk) = false := by
    rw [List.all_eq_false]
    exact ⟨s, h, by rw [hb]; decide⟩
  rw [this, Bool.and_false]
theorem valid_all {g : GradeD} (h1 : 1 ≤ g.lim.length ∧ g.lim.length ≤ 4) (h2 : 0 ≤ g.step ∧ g.step ≤ 10) (h3 : ∀ j (h : j < g.lim.length), limOk (lastG g.lim j) g.lim[j] = true) (h4 : ∀ j (h : j < g.pts.length), ptOk g.pts[j] = true) : validG g = true := by
  unfold validG
  rw [decide_eq_true h1, decide_eq_true h2]
  simp only [Bool.true_and, Bool.and_eq_true, List.all_eq_true, List.mem_range]
  refine ⟨fun j h => ?_, fun s hs => ?_⟩
  · rw [List.getD_eq_getElem?_getD, List.getElem?_eq_getElem h]
    exact h3 j h
  · obtain ⟨j, hj, rfl⟩ := List.getElem_of_mem hs
    exact h4 j hj
theorem valid_lim {g : GradeD} {i : Nat} (h : i < g.lim.length) (hb : limOk (lastG g.lim i) g.lim[i] = false) : validG g = false := by
  unfold validG
  have : ((List.range g.lim.length).all fun i => limOk (lastG g.lim i) (g.lim.getD i (0, 0))) = false := by
    rw [List.all_eq_false]
    exact ⟨i, List.mem_range.2 h, by rw [List.getD_eq_getElem?_getD, List.getElem?_eq_getElem h]; simp [hb]⟩
  rw [this, Bool.and_false, Bool.false_and]
/-- What is read of a grade's row. -/
def SG (gb : Nat) (l : List Value) (W : World) : Prop := W.heap[gb]? = some (.cells l.toArray 53 (0, 0))
def SB (gb bp : Nat) (lv l2 : Value) (W : World) : Prop := W.cell? ⟨gb, 0, none⟩ = some lv ∧ W.cell? ⟨bp, 12, none⟩ = some l2
theorem SpansAt.mono9 {W : World} {v : Value} {l : List (Int × Int)} {Rd Rd' : Nat → Prop} (h : SpansAt W v l Rd) (hr : ∀ k, k < W.heap.size → Rd k → Rd' k) : SpansAt W v l Rd' := by
  obtain ⟨a, c, g1, g2, g3, g4⟩ := h
  exact ⟨a, c, g1, g2, g3, fun q hq => by obtain ⟨b, off, f1, f2, f3, f4⟩ := g4 q hq; exact ⟨b, off, f1, hr b f3 f2, f3, f4⟩⟩
/-- The limits of a bench: those of the grade, and behind them one that all blocks keep. -/
theorem seg_limits {W : World} {ob : Nat} {l : List (Int × Int)} {t : TypeId} {cur' : Array Value} (hs : Seg ((l ++ [(0, 0)]).flatMap spanG2).toArray cur' (l.length * 2) [.int .i64 40, .int .i64 40]) (h : W.heap[ob]? = some (.cells cur' t (0, 0))) (hl : l.length ≤ 1000) (n : Nat) (hn : n = l.length + 1) :
    SpansAt W (.slice (some ⟨ob, 0, none⟩) n n) (l ++ [(40, 40)]) (fun k => k = ob) := by
  subst hn
  have hlen : (l ++ [((40 : Int), (40 : Int))]).length = l.length + 1 := by simp
  refine ⟨_, _, by rw [hlen], by rw [hlen]; exact Nat.le_refl _, by unfold maxLen; omega, fun i hi => ⟨ob, 0, rfl, rfl, lt_of_block h, ?_⟩⟩
  rw [hlen] at hi
  rw [cell_of_row _ _ _ _ _ _ h, cell_of_row _ _ _ _ _ _ h, Nat.zero_add]
  by_cases hil : i < l.length
  · have h0 := hs.other (i * 2) (.inl (by omega))
    have h1 := hs.other (i * 2 + 1) (.inl (by omega))
    have g0 := flatG2 (l ++ [(0, 0)]) i (by simp; omega) 0 (by decide)
    have g1 := flatG2 (l ++ [(0, 0)]) i (by simp; omega) 1 (by decide)
    rw [List.getElem_append_left hil] at g0 g1
    rw [h0, h1, List.getElem?_toArray, List.getElem?_toArray, List.getElem_append_left hil]
    exact ⟨by rw [← Nat.add_zero (i * 2), g0]; rfl, by rw [g1]; rfl⟩
  · have hie : i = l.length := by omega
    subst hie
    have h0 := hs.own 0 (by decide)
    have h1 := hs.own 1 (by decide)
    rw [List.getElem_append_right (Nat.le_refl _)]
    simp only [Nat.sub_self, List.getElem_cons_zero]
    exact ⟨by rw [← Nat.add_zero (l.length * 2), h0]; rfl, by rw [h1]; rfl⟩
noncomputable def moreO (n : Nat) : Code := dropC n (Try.f58.body.getD .skip)
theorem zeroLimit : (Try.prog.info? 82).map (fun i => (i.zero, i.size, i.bytes)) = some (some (.agg #[.int .i64 0, .int .i64 0]), 2, 16) := by kernel_rfl
set_option maxRecDepth 100000 in
set_option maxHeartbeats 8000000 in
theorem gopen_end (g : GradeD) (hp : g.pts.length = 5) (hvt : validG g = true) (ao : Option Addr) (cap nl gb : Nat) (w wr : World) (hb : Below w.heap.size w wr) (hr : wr.heap[gb]? = some (.cells (gradeC (.slice ao nl cap) g.pts g.step).toArray 53 (0, 0)))
    (hgl : gb < wr.heap.size) (hl : SpansAt w (.slice ao nl cap) g.lim (fun k => k < w.heap.size)) (hnl : nl = g.lim.length) (hn4 : 1 ≤ nl ∧ nl ≤ 4) (u0 u1 u3 u4 u5 u6 u7 u8 u9 u10 u11 u12 u13 u14 u15 u16 u17 u18 u19 u20 u21 u22 u23 u24 u25 u26 u27 u28 u29 u30 u31 u32 u33 u34 u35 u36 u37 u38 u39 u40 u41 u42 u43 u44 u45 u46 u47 u48 u49 u50 u51 u52 u53 u54 u55 u56 u57 u58 u59 u60 u61 u62 u63 u64 u65 u66 u67 u68 u69 u70 u71 u72 u73 u74 u75 u76 u77 u78 u79 u80 u81 u82 u83 u84 u85 u86 u87 u88 u89 u90 u91 u92 u93 u94 u95 u96 u97 u98 u99 u100 : Value) :
    Code.wp Try.prog (moreO 6) (bodyPost Try.prog Try.f58 (OpenR g (.slice ao nl cap) true w)) ⟨#[u0, u1, .pointer (some ⟨gb, 0, none⟩), u3, u4, u5, u6, u7, u8, u9, u10, u11, u12, u13, u14, u15, u16, u17, u18, u19, u20, u21, u22, u23, u24, u25, u26, u27, u28, u29, u30, u31, u32, u33, u34, u35, u36, u37, u38, u39, u40, u41, u42, u43, u44, u45, u46, u47, u48, u49, u50, u51, u52, u53, u54, u55, u56, u57, u58, u59, u60, u61, u62, u63, u64, u65, u66, u67, u68, u69, u70, u71, u72, u73, u74, u75, u76, u77, u78, u79, u80, u81, u82, u83, u84, u85, u86, u87, u88, u89, u90, u91, u92, u93, u94, u95, u96, u97, u98, u99, u100], []⟩ wr := by
  conv => arg 2; whnf
  have HVT := Lib.hid hvt
  have HB := Lib.hid hb
  have HL := Lib.hid hl
  have HNL := Lib.hid hnl
  have hst : Hid (∀ W l2, W = (benchC (.slice ao nl cap) g.pts g.step l2) → W = W) := Lib.hid fun _ _ _ => rfl
  obtain ⟨⟨a0, b0⟩, ⟨a1, b1⟩, ⟨a2, b2⟩, ⟨a3, b3⟩, ⟨a4, b4⟩, hpts⟩ := list5' hp
  obtain ⟨st, hst⟩ : ∃ s, s = g.step := ⟨_, rfl⟩
  rw [hpts, ← hst] at hr
  have hr2 : SG gb [.slice ao nl cap, .int .i64 a0, .int .i64 b0, .int .i64 a1, .int .i64 b1, .int .i64 a2, .int .i64 b2, .int .i64 a3, .int .i64 b3, .int .i64 a4, .int .i64 b4, .int .i64 st] wr := hr
  have HR := Lib.hid hr2
  have HPT := Lib.hid (And.intro hpts hst)
  have hw1 : IntKind.i64.wrap ((nl : Int) + 1) = ((nl + 1 : Nat) : Int) := by rw [IntWalk.i64_in _ (by omega)]; omega
  clear hvt hb hl hnl hr hr2 hpts hst hp
  go_wp2_with fail
  refine wp_region_held_drew (S := SG gb [.slice ao nl cap, .int .i64 a0, .int .i64 b0, .int .i64 a1, .int .i64 b1, .int .i64 a2, .int .i64 b2, .int .i64 a3, .int .i64 b3, .int .i64 a4, .int .i64 b4, .int .i64 st]) (by kernel_rfl) (show SG _ _ wr.drew from HR.out) fun hS => ?_
  obtain ⟨D, hD⟩ : ∃ D, D = World.drew wr := ⟨_, rfl⟩
  have HBD : Hid (Below w.heap.size w D) := Lib.hid (by rw [hD]; exact ⟨HB.out.os, HB.out.tape, HB.out.output, HB.out.size, HB.out.block⟩)
  rw [← hD] at hS ⊢
  clear hD
  refine wpAnyH_take (i := 0) (v := ?_) rfl (by kernel_rfl) (by kernel_rfl) (by kernel_rfl) (fun _ _ _ h => h) (Or.inl ⟨by rfl, ?_⟩) hS ?_
  rotate_left
  · (intro W hSw; have q0 := cell_of_row _ _ 0 _ _ _ hSw; have q1 := cell_of_row _ _ 1 _ _ _ hSw; have q2 := cell_of_row _ _ 2 _ _ _ hSw; have q3 := cell_of_row _ _ 3 _ _ _ hSw; have q4 := cell_of_row _ _ 4 _ _ _ hSw; have q5 := cell_of_row _ _ 5 _ _ _ hSw; have q6 := cell_of_row _ _ 6 _ _ _ hSw; have q7 := cell_of_row _ _ 7 _ _ _ hSw; have q8 := cell_of_row _ _ 8 _ _ _ hSw; have q9 := cell_of_row _ _ 9 _ _ _ hSw; have q10 := cell_of_row _ _ 10 _ _ _ hSw; have q11 := cell_of_row _ _ 11 _ _ _ hSw; simp only [List.getElem?_toArray, List.getElem?_cons_succ, List.getElem?_cons_zero] at q0 q1 q2 q3 q4 q5 q6 q7 q8 q9 q10 q11; go_simp; try with_reducible rfl)
  try simp only [List.getElem_toArray, List.getElem_cons_succ, List.getElem_cons_zero, Act.put, List.setIfInBounds_toArray, List.set_cons_zero, List.set_cons_succ]
  refine wpAnyH_take (i := 1) (v := ?_) rfl (by kernel_rfl) (by kernel_rfl) (by kernel_rfl) (fun _ _ _ h => h) (Or.inl ⟨by rfl, ?_⟩) hS ?_
  rotate_left
  · (intro W hSw; have q0 := cell_of_row _ _ 0 _ _ _ hSw; have q1 := cell_of_row _ _ 1 _ _ _ hSw; have q2 := cell_of_row _ _ 2 _ _ _ hSw; have q3 := cell_of_row _ _ 3 _ _ _ hSw; have q4 := cell_of_row _ _ 4 _ _ _ hSw; have q5 := cell_of_row _ _ 5 _ _ _ hSw; have q6 := cell_of_row _ _ 6 _ _ _ hSw; have q7 := cell_of_row _ _ 7 _ _ _ hSw; have q8 := cell_of_row _ _ 8 _ _ _ hSw; have q9 := cell_of_row _ _ 9 _ _ _ hSw; have q10 := cell_of_row _ _ 10 _ _ _ hSw; have q11 := cell_of_row _ _ 11 _ _ _ hSw; simp only [List.getElem?_toArray, List.getElem?_cons_succ, List.getElem?_cons_zero] at q0 q1 q2 q3 q4 q5 q6 q7 q8 q9 q10 q11; go_simp; try with_reducible rfl)
  try simp only [List.getElem_toArray, List.getElem_cons_succ, List.getElem_cons_zero, Act.put, List.setIfInBounds_toArray, List.set_cons_zero, List.set_cons_succ]
  refine wpAnyH_take (i := 2) (v := ?_) rfl (by kernel_rfl) (by kernel_rfl) (by kernel_rfl) (fun _ _ _ h => h) (Or.inl ⟨by rfl, ?_⟩) hS ?_
  rotate_left
  · (intro W hSw; have q0 := cell_of_row _ _ 0 _ _ _ hSw; have q1 := cell_of_row _ _ 1 _ _ _ hSw; have q2 := cell_of_row _ _ 2 _ _ _ hSw; have q3 := cell_of_row _ _ 3 _ _ _ hSw; have q4 := cell_of_row _ _ 4 _ _ _ hSw; have q5 := cell_of_row _ _ 5 _ _ _ hSw; have q6 := cell_of_row _ _ 6 _ _ _ hSw; have q7 := cell_of_row _ _ 7 _ _ _ hSw; have q8 := cell_of_row _ _ 8 _ _ _ hSw; have q9 := cell_of_row _ _ 9 _ _ _ hSw; have q10 := cell_of_row _ _ 10 _ _ _ hSw; have q11 := cell_of_row _ _ 11 _ _ _ hSw; simp only [List.getElem?_toArray, List.getElem?_cons_succ, List.getElem?_cons_zero] at q0 q1 q2 q3 q4 q5 q6 q7 q8 q9 q10 q11; go_simp; try with_reducible rfl)
  try simp only [List.getElem_toArray, List.getElem_cons_succ, List.getElem_cons_zero, Act.put, List.setIfInBounds_toArray, List.set_cons_zero, List.set_cons_succ]
  refine wpAnyH_take (i := 3) (v := ?_) rfl (by kernel_rfl) (by kernel_rfl) (by kernel_rfl) (fun _ _ _ h => h) (Or.inl ⟨by rfl, ?_⟩) hS ?_
  rotate_left
  · (intro W hSw; have q0 := cell_of_row _ _ 0 _ _ _ hSw; have q1 := cell_of_row _ _ 1 _ _ _ hSw; have q2 := cell_of_row _ _ 2 _ _ _ hSw; have q3 := cell_of_row _ _ 3 _ _ _ hSw; have q4 := cell_of_row _ _ 4 _ _ _ hSw; have q5 := cell_of_row _ _ 5 _ _ _ hSw; have q6 := cell_of_row _ _ 6 _ _ _ hSw; have q7 := cell_of_row _ _ 7 _ _ _ hSw; have q8 := cell_of_row _ _ 8 _ _ _ hSw; have q9 := cell_of_row _ _ 9 _ _ _ hSw; have q10 := cell_of_row _ _ 10 _ _ _ hSw; have q11 := cell_of_row _ _ 11 _ _ _ hSw; simp only [List.getElem?_toArray, List.getElem?_cons_succ, List.getElem?_cons_zero] at q0 q1 q2 q3 q4 q5 q6 q7 q8 q9 q10 q11; go_simp; try with_reducible rfl)
  try simp only [List.getElem_toArray, List.getElem_cons_succ, List.getElem_cons_zero, Act.put, List.setIfInBounds_toArray, List.set_cons_zero, List.set_cons_succ]
  refine wpAnyH_take (i := 4) (v := ?_) rfl (by kernel_rfl) (by kernel_rfl) (by kernel_rfl) (fun _ _ _ h => h) (Or.inl ⟨by rfl, ?_⟩) hS ?_
  rotate_left
  · (intro W hSw; have q0 := cell_of_row _ _ 0 _ _ _ hSw; have q1 := cell_of_row _ _ 1 _ _ _ hSw; have q2 := cell_of_row _ _ 2 _ _ _ hSw; have q3 := cell_of_row _ _ 3 _ _ _ hSw; have q4 := cell_of_row _ _ 4 _ _ _ hSw; have q5 := cell_of_row _ _ 5 _ _ _ hSw; have q6 := cell_of_row _ _ 6 _ _ _ hSw; have q7 := cell_of_row _ _ 7 _ _ _ hSw; have q8 := cell_of_row _ _ 8 _ _ _ hSw; have q9 := cell_of_row _ _ 9 _ _ _ hSw; have q10 := cell_of_row _ _ 10 _ _ _ hSw; have q11 := cell_of_row _ _ 11 _ _ _ hSw; simp only [List.getElem?_toArray, List.getElem?_cons_succ, List.getElem?_cons_zero] at q0 q1 q2 q3 q4 q5 q6 q7 q8 q9 q10 q11; go_simp; try with_reducible rfl)
  try simp only [List.getElem_toArray, List.getElem_cons_succ, List.getElem_cons_zero, Act.put, List.setIfInBounds_toArray, List.set_cons_zero, List.set_cons_succ]
  obtain ⟨gz, hgz⟩ : ∃ g, g = D.heap.size := ⟨_, rfl⟩
  have hmk : (Instr.makeSlice 27 (.int .i64 ((nl + 1 : Nat) : Int)) (.int .i64 ((nl + 1 : Nat) : Int))).run Try.prog D = .ok (.slice (some ⟨gz, 0, none⟩) (nl + 1) (nl + 1)) (D.alloc (.cells (madeCells #[.int .i64 0, .int .i64 0] ((nl + 1) * 2)) 82)) := by
    obtain ⟨i0, hi0, hz0, hz1, hz2⟩ := info_parts zeroLimit
    have := run_makeSlice (P := Try.prog) (w := D) 27 82 i0 _ underLimits hi0 hz0 .i64 .i64 ((nl + 1 : Nat) : Int) ((nl + 1 : Nat) : Int) (by omega) (by omega) (by rw [hz1]; simp; omega) (by rw [hz2]; omega) (by omega)
    rw [hz1] at this
    rw [hgz]
    simpa [Value.cells] using this
  have hcur : (madeCells #[.int .i64 0, .int .i64 0] ((nl + 1) * 2)).toList.drop (nl * 2) = [.int .i64 0, .int .i64 0] ∧ (madeCells #[.int .i64 0, .int .i64 0] ((nl + 1) * 2)).size = (nl + 1) * 2 := by
    rcases (show nl = 1 ∨ nl = 2 ∨ nl = 3 ∨ nl = 4 by omega) with rfl | rfl | rfl | rfl <;> exact ⟨by kernel_rfl, by kernel_rfl⟩
  obtain ⟨cur, hcu⟩ : ∃ c, c = madeCells #[.int .i64 0, .int .i64 0] ((nl + 1) * 2) := ⟨_, rfl⟩
  rw [← hcu] at hmk hcur
  have hb3 := below_allocG D (.cells cur 82)
  have hz3 : (D.alloc (.cells cur 82)).heap[gz]? = some (.cells cur 82 (0, 0)) := heap_alloc_at _ _ _ hgz
  obtain ⟨w2, hw2⟩ : ∃ W, W = D.alloc (.cells cur 82) := ⟨_, rfl⟩
  rw [← hw2] at hmk hb3 hz3
  have hS2 : SG gb [.slice ao nl cap, .int .i64 a0, .int .i64 b0, .int .i64 a1, .int .i64 b1, .int .i64 a2, .int .i64 b2, .int .i64 a3, .int .i64 b3, .int .i64 a4, .int .i64 b4, .int .i64 st] w2 := (hb3.block _ (lt_of_block hS)).trans hS
  refine wpAnyH_run (k := 5) (v := .slice (some ⟨gz, 0, none⟩) (nl + 1) (nl + 1)) (w' := w2) (by kernel_rfl) rfl rfl (by simp only [Int.natCast_add, Int.natCast_one] at hmk; simp [execOp, go_sem, Act.eval, Act.put, hmk]) hS2 ?_
  have HC := Lib.hid hcur
  have HZ := Lib.hid hz3
  have HB2 := Lib.hid (HBD.out.trans (hb3.mono HBD.out.size))
  have HGZ := Lib.hid (show w.heap.size ≤ gz by rw [hgz]; exact HBD.out.size)
  have hgl2 : gb < gz := by rw [hgz]; exact lt_of_block hS
  clear hmk hcur hcu hw2 hS hz3 hb3 hgz
  have hS := hS2
  clear hS2
  try simp only [List.getElem_toArray, List.getElem_cons_succ, List.getElem_cons_zero, Act.put, List.setIfInBounds_toArray, List.set_cons_zero, List.set_cons_succ]
  refine wpAnyH_take (i := 6) (v := ?_) rfl (by kernel_rfl) (by kernel_rfl) (by kernel_rfl) (fun _ _ _ h => h) (Or.inl ⟨by rfl, ?_⟩) hS ?_
  rotate_left
  · (intro W hSw; have q0 := cell_of_row _ _ 0 _ _ _ hSw; have q1 := cell_of_row _ _ 1 _ _ _ hSw; have q2 := cell_of_row _ _ 2 _ _ _ hSw; have q3 := cell_of_row _ _ 3 _ _ _ hSw; have q4 := cell_of_row _ _ 4 _ _ _ hSw; have q5 := cell_of_row _ _ 5 _ _ _ hSw; have q6 := cell_of_row _ _ 6 _ _ _ hSw; have q7 := cell_of_row _ _ 7 _ _ _ hSw; have q8 := cell_of_row _ _ 8 _ _ _ hSw; have q9 := cell_of_row _ _ 9 _ _ _ hSw; have q10 := cell_of_row _ _ 10 _ _ _ hSw; have q11 := cell_of_row _ _ 11 _ _ _ hSw; simp only [List.getElem?_toArray, List.getElem?_cons_succ, List.getElem?_cons_zero] at q0 q1 q2 q3 q4 q5 q6 q7 q8 q9 q10 q11; go_simp; try with_reducible rfl)
  try simp only [List.getElem_toArray, List.getElem_cons_succ, List.getElem_cons_zero, Act.put, List.setIfInBounds_toArray, List.set_cons_zero, List.set_cons_succ]
  obtain ⟨bp, hbp⟩ : ∃ g, g = w2.heap.size := ⟨_, rfl⟩
  have hb4 := below_allocG w2 (.cells #[.slice ao nl cap, .int .i64 a0, .int .i64 b0, .int .i64 a1, .int .i64 b1, .int .i64 a2, .int .i64 b2, .int .i64 a3, .int .i64 b3, .int .i64 a4, .int .i64 b4, .int .i64 st, .slice (some ⟨gz, 0, none⟩) (nl + 1) (nl + 1)] 154)
  have hp4 : (w2.alloc (.cells #[.slice ao nl cap, .int .i64 a0, .int .i64 b0, .int .i64 a1, .int .i64 b1, .int .i64 a2, .int .i64 b2, .int .i64 a3, .int .i64 b3, .int .i64 a4, .int .i64 b4, .int .i64 st, .slice (some ⟨gz, 0, none⟩) (nl + 1) (nl + 1)] 154)).heap[bp]? = some (.cells #[.slice ao nl cap, .int .i64 a0, .int .i64 b0, .int .i64 a1, .int .i64 b1, .int .i64 a2, .int .i64 b2, .int .i64 a3, .int .i64 b3, .int .i64 a4, .int .i64 b4, .int .i64 st, .slice (some ⟨gz, 0, none⟩) (nl + 1) (nl + 1)] 154 (0, 0)) := heap_alloc_at _ _ _ hbp
  obtain ⟨w3, hw3⟩ : ∃ W, W = w2.alloc (.cells #[.slice ao nl cap, .int .i64 a0, .int .i64 b0, .int .i64 a1, .int .i64 b1, .int .i64 a2, .int .i64 b2, .int .i64 a3, .int .i64 b3, .int .i64 a4, .int .i64 b4, .int .i64 st, .slice (some ⟨gz, 0, none⟩) (nl + 1) (nl + 1)] 154) := ⟨_, rfl⟩
  rw [← hw3] at hb4 hp4
  have hS2 : SG gb [.slice ao nl cap, .int .i64 a0, .int .i64 b0, .int .i64 a1, .int .i64 b1, .int .i64 a2, .int .i64 b2, .int .i64 a3, .int .i64 b3, .int .i64 a4, .int .i64 b4, .int .i64 st] w3 := (hb4.block _ (lt_of_block hS)).trans hS
  refine wpAnyH_run (k := 7) (v := .pointer (some ⟨bp, 0, none⟩)) (w' := w3) (by kernel_rfl) rfl rfl (by rw [hw3, hbp]; simp [execOp, go_sem, Act.eval, Act.put]) hS2 ?_
  have HP := Lib.hid hp4
  have HZ3 := Lib.hid ((hb4.block _ (lt_of_block HZ.out)).trans HZ.out)
  have HB3 := Lib.hid (HB2.out.trans (hb4.mono HB2.out.size))
  have HBP := Lib.hid (show w.heap.size ≤ bp ∧ gz < bp by rw [hbp]; exact ⟨HB2.out.size, lt_of_block HZ.out⟩)
  clear hw3 hS hp4 hb4 hbp
  have hS := hS2
  clear hS2
  try simp only [List.getElem_toArray, List.getElem_cons_succ, List.getElem_cons_zero, Act.put, List.setIfInBounds_toArray, List.set_cons_zero, List.set_cons_succ]
  refine wpAnyH_take (i := 8) (v := ?_) rfl (by kernel_rfl) (by kernel_rfl) (by kernel_rfl) (fun _ _ _ h => h) (Or.inl ⟨by rfl, ?_⟩) hS ?_
  rotate_left
  · (intro W hSw; have q0 := cell_of_row _ _ 0 _ _ _ hSw; have q1 := cell_of_row _ _ 1 _ _ _ hSw; have q2 := cell_of_row _ _ 2 _ _ _ hSw; have q3 := cell_of_row _ _ 3 _ _ _ hSw; have q4 := cell_of_row _ _ 4 _ _ _ hSw; have q5 := cell_of_row _ _ 5 _ _ _ hSw; have q6 := cell_of_row _ _ 6 _ _ _ hSw; have q7 := cell_of_row _ _ 7 _ _ _ hSw; have q8 := cell_of_row _ _ 8 _ _ _ hSw; have q9 := cell_of_row _ _ 9 _ _ _ hSw; have q10 := cell_of_row _ _ 10 _ _ _ hSw; have q11 := cell_of_row _ _ 11 _ _ _ hSw; simp only [List.getElem?_toArray, List.getElem?_cons_succ, List.getElem?_cons_zero] at q0 q1 q2 q3 q4 q5 q6 q7 q8 q9 q10 q11; go_simp; try with_reducible rfl)
  try simp only [List.getElem_toArray, List.getElem_cons_succ, List.getElem_cons_zero, Act.put, List.setIfInBounds_toArray, List.set_cons_zero, List.set_cons_succ]
  refine wpAnyH_done (by kernel_rfl) ?_ _
  try simp only [List.getElem_toArray, List.getElem_cons_succ, List.getElem_cons_zero, Act.put, List.setIfInBounds_toArray, List.set_cons_zero, List.set_cons_succ]
  go_upto_region 16 with fail
  have hgb : gb < gz := hgl2
  obtain ⟨E, hE⟩ : ∃ E, E = World.drew w3 := ⟨_, rfl⟩
  have hS3 : SG gb [.slice ao nl cap, .int .i64 a0, .int .i64 b0, .int .i64 a1, .int .i64 b1, .int .i64 a2, .int .i64 b2, .int .i64 a3, .int .i64 b3, .int .i64 a4, .int .i64 b4, .int .i64 st] E := by rw [hE]; exact hS
  have hEh : E.heap = w3.heap := by rw [hE]; rfl
  have hpe := HP.out
  have hze := HZ3.out
  rw [← hEh] at hpe hze
  have HPE := Lib.hid hpe
  have HZE := Lib.hid hze
  clear hpe hze hEh
  have HBE : Hid (Below w.heap.size w E) := Lib.hid (by rw [hE]; exact ⟨HB3.out.os, HB3.out.tape, HB3.out.output, HB3.out.size, HB3.out.block⟩)
  have hSB : SB gb bp (.slice ao nl cap) (.slice (some ⟨gz, 0, none⟩) (nl + 1) (nl + 1)) E := ⟨cell_of_row _ _ 0 _ _ _ hS3, cell_of_row _ _ 12 _ _ _ HPE.out⟩
  have hcp := copy_limits g.lim (by intro e; have := HNL.out; rw [e] at this; simp at this; omega) ao cap _ E (by rw [← HNL.out]; exact HL.out.later HBE.out.size (fun k h1 _ => HBE.out.block k h1)) gz cur (by rw [← HNL.out]; omega) HZE.out (by rw [← HNL.out]; exact HC.out.2) (by rw [← HNL.out]; exact HC.out.1)
  rw [← HNL.out] at hcp
  obtain ⟨F, hF⟩ : ∃ F, F = E.setRow gz ((g.lim ++ [(0, 0)]).flatMap spanG2).toArray := ⟨_, rfl⟩
  have hkF : Keeps (fun k => k = gz) E F := by rw [hF]; exact Keeps.setRow _ _ _ rfl
  have hzF : F.heap[gz]? = some (.cells ((g.lim ++ [(0, 0)]).flatMap spanG2).toArray 82 (0, 0)) := by rw [hF]; exact setRow_heap _ _ _ _ _ _ HZE.out
  rw [← hF] at hcp
  have hSF : SG gb [.slice ao nl cap, .int .i64 a0, .int .i64 b0, .int .i64 a1, .int .i64 b1, .int .i64 a2, .int .i64 b2, .int .i64 a3, .int .i64 b3, .int .i64 a4, .int .i64 b4, .int .i64 st] F := (hkF.block gb (lt_of_block hS3) (fun e => by omega)).trans hS3
  have hpF := (hkF.block bp (lt_of_block HPE.out) (fun e => by have := HBP.out.2; omega)).trans HPE.out
  have hSBF : SB gb bp (.slice ao nl cap) (.slice (some ⟨gz, 0, none⟩) (nl + 1) (nl + 1)) F := ⟨cell_of_row _ _ 0 _ _ _ hSF, cell_of_row _ _ 12 _ _ _ hpF⟩
  have HSF := Lib.hid (And.intro hSF (And.intro hpF (And.intro hzF hSBF)))
  have HBF := Lib.hid (HBE.out.trans ((hkF.below (B := w.heap.size) HBE.out.size (fun k h e => by have := HGZ.out; omega))))
  clear hS hS3 hF hkF hzF hSF hpF
  refine wp_region_held_drew (S := SB gb bp (.slice ao nl cap) (.slice (some ⟨gz, 0, none⟩) (nl + 1) (nl + 1))) (by kernel_rfl) (by rw [← hE]; exact hSB) fun hS => ?_
  rw [← hE] at hS ⊢
  clear hE hSB
  refine wpAnyH_take (i := 0) (v := ?_) rfl (by kernel_rfl) (by kernel_rfl) (by kernel_rfl) (fun _ _ _ h => h) (Or.inl ⟨by rfl, ?_⟩) hS ?_
  rotate_left
  · (intro W hSw; obtain ⟨q0, q1⟩ := hSw; go_simp; try with_reducible rfl)
  try simp only [List.getElem_toArray, List.getElem_cons_succ, List.getElem_cons_zero, Act.put, List.setIfInBounds_toArray, List.set_cons_zero, List.set_cons_succ]
  refine wpAnyH_take (i := 1) (v := ?_) rfl (by kernel_rfl) (by kernel_rfl) (by kernel_rfl) (fun _ _ _ h => h) (Or.inl ⟨by rfl, ?_⟩) hS ?_
  rotate_left
  · (intro W hSw; obtain ⟨q0, q1⟩ := hSw; go_simp; try with_reducible rfl)
  try simp only [List.getElem_toArray, List.getElem_cons_succ, List.getElem_cons_zero, Act.put, List.setIfInBounds_toArray, List.set_cons_zero, List.set_cons_succ]
  refine wpAnyH_take (i := 2) (v := ?_) rfl (by kernel_rfl) (by kernel_rfl) (by kernel_rfl) (fun _ _ _ h => h) (Or.inl ⟨by rfl, ?_⟩) hS ?_
  rotate_left
  · (intro W hSw; obtain ⟨q0, q1⟩ := hSw; go_simp; try with_reducible rfl)
  try simp only [List.getElem_toArray, List.getElem_cons_succ, List.getElem_cons_zero, Act.put, List.setIfInBounds_toArray, List.set_cons_zero, List.set_cons_succ]
  refine wpAnyH_take (i := 3) (v := ?_) rfl (by kernel_rfl) (by kernel_rfl) (by kernel_rfl) (fun _ _ _ h => h) (Or.inl ⟨by rfl, ?_⟩) hS ?_
  rotate_left
  · (intro W hSw; obtain ⟨q0, q1⟩ := hSw; go_simp; try with_reducible rfl)
  try simp only [List.getElem_toArray, List.getElem_cons_succ, List.getElem_cons_zero, Act.put, List.setIfInBounds_toArray, List.set_cons_zero, List.set_cons_succ]
  refine wpAnyH_take (i := 4) (v := ?_) rfl (by kernel_rfl) (by kernel_rfl) (by kernel_rfl) (fun _ _ _ h => h) (Or.inl ⟨by rfl, ?_⟩) hS ?_
  rotate_left
  · (intro W hSw; obtain ⟨q0, q1⟩ := hSw; go_simp; try with_reducible rfl)
  try simp only [List.getElem_toArray, List.getElem_cons_succ, List.getElem_cons_zero, Act.put, List.setIfInBounds_toArray, List.set_cons_zero, List.set_cons_succ]
  refine wpAnyH_take (i := 5) (v := ?_) rfl (by kernel_rfl) (by kernel_rfl) (by kernel_rfl) (fun _ _ _ h => h) (Or.inl ⟨by rfl, ?_⟩) hS ?_
  rotate_left
  · (intro W hSw; obtain ⟨q0, q1⟩ := hSw; go_simp; try with_reducible rfl)
  try simp only [List.getElem_toArray, List.getElem_cons_succ, List.getElem_cons_zero, Act.put, List.setIfInBounds_toArray, List.set_cons_zero, List.set_cons_succ]
  refine wpAnyH_run (k := 6) (v := .int .i64 nl) (w' := F) (by kernel_rfl) rfl rfl (by simp [execOp, resolve, invoke, builtin, go_sem, Act.eval, Act.put, hcp]) hSBF ?_
  clear hS hcp hSBF
  have hS := HSF.out.2.2.2
  try simp only [List.getElem_toArray, List.getElem_cons_succ, List.getElem_cons_zero, Act.put, List.setIfInBounds_toArray, List.set_cons_zero, List.set_cons_succ]
  refine wpAnyH_done (by kernel_rfl) ?_ _
  try simp only [List.getElem_toArray, List.getElem_cons_succ, List.getElem_cons_zero, Act.put, List.setIfInBounds_toArray, List.set_cons_zero, List.set_cons_succ]
  clear hS
  go_upto_region 17 with fail
  have hS := HSF.out.2.2.2
  have hSd : SB gb bp (.slice ao nl cap) (.slice (some ⟨gz, 0, none⟩) (nl + 1) (nl + 1)) F.drew := hS
  clear hS
  refine wp_region_tail 8 #[false, false, false, false, false, false, false, false, true, true] (SB gb bp (.slice ao nl cap) (.slice (some ⟨gz, 0, none⟩) (nl + 1) (nl + 1))) (by kernel_rfl) (by kernel_rfl) (by rfl) hSd fun hS => ?_
  clear hSd
  refine wpAnyH_take (i := 0) (v := ?_) rfl (by kernel_rfl) (by kernel_rfl) (by kernel_rfl) (fun _ _ _ h => h) (Or.inl ⟨by rfl, ?_⟩) hS ?_
  rotate_left
  · (intro W hSw; obtain ⟨q0, q1⟩ := hSw; go_simp; try with_reducible rfl)
  try simp only [List.getElem_toArray, List.getElem_cons_succ, List.getElem_cons_zero, Act.put, List.setIfInBounds_toArray, List.set_cons_zero, List.set_cons_succ]
  refine wpAnyH_take (i := 1) (v := ?_) rfl (by kernel_rfl) (by kernel_rfl) (by kernel_rfl) (fun _ _ _ h => h) (Or.inl ⟨by rfl, ?_⟩) hS ?_
  rotate_left
  · (intro W hSw; obtain ⟨q0, q1⟩ := hSw; go_simp; try with_reducible rfl)
  try simp only [List.getElem_toArray, List.getElem_cons_succ, List.getElem_cons_zero, Act.put, List.setIfInBounds_toArray, List.set_cons_zero, List.set_cons_succ]
  refine wpAnyH_take (i := 2) (v := ?_) rfl (by kernel_rfl) (by kernel_rfl) (by kernel_rfl) (fun _ _ _ h => h) (Or.inl ⟨by rfl, ?_⟩) hS ?_
  rotate_left
  · (intro W hSw; obtain ⟨q0, q1⟩ := hSw; go_simp; try with_reducible rfl)
  try simp only [List.getElem_toArray, List.getElem_cons_succ, List.getElem_cons_zero, Act.put, List.setIfInBounds_toArray, List.set_cons_zero, List.set_cons_succ]
  refine wpAnyH_take (i := 3) (v := ?_) rfl (by kernel_rfl) (by kernel_rfl) (by kernel_rfl) (fun _ _ _ h => h) (Or.inl ⟨by rfl, ?_⟩) hS ?_
  rotate_left
  · (intro W hSw; obtain ⟨q0, q1⟩ := hSw; go_simp; try with_reducible rfl)
  try simp only [List.getElem_toArray, List.getElem_cons_succ, List.getElem_cons_zero, Act.put, List.setIfInBounds_toArray, List.set_cons_zero, List.set_cons_succ]
  refine wpAnyH_take (i := 4) (v := ?_) rfl (by kernel_rfl) (by kernel_rfl) (by kernel_rfl) (fun _ _ _ h => h) (Or.inl ⟨by rfl, ?_⟩) hS ?_
  rotate_left
  · (intro W hSw; obtain ⟨q0, q1⟩ := hSw; go_simp; try with_reducible rfl)
  try simp only [List.getElem_toArray, List.getElem_cons_succ, List.getElem_cons_zero, Act.put, List.setIfInBounds_toArray, List.set_cons_zero, List.set_cons_succ]
  refine wpAnyH_take (i := 5) (v := ?_) rfl (by kernel_rfl) (by kernel_rfl) (by kernel_rfl) (fun _ _ _ h => h) (Or.inl ⟨by rfl, ?_⟩) hS ?_
  rotate_left
  · (intro W hSw; obtain ⟨q0, q1⟩ := hSw; go_simp; try with_reducible rfl)
  try simp only [List.getElem_toArray, List.getElem_cons_succ, List.getElem_cons_zero, Act.put, List.setIfInBounds_toArray, List.set_cons_zero, List.set_cons_succ]
  refine wpAnyH_take (i := 6) (v := ?_) rfl (by kernel_rfl) (by kernel_rfl) (by kernel_rfl) (fun _ _ _ h => h) (Or.inl ⟨by rfl, ?_⟩) hS ?_
  rotate_left
  · (intro W hSw; obtain ⟨q0, q1⟩ := hSw; go_simp; try with_reducible rfl)
  try simp only [List.getElem_toArray, List.getElem_cons_succ, List.getElem_cons_zero, Act.put, List.setIfInBounds_toArray, List.set_cons_zero, List.set_cons_succ]
  refine wpAnyH_take (i := 7) (v := ?_) rfl (by kernel_rfl) (by kernel_rfl) (by kernel_rfl) (fun _ _ _ h => h) (Or.inl ⟨by rfl, ?_⟩) hS ?_
  rotate_left
  · (intro W hSw; obtain ⟨q0, q1⟩ := hSw; go_simp; try with_reducible rfl)
  try simp only [List.getElem_toArray, List.getElem_cons_succ, List.getElem_cons_zero, Act.put, List.setIfInBounds_toArray, List.set_cons_zero, List.set_cons_succ]
  refine wpAnyH_done (by kernel_rfl) ?_ _
  unfold TailQ
  simp only [List.drop_succ_cons, List.drop_zero]
  try simp only [List.getElem_toArray, List.getElem_cons_succ, List.getElem_cons_zero, Act.put, List.setIfInBounds_toArray, List.set_cons_zero, List.set_cons_succ]
  clear hS
  have hnl0 : 0 ≤ (nl : Int) := by omega
  have hnl1 : (nl : Int) < ((nl + 1 : Nat) : Int) := by omega
  have hnl2 : nl < nl + 1 := by omega
  have hfd := HSF.out.2.2.1
  rw [← show F.drew.heap = F.heap from rfl] at hfd
  have HFD := Lib.hid hfd
  clear hfd
  have HFT : Hid (nl * 2 + (#[Value.int .i64 40, Value.int .i64 40] : Array Value).size ≤ ((g.lim ++ [((0 : Int), (0 : Int))]).flatMap spanG2).toArray.size) := Lib.hid (by
    have := HNL.out
    simp only [List.size_toArray, lenG2, List.length_append, List.length_cons, List.length_nil]
    omega)
  go_wp2_with (first | (
    refine wpList_store_at rfl 82 _ _ rfl gz (nl * 2) #[.int .i64 40, .int .i64 40] rfl rfl 82 _ HFD.out (by kernel_rfl) HFT.out (by simp [Value.oneCell']) ?_
    intro w5 cur5 hseg h5 hk5 hs5
    have H5 := Lib.hid (And.intro hseg (And.intro h5 (And.intro hk5 hs5)))
    clear hseg h5 hk5 hs5))
  have hk5 : Keeps (fun k => k = gz) F w5 := (Keeps.drew _ F).trans H5.out.2.2.1
  have hkw : Below w.heap.size w w5 := HBF.out.trans ((hk5.below (B := w.heap.size) HBF.out.size (fun k h e => by have := HGZ.out; omega)))
  refine ⟨rfl, .pointer (some ⟨bp, 0, none⟩), by kernel_rfl, ?_⟩
  unfold OpenR
  refine ⟨hkw, ?_⟩
  rw [HVT.out, if_pos rfl, if_pos rfl]
  refine ⟨bp, .slice (some ⟨gz, 0, none⟩) (nl + 1) (nl + 1), rfl, HBP.out.1, ?_, ?_⟩
  rotate_left
  · have hsl := seg_limits (by rw [← HNL.out]; exact H5.out.1) H5.out.2.1 (by rw [← HNL.out]; omega) (nl + 1) (by rw [← HNL.out])
    exact hsl.mono9 (fun k _ e => by have := HGZ.out; omega)
  · rw [HPT.out.1, ← HPT.out.2]
    exact (hk5.block bp (lt_of_block HSF.out.2.1) (fun e => by have := HBP.out.2; omega)).trans HSF.out.2.1
end Go.Proofs.Ytagjepclobobjaa

/- Package grade: a grade is opened. -/
namespace Go.Proofs.Ytagjepclobobjaa
set_option linter.unusedVariables false
set_option linter.unusedSimpArgs false
open Go.RowKit Go.Shelf
attribute [local go_sem] Oper.semAt_some
set_option maxRecDepth 100000 in
set_option maxHeartbeats 8000000 in
theorem gopen_any (g : GradeD) (hp : g.pts.length = 5) (lv : Value) (is : Bool) (w : World) (hl : SpansAt w lv g.lim (fun k => k < w.heap.size)) (hl9 : g.lim.length ≤ 1000) :
    Calls Try.prog 58 #[gradeV lv g.pts g.step, .bool is] w (OpenR g lv is w) := by
  obtain ⟨ao, cap, rfl, _⟩ := id hl
  obtain ⟨nl, hnl⟩ : ∃ n, n = g.lim.length := ⟨_, rfl⟩
  obtain ⟨st, hst⟩ : ∃ n, n = g.step := ⟨_, rfl⟩
  rw [← hnl] at hl hl9 ⊢
  rw [← hst]
  have HNL := Lib.hid hnl
  have HST := Lib.hid hst
  have HL := Lib.hid hl
  have HP := Lib.hid hp
  have hr0 := heap_alloc_at w (.cells (gradeC (.slice ao nl cap) g.pts st).toArray 53) _ rfl
  have hb0 := below_allocG w (.cells (gradeC (.slice ao nl cap) g.pts st).toArray 53)
  obtain ⟨gb, hgb⟩ : ∃ g, g = w.heap.size := ⟨_, rfl⟩
  obtain ⟨W, hW⟩ : ∃ W, W = w.alloc (.cells (gradeC (.slice ao nl cap) g.pts st).toArray 53) := ⟨_, rfl⟩
  rw [← hW] at hr0 hb0
  rw [← hgb] at hr0
  have HR := Lib.hid hr0
  have HBW := Lib.hid hb0
  have c0 : W.cell? ⟨gb, 0, none⟩ = some (.slice ao nl cap) := by rw [cell_of_row _ _ _ _ _ _ hr0]; rfl
  have c11 : W.cell? ⟨gb, 11, none⟩ = some (.int .i64 st) := by rw [cell_of_row _ _ _ _ _ _ hr0]; exact grade_11 _ _ HP.out _
  clear hnl hst hl hp hr0 hb0
  unfold gradeV
  go_enter Try.func58, Try.ntmps58
  refine wp_cutC 6 (t := moreO 6) (by kernel_rfl) ?_
  simp only [cutC]
  go_upto_region 1 with fail
  rw [← hW, ← hgb]
  have HW := Lib.hid (And.intro hW hgb)
  clear hW hgb
  go_wp2_with fail
  refine (gwithin_any nl 1 4 W).mono ?_
  rintro e w' ⟨rfl, rfl⟩
  dsimp only
  cases hb1 : inN nl 1 4 with
  | false =>
    go_wp2_with fail
    refine (gmust_no 1 W).mono ?_
    rintro e w' ⟨rfl, rfl⟩
    refine ⟨rfl, HBW.out, ?_⟩
    have hv : validG g = false := by
      unfold validG
      have : decide (1 ≤ g.lim.length ∧ g.lim.length ≤ 4) = false := by
        unfold inN at hb1
        rw [← HNL.out]
        rw [decide_eq_false_iff_not] at hb1 ⊢
        omega
      rw [this]; rfl
    rw [hv]
    rfl
  | true =>
    have hn4 : 1 ≤ nl ∧ nl ≤ 4 := by unfold inN at hb1; rw [decide_eq_true_eq] at hb1; omega
    clear hb1
    go_wp2_with fail
    refine (gwithin_any st 0 10 W).mono ?_
    rintro e w' ⟨rfl, rfl⟩
    dsimp only
    cases hb2 : inN st 0 10 with
    | false =>
      go_wp2_with fail
      refine (gmust_no 1 W).mono ?_
      rintro e w' ⟨rfl, rfl⟩
      refine ⟨rfl, HBW.out, ?_⟩
      have hv : validG g = false := by
        unfold validG
        have : decide (0 ≤ g.step ∧ g.step ≤ 10) = false := by
          unfold inN at hb2
          rw [← HST.out]
          exact hb2
        rw [this, Bool.and_false]; rfl
      rw [hv]
      rfl
    | true =>
      have hst9 : 0 ≤ st ∧ st ≤ 10 := by unfold inN at hb2; rw [decide_eq_true_eq] at hb2; omega
      have HST9 := Lib.hid hst9
      clear hb2 hst9
      go_wp2_with fail
      refine (gmust_ok 1 W).mono ?_
      rintro e w' ⟨rfl, rfl⟩
      dsimp only
      go_upto_region 2 with fail
      clear c0 c11
      obtain ⟨gq, hgq⟩ : ∃ g, g = W.heap.size := ⟨_, rfl⟩
      go_upto_region 3 with (refine wpList_store_row rfl 82 _ _ rfl W.heap.size #[.int .i64 0, .int .i64 0] rfl rfl 82 _ (heap_alloc_at _ _ _ rfl) (by kernel_rfl) rfl (by simp [Value.oneCell']) ?_)
      refine wp_name (fun W1 => W1.heap[gq]? = some (.cells #[.int .i64 0, .int .i64 0] 82 (0, 0)) ∧ Below W.heap.size W W1) ⟨by rw [hgq]; exact setRow_heap _ _ _ _ _ _ (heap_alloc_at _ _ _ rfl), (below_allocG _ _).trans ((Keeps.setRow (Mut := fun k => k = W.heap.size) _ _ _ rfl).below (by simp) (fun k h e => by omega))⟩ ?_
      rintro W1 ⟨h1, h2⟩
      rw [← hgq]
      have HQ := Lib.hid h1
      have HB1 := Lib.hid h2
      have HGQ := Lib.hid hgq
      have HBw1 := Lib.hid (HBW.out.trans (h2.mono HBW.out.size))
      have HRb := Lib.hid ((h2.block _ (lt_of_block HR.out)).trans HR.out)
      clear h1 h2 hgq
      have c0 : W1.cell? ⟨gb, 0, none⟩ = some (.slice ao nl cap) := by rw [cell_of_row _ _ _ _ _ _ HRb.out]; rfl
      go_wp2_with fail
      clear c0
      go_loopw [25] (fun iv wr => ∃ i : Nat, i ≤ nl ∧ iv = .int .i64 i ∧ Keeps (fun k => k = gq) W1 wr ∧ wr.heap[gq]? = some (.cells #[.int .i64 (lastG g.lim i).1, .int .i64 (lastG g.lim i).2] 82 (0, 0)) ∧ ∀ j (h : j < g.lim.length), j < i → limOk (lastG g.lim j) g.lim[j] = true) (fun iv _ => nl - (intOf iv).toNat)
      case atStart => exact ⟨0, Nat.zero_le _, rfl, Keeps.refl _ _, HQ.out, fun j h hj => absurd hj (by omega)⟩
      case round =>
        obtain ⟨i, hi, rfl, hk, hqr, hok⟩ := hrel
        have HK := Lib.hid hk
        have HQR := Lib.hid hqr
        have HOK := Lib.hid hok
        have HBr := Lib.hid (HBw1.out.trans (hk.below (B := w.heap.size) HBw1.out.size (fun k h e => by have := HGQ.out; have := HBW.out.size; omega)))
        clear hk hqr hok
        by_cases hlt : i < nl
        · have hw : IntKind.i64.wrap ((i : Int) + 1) = ((i + 1 : Nat) : Int) := by rw [IntWalk.i64_in _ (by omega)]; omega
          have hlti : (i : Int) < (nl : Int) := by omega
          have hi0 : 0 ≤ (i : Int) := by omega
          obtain ⟨ae, ce, e1, _, _, e2⟩ := HL.out
          obtain ⟨eb, off, e3, hgw, _, d3, d4⟩ := e2 i (by rw [← HNL.out]; exact hlt)
          injection e1 with e1 e0 e4
          subst e1 e4 e3
          clear e0 e2
          have q3 : wr.cell? ⟨eb, off + i * 2, none⟩ = some (.int .i64 (g.lim[i]'(by rw [← HNL.out]; exact hlt)).1) := (World.cell?_of_block (w := w) (w' := wr) (a := ⟨eb, off + i * 2, none⟩) (HBr.out.block eb hgw)).trans d3
          have q4 : wr.cell? ⟨eb, off + i * 2 + 1, none⟩ = some (.int .i64 (g.lim[i]'(by rw [← HNL.out]; exact hlt)).2) := (World.cell?_of_block (w := w) (w' := wr) (a := ⟨eb, off + i * 2 + 1, none⟩) (HBr.out.block eb hgw)).trans d4
          clear d3 d4 hgw
          obtain ⟨⟨a, b⟩, hab⟩ : ∃ x, x = g.lim[i]'(by rw [← HNL.out]; exact hlt) := ⟨_, rfl⟩
          obtain ⟨⟨la, lb⟩, hlab⟩ : ∃ x, x = lastG g.lim i := ⟨_, rfl⟩
          rw [← hab] at q3 q4
          have HQR2 := HQR.out
          rw [← hlab] at HQR2
          have HQQ := Lib.hid HQR2
          have HAB := Lib.hid (And.intro hab hlab)
          clear HQR HQR2 hab hlab
          dsimp only at q3 q4
          obtain ⟨gm, hgm⟩ : ∃ g, g = wr.heap.size := ⟨_, rfl⟩
          go_upto_region 6 with (refine wpList_store_row rfl 82 _ _ rfl wr.heap.size #[.int .i64 a, .int .i64 b] rfl rfl 82 _ (heap_alloc_at _ _ _ rfl) (by kernel_rfl) rfl (by simp [Value.oneCell']) ?_)
          refine wp_name (fun W5 => W5.heap[gm]? = some (.cells #[.int .i64 a, .int .i64 b] 82 (0, 0)) ∧ Below wr.heap.size wr W5) ⟨by rw [hgm]; exact setRow_heap _ _ _ _ _ _ (heap_alloc_at _ _ _ rfl), (below_allocG _ _).trans ((Keeps.setRow (Mut := fun k => k = wr.heap.size) _ _ _ rfl).below (by simp) (fun k h e => by omega))⟩ ?_
          rintro W5 ⟨h1, h2⟩
          rw [← hgm]
          have HM := Lib.hid h1
          have HB5 := Lib.hid h2
          have hq5 := (h2.block _ (lt_of_block HQQ.out)).trans HQQ.out
          have HQ5 := Lib.hid hq5
          have HBw5 := Lib.hid (HBr.out.trans (h2.mono HBr.out.size))
          have m0 : W5.cell? ⟨gm, 0, none⟩ = some (.int .i64 a) := by rw [cell_of_row _ _ _ _ _ _ h1]; rfl
          have m1 : W5.cell? ⟨gm, 1, none⟩ = some (.int .i64 b) := by rw [cell_of_row _ _ _ _ _ _ h1]; rfl
          have n0 : W5.cell? ⟨gq, 0, none⟩ = some (.int .i64 la) := by rw [cell_of_row _ _ _ _ _ _ hq5]; rfl
          have n1 : W5.cell? ⟨gq, 1, none⟩ = some (.int .i64 lb) := by rw [cell_of_row _ _ _ _ _ _ hq5]; rfl
          clear h1 h2 hq5 q3 q4 hgm
          go_wp2_with fail
          refine (gwithin_any a la 20 W5).mono ?_
          rintro e w' ⟨rfl, rfl⟩
          dsimp only
          cases hb3 : inN a la 20 with
          | false =>
            go_wp2_with fail
            refine (gmust_no 1 W5).mono ?_
            rintro e w' ⟨rfl, rfl⟩
            refine ⟨rfl, HBw5.out, ?_⟩
            have hv : validG g = false := valid_lim (i := i) (by rw [← HNL.out]; exact hlt) (by
              rw [← HAB.out.1, ← HAB.out.2]
              unfold limOk inN at *
              rw [hb3, Bool.false_and])
            rw [hv]
            rfl
          | true =>
            have HB3 := Lib.hid hb3
            clear hb3
            go_wp2_with fail
            refine (gwithin_any b lb 20 W5).mono ?_
            rintro e w' ⟨rfl, rfl⟩
            dsimp only
            cases hb4 : inN b lb 20 with
            | false =>
              go_wp2_with fail
              refine (gmust_no 1 W5).mono ?_
              rintro e w' ⟨rfl, rfl⟩
              refine ⟨rfl, HBw5.out, ?_⟩
              have hv : validG g = false := valid_lim (i := i) (by rw [← HNL.out]; exact hlt) (by
                rw [← HAB.out.1, ← HAB.out.2]
                unfold limOk inN at *
                rw [hb4, Bool.and_false])
              rw [hv]
              rfl
            | true =>
              have HB4 := Lib.hid hb4
              clear hb4
              go_wp2_with fail
              refine (gmust_ok 1 W5).mono ?_
              rintro e w' ⟨rfl, rfl⟩
              dsimp only
              clear n0 n1
              go_wp2_with (refine wpList_store_row rfl 82 _ _ rfl gq #[.int .i64 a, .int .i64 b] rfl rfl 82 _ HQ5.out (by kernel_rfl) rfl (by simp [Value.oneCell']) ?_)
              have hll : lastG g.lim (i + 1) = (a, b) := by
                unfold lastG
                rw [if_neg (by omega), Nat.add_sub_cancel, List.getD_eq_getElem?_getD, List.getElem?_eq_getElem (by rw [← HNL.out]; exact hlt), HAB.out.1]
                rfl
              refine ⟨⟨i + 1, hlt, by push_cast; rfl, (HK.out.trans (Keeps.of_below HB5.out (fun k h1 h2 => absurd h2 (by omega)))).trans (Keeps.setRow _ _ _ rfl), ?_, fun j h hj => ?_⟩, by simp [intOf]; omega⟩
              · rw [hll]
                exact setRow_heap _ _ _ _ _ _ HQ5.out
              · rcases Nat.lt_or_ge j i with hji | hji
                · exact HOK.out j h hji
                · have : j = i := by omega
                  subst this
                  rw [← HAB.out.1, ← HAB.out.2]
                  have h3 := HB3.out
                  have h4 := HB4.out
                  unfold limOk
                  unfold inN at h3 h4
                  rw [h3, h4]; rfl
        · have hin : nl = i := by omega
          subst hin
          have hlti : ¬ (nl : Int) < (nl : Int) := by omega
          clear hlt
          obtain ⟨wo, hwo⟩ : ∃ W, W = wr := ⟨_, rfl⟩
          subst hwo
          go_upto_region 9 with fail
          obtain ⟨⟨a0, b0⟩, ⟨a1, b1⟩, ⟨a2, b2⟩, ⟨a3, b3⟩, ⟨a4, b4⟩, hpts⟩ := list5' HP.out
          have hrr := (HK.out.block gb (lt_of_block HRb.out) (fun e => by have := HGQ.out; have := lt_of_block HR.out; omega)).trans HRb.out
          rw [hpts] at hrr
          have e1 : wo.cell? ⟨gb, 1, none⟩ = some (.int .i64 a0) := by rw [cell_of_row _ _ _ _ _ _ hrr]; rfl
          have e2 : wo.cell? ⟨gb, 2, none⟩ = some (.int .i64 b0) := by rw [cell_of_row _ _ _ _ _ _ hrr]; rfl
          have e3 : wo.cell? ⟨gb, 3, none⟩ = some (.int .i64 a1) := by rw [cell_of_row _ _ _ _ _ _ hrr]; rfl
          have e4 : wo.cell? ⟨gb, 4, none⟩ = some (.int .i64 b1) := by rw [cell_of_row _ _ _ _ _ _ hrr]; rfl
          have e5 : wo.cell? ⟨gb, 5, none⟩ = some (.int .i64 a2) := by rw [cell_of_row _ _ _ _ _ _ hrr]; rfl
          have e6 : wo.cell? ⟨gb, 6, none⟩ = some (.int .i64 b2) := by rw [cell_of_row _ _ _ _ _ _ hrr]; rfl
          have e7 : wo.cell? ⟨gb, 7, none⟩ = some (.int .i64 a3) := by rw [cell_of_row _ _ _ _ _ _ hrr]; rfl
          have e8 : wo.cell? ⟨gb, 8, none⟩ = some (.int .i64 b3) := by rw [cell_of_row _ _ _ _ _ _ hrr]; rfl
          have e9 : wo.cell? ⟨gb, 9, none⟩ = some (.int .i64 a4) := by rw [cell_of_row _ _ _ _ _ _ hrr]; rfl
          have e10 : wo.cell? ⟨gb, 10, none⟩ = some (.int .i64 b4) := by rw [cell_of_row _ _ _ _ _ _ hrr]; rfl
          have HPT := Lib.hid hpts
          have HRR := Lib.hid hrr
          clear hpts hrr
          go_wp2_with fail
          clear e1 e2 e3 e4 e5 e6 e7 e8 e9 e10
          go_loopw [46] (fun iv wq => ∃ i : Nat, i ≤ 5 ∧ iv = .int .i64 i ∧ Below wo.heap.size wo wq ∧ ∀ j (h : j < g.pts.length), j < i → ptOk g.pts[j] = true) (fun iv _ => 5 - (intOf iv).toNat)
          case atStart => exact ⟨0, by decide, rfl, Below.refl _ _, fun j h hj => absurd hj (by omega)⟩
          case round =>
            obtain ⟨i, hi, rfl, hbq, hok⟩ := hrel
            have HBQ := Lib.hid hbq
            have HOP := Lib.hid hok
            have HBwq := Lib.hid (HBr.out.trans (hbq.mono HBr.out.size))
            clear hbq hok
            by_cases hl5 : i < 5
            · have hw : IntKind.i64.wrap ((i : Int) + 1) = ((i + 1 : Nat) : Int) := by rw [IntWalk.i64_in _ (by omega)]; omega
              have hlti : (i : Int) < 5 := by omega
              have hi0 : 0 ≤ (i : Int) := by omega
              obtain ⟨gs, hgs⟩ : ∃ g, g = wr.heap.size := ⟨_, rfl⟩
              obtain ⟨a, b, hab, hidx⟩ := index5 a0 b0 a1 b1 a2 b2 a3 b3 a4 b4 wr i hl5
              rw [← HPT.out] at hab
              have HAB := Lib.hid hab
              clear hab
              go_upto_region 12 with (refine wpList_store_row rfl 37 _ _ rfl wr.heap.size #[.int .i64 a, .int .i64 b] rfl rfl 37 _ (heap_alloc_at _ _ _ rfl) (by kernel_rfl) rfl (by simp [Value.oneCell']) ?_)
              refine wp_name (fun W6 => W6.heap[gs]? = some (.cells #[.int .i64 a, .int .i64 b] 37 (0, 0)) ∧ Below wr.heap.size wr W6) ⟨by rw [hgs]; exact setRow_heap _ _ _ _ _ _ (heap_alloc_at _ _ _ rfl), (below_allocG _ _).trans ((Keeps.setRow (Mut := fun k => k = wr.heap.size) _ _ _ rfl).below (by simp) (fun k h e => by omega))⟩ ?_
              rintro W6 ⟨h1, h2⟩
              rw [← hgs]
              have HBw6 := Lib.hid (HBwq.out.trans (h2.mono HBwq.out.size))
              have HBq6 := Lib.hid (HBQ.out.trans (h2.mono HBQ.out.size))
              have m0 : W6.cell? ⟨gs, 0, none⟩ = some (.int .i64 a) := by rw [cell_of_row _ _ _ _ _ _ h1]; rfl
              have m1 : W6.cell? ⟨gs, 1, none⟩ = some (.int .i64 b) := by rw [cell_of_row _ _ _ _ _ _ h1]; rfl
              clear h1 h2 hgs hidx
              by_cases p1 : -20 ≤ a
              · by_cases p2 : a ≤ b
                · by_cases p3 : b ≤ 20
                  · have hwr : IntKind.i64.wrap (b - a) = b - a := IntWalk.i64_in _ (by omega)
                    by_cases p4 : b - a ≤ 6
                    · go_wp2_with fail
                      refine (gmust_ok 1 W6).mono ?_
                      rintro e w' ⟨rfl, rfl⟩
                      dsimp only
                      clear m0 m1
                      go_wp2_with fail
                      refine ⟨⟨i + 1, hl5, by push_cast; rfl, HBq6.out, fun j h hj => ?_⟩, by simp [intOf]; omega⟩
                      rcases Nat.lt_or_ge j i with hji | hji
                      · exact HOP.out j h hji
                      · have : j = i := by omega
                        subst this
                        have hab := HAB.out
                        rw [List.getElem?_eq_getElem h] at hab
                        rw [Option.some.inj hab]
                        unfold ptOk
                        simp [p1, p2, p3, p4]
                    · skip
                      go_wp2_with fail
                      refine (gmust_no 1 W6).mono ?_
                      rintro e w' ⟨rfl, rfl⟩
                      refine ⟨rfl, HBw6.out, ?_⟩
                      have hv : validG g = false := valid_pt (s := (a, b)) (List.mem_of_getElem? HAB.out) (by unfold ptOk; rw [Bool.eq_false_iff]; simp only [ne_eq, Bool.and_eq_true, decide_eq_true_eq]; omega)
                      rw [hv]
                      rfl
                  · skip
                    go_wp2_with fail
                    refine (gmust_no 1 W6).mono ?_
                    rintro e w' ⟨rfl, rfl⟩
                    refine ⟨rfl, HBw6.out, ?_⟩
                    have hv : validG g = false := valid_pt (s := (a, b)) (List.mem_of_getElem? HAB.out) (by unfold ptOk; rw [Bool.eq_false_iff]; simp only [ne_eq, Bool.and_eq_true, decide_eq_true_eq]; omega)
                    rw [hv]
                    rfl
                · skip
                  go_wp2_with fail
                  refine (gmust_no 1 W6).mono ?_
                  rintro e w' ⟨rfl, rfl⟩
                  refine ⟨rfl, HBw6.out, ?_⟩
                  have hv : validG g = false := valid_pt (s := (a, b)) (List.mem_of_getElem? HAB.out) (by unfold ptOk; rw [Bool.eq_false_iff]; simp only [ne_eq, Bool.and_eq_true, decide_eq_true_eq]; omega)
                  rw [hv]
                  rfl
              · skip
                go_wp2_with fail
                refine (gmust_no 1 W6).mono ?_
                rintro e w' ⟨rfl, rfl⟩
                refine ⟨rfl, HBw6.out, ?_⟩
                have hv : validG g = false := valid_pt (s := (a, b)) (List.mem_of_getElem? HAB.out) (by unfold ptOk; rw [Bool.eq_false_iff]; simp only [ne_eq, Bool.and_eq_true, decide_eq_true_eq]; omega)
                rw [hv]
                rfl
            · have hi5 : i = 5 := by omega
              subst hi5
              have hvt : validG g = true := valid_all (by rw [← HNL.out]; exact hn4) (by rw [← HST.out]; exact HST9.out) (fun j h => HOK.out j h (by rw [HNL.out]; exact h)) (fun j h => HOP.out j h (by rw [HP.out] at h; exact h))
              have HVT := Lib.hid hvt
              clear hvt hl5
              cases is with
              | false =>
                go_wp2_with fail
                refine (gmust_no 2 wr).mono ?_
                rintro e w' ⟨rfl, rfl⟩
                refine ⟨rfl, HBwq.out, ?_⟩
                rw [HVT.out]
                rfl
              | true =>
                go_wp2_with fail
                refine (gmust_ok 2 wr).mono ?_
                rintro e w' ⟨rfl, rfl⟩
                dsimp only
                go_wp2_with fail
                rw [HST.out]
                have hrg := (HBQ.out.block gb (lt_of_block HRR.out)).trans HRR.out
                rw [← HPT.out, HST.out] at hrg
                exact gopen_end g HP.out HVT.out ao cap nl gb w wr HBwq.out hrg (lt_of_block hrg) HL.out HNL.out hn4 _ _ _ _ _ _ _ _ _ _ _ _ _ _ _ _ _ _ _ _ _ _ _ _ _ _ _ _ _ _ _ _ _ _ _ _ _ _ _ _ _ _ _ _ _ _ _ _ _ _ _ _ _ _ _ _ _ _ _ _ _ _ _ _ _ _ _ _ _ _ _ _ _ _ _ _ _ _ _ _ _ _ _ _ _ _ _ _ _ _ _ _ _ _ _ _ _ _ _ _
end Go.Proofs.Ytagjepclobobjaa

/- Iterators, and what ranges over one: rounds that work on memory that earlier rounds have made. -/
namespace Go.Proofs.Ytagjepclobobjaa
set_option linter.unusedVariables false
set_option linter.unusedSimpArgs false
open Go.RowKit

/-- A function value yields these, one after the other, as long as it is told to go on. -/
def SeqG {α : Type} (P : Program) (g : FuncId) (lb : Array Value) (encs : α → Array Value) (xs : List α) (Rd : Nat → Prop) (W : World) : Prop :=
  ∀ (l : Nat) (Mut : Nat → Prop) (J Jx : List α → (Nat → Prop) → World → Prop),
    (∀ k, Mut k → k < W.heap.size ∧ ¬ Rd k) → Stable W.heap.size J → Stable W.heap.size Jx →
    (∀ pre x rest G W1, xs = pre ++ x :: rest → J pre G W1 → W.heap.size ≤ W1.heap.size → (∀ k, G k → W.heap.size ≤ k) → YieldAt Fence.wide 0 P l (encs x) W1 fun e W2 =>
      Keeps (fun k => Mut k ∨ G k) W1 W2 ∧ ((e = .returned (.bool true) ∧ J (pre ++ [x]) (Grow G W1 W2) W2) ∨ (e = .returned (.bool false) ∧ Jx (pre ++ [x]) (Grow G W1 W2) W2))) →
    J [] (fun _ => False) W →
    Calls P g (#[.func (.yield l) #[] #[]] ++ lb) W fun e W2 => (∃ v, e = .returned v) ∧ Keeps (fun k => Mut k ∨ W.heap.size ≤ k) W W2 ∧
      ∃ G, (J xs G W2 ∨ ∃ pre x rest, xs = pre ++ x :: rest ∧ Jx (pre ++ [x]) G W2)

/-- What is asked where a round's body ends. -/
def roundEndG {α : Type} (Mut : Nat → Prop) (I : List α → (Nat → Prop) → World → Prop) (Ix : Code → List α → (Nat → Prop) → World → Prop) (s : List α) (G : Nat → Prop) (W W2 : World) : Exit → Act → World → Prop
  | .normal, _, W3 => Keeps (fun k => Mut k ∨ G k) W2 W3 ∧ I s (Grow G W W3) W3
  | .ret, _, W3 => Keeps (fun k => Mut k ∨ G k) W2 W3 ∧ Ix .ret s (Grow G W W3) W3
  | .exit id, _, W3 => Keeps (fun k => Mut k ∨ G k) W2 W3 ∧ Ix (.exit id) s (Grow G W W3) W3
  | .goto t, _, W3 => Keeps (fun k => Mut k ∨ G k) W2 W3 ∧ Ix (.goto t) s (Grow G W W3) W3
  | _, _, _ => False

theorem wp_rangeG {α : Type} {P : Program} {g : Operand} {ps : Array Tmp} {assign body : Code} {Q : Exit → Act → World → Prop} {a : Act} {w : World} {gf : Nat} {lb : Array Value}
    (hg : a.eval g = .func (.func gf) #[] lb) (eg : ∀ args w, (callFunc gf args).run P w = .ok (.enter gf args) w)
    {encs : α → Array Value} (hps : ∀ x, (encs x).size = ps.size) (Rd Mut : Nat → Prop) (hRd : ∀ k, Rd k → k < w.heap.size) (hM : ∀ k, Mut k → k < w.heap.size ∧ ¬ Rd k) (xs : List α)
    (hseq : ∀ W, Below w.heap.size w W → SeqG P gf lb encs xs Rd W)
    (I : List α → (Nat → Prop) → World → Prop) (Ix : Code → List α → (Nat → Prop) → World → Prop) (hI : Stable w.heap.size I) (hIx : ∀ c, Stable w.heap.size (Ix c)) (h0 : I [] (fun _ => False) w)
    (hround : ∀ l pre x rest G W, xs = pre ++ x :: rest → I pre G W → w.heap.size ≤ l → l < W.heap.size → (∀ k, G k → l < k) →
      assign.wpIn (Fence.wide.inRound l) 0 P (Exit.then (fun a₁ W₁ => Keeps (fun k => Mut k ∨ G k) W W₁ ∧ ∀ W₂, Keeps (fun k => k = l) W₁ W₂ → W₂.heap.size = W₁.heap.size →
        body.wpIn (Fence.wide.inRound l) 0 P (roundEndG Mut I Ix (pre ++ [x]) G W W₂) a₁ W₂) (fun _ _ _ => False))
        { tmps := (ps.zip (encs x)).foldl (fun t (p, v) => t.setIfInBounds p v) a.tmps, defers := [] } W)
    (hdone : ∀ D G W, I xs G W → (∀ k, G k → D < k) → Keeps (fun k => Mut k ∨ w.heap.size ≤ k) w W → W.heap[D]? = some (.deferred (some [])) → w.heap.size ≤ D →
      Q .normal { a with defers := { target := .collected D, args := #[] } :: a.defers } W)
    (hstop : ∀ D c pre x rest G W, xs = pre ++ x :: rest → Ix c (pre ++ [x]) G W → (∀ k, G k → D < k) → Keeps (fun k => Mut k ∨ w.heap.size ≤ k) w W → W.heap[D]? = some (.deferred (some [])) → w.heap.size ≤ D →
      c.wp P Q { a with defers := { target := .collected D, args := #[] } :: a.defers } W) :
    (Code.rangeFunc g ps assign body).wp P Q a w := by
  refine (wpIn_wide (n := 0)).1 (wpIn_rangeFunc ?_)
  intro fn hfn
  obtain ⟨rec, hrec⟩ : ∃ rec : LoopState → Option Code → Loop, rec = fun st pe => { state := st, pending := pe, fn, tmps := a.tmps, params := ps, assign, body, defers := w.heap.size } := ⟨_, rfl⟩
  obtain ⟨W1, hW1⟩ : ∃ W1, (w.alloc (.deferred (some []))).alloc (.loop (rec .ready none)) = W1 := ⟨_, rfl⟩
  have hsz : W1.heap.size = w.heap.size + 2 := by rw [← hW1]; simp
  have hL1 : W1.heap[w.heap.size + 1]? = some (.loop (rec .ready none)) := by rw [← hW1]; exact heap_alloc_at _ _ _ (by simp)
  have hK1 : W1.heap[w.heap.size]? = some (.deferred (some [])) := by rw [← hW1]; exact (hget_old _ _ _ (by simp)).trans (heap_alloc_at _ _ _ rfl)
  have hkw : ∀ M : Nat → Prop, Keeps M w W1 := fun M => by rw [← hW1]; exact (Keeps.alloc _ _ _).trans (Keeps.alloc _ _ _)
  have hb1 : Below w.heap.size w W1 := (hkw (fun _ => False)).below (Nat.le_refl _) (fun _ _ h => h)
  refine ⟨w.heap.size + 1, [{ target := .collected w.heap.size, args := #[] }], W1, { target := .fn (.func gf) lb, args := #[.func (.yield (w.heap.size + 1)) #[] #[]] }, W1, gf,
    #[.func (.yield (w.heap.size + 1)) #[] #[]] ++ lb, W1, ?_, ?_, fun _ _ => trivial, ?_, fun h => by simp [Fence.wide] at h, ?_⟩
  · rw [← hW1, hrec]; exact run_enterLoop_outer _ _ _ _ _
  · simp only [resolve, hg]
    simp [go_sem]
  · simp [invoke, go_sem, eg]
  refine callsIn_wide.2 ((hseq W1 hb1 (w.heap.size + 1) (fun k => Mut k ∨ k = w.heap.size + 1)
    (fun s G W => I s G W ∧ W.heap[w.heap.size + 1]? = some (.loop (rec .ready none)) ∧ W.heap[w.heap.size]? = some (.deferred (some [])) ∧ ∀ k, G k → w.heap.size + 2 ≤ k)
    (fun s G W => ∃ c, Ix c s G W ∧ W.heap[w.heap.size + 1]? = some (.loop (rec .done (some c))) ∧ W.heap[w.heap.size]? = some (.deferred (some [])) ∧ ∀ k, G k → w.heap.size + 2 ≤ k)
    ?_ ?_ ?_ ?_ ?_).mono ?_)
  · rintro k (hk | rfl)
    · exact ⟨by have := (hM k hk).1; omega, (hM k hk).2⟩
    · exact ⟨by omega, fun h => by have := hRd _ h; omega⟩
  · rintro s G A B ⟨hi, hl, hd, hG⟩ hk
    exact ⟨hI s G A B hi (hk.mono fun k _ h => ⟨by omega, h.2⟩), (hk.block _ (lt_of_block hl) (by omega)).trans hl, (hk.block _ (lt_of_block hd) (by omega)).trans hd, hG⟩
  · rintro s G A B ⟨c, hi, hl, hd, hG⟩ hk
    exact ⟨c, hIx c s G A B hi (hk.mono fun k _ h => ⟨by omega, h.2⟩), (hk.block _ (lt_of_block hl) (by omega)).trans hl, (hk.block _ (lt_of_block hd) (by omega)).trans hd, hG⟩
  · -- one round
    rintro pre x rest G W hxs ⟨hi, hl, hd, hG⟩ hWs _
    have hlt : w.heap.size + 1 < W.heap.size := by omega
    have hy := run_yield (P := P) (args := encs x) hl (by rw [hrec]; exact hps x)
    rw [hrec] at hy
    refine ⟨fn, _, assign, body, hy, roundIn_of_wpIn hfn (wpIn_mono (hround (w.heap.size + 1) pre x rest G W hxs hi (by omega) hlt (fun k h => by have := hG k h; omega)) ?_)⟩
    intro e a1 Wa hp
    cases e with
    | normal =>
      obtain ⟨hkm, hbody⟩ := hp
      have hla : Wa.heap[w.heap.size + 1]? = some (.loop (rec .ready none)) := (hkm.block _ hlt (fun h => h.elim (fun h => by have := (hM _ h).1; omega) (fun h => by have := hG _ h; omega))).trans hl
      have hda : Wa.heap[w.heap.size]? = some (.deferred (some [])) := (hkm.block _ (by omega) (fun h => h.elim (fun h => by have := (hM _ h).1; omega) (fun h => by have := hG _ h; omega))).trans hd
      refine ⟨_, run_beginRound hla (by rw [hrec]), ?_⟩
      refine wpIn_mono (hbody _ (Keeps.putObj _ _ _ rfl) (by simp)) ?_
      intro e2 a2 W3 hp
      have hl2 : (Wa.putObj (w.heap.size + 1) (.loop { rec .ready none with state := .busy })).heap[w.heap.size + 1]? = some (.loop { rec .ready none with state := .busy }) := World.putObj_heap_same (lt_of_block hla)
      have hd2 : (Wa.putObj (w.heap.size + 1) (.loop { rec .ready none with state := .busy })).heap[w.heap.size]? = some (.deferred (some [])) := (World.putObj_heap_other (by omega)).trans hda
      have fin : ∀ (jump : Option Code), Keeps (fun k => Mut k ∨ G k) (Wa.putObj (w.heap.size + 1) (.loop { rec .ready none with state := .busy })) W3 → ∃ W4,
          (Instr.endRound (w.heap.size + 1) jump).run P W3 = .ok (.bool jump.isNone) W4 ∧
          W4.heap[w.heap.size + 1]? = some (.loop (rec (if jump.isNone then .ready else .done) jump)) ∧ W4.heap[w.heap.size]? = some (.deferred (some [])) ∧
          Keeps (fun k => (Mut k ∨ k = w.heap.size + 1) ∨ G k) W W4 ∧ Keeps (fun k => k = w.heap.size + 1) W3 W4 ∧ W4.heap.size = W3.heap.size := fun jump hk3 => by
        have hs2 : (Wa.putObj (w.heap.size + 1) (.loop { rec .ready none with state := .busy })).heap.size = Wa.heap.size := by simp
        have hl3 := (hk3.block _ (by have := lt_of_block hl2; exact this) (fun h => h.elim (fun h => by have := (hM _ h).1; omega) (fun h => by have := hG _ h; omega))).trans hl2
        have hd3 := (hk3.block _ (by have := lt_of_block hd2; exact this) (fun h => h.elim (fun h => by have := (hM _ h).1; omega) (fun h => by have := hG _ h; omega))).trans hd2
        have hr := run_endRound (P := P) jump hl3
        refine ⟨_, hr, ?_, (World.putObj_heap_other (by omega)).trans hd3, ?_, Keeps.putObj _ _ _ rfl, by simp⟩
        · rw [World.putObj_heap_same (lt_of_block hl3), hrec]
        · exact (hkm.mono fun k _ h => h.elim (fun h => .inl (.inl h)) .inr).trans ((Keeps.putObj _ _ _ (.inl (.inr rfl))).trans ((hk3.mono fun k _ h => h.elim (fun h => .inl (.inl h)) .inr).trans (Keeps.putObj _ _ _ (.inl (.inr rfl)))))
      have hstep : ∀ (J : List α → (Nat → Prop) → World → Prop) (W4 : World), Stable w.heap.size J → J (pre ++ [x]) (Grow G W W3) W3 → Keeps (fun k => k = w.heap.size + 1) W3 W4 → W4.heap.size = W3.heap.size → J (pre ++ [x]) (Grow G W W4) W4 := fun J W4 hJ hj hk hs => by
        have : Grow G W W4 = Grow G W W3 := by unfold Grow; rw [hs]
        rw [this]
        refine hJ _ _ _ _ hj (hk.mono fun k _ h => ?_)
        subst h
        refine ⟨by omega, ?_⟩
        rintro (h | h)
        · have := hG _ h; omega
        · omega
      have hGG : ∀ W4 : World, ∀ k, Grow G W W4 k → w.heap.size + 2 ≤ k := by
        rintro W4 k (h | h)
        · exact hG k h
        · omega
      cases e2 with
      | normal =>
        obtain ⟨hk3, hi3⟩ := hp
        obtain ⟨W4, hr, hl4, hd4, hkk, hk4, hs4⟩ := fin none hk3
        exact ⟨_, _, hr, hkk, .inl ⟨rfl, hstep _ _ hI hi3 hk4 hs4, hl4, hd4, hGG _⟩⟩
      | ret =>
        obtain ⟨hk3, hi3⟩ := hp
        obtain ⟨W4, hr, hl4, hd4, hkk, hk4, hs4⟩ := fin (some .ret) hk3
        exact ⟨_, _, hr, hkk, .inr ⟨rfl, _, hstep _ _ (hIx _) hi3 hk4 hs4, hl4, hd4, hGG _⟩⟩
      | exit id =>
        obtain ⟨hk3, hi3⟩ := hp
        obtain ⟨W4, hr, hl4, hd4, hkk, hk4, hs4⟩ := fin (some (.exit id)) hk3
        exact ⟨_, _, hr, hkk, .inr ⟨rfl, _, hstep _ _ (hIx _) hi3 hk4 hs4, hl4, hd4, hGG _⟩⟩
      | goto t =>
        obtain ⟨hk3, hi3⟩ := hp
        obtain ⟨W4, hr, hl4, hd4, hkk, hk4, hs4⟩ := fin (some (.goto t)) hk3
        exact ⟨_, _, hr, hkk, .inr ⟨rfl, _, hstep _ _ (hIx _) hi3 hk4 hs4, hl4, hd4, hGG _⟩⟩
      | panic ch => exact hp.elim
      | outgrown => exact hp.elim
    | ret => exact hp.elim
    | exit id => exact hp.elim
    | goto t => exact hp.elim
    | panic ch => exact hp.elim
    | outgrown => exact hp.elim
  · exact ⟨hI _ _ _ _ h0 (hkw _), hL1, hK1, fun _ h => h.elim⟩
  · -- behind the iterator
    rintro e W2 ⟨⟨v, rfl⟩, hk, G, h⟩
    have hkk : ∀ o, Keeps (fun k => Mut k ∨ w.heap.size ≤ k) w (W2.putObj (w.heap.size + 1) o) := fun o =>
      ((hkw _).trans (hk.mono fun k _ h => h.elim (fun h => h.elim .inl fun e => .inr (by omega)) (fun h => .inr (by omega)))).trans (Keeps.putObj _ _ _ (.inr (by omega)))
    have hst : ∀ (J : List α → (Nat → Prop) → World → Prop) (s : List α) (o : Obj), Stable w.heap.size J → J s G W2 → (∀ k, G k → w.heap.size + 2 ≤ k) → J s G (W2.putObj (w.heap.size + 1) o) := fun J s o hJ hj hG =>
      hJ _ _ _ _ hj (Keeps.putObj _ _ _ ⟨by omega, fun h => by have := hG _ h; omega⟩)
    rcases h with ⟨hi, hl, hd, hG⟩ | ⟨pre, x, rest, hxs, c, hi, hl, hd, hG⟩
    · exact ⟨none, _, by have := run_endLoop (P := P) hl (by rw [hrec]; simp); rw [hrec] at this; exact this,
        hdone _ G _ (hst _ _ _ hI hi hG) (fun k h => by have := hG k h; omega) (hkk _) ((World.putObj_heap_other (by omega)).trans hd) (Nat.le_refl _)⟩
    · exact ⟨some c, _, by have := run_endLoop (P := P) hl (by rw [hrec]; simp); rw [hrec] at this; exact this,
        wpIn_wide.2 (hstop _ c pre x rest G _ hxs (hst _ _ _ (hIx c) hi hG) (fun k h => by have := hG k h; omega) (hkk _) ((World.putObj_heap_other (by omega)).trans hd) (Nat.le_refl _))⟩


end Go.Proofs.Ytagjepclobobjaa

/- Package grade: the iterator of all truths: its recursion, at the end. -/
namespace Go.Proofs.Ytagjepclobobjaa
set_option linter.unusedVariables false
set_option linter.unusedSimpArgs false
open Go.RowKit Go.Shelf
attribute [local go_sem] Oper.semAt_some

/-- What the recursion finds in memory: the yield, the block so far, the bench, itself. -/
structure OnW (yb ob bb nb bp l : Nat) (row : Array Value) (b : List Int) (W : World) : Prop where
  y : W.heap[yb]? = some (.cells #[.func (.yield l) #[] #[]] 162 (0, 0))
  o : ∃ junk : List Int, (b ++ junk).length = 5 ∧ W.heap[ob]? = some (.cells ((b ++ junk).map (Value.int .i64)).toArray 156 (0, 0))
  c : W.heap[bb]? = some (.cells #[.pointer (some ⟨bp, 0, none⟩)] 118 (0, 0))
  n : W.heap[nb]? = some (.cells #[.func (.func 90) #[] #[.pointer (some ⟨yb, 0, none⟩), .pointer (some ⟨ob, 0, none⟩), .pointer (some ⟨bb, 0, none⟩), .pointer (some ⟨nb, 0, none⟩)]] 134 (0, 0))
  p : W.heap[bp]? = some (.cells row 154 (0, 0))
/-- What the recursion comes to. -/
def OnR (base ob : Nat) (Mut : Nat → Prop) (J Jx : List (List Int) → (Nat → Prop) → World → Prop) (xs : List (List Int)) (g : GradeD) (m : Nat) (b : List Int) (pre : List (List Int)) (W1 : World) (e : Ending) (W2 : World) : Prop :=
  Keeps (fun k => Mut k ∨ k = ob) W1 W2 ∧ (∃ junk : List Int, (b ++ junk).length = 5 ∧ W2.heap[ob]? = some (.cells ((b ++ junk).map (Value.int .i64)).toArray 156 (0, 0))) ∧ ((e = .returned (.bool true) ∧ ∃ G, J (pre ++ fromG g m b) G W2 ∧ ∀ k, G k → base ≤ k) ∨ (e = .returned (.bool false) ∧ ∃ G p x r, xs = p ++ x :: r ∧ Jx (p ++ [x]) G W2))
def encX (x : List Int) : Array Value := #[ptsV x]
set_option maxRecDepth 100000 in
set_option maxHeartbeats 4000000 in
theorem on_base (g : GradeD) (yb ob bb nb bp l base : Nat) (row : Array Value) (Mut : Nat → Prop) (J Jx : List (List Int) → (Nat → Prop) → World → Prop) (xs : List (List Int)) (b : List Int) (hb : b.length = 5) (pre rest : List (List Int)) (G : Nat → Prop) (W0 W1 : World)
    (hY : ∀ pre x rest G W1, xs = pre ++ x :: rest → J pre G W1 → W0.heap.size ≤ W1.heap.size → YieldAt Fence.wide 0 Try.prog l (encX x) W1 fun e W2 =>
      Keeps Mut W1 W2 ∧ ((e = .returned (.bool true) ∧ J (pre ++ [x]) (Grow G W1 W2) W2) ∨ (e = .returned (.bool false) ∧ Jx (pre ++ [x]) (Grow G W1 W2) W2)))
    (hmo : ¬ Mut ob) (hxs : xs = pre ++ b :: rest) (hJ : J pre G W1) (hG : ∀ k, G k → base ≤ k) (hsz : W0.heap.size ≤ W1.heap.size) (hbs : base ≤ W1.heap.size) (hW : OnW yb ob bb nb bp l row b W1) :
    CallsIn Fence.wide 0 Try.prog 90 #[.int .i64 5, .pointer (some ⟨yb, 0, none⟩), .pointer (some ⟨ob, 0, none⟩), .pointer (some ⟨bb, 0, none⟩), .pointer (some ⟨nb, 0, none⟩)] W1 (OnR base ob Mut J Jx xs g 0 b pre W1) := by
  have HY := Lib.hid (hY _ _ _ _ _ hxs hJ hsz)
  have HXS := Lib.hid hxs
  have HG := Lib.hid hG
  obtain ⟨junk, hj, ho⟩ := hW.o
  have hjn : junk = [] := by
    rw [List.length_append] at hj
    exact List.eq_nil_of_length_eq_zero (by omega)
  subst hjn
  rw [List.append_nil] at ho
  have hy := hW.y
  clear hY hxs hJ hG hW hj hsz
  obtain ⟨a0, a1, a2, a3, a4, he⟩ := list5 hb
  subst he
  obtain ⟨d0, d1, d2, d3, d4⟩ := S5.cells (W := W1) ho
  have y0 : W1.cell? ⟨yb, 0, none⟩ = some (.func (.yield l) #[] #[]) := cell_of_row _ _ 0 _ _ _ hy
  have HO := Lib.hid ho
  clear ho hy hb
  refine callsIn_of_wp (F := Fence.wide) (n := 0) Try.func90 rfl trivial ?_ rfl
  simp only [Try.ntmps90, List.size_toArray, List.length_cons, List.length_nil, Nat.reduceAdd, Nat.reduceSub, Array.replicate_succ, Array.replicate_zero, List.push_toArray, List.append_toArray, List.nil_append, List.cons_append]
  gi_wp2
  refine wpIn_wide.2 (wp_scope_straight ((wpIn_wide (n := 0)).1 ?_))
  have hYY := HY.out
  unfold encX at hYY
  rw [ptsV5] at hYY
  obtain ⟨fn, tmps, assign, body, hyy, hR⟩ := hYY
  gi_wp2
  refine ⟨rfl, hR.mono ?_⟩
  rintro e W3 ⟨hk3, ⟨rfl, hj3⟩ | ⟨rfl, hj3⟩⟩
  · gi_wp2
    simp only [Exit.noGoto]
    refine ⟨rfl, .bool true, by kernel_rfl, hk3.mono (fun k _ h => Or.inl h), ⟨[], rfl, (hk3.block _ (lt_of_block HO.out) hmo).trans HO.out⟩, .inl ⟨rfl, Grow G W1 W3, hj3, fun k h => ?_⟩⟩
    rcases h with h | h
    · exact HG.out k h
    · exact Nat.le_trans hbs h.1
  · gi_wp2
    simp only [Exit.noGoto]
    exact ⟨rfl, .bool false, by kernel_rfl, hk3.mono (fun k _ h => Or.inl h), ⟨[], rfl, (hk3.block _ (lt_of_block HO.out) hmo).trans HO.out⟩, .inr ⟨rfl, _, _, _, _, HXS.out, hj3⟩⟩
end Go.Proofs.Ytagjepclobobjaa
