/- Texts Fe in one file; each begins with a word on what it proves. -/
import Derived.Test.YtagjepclobobjaaVl

/- Statements about lots: long; alive. -/
namespace Go.Proofs.Ytagjepclobobjaa
set_option linter.unusedVariables false
set_option linter.unusedSimpArgs false
open Go.RowKit Go.Shelf
attribute [local go_sem] Oper.semAt_some

theorem max2_int (p q : Int) : Builtin.max2 (.int .i64 p) (.int .i64 q) = pure (.int .i64 (max p q)) := by
  unfold Builtin.max2
  dsimp only
  congr 2
  split <;> omega
theorem wpList_max5 {w : World} {ops : Array Oper} {rest : List Oper} {o : Oper} {a : Act} {Q : Exit → Act → World → Prop} (hgd : o.guard = none) (x y z u v : Operand)
    (ho : o.op = .call { callee := .builtin .max, args := #[x, y, z, u, v], argTypes := #[3, 3, 3, 3, 3] }) (hty : o.type = 3) (p q r s t m : Int) (hx : a.eval x = .int .i64 p) (hy : a.eval y = .int .i64 q) (hz : a.eval z = .int .i64 r) (hu : a.eval u = .int .i64 s) (hv : a.eval v = .int .i64 t)
    (hm : max (max (max (max p q) r) s) t = m) (h : wpList Try.prog ops Q rest (a.put o.dst (.int .i64 m)) w) : wpList Try.prog ops Q (o :: rest) a w := by
  refine wpList_plain hgd fun K hK => ?_
  unfold Oper.wp execOp
  simp only [ho, resolve, invoke, builtin, Sem.run_bind, Sem.run_pure, Result.andThen_ok, List.map_toArray, List.map_cons, List.map_nil, hx, hy, hz, hu, hv, hty]
  have hr : (Builtin.max_ #[3, 3, 3, 3, 3] 3 #[Value.int IntKind.i64 p, Value.int IntKind.i64 q, Value.int IntKind.i64 r, Value.int IntKind.i64 s, Value.int IntKind.i64 t]).run Try.prog w = .ok (.int .i64 m) w := by
    rw [← hm]
    simp [Builtin.max_, List.foldlM, max2_int, go_sem]
  rw [hr]
  exact hK _ _ h
def longL (l : LotD) (n : Nat) : Nat := max (max (max (max l.lim.length l.blocks.length) l.pays.length) l.orders.length) n
set_option maxRecDepth 100000 in
set_option maxHeartbeats 4000000 in
theorem long13_any (l : LotD) (p : PartsL) (n cap : Nat) (ao : Option Addr) (w : World) (hlot : LotAt l p (fun k => k < w.heap.size) w) :
    Calls Try.prog 18 #[lotV l p, .slice ao n cap] w fun e w' => e = .returned (.bool (decide (40 < longL l n))) ∧ Below w.heap.size w w' := by
  obtain ⟨lim, step, blocks, pays, lap, orders⟩ := l
  obtain ⟨lims, blks, pv, ords⟩ := p
  obtain ⟨h1, h2, h3, h4⟩ := hlot
  obtain ⟨ao1, cap1, rfl, -⟩ := h1
  obtain ⟨ao2, cap2, rfl, -⟩ := h2
  obtain ⟨ao3, cap3, rfl, -⟩ := h3
  obtain ⟨ao4, cap4, rfl, -⟩ := h4
  obtain ⟨x, hx⟩ : ∃ x : Nat, x = longL ⟨lim, step, blocks, pays, lap, orders⟩ n := ⟨_, rfl⟩
  rw [← hx]
  unfold lotV lotC longL at *
  dsimp only at *
  generalize lim.length = a at *
  generalize blocks.length = b at *
  generalize pays.length = c at *
  generalize orders.length = d at *
  have hmm : max (max (max (max (a : Int) (b : Int)) (c : Int)) (d : Int)) (n : Int) = (x : Int) := by omega
  clear hx
  go_enter Try.func18, Try.ntmps18
  go_wp2_with (first | (refine wpList_max5 rfl (.tmp 7) (.tmp 10) (.tmp 13) (.tmp 16) (.tmp 18) rfl rfl (a : Int) (b : Int) (c : Int) (d : Int) (n : Int) _ rfl rfl rfl rfl rfl hmm ?_))
  go_ret
  refine ⟨congrArg (fun b => Ending.returned (Value.bool b)) ?_, below_allocG _ _⟩
  show decide _ = decide _
  rw [decide_eq_decide]
  omega
def SmpR : Nat → Prop := fun _ => True
theorem s_small : Small9 sampleL := ⟨by decide, by decide, by decide, by decide⟩
section
variable {p : PartsL} {w : World} (h : LotAt sampleL p (fun k => k < w.heap.size) w)
include h
theorem al13_1 : Calls Try.prog 9 #[lotV sampleL p, .int .i64 3] w fun e w' => e = .returned (.tuple #[.int .i64 2, .int .i64 0]) ∧ Below w.heap.size w w' := by
  have := lSells_any sampleL p 3 w h s_small; rw [s_sells] at this; exact this
theorem al13_2 : Calls Try.prog 12 #[lotV sampleL p, .int .i64 0] w fun e w' => e = .returned (.tuple #[.agg #[.int .i64 20, .int .i64 30], .int .i64 0]) ∧ Below w.heap.size w w' := by
  have := lWorth_any sampleL p 0 w h s_small; rw [s_worth] at this; exact this
theorem al13_3 : Calls Try.prog 19 #[lotV sampleL p] w fun e w' => e = .returned (.tuple #[.agg #[.int .i64 55, .int .i64 65], .int .i64 0]) ∧ Below w.heap.size w w' := by
  have := lValue_any sampleL p w h s_small; rw [s_value] at this; exact this
theorem al13_4 : Calls Try.prog 11 #[lotV sampleL p, .int .i64 0] w fun e w' => e = .returned (.tuple #[.int .i64 0, .bool true, .int .i64 22, .int .i64 0]) ∧ Below w.heap.size w w' := by
  have := lBest_any sampleL p 0 w h s_small; rw [s_best] at this; exact this
theorem al13_5 : Calls Try.prog 20 #[lotV sampleL p] w fun e w' => e = .returned (.tuple #[.int .i64 4, .int .i64 4, .int .i64 0]) ∧ Below w.heap.size w w' := by
  have := lScrap_any sampleL p w h s_small (by decide); rw [s_scrap] at this; exact this
theorem al13_6 : Calls Try.prog 28 #[lotV sampleL p] w fun e w' => Below w.heap.size w w' ∧ ∃ v, e = .returned (.tuple #[.int .i64 2, v, .int .i64 0]) ∧ NumsAt w' v [1, 0, -1, -1] (fun k => w.heap.size ≤ k) := by
  have := lDeliver_any sampleL p w h s_small; rw [s_deliver] at this; exact this
end
/-- Boxes that hold spans, made since a world. -/
def BoxL (l : List (Nat × Int × Int)) (w0 w : World) : Prop := (∀ b ∈ l, w.heap[b.1]? = some (.cells #[.int .i64 b.2.1, .int .i64 b.2.2] 37 (0, 0))) ∧ Below w0.heap.size w0 w
theorem BoxL.later {l : List (Nat × Int × Int)} {w0 w W : World} (h : BoxL l w0 w) (hb : Below w.heap.size w W) : BoxL l w0 W :=
  ⟨fun b hbl => (hb.block _ (lt_of_block (h.1 b hbl))).trans (h.1 b hbl), h.2.trans (hb.mono h.2.size)⟩
theorem BoxL.alloc {l : List (Nat × Int × Int)} {w0 w : World} (h : BoxL l w0 w) (x y : Int) : BoxL ((w.heap.size, x, y) :: l) w0 (w.alloc (.cells #[.int .i64 x, .int .i64 y] 37)) := by
  refine ⟨fun b hbl => ?_, h.2.alloc h.2.size _⟩
  rcases List.mem_cons.1 hbl with rfl | hbl
  · exact heap_alloc_at _ _ _ rfl
  · exact (Below.heap_alloc w _ _ (lt_of_block (h.1 b hbl))).trans (h.1 b hbl)
theorem BoxL.cell {l : List (Nat × Int × Int)} {w0 w : World} (h : BoxL l w0 w) {b : Nat} {x y : Int} (hm : (b, x, y) ∈ l) : w.cell? ⟨b, 0, none⟩ = some (.int .i64 x) ∧ w.cell? ⟨b, 1, none⟩ = some (.int .i64 y) := by
  have := h.1 _ hm
  exact ⟨by rw [cell_of_row w _ _ _ _ _ this]; rfl, by rw [cell_of_row w _ _ _ _ _ this]; rfl⟩
theorem BoxL.nil (w : World) : BoxL [] w w := ⟨by simp, Below.refl _ _⟩
theorem NumsAt.bel {w W : World} {v : Value} {l : List Int} (h : NumsAt w v l (fun k => k < w.heap.size)) (hb : Below w.heap.size w W) : NumsAt W v l (fun k => k < W.heap.size) := nums_lowL (h.later hb.size fun k h1 _ => hb.block k h1)
theorem LotAt.bel {w W : World} {l : LotD} {p : PartsL} (h : LotAt l p (fun k => k < w.heap.size) w) (hb : Below w.heap.size w W) : LotAt l p (fun k => k < W.heap.size) W := (h.later hb.size fun k h1 _ => hb.block k h1).low
theorem EntsAt.bel {w W : World} {v : Value} {l : List EntD} (h : EntsAt w v l (fun k => k < w.heap.size)) (hb : Below w.heap.size w W) : EntsAt W v l (fun k => k < W.heap.size) := (h.later hb.size fun k h1 _ => hb.block k h1).low
def Box13 (b1 b2 : Nat) (v : Value) (w0 w : World) : Prop := w.heap[b1]? = some (.cells #[.int .i64 20, .int .i64 30] 37 (0, 0)) ∧ w.heap[b2]? = some (.cells #[.int .i64 55, .int .i64 65] 37 (0, 0)) ∧ NumsAt w v [1, 0, -1, -1] (fun k => k < w.heap.size) ∧ Below w0.heap.size w0 w
theorem cells13 {b1 b2 : Nat} {v : Value} {w0 w : World} (h : Box13 b1 b2 v w0 w) : (w.cell? ⟨b1, 0, none⟩ = some (.int .i64 20) ∧ w.cell? ⟨b1, 1, none⟩ = some (.int .i64 30)) ∧ (w.cell? ⟨b2, 0, none⟩ = some (.int .i64 55) ∧ w.cell? ⟨b2, 1, none⟩ = some (.int .i64 65)) := by
  obtain ⟨h1, h2, h3, _⟩ := h
  refine ⟨⟨?_, ?_⟩, ⟨?_, ?_⟩⟩
  · rw [cell_of_row w _ _ _ _ _ h1]; rfl
  · rw [cell_of_row w _ _ _ _ _ h1]; rfl
  · rw [cell_of_row w _ _ _ _ _ h2]; rfl
  · rw [cell_of_row w _ _ _ _ _ h2]; rfl
theorem keep13 {b1 b2 : Nat} {v : Value} {w0 w W : World} (h : Box13 b1 b2 v w0 w) (hb : Below w.heap.size w W) : Box13 b1 b2 v w0 W := by
  obtain ⟨h1, h2, h3, h4⟩ := h
  exact ⟨(hb.block _ (lt_of_block h1)).trans h1, (hb.block _ (lt_of_block h2)).trans h2, nums_lowL (h3.later hb.size fun k hk _ => hb.block k hk), h4.trans (hb.mono h4.size)⟩
theorem same13 {b1 b2 : Nat} {v : Value} {w0 w : World} (h : Box13 b1 b2 v w0 w) (t : TypeId) : Calls Try.prog 30 #[v, .slice (some ⟨w.heap.size, 0, none⟩) 4 4] (w.alloc (.cells #[.int .i64 1, .int .i64 0, .int .i64 (-1), .int .i64 (-1)] t)) fun e w' => e = .returned (.bool true) ∧ Box13 b1 b2 v w0 w' := by
  have hb : Below w.heap.size w (w.alloc (.cells #[.int .i64 1, .int .i64 0, .int .i64 (-1), .int .i64 (-1)] t)) := (Below.refl _ _).alloc (Nat.le_refl _) _
  have h9 := keep13 h hb
  refine (ints13_any [1, 0, -1, -1] [1, 0, -1, -1] _ _ _ h9.2.2.1 (nums_lowL (nums_rowF [1, 0, -1, -1] (heap_alloc_at _ _ _ rfl) rfl (by decide))) (by decide) (by decide)).mono ?_
  rintro e w' ⟨rfl, hb2⟩
  exact ⟨rfl, keep13 h9 hb2⟩
theorem ents13 {w : World} (xs : List Int) (cs : Array Value) (t : TypeId) (h : cs.toList = xs.map (Value.int .i64)) (h9 : xs.length ≤ 1000) (n : Nat) (hn : n = xs.length) : Calls Try.prog 14 #[.slice (some ⟨w.heap.size, 0, none⟩) n n] (w.alloc (.cells cs t)) fun e w' => ∃ v', e = .returned v' ∧ EntsAt w' v' (entF xs) (fun k => k < w'.heap.size) ∧ Below w.heap.size w w' := by
  subst hn
  refine (entries13_any xs _ _ (nums_lowL (nums_rowF xs (heap_alloc_at _ _ _ rfl) h h9)) h9).mono ?_
  rintro e w' ⟨v', rfl, h1, h2⟩
  exact ⟨v', rfl, h1.low, ((Below.refl _ _).alloc (Nat.le_refl _) _).trans (h2.mono (by simp))⟩
theorem s_check' :  checkL sampleL (entF [0, 0, 30]) = (0, 2, 0) := s_check
theorem s_sum' : sumD sampleL (entF [0, 1, 20, 1, 0, 30]) = (50, 0) := s_sum
theorem al13_7 {p : PartsL} {w : World} {ev : Value} (h : LotAt sampleL p (fun k => k < w.heap.size) w) (he : EntsAt w ev (entF [0, 0, 30]) (fun k => k < w.heap.size)) : Calls Try.prog 13 #[lotV sampleL p, ev] w fun e w' => e = .returned (.tuple #[.int .i64 0, .int .i64 2, .int .i64 0]) ∧ Below w.heap.size w w' := by
  have := lCheck_any sampleL p (entF [0, 0, 30]) ev w h he (by decide) s_small; rw [s_check'] at this; exact this
theorem al13_8 {p : PartsL} {w : World} {ev : Value} (h : LotAt sampleL p (fun k => k < w.heap.size) w) (he : EntsAt w ev (entF [0, 1, 20, 1, 0, 30]) (fun k => k < w.heap.size)) : Calls Try.prog 15 #[lotV sampleL p, ev] w fun e w' => e = .returned (.tuple #[.int .i64 50, .int .i64 0]) ∧ Below w.heap.size w w' := by
  have := lSum_any sampleL p (entF [0, 1, 20, 1, 0, 30]) ev w h he (by decide) s_small; rw [s_sum'] at this; exact this
set_option maxRecDepth 100000 in
set_option maxHeartbeats 8000000 in
theorem alive13_any (w : World) : Calls Try.prog 16 #[] w fun e w' => e = .returned (.bool true) ∧ Below w.heap.size w w' := by
  have HB := Lib.hid (BoxL.nil w)
  go_enter Try.func16, Try.ntmps16
  go_wp2_with fail
  refine (sample13_any _).mono ?_
  rintro e w1 ⟨spw1, rfl, hl, hb⟩
  have HL := Lib.hid hl.low
  replace HB := Lib.hid (HB.out.later hb)
  try replace HV := Lib.hid (HV.out.bel hb)
  clear hl hb
  dsimp only
  go_wp2_with fail
  refine (al13_1 HL.out).mono ?_
  rintro e w2 ⟨rfl, hb⟩
  replace HB := Lib.hid (HB.out.later hb)
  try replace HV := Lib.hid (HV.out.bel hb)
  clear hb HL
  dsimp only
  go_wp2_with fail
  refine (sample13_any _).mono ?_
  rintro e w3 ⟨spw3, rfl, hl, hb⟩
  have HL := Lib.hid hl.low
  replace HB := Lib.hid (HB.out.later hb)
  try replace HV := Lib.hid (HV.out.bel hb)
  clear hl hb
  dsimp only
  go_wp2_with fail
  refine (al13_2 HL.out).mono ?_
  rintro e w4 ⟨rfl, hb⟩
  replace HB := Lib.hid (HB.out.later hb)
  try replace HV := Lib.hid (HV.out.bel hb)
  clear hb HL
  dsimp only
  go_wp2_with fail
  replace HB := Lib.hid (HB.out.alloc (20) (30))
  obtain ⟨A, hA⟩ : ∃ A, A = w4.alloc (.cells #[.int .i64 (20), .int .i64 (30)] 37) := ⟨_, rfl⟩
  rw [← hA] at HB
  go_wp2_with fail
  rw [← hA]
  clear hA
  refine (sample13_any _).mono ?_
  rintro e w5 ⟨spw5, rfl, hl, hb⟩
  have HL := Lib.hid hl.low
  replace HB := Lib.hid (HB.out.later hb)
  try replace HV := Lib.hid (HV.out.bel hb)
  clear hl hb
  dsimp only
  go_wp2_with fail
  refine (al13_3 HL.out).mono ?_
  rintro e w6 ⟨rfl, hb⟩
  replace HB := Lib.hid (HB.out.later hb)
  try replace HV := Lib.hid (HV.out.bel hb)
  clear hb HL
  dsimp only
  go_wp2_with fail
  replace HB := Lib.hid (HB.out.alloc (55) (65))
  obtain ⟨B, hA⟩ : ∃ A, A = w6.alloc (.cells #[.int .i64 (55), .int .i64 (65)] 37) := ⟨_, rfl⟩
  rw [← hA] at HB
  go_wp2_with fail
  rw [← hA]
  clear hA
  refine (sample13_any _).mono ?_
  rintro e w7 ⟨spw7, rfl, hl, hb⟩
  have HL := Lib.hid hl.low
  replace HB := Lib.hid (HB.out.later hb)
  try replace HV := Lib.hid (HV.out.bel hb)
  clear hl hb
  dsimp only
  go_wp2_with fail
  refine (al13_4 HL.out).mono ?_
  rintro e w8 ⟨rfl, hb⟩
  replace HB := Lib.hid (HB.out.later hb)
  try replace HV := Lib.hid (HV.out.bel hb)
  clear hb HL
  dsimp only
  go_wp2_with fail
  refine (sample13_any _).mono ?_
  rintro e w9 ⟨spw9, rfl, hl, hb⟩
  have HL := Lib.hid hl.low
  replace HB := Lib.hid (HB.out.later hb)
  try replace HV := Lib.hid (HV.out.bel hb)
  clear hl hb
  dsimp only
  go_wp2_with fail
  refine (al13_5 HL.out).mono ?_
  rintro e w10 ⟨rfl, hb⟩
  replace HB := Lib.hid (HB.out.later hb)
  try replace HV := Lib.hid (HV.out.bel hb)
  clear hb HL
  dsimp only
  go_wp2_with fail
  refine (sample13_any _).mono ?_
  rintro e w11 ⟨spw11, rfl, hl, hb⟩
  have HL := Lib.hid hl.low
  replace HB := Lib.hid (HB.out.later hb)
  try replace HV := Lib.hid (HV.out.bel hb)
  clear hl hb
  dsimp only
  go_wp2_with fail
  refine (al13_6 HL.out).mono ?_
  rintro e w12 ⟨hb, v, rfl, hv⟩
  replace HB := Lib.hid (HB.out.later hb)
  have HV := Lib.hid (nums_lowL hv)
  clear hb HL hv
  dsimp only
  go_wp2_with fail
  refine (sample13_any _).mono ?_
  rintro e w13 ⟨spw13, rfl, hl, hb⟩
  have HL := Lib.hid hl.low
  replace HB := Lib.hid (HB.out.later hb)
  try replace HV := Lib.hid (HV.out.bel hb)
  clear hl hb
  dsimp only
  go_wp2_with fail
  refine (ents13 [0, 0, 30] _ _ rfl (by decide) 3 rfl).mono ?_
  rintro e w14 ⟨evw14, rfl, hents, hb⟩
  have HE := Lib.hid hents
  replace HB := Lib.hid (HB.out.later hb)
  try replace HV := Lib.hid (HV.out.bel hb)
  replace HL := Lib.hid (HL.out.bel hb)
  clear hents hb
  dsimp only
  go_wp2_with fail
  refine (al13_7 HL.out HE.out).mono ?_
  rintro e w15 ⟨rfl, hb⟩
  replace HB := Lib.hid (HB.out.later hb)
  try replace HV := Lib.hid (HV.out.bel hb)
  clear hb HL
  dsimp only
  clear HE
  go_wp2_with fail
  refine (sample13_any _).mono ?_
  rintro e w16 ⟨spw16, rfl, hl, hb⟩
  have HL := Lib.hid hl.low
  replace HB := Lib.hid (HB.out.later hb)
  try replace HV := Lib.hid (HV.out.bel hb)
  clear hl hb
  dsimp only
  go_wp2_with fail
  refine (ents13 [0, 1, 20, 1, 0, 30] _ _ rfl (by decide) 6 rfl).mono ?_
  rintro e w17 ⟨evw17, rfl, hents, hb⟩
  have HE := Lib.hid hents
  replace HB := Lib.hid (HB.out.later hb)
  try replace HV := Lib.hid (HV.out.bel hb)
  replace HL := Lib.hid (HL.out.bel hb)
  clear hents hb
  dsimp only
  go_wp2_with fail
  refine (al13_8 HL.out HE.out).mono ?_
  rintro e w18 ⟨rfl, hb⟩
  replace HB := Lib.hid (HB.out.later hb)
  try replace HV := Lib.hid (HV.out.bel hb)
  clear hb HL
  dsimp only
  clear HE
  go_wp2_with fail
  have s0 : Box13 w4.heap.size w6.heap.size v w w18.drew := by
    have hq := HB.out.later (Below.refl _ _).drew
    exact ⟨hq.1 (w4.heap.size, 20, 30) (by simp), hq.1 (w6.heap.size, 55, 65) (by simp), HV.out.bel (Below.refl _ _).drew, hq.2⟩
  clear HB HV
  simp only [List.append_eq, List.cons_append, List.nil_append]
  go_region_held3 (fun w' => (w'.cell? ⟨w4.heap.size, 0, none⟩ = some (.int .i64 20) ∧ w'.cell? ⟨w4.heap.size, 1, none⟩ = some (.int .i64 30)) ∧ (w'.cell? ⟨w6.heap.size, 0, none⟩ = some (.int .i64 55) ∧ w'.cell? ⟨w6.heap.size, 1, none⟩ = some (.int .i64 65)))
    (first | exact cells13 s2 | exact cells13 (keep13 s1 ((Below.refl _ _).alloc (Nat.le_refl _) _)) | exact cells13 s1 | exact cells13 s0)
    (first | (go_at_call 17; refine (span13_any _ _ _).mono ?_; rintro e w20 ⟨rfl, hb20⟩; have s1 := (by first | exact keep13 s1 hb20 | exact keep13 s0 hb20 : Box13 w4.heap.size w6.heap.size v w w20)) | (go_at_call 30; refine (same13 s1 _).mono ?_; rintro e w21 ⟨rfl, s2⟩))
  go_wp2
  exact bodyPost_ret (v := .bool true) (by simp [results, Try.results16, go_sem]) rfl ⟨rfl, s2.2.2.2⟩
end Go.Proofs.Ytagjepclobobjaa
