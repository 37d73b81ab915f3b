/- Texts Ha, Hb, Hi, Hl in one file; each begins with a word on what it proves. -/
import Derived.Test.YtbmfphiecllggaaGreatDoorKj
import Derived.Test.YtbmfphiecllggaaGreatDoorKh

/- The statements about jobs: their small functions, and the document's examples. -/
namespace Go.Proofs.YtbmfphiecllggaaGreatDoor
set_option linter.unusedVariables false
set_option linter.unusedSimpArgs false
open Go.RowKit Go.Shelf
attribute [local go_sem] Oper.semAt_some

theorem wp_append_nilJ {w : World} {o : Oper} {a : Act} {K : Act → World → Prop} {Q : Exit → Act → World → Prop} (s x : Operand) (t : TypeId)
    (ho : o.op = .call { callee := .builtin .append, args := #[s, x], argTypes := #[t, t] }) (e : TypeId) (size bytes : Nat) (z : Value) (ht : Tryz.prog.underlying t = some (.slice e)) (hinfo : (Tryz.prog.info? e).map (fun i => (i.zero, i.size, i.bytes)) = some (some z, size, bytes))
    (g n k : Nat) (hnk : n ≤ k) (hs : a.eval s = .slice (some ⟨g, 0, none⟩) n k) (c : Nat) (hx : a.eval x = .slice none 0 c) (h : K (a.put o.dst (.slice (some ⟨g, 0, none⟩) n k)) w) : o.wp Tryz.prog a w K Q := by
  obtain ⟨i, hi, hz, hsize, hby⟩ := info_parts hinfo
  unfold Oper.wp execOp
  simp only [ho, resolve, invoke, builtin, Sem.run_bind, Sem.run_pure, Result.andThen_ok, List.map_toArray, List.map_cons, List.map_nil, hs, hx]
  have hr : (Builtin.append_ #[t, t] o.type #[.slice (some ⟨g, 0, none⟩) n k, .slice none 0 c]).run Tryz.prog w = .ok (.slice (some ⟨g, 0, none⟩) n k) w := by
    simp [Builtin.append_, run_underlying ht, sizeOf, typeInfo, hi, Builtin.lenOf, Builtin.firstCells, loadCells, loadCellsFrom, storeCells, hnk]
  rw [hr]
  exact h
theorem lspan_any (a b : Int) (w : World) : Calls Tryz.prog 26 #[.int .i64 a, .int .i64 b] w fun e w' => e = .returned (spV (a, b)) ∧ Below w.heap.size w w' := by
  go_enter Tryz.func26, Tryz.ntmps26
  go_wp2
  have hr : (w.alloc (.cells #[.int .i64 a, .int .i64 b] 24)).heap[w.heap.size]? = some (.cells #[.int .i64 a, .int .i64 b] 24 (0, 0)) := heap_alloc_at _ _ _ rfl
  have e0 := cell_of_row _ _ 0 _ _ _ hr
  have e1 := cell_of_row _ _ 1 _ _ _ hr
  exact bodyPost_ret (v := spV (a, b)) (by simp [results, Tryz.results26, go_sem, spV, e0, e1]) rfl ⟨rfl, (Below.refl _ _).alloc (Nat.le_refl _) _⟩
theorem wpList_max3 {w : World} {ops : Array Oper} {rest : List Oper} {o : Oper} {a : Act} {Q : Exit → Act → World → Prop} (hgd : o.guard = none) (x y z : Operand)
    (ho : o.op = .call { callee := .builtin .max, args := #[x, y, z], argTypes := #[3, 3, 3] }) (hty : o.type = 3) (p q r m : Int) (hx : a.eval x = .int .i64 p) (hy : a.eval y = .int .i64 q) (hz : a.eval z = .int .i64 r) (hm : max p (max q r) = m)
    (h : wpList Tryz.prog ops Q rest (a.put o.dst (.int .i64 m)) w) : wpList Tryz.prog ops Q (o :: rest) a w := by
  refine wpList_plain hgd fun K hK => ?_
  unfold Oper.wp execOp
  simp only [ho, resolve, invoke, builtin, Sem.run_bind, Sem.run_pure, Result.andThen_ok, List.map_toArray, List.map_cons, List.map_nil, hx, hy, hz, hty]
  have hr : (Builtin.max_ #[3, 3, 3] 3 #[Value.int IntKind.i64 p, Value.int IntKind.i64 q, Value.int IntKind.i64 r]).run Tryz.prog w = .ok (.int .i64 m) w := by
    rw [← hm]
    simp [Builtin.max_, Builtin.max2, go_sem]
    by_cases h1 : p < q
    · rw [if_pos h1]
      by_cases h2 : q < r
      · simp [h2]; omega
      · simp [h2]; omega
    · rw [if_neg h1]
      by_cases h2 : p < r
      · simp [h2]; omega
      · simp [h2]; omega
  rw [hr]
  exact hK _ _ h
set_option maxHeartbeats 4000000 in
theorem far_any (j : JobD) (n cap m cap' k cap3 : Nat) (ao ao' a3 : Option Addr) (w : World) :
    Calls Tryz.prog 23 #[jobV j (.slice ao n cap) (.slice ao' m cap'), .slice a3 k cap3] w fun e w' => e = .returned (.bool (decide (40 < max n (max m k)))) ∧ Below w.heap.size w w' := by
  unfold jobV
  obtain ⟨x, hx⟩ : ∃ x, x = max n (max m k) := ⟨_, rfl⟩
  have hmm : max (n : Int) (max (m : Int) (k : Int)) = (x : Int) := by omega
  rw [← hx]
  clear hx
  go_enter Tryz.func23, Tryz.ntmps23
  go_wp2_with (first | (refine wpList_max3 rfl (.tmp 8) (.tmp 11) (.tmp 13) rfl rfl (n : Int) (m : Int) (k : Int) _ rfl rfl rfl hmm ?_))
  go_ret
  refine ⟨congrArg (fun b => Ending.returned (Value.bool b)) ?_, Below.alloc' _ _⟩
  show decide _ = decide _
  rw [decide_eq_decide]
  omega
/-- A job is valid, and there is not far too much of something. -/
def fineJ (j : JobD) : Bool := decide (max j.st.bs.length j.ws.length ≤ 40) && validJb j
theorem fine_valid (j : JobD) : fineJ j = validJb j := by
  unfold fineJ
  cases h : validJb j with
  | false => simp
  | true =>
    obtain ⟨h1, h2, _⟩ := validJb_parts h
    have h3 := (validSt_parts h1).1
    rw [decide_eq_true (by omega)]; rfl
theorem shl_one : ∀ n : Fin 9, (wrap64 (2 ^ n.val) : Int) = ((2 ^ n.val : Nat) : Int) := by decide +kernel
/-- The document's job with wants more. -/
def sampleJ (l : List (Int × Int)) : JobD := ⟨stackS, (31, 36) :: (20, 24) :: l⟩
def SS (b : Nat) (v : Value) (Y : World) : Prop := Y.cell? ⟨b, 0, none⟩ = some v ∧ Y.cell? ⟨b, 1, none⟩ = some (.int .i64 1) ∧ Y.cell? ⟨b, 2, none⟩ = some (.int .i64 2)
theorem SS.below {b : Nat} {v : Value} {Y Y' : World} (h : SS b v Y) (hb : Below Y.heap.size Y Y') : SS b v Y' :=
  ⟨cell_below h.1 hb, cell_below h.2.1 hb, cell_below h.2.2 hb⟩
theorem SS.keepsS {b q : Nat} {v : Value} {Y Y' : World} (h : SS b v Y) (hq : b < q) (hk : Keeps (fun k => k = q) Y Y') : SS b v Y' := by
  have hc : ∀ i u, Y.cell? ⟨b, i, none⟩ = some u → Y'.cell? ⟨b, i, none⟩ = some u := fun i u h => (World.cell?_of_block (w := Y) (w' := Y') (a := ⟨b, i, none⟩) (hk.block b (lt_of_cell h) (by omega))).trans h
  exact ⟨hc _ _ h.1, hc _ _ h.2.1, hc _ _ h.2.2⟩
/-- What extra wants come as: none, or one. -/
def ExtraJ (w : World) (v : Value) (l : List (Int × Int)) : Prop := (l = [] ∧ v = .slice none 0 0) ∨ ∃ g lo hi, l = [(lo, hi)] ∧ v = .slice (some ⟨g, 0, none⟩) 1 1 ∧ w.heap[g]? = some (.cells #[.int .i64 lo, .int .i64 hi] 24 (0, 0))
set_option maxRecDepth 100000 in
set_option maxHeartbeats 4000000 in
theorem sample_any (l : List (Int × Int)) (v : Value) (w : World) (hx : ExtraJ w v l) : Calls Tryz.prog 25 #[v] w fun e w' => (∃ bs ws, e = .returned (jobV (sampleJ l) bs ws) ∧ SpansAt w' bs stackS.bs (fun k => w.heap.size ≤ k ∧ k < w'.heap.size) ∧ SpansAt w' ws (sampleJ l).ws (fun k => w.heap.size ≤ k ∧ k < w'.heap.size)) ∧ Below w.heap.size w w' := by
  have HX := Lib.hid hx
  clear hx
  go_enter Tryz.func25, Tryz.ntmps25
  go_wp2_with fail
  obtain ⟨A, hA⟩ : ∃ A, A = w.alloc (.cells #[.slice none 0 0, .int .i64 0, .int .i64 0, .slice none 0 0] 28) := ⟨_, rfl⟩
  have HA1 := Lib.hid (show A.heap[w.heap.size]? = some (.cells #[.slice none 0 0, .int .i64 0, .int .i64 0, .slice none 0 0] 28 (0, 0)) by rw [hA]; exact heap_alloc_at _ _ _ rfl)
  have HA2 := Lib.hid (show Below w.heap.size w A by rw [hA]; exact Below.alloc' _ _)
  have hA3 : A.heap.size = w.heap.size + 1 := by rw [hA]; simp
  rw [← hA]
  clear hA
  refine (lspan_any (10) (10) _).mono ?_
  rintro e w1 ⟨rfl, hb1⟩
  have H1 := Lib.hid hb1
  clear hb1
  unfold spV
  dsimp only
  go_wp2_with fail
  refine (lspan_any (12) (13) _).mono ?_
  rintro e w2 ⟨rfl, hb1⟩
  have H2 := Lib.hid hb1
  clear hb1
  unfold spV
  dsimp only
  go_wp2_with fail
  refine (lspan_any (20) (20) _).mono ?_
  rintro e w3 ⟨rfl, hb1⟩
  have H3 := Lib.hid hb1
  clear hb1
  unfold spV
  dsimp only
  go_wp2_with fail
  refine (lspan_any (31) (32) _).mono ?_
  rintro e w4 ⟨rfl, hb1⟩
  have H4 := Lib.hid hb1
  clear hb1
  unfold spV
  dsimp only
  go_wp2_with fail
  have a1 := H1.out.size
  have a2 := H2.out.size
  have a3 := H3.out.size
  have a4 := H4.out.size
  obtain ⟨g, hg⟩ : ∃ x, x = w4.heap.size := ⟨_, rfl⟩
  obtain ⟨B, hB⟩ : ∃ B, B = w4.alloc (.cells #[.int .i64 10, .int .i64 10, .int .i64 12, .int .i64 13, .int .i64 20, .int .i64 20, .int .i64 31, .int .i64 32] 24) := ⟨_, rfl⟩
  have hBr : B.heap[g]? = some (.cells #[.int .i64 10, .int .i64 10, .int .i64 12, .int .i64 13, .int .i64 20, .int .i64 20, .int .i64 31, .int .i64 32] 24 (0, 0)) := by rw [hB, hg]; exact heap_alloc_at _ _ _ rfl
  have hBb : Below w.heap.size w B := by rw [hB]; exact ((HA2.out.trans (H1.out.mono (by omega))).trans ((H2.out.mono (by omega)).trans ((H3.out.mono (by omega)).trans (H4.out.mono (by omega))))).alloc (by omega) _
  have hBa : B.heap[w.heap.size]? = some (.cells #[.slice none 0 0, .int .i64 0, .int .i64 0, .slice none 0 0] 28 (0, 0)) := by
    rw [hB]
    exact (hget_old _ _ _ (by omega)).trans ((H4.out.block _ (by omega)).trans ((H3.out.block _ (by omega)).trans ((H2.out.block _ (by omega)).trans ((H1.out.block _ (by omega)).trans HA1.out))))
  try rw [← hB]
  try rw [← hg]
  have hgs := lt_of_block hBr
  have hga : w.heap.size < g := by omega
  clear hB hg
  refine (lspan_any 1 2 _).mono ?_
  rintro e w5 ⟨rfl, hb5⟩
  unfold spV
  dsimp only
  have r5 := (hb5.block _ (lt_of_block hBa)).trans hBa
  have g5 := (hb5.block _ hgs).trans hBr
  have b5 := hBb.trans (hb5.mono hBb.size)
  have R5 := Lib.hid (And.intro r5 (And.intro g5 b5))
  clear r5 g5 b5 hb5 hBr hBb hBa
  go_wp2_with fail
  obtain ⟨sb, hsb⟩ : ∃ x, x = w5.heap.size := ⟨_, rfl⟩
  obtain ⟨C, hC⟩ : ∃ C, C = w5.alloc (.cells #[.slice (some ⟨g, 0, none⟩) 4 4, .int .i64 1, .int .i64 2] 26 (0, 0)) := ⟨_, rfl⟩
  have hCr : C.heap[sb]? = some (.cells #[.slice (some ⟨g, 0, none⟩) 4 4, .int .i64 1, .int .i64 2] 26 (0, 0)) := by rw [hC, hsb]; exact heap_alloc_at _ _ _ rfl
  have hb5C : Below w5.heap.size w5 C := by rw [hC]; exact Below.alloc' _ _
  have hwC : Below w.heap.size w C := R5.out.2.2.trans (hb5C.mono R5.out.2.2.size)
  have haC := (hb5C.block _ (lt_of_block R5.out.1)).trans R5.out.1
  have hgC := (hb5C.block _ (lt_of_block R5.out.2.1)).trans R5.out.2.1
  have hsbs := lt_of_block hCr
  have hsbw : w.heap.size < sb := by rw [hsb]; exact lt_of_block R5.out.1
  have hS0 : SS sb (.slice (some ⟨g, 0, none⟩) 4 4) C := ⟨by rw [cell_of_row _ _ _ _ _ _ hCr]; rfl, by rw [cell_of_row _ _ _ _ _ _ hCr]; rfl, by rw [cell_of_row _ _ _ _ _ _ hCr]; rfl⟩
  rw [← hC]
  try rw [← hsb]
  have RC := Lib.hid (And.intro hwC (And.intro haC hgC))
  clear hC hsb hCr hb5C hwC haC hgC R5
  refine wp_region_tail 7 #[false, false, false, false, false, false, false, true] (SS sb (.slice (some ⟨g, 0, none⟩) 4 4)) (by kernel_rfl) (by kernel_rfl) (by rfl) (hS0.below (Below.refl _ _).drew) fun hS => ?_
  obtain ⟨D, hD⟩ : ∃ D, D = C.drew := ⟨_, rfl⟩
  have hCD : Below C.heap.size C D := by rw [hD]; exact (Below.refl _ _).drew
  rw [← hD] at hS ⊢
  have HCD := Lib.hid hCD
  clear hD hCD hS0
  refine wpAnyH_take (i := 0) (v := ?_) rfl (by kernel_rfl) (by kernel_rfl) (by kernel_rfl) (fun _ _ _ h => h) (Or.inl ⟨by rfl, ?_⟩) hS ?_
  rotate_left
  · (intro W hSw; obtain ⟨q0, q1, q2⟩ := hSw; go_simp; try with_reducible rfl)
  try simp only [List.getElem_toArray, List.getElem_cons_succ, List.getElem_cons_zero, Act.put, List.setIfInBounds_toArray, List.set_cons_zero, List.set_cons_succ]
  refine wpAnyH_take (i := 4) (v := ?_) rfl (by kernel_rfl) (by kernel_rfl) (by kernel_rfl) (fun _ _ _ h => h) (Or.inl ⟨by rfl, ?_⟩) hS ?_
  rotate_left
  · (intro W hSw; obtain ⟨q0, q1, q2⟩ := hSw; go_simp; try with_reducible rfl)
  try simp only [List.getElem_toArray, List.getElem_cons_succ, List.getElem_cons_zero, Act.put, List.setIfInBounds_toArray, List.set_cons_zero, List.set_cons_succ]
  refine wpAnyH_call (k := 1) (by kernel_rfl) rfl rfl (f := 26) (args := #[.int .i64 31, .int .i64 36]) (by simp [execOp, go_sem, Act.eval, Act.put]) ?_
  refine (lspan_any 31 36 _).mono ?_
  rintro e w6 ⟨rfl, hb6⟩
  unfold spV
  dsimp only
  have H6 := Lib.hid (HCD.out.trans (hb6.mono HCD.out.size))
  refine ⟨hS.below hb6, ?_⟩
  have hS := hS.below hb6
  clear hb6
  try simp only [List.getElem_toArray, List.getElem_cons_succ, List.getElem_cons_zero, Act.put, List.setIfInBounds_toArray, List.set_cons_zero, List.set_cons_succ]
  refine wpAnyH_call (k := 2) (by kernel_rfl) rfl rfl (f := 26) (args := #[.int .i64 20, .int .i64 24]) (by simp [execOp, go_sem, Act.eval, Act.put]) ?_
  refine (lspan_any 20 24 _).mono ?_
  rintro e w7 ⟨rfl, hb7⟩
  unfold spV
  dsimp only
  have H7 := Lib.hid (H6.out.trans (hb7.mono H6.out.size))
  refine ⟨hS.below hb7, ?_⟩
  have hS := hS.below hb7
  clear hb7
  try simp only [List.getElem_toArray, List.getElem_cons_succ, List.getElem_cons_zero, Act.put, List.setIfInBounds_toArray, List.set_cons_zero, List.set_cons_succ]
  refine wpAnyH_ready (rs := [3]) (by kernel_rfl) (by simp) ?_
  refine AllReadyH.cons rfl (fun K hK => ?_) AllReadyH.nil
  go_simp
  obtain ⟨q, hq⟩ : ∃ x, x = w7.heap.size := ⟨_, rfl⟩
  obtain ⟨E, hE⟩ : ∃ E, E = w7.alloc (.cells #[.int .i64 31, .int .i64 36, .int .i64 20, .int .i64 24] 24) := ⟨_, rfl⟩
  have hEr : E.heap[q]? = some (.cells #[.int .i64 31, .int .i64 36, .int .i64 20, .int .i64 24] 24 (0, 0)) := by rw [hE, hq]; exact heap_alloc_at _ _ _ rfl
  have h7E : Below w7.heap.size w7 E := by rw [hE]; exact Below.alloc' _ _
  have hqC : C.heap.size ≤ q := by rw [hq]; exact H7.out.size
  have hCE : Below C.heap.size C E := H7.out.trans (h7E.mono H7.out.size)
  try rw [← hE]
  try rw [← hq]
  have hS2 := hS.below h7E
  clear hE hq hS h7E
  refine hK _ _ hS2 (fun hS => ?_)
  clear hK K hS2
  try simp only [List.getElem_toArray, List.getElem_cons_succ, List.getElem_cons_zero, Act.put, List.setIfInBounds_toArray, List.set_cons_zero, List.set_cons_succ]
  have hownE : E.ownsRow q 24 2 (.slice (some ⟨q, 0, none⟩) 2 2) 2 (([(31, 36), (20, 24)] : List (Int × Int)).flatMap spanC) := ⟨by decide, .inr ⟨q, 2, _, rfl, Nat.le_refl _, hEr, by decide, by decide, by rfl, by rfl⟩⟩
  have hqE := lt_of_block hEr
  have H8 := Lib.hid (And.intro hownE hCE)
  clear hEr
  refine wpAnyH_oper (k := 5) (by kernel_rfl) rfl (by kernel_rfl) ?_
  have hfin : ∀ (v' : Value) (W : World), W.ownsRow q 24 2 v' (2 + l.length) (([(31, 36), (20, 24)] : List (Int × Int)).flatMap spanC ++ l.flatMap spanC) → Keeps (fun k => k = q) E W → (∃ a c, v' = .slice a (2 + l.length) c) ∧ SpansAt W v' (sampleJ l).ws (fun k => q ≤ k ∧ k < W.heap.size) ∧ Below C.heap.size C W := by
    intro v' W h1 h2
    refine ⟨?_, spans_of_own (by show 2 + l.length = l.length + 1 + 1; omega) ?_, H8.out.2.trans (h2.below H8.out.2.size (fun k h e => by omega))⟩
    · rcases h1.2 with ⟨h3, h4⟩ | ⟨g, cap, cur, h3, _⟩
      · omega
      · exact ⟨_, _, h3⟩
    · rw [← List.flatMap_append] at h1
      exact h1
  have HFIN := Lib.hid hfin
  clear hfin
  rcases HX.out with ⟨rfl, rfl⟩ | ⟨xg, lo, hi, rfl, rfl, hxg⟩
  · refine wp_append_nilJ (.tmp 14) (.tmp 15) 22 rfl 24 2 16 _ underSpansJ infoSpanJ q 2 2 (Nat.le_refl _) rfl 0 rfl ?_
    have hsl := HFIN.out _ E (by simpa using H8.out.1) (Keeps.refl _ _)
    have HSL := Lib.hid hsl
    refine ⟨hS, ?_⟩
    try simp only [List.getElem_toArray, List.getElem_cons_succ, List.getElem_cons_zero, Act.put, List.setIfInBounds_toArray, List.set_cons_zero, List.set_cons_succ]
    refine wpAnyH_take (i := 6) (v := ?_) rfl (by kernel_rfl) (by kernel_rfl) (by kernel_rfl) (fun _ _ _ h => h) (Or.inl ⟨by rfl, ?_⟩) hS ?_
    rotate_left
    · (intro W hSw; obtain ⟨q0, q1, q2⟩ := hSw; go_simp; try with_reducible rfl)
    try simp only [List.getElem_toArray, List.getElem_cons_succ, List.getElem_cons_zero, Act.put, List.setIfInBounds_toArray, List.set_cons_zero, List.set_cons_succ]
    refine wpAnyH_done (by kernel_rfl) ?_ _
    unfold TailQ
    simp only [List.drop_succ_cons, List.drop_zero]
    have hr0 := (hsl.2.2.block _ (lt_of_block RC.out.2.1)).trans RC.out.2.1
    have HR0 := Lib.hid hr0
    have p0 : E.cell? ⟨w.heap.size, 0, none⟩ = some (.slice none 0 0) := by rw [cell_of_row _ _ _ _ _ _ hr0]; rfl
    have p1 : E.cell? ⟨w.heap.size, 1, none⟩ = some (.int .i64 0) := by rw [cell_of_row _ _ _ _ _ _ hr0]; rfl
    have p2 : E.cell? ⟨w.heap.size, 2, none⟩ = some (.int .i64 0) := by rw [cell_of_row _ _ _ _ _ _ hr0]; rfl
    have p3 : E.cell? ⟨w.heap.size, 3, none⟩ = some (.slice none 0 0) := by rw [cell_of_row _ _ _ _ _ _ hr0]; rfl
    have pf : ∀ k, E.frozen? ⟨w.heap.size, k, none⟩ = false := fun k => frozen_of_row _ _ _ _ _ hr0
    clear hr0 hsl hS
    go_wp2_with fail
    obtain ⟨W9, hW9⟩ : ∃ W, W = (((E.setCell ⟨w.heap.size, 0, none⟩ (.slice (some ⟨g, 0, none⟩) 4 4)).setCell ⟨w.heap.size, 1, none⟩ (.int .i64 1)).setCell ⟨w.heap.size, 2, none⟩ (.int .i64 2)).setCell ⟨w.heap.size, 3, none⟩ (.slice (some ⟨q, 0, none⟩) 2 2) := ⟨_, rfl⟩
    have hr9 : W9.heap[w.heap.size]? = some (.cells #[.slice (some ⟨g, 0, none⟩) 4 4, .int .i64 1, .int .i64 2, (.slice (some ⟨q, 0, none⟩) 2 2)] 28 (0, 0)) := by rw [hW9]; exact four_setJ HR0.out
    have hk9 : Keeps (fun k => k = w.heap.size) E W9 := by rw [hW9]; exact keeps_fourJ _ _ _ _ _ _
    rw [← hW9]
    clear hW9 p0 p1 p2 p3 pf
    have q0 : W9.cell? ⟨w.heap.size, 0, none⟩ = some (.slice (some ⟨g, 0, none⟩) 4 4) := by rw [cell_of_row _ _ _ _ _ _ hr9]; rfl
    have q1 : W9.cell? ⟨w.heap.size, 1, none⟩ = some (.int .i64 1) := by rw [cell_of_row _ _ _ _ _ _ hr9]; rfl
    have q2 : W9.cell? ⟨w.heap.size, 2, none⟩ = some (.int .i64 2) := by rw [cell_of_row _ _ _ _ _ _ hr9]; rfl
    have q3 : W9.cell? ⟨w.heap.size, 3, none⟩ = some (.slice (some ⟨q, 0, none⟩) 2 2) := by rw [cell_of_row _ _ _ _ _ _ hr9]; rfl
    have hs9 := hk9.size
    have hsC := HSL.out.2.2.size
    have hg9 := (hk9.block g (by have := lt_of_block RC.out.2.2; omega) (by omega)).trans ((HSL.out.2.2.block g (lt_of_block RC.out.2.2)).trans RC.out.2.2)
    refine bodyPost_ret (v := .agg #[.slice (some ⟨g, 0, none⟩) 4 4, .int .i64 1, .int .i64 2, (.slice (some ⟨q, 0, none⟩) 2 2)]) (by simp [results, Tryz.results25, go_sem, q0, q1, q2, q3]) rfl ⟨⟨_, _, rfl, ?_, ?_⟩, RC.out.1.trans ((HSL.out.2.2.mono RC.out.1.size).trans (hk9.below (by have := RC.out.1.size; omega) (fun k h e => by omega)))⟩
    · refine ⟨some ⟨g, 0, none⟩, 4, rfl, by decide, by decide, fun i hi => ⟨g, 0, rfl, ⟨by omega, lt_of_block hg9⟩, lt_of_block hg9, ?_⟩⟩
      have hi4 : i < 4 := hi
      have hc : i = 0 ∨ i = 1 ∨ i = 2 ∨ i = 3 := by omega
      rcases hc with rfl | rfl | rfl | rfl <;> exact ⟨by rw [cell_of_row _ _ _ _ _ _ hg9]; rfl, by rw [cell_of_row _ _ _ _ _ _ hg9]; rfl⟩
    · obtain ⟨a, c, g1, g2, g3, g4⟩ := HSL.out.2.1.later hs9 (fun k h1 h2 => hk9.block k h1 (by omega))
      refine ⟨a, c, g1, g2, g3, fun q hq => ?_⟩
      obtain ⟨b, off, f1, f2, f3, f4⟩ := g4 q hq
      exact ⟨b, off, f1, ⟨by omega, f3⟩, f3, f4⟩
  · refine wp_append_here (.tmp 14) (.tmp 15) 22 rfl q 24 2 16 _ underSpansJ infoSpanJ rfl (by decide) (.slice (some ⟨q, 0, none⟩) 2 2) 2 _ rfl H8.out.1 ⟨xg, 0, none⟩ 1 1 [.int .i64 lo, .int .i64 hi] rfl rfl (news_block ((H8.out.2.block xg (by have := lt_of_block hxg; have := RC.out.1.size; omega)).trans ((RC.out.1.block xg (lt_of_block hxg)).trans hxg))) (by simp [Value.oneCell']) (by omega) (by decide) (by omega) ?_
    intro v7 V7 hown7 hg7 hat7
    have hk7 := keeps_grown hg7
    have hkE : Keeps (fun k => k = q) E V7 := hk7.mono (fun k _ e => (Option.some.inj e).symm)
    have hsl := HFIN.out v7 V7 (by simpa [spanC] using hown7) hkE
    obtain ⟨⟨a7, c7, rfl⟩, _⟩ := id hsl
    have hS := hS.keepsS (by omega) hkE
    clear hown7 hg7 hat7 hk7 hkE
    have HSL := Lib.hid hsl
    refine ⟨hS, ?_⟩
    try simp only [List.getElem_toArray, List.getElem_cons_succ, List.getElem_cons_zero, Act.put, List.setIfInBounds_toArray, List.set_cons_zero, List.set_cons_succ]
    refine wpAnyH_take (i := 6) (v := ?_) rfl (by kernel_rfl) (by kernel_rfl) (by kernel_rfl) (fun _ _ _ h => h) (Or.inl ⟨by rfl, ?_⟩) hS ?_
    rotate_left
    · (intro W hSw; obtain ⟨q0, q1, q2⟩ := hSw; go_simp; try with_reducible rfl)
    try simp only [List.getElem_toArray, List.getElem_cons_succ, List.getElem_cons_zero, Act.put, List.setIfInBounds_toArray, List.set_cons_zero, List.set_cons_succ]
    refine wpAnyH_done (by kernel_rfl) ?_ _
    unfold TailQ
    simp only [List.drop_succ_cons, List.drop_zero]
    have hr0 := (hsl.2.2.block _ (lt_of_block RC.out.2.1)).trans RC.out.2.1
    have HR0 := Lib.hid hr0
    have p0 : V7.cell? ⟨w.heap.size, 0, none⟩ = some (.slice none 0 0) := by rw [cell_of_row _ _ _ _ _ _ hr0]; rfl
    have p1 : V7.cell? ⟨w.heap.size, 1, none⟩ = some (.int .i64 0) := by rw [cell_of_row _ _ _ _ _ _ hr0]; rfl
    have p2 : V7.cell? ⟨w.heap.size, 2, none⟩ = some (.int .i64 0) := by rw [cell_of_row _ _ _ _ _ _ hr0]; rfl
    have p3 : V7.cell? ⟨w.heap.size, 3, none⟩ = some (.slice none 0 0) := by rw [cell_of_row _ _ _ _ _ _ hr0]; rfl
    have pf : ∀ k, V7.frozen? ⟨w.heap.size, k, none⟩ = false := fun k => frozen_of_row _ _ _ _ _ hr0
    clear hr0 hsl hS
    go_wp2_with fail
    obtain ⟨W9, hW9⟩ : ∃ W, W = (((V7.setCell ⟨w.heap.size, 0, none⟩ (.slice (some ⟨g, 0, none⟩) 4 4)).setCell ⟨w.heap.size, 1, none⟩ (.int .i64 1)).setCell ⟨w.heap.size, 2, none⟩ (.int .i64 2)).setCell ⟨w.heap.size, 3, none⟩ (.slice a7 (2 + 1) c7) := ⟨_, rfl⟩
    have hr9 : W9.heap[w.heap.size]? = some (.cells #[.slice (some ⟨g, 0, none⟩) 4 4, .int .i64 1, .int .i64 2, (.slice a7 (2 + 1) c7)] 28 (0, 0)) := by rw [hW9]; exact four_setJ HR0.out
    have hk9 : Keeps (fun k => k = w.heap.size) V7 W9 := by rw [hW9]; exact keeps_fourJ _ _ _ _ _ _
    rw [← hW9]
    clear hW9 p0 p1 p2 p3 pf
    have q0 : W9.cell? ⟨w.heap.size, 0, none⟩ = some (.slice (some ⟨g, 0, none⟩) 4 4) := by rw [cell_of_row _ _ _ _ _ _ hr9]; rfl
    have q1 : W9.cell? ⟨w.heap.size, 1, none⟩ = some (.int .i64 1) := by rw [cell_of_row _ _ _ _ _ _ hr9]; rfl
    have q2 : W9.cell? ⟨w.heap.size, 2, none⟩ = some (.int .i64 2) := by rw [cell_of_row _ _ _ _ _ _ hr9]; rfl
    have q3 : W9.cell? ⟨w.heap.size, 3, none⟩ = some (.slice a7 (2 + 1) c7) := by rw [cell_of_row _ _ _ _ _ _ hr9]; rfl
    have hs9 := hk9.size
    have hsC := HSL.out.2.2.size
    have hg9 := (hk9.block g (by have := lt_of_block RC.out.2.2; omega) (by omega)).trans ((HSL.out.2.2.block g (lt_of_block RC.out.2.2)).trans RC.out.2.2)
    refine bodyPost_ret (v := .agg #[.slice (some ⟨g, 0, none⟩) 4 4, .int .i64 1, .int .i64 2, (.slice a7 (2 + 1) c7)]) (by simp [results, Tryz.results25, go_sem, q0, q1, q2, q3]) rfl ⟨⟨_, _, rfl, ?_, ?_⟩, RC.out.1.trans ((HSL.out.2.2.mono RC.out.1.size).trans (hk9.below (by have := RC.out.1.size; omega) (fun k h e => by omega)))⟩
    · refine ⟨some ⟨g, 0, none⟩, 4, rfl, by decide, by decide, fun i hi => ⟨g, 0, rfl, ⟨by omega, lt_of_block hg9⟩, lt_of_block hg9, ?_⟩⟩
      have hi4 : i < 4 := hi
      have hc : i = 0 ∨ i = 1 ∨ i = 2 ∨ i = 3 := by omega
      rcases hc with rfl | rfl | rfl | rfl <;> exact ⟨by rw [cell_of_row _ _ _ _ _ _ hg9]; rfl, by rw [cell_of_row _ _ _ _ _ _ hg9]; rfl⟩
    · obtain ⟨a, c, g1, g2, g3, g4⟩ := HSL.out.2.1.later hs9 (fun k h1 h2 => hk9.block k h1 (by omega))
      refine ⟨a, c, g1, g2, g3, fun q hq => ?_⟩
      obtain ⟨b, off, f1, f2, f3, f4⟩ := g4 q hq
      exact ⟨b, off, f1, ⟨by omega, f3⟩, f3, f4⟩
end Go.Proofs.YtbmfphiecllggaaGreatDoor

/- What the document fixes of chapter 12, in the statements about jobs: awake is true. -/
namespace Go.Proofs.YtbmfphiecllggaaGreatDoor
set_option linter.unusedVariables false
set_option linter.unusedSimpArgs false
open Go.RowKit Go.Shelf
attribute [local go_sem] Oper.semAt_some

theorem val_check : checkD (sampleJ []) [5, 4] = ((1, 2), 0) := by decide +kernel
theorem val_plan : planD (sampleJ []) = ([8, 4], 0) := by decide +kernel
theorem val_alone : aloneD (sampleJ [(50, 51)]) = (3, 0) := by decide +kernel
theorem val_most2 : mostD (sampleJ [(31, 33)]) = ((2, 3), 0) := val_most
theorem val_why : whyD (sampleJ [(31, 33)]) = (7, 0) := by decide +kernel
theorem val_rounds2 : roundsD (sampleJ [(31, 33)]) = ([0, 0, 1], 0) := val_rounds
theorem val_lend : lendD (sampleJ []) = (3, 0) := by decide +kernel
theorem val_plan2 : planD (sampleJ [(31, 33)]) = ([], 4) := by decide +kernel
/-- One of the jobs, in its box. -/
structure OneJ (b : Nat) (l : List (Int × Int)) (x : Option Addr) (c : Nat) (y : Option Addr) (n d : Nat) (W : World) : Prop where
  row : W.heap[b]? = some (.cells #[.slice x 4 c, .int .i64 1, .int .i64 2, .slice y n d] 28 (0, 0))
  s : SpansAt W (.slice x 4 c) stackS.bs (fun k => k < W.heap.size)
  t : SpansAt W (.slice y n d) (sampleJ l).ws (fun k => k < W.heap.size)
theorem OneJ.later {b : Nat} {l : List (Int × Int)} {x y : Option Addr} {c n d : Nat} {W W' : World} (h : OneJ b l x c y n d W) (hb : Below W.heap.size W W') : OneJ b l x c y n d W' :=
  ⟨(hb.block _ (lt_of_block h.row)).trans h.row, (h.s.later hb.size (fun k h _ => hb.block k h)).low9, (h.t.later hb.size (fun k h _ => hb.block k h)).low9⟩
theorem OneJ.cs {b : Nat} {l : List (Int × Int)} {x y : Option Addr} {c n d : Nat} {W : World} (h : OneJ b l x c y n d W) : W.cell? ⟨b, 0, none⟩ = some (.slice x 4 c) ∧ W.cell? ⟨b, 1, none⟩ = some (.int .i64 1) ∧ W.cell? ⟨b, 2, none⟩ = some (.int .i64 2) ∧ W.cell? ⟨b, 3, none⟩ = some (.slice y n d) :=
  ⟨by rw [cell_of_row _ _ _ _ _ _ h.row]; rfl, by rw [cell_of_row _ _ _ _ _ _ h.row]; rfl, by rw [cell_of_row _ _ _ _ _ _ h.row]; rfl, by rw [cell_of_row _ _ _ _ _ _ h.row]; rfl⟩
set_option maxRecDepth 100000 in
set_option maxHeartbeats 8000000 in
theorem lawake_any (w : World) (htz : TabZ w) : Calls Tryz.prog 7 #[] w fun e w' => e = .returned (.bool true) ∧ Below w.heap.size w w' := by
  have HTZ := Lib.hid htz
  have h1z := htz.lt
  clear htz
  have hjv : ∀ l v u, jobV (sampleJ l) v u = .agg #[v, .int .i64 1, .int .i64 2, u] := fun _ _ _ => rfl
  have HJV := Lib.hid hjv
  clear hjv
  go_enter Tryz.func7, Tryz.ntmps7
  go_wp2_with fail
  refine (sample_any [] _ _ (.inl ⟨rfl, rfl⟩)).mono ?_
  rintro e w1 ⟨⟨v1, u1, rfl, hv, hu⟩, hb1⟩
  rw [HJV.out]
  dsimp only
  have H1 := Lib.hid (And.intro hv.low9 hu.low9)
  have HB1 := Lib.hid hb1
  obtain ⟨x1, c1, rfl, _⟩ := id hv
  obtain ⟨y1, d1, rfl, _⟩ := id hu
  clear hv hu hb1
  go_wp2_with fail
  refine (lspan_any 31 33 _).mono ?_
  rintro e w2 ⟨rfl, hb⟩
  unfold spV
  dsimp only
  have H2 := Lib.hid hb
  clear hb
  go_wp2_with fail
  have hx := heap_alloc_at w2 (.cells #[.int .i64 31, .int .i64 33] 24) _ rfl
  refine (sample_any [(31, 33)] _ _ (.inr ⟨_, 31, 33, rfl, rfl, hx⟩)).mono ?_
  rintro e w3 ⟨⟨v3, u3, rfl, hv, hu⟩, hb⟩
  rw [HJV.out]
  dsimp only
  have H3 := Lib.hid (And.intro hv.low9 hu.low9)
  have HB3 := Lib.hid (HB1.out.trans ((H2.out.mono HB1.out.size).trans ((Below.alloc' _ _).mono (by have := HB1.out.size; have := H2.out.size; omega))) |>.trans (hb.mono (by have := HB1.out.size; have := H2.out.size; simp; omega)))
  have H13 := Lib.hid (H2.out.trans (((Below.alloc' _ _).mono H2.out.size).trans (hb.mono (by have := H2.out.size; simp; omega))))
  obtain ⟨x3, c3, rfl, _⟩ := id hv
  obtain ⟨y3, d3, rfl, _⟩ := id hu
  clear hv hu hb hx
  go_wp2_with fail
  refine (lspan_any 50 51 _).mono ?_
  rintro e w4 ⟨rfl, hb⟩
  unfold spV
  dsimp only
  have H4 := Lib.hid hb
  clear hb
  go_wp2_with fail
  have hx := heap_alloc_at w4 (.cells #[.int .i64 50, .int .i64 51] 24) _ rfl
  refine (sample_any [(50, 51)] _ _ (.inr ⟨_, 50, 51, rfl, rfl, hx⟩)).mono ?_
  rintro e w5 ⟨⟨v5, u5, rfl, hv, hu⟩, hb⟩
  rw [HJV.out]
  dsimp only
  have H5 := Lib.hid (And.intro hv.low9 hu.low9)
  have H35 := Lib.hid (H4.out.trans (((Below.alloc' _ _).mono H4.out.size).trans (hb.mono (by have := H4.out.size; simp; omega))))
  obtain ⟨x5, c5, rfl, _⟩ := id hv
  obtain ⟨y5, d5, rfl, _⟩ := id hu
  have hl1 : stackS.bs.length = 4 := rfl
  have hl2 : (sampleJ []).ws.length = 2 := rfl
  have hl3 : (sampleJ [(31, 33)]).ws.length = 3 := rfl
  have hl4 : (sampleJ [(50, 51)]).ws.length = 3 := rfl
  rw [hl1] at H1 H3 H5 ⊢
  rw [hl2] at H1 ⊢
  rw [hl3] at H3 ⊢
  rw [hl4] at H5 ⊢
  clear hl1 hl2 hl3 hl4 hv hu hb hx
  obtain ⟨b, hbe⟩ : ∃ x, x = w5.heap.size := ⟨_, rfl⟩
  have hs35 := H35.out.size
  have hs13 := H13.out.size
  have hO : ∀ o, o = Obj.cells #[.int .i64 5, .int .i64 4] 3 (0, 0) → ∃ W6, W6 = (((w5.alloc (.cells #[.slice x1 4 c1, .int .i64 1, .int .i64 2, .slice y1 2 d1] 28)).alloc (.cells #[.slice x3 4 c3, .int .i64 1, .int .i64 2, .slice y3 3 d3] 28)).alloc (.cells #[.slice x5 4 c5, .int .i64 1, .int .i64 2, .slice y5 3 d5] 28)).alloc o ∧
      OneJ b [] x1 c1 y1 2 d1 W6 ∧ OneJ (b + 1) [(31, 33)] x3 c3 y3 3 d3 W6 ∧ OneJ (b + 1 + 1) [(50, 51)] x5 c5 y5 3 d5 W6 ∧ W6.heap[b + 1 + 1 + 1]? = some o ∧ Below w.heap.size w W6 := by
    rintro o rfl
    refine ⟨_, rfl, ?_⟩
    have h5 : Below w5.heap.size w5 ((((w5.alloc (.cells #[.slice x1 4 c1, .int .i64 1, .int .i64 2, .slice y1 2 d1] 28)).alloc (.cells #[.slice x3 4 c3, .int .i64 1, .int .i64 2, .slice y3 3 d3] 28)).alloc (.cells #[.slice x5 4 c5, .int .i64 1, .int .i64 2, .slice y5 3 d5] 28)).alloc (.cells #[.int .i64 5, .int .i64 4] 3 (0, 0))) :=
      ((((Below.refl _ _).alloc (Nat.le_refl _) _).alloc (by simp) _).alloc (by simp <;> omega) _).alloc (by simp <;> omega) _
    have h3 : Below w3.heap.size w3 _ := H35.out.trans (h5.mono hs35)
    have h1 : Below w1.heap.size w1 _ := H13.out.trans (h3.mono hs13)
    have hB3 := HB3.out.size
    rw [hbe]
    refine ⟨⟨(by repeat (first | (refine heap_alloc_at _ _ _ ?_; (simp <;> omega); done) | (refine (hget_old _ _ _ ?_).trans ?_; · (simp <;> omega)))), (H1.out.1.later h1.size (fun k h _ => h1.block k h)).low9, (H1.out.2.later h1.size (fun k h _ => h1.block k h)).low9⟩, ⟨(by repeat (first | (refine heap_alloc_at _ _ _ ?_; (simp <;> omega); done) | (refine (hget_old _ _ _ ?_).trans ?_; · (simp <;> omega)))), (H3.out.1.later h3.size (fun k h _ => h3.block k h)).low9, (H3.out.2.later h3.size (fun k h _ => h3.block k h)).low9⟩, ⟨(by repeat (first | (refine heap_alloc_at _ _ _ ?_; (simp <;> omega); done) | (refine (hget_old _ _ _ ?_).trans ?_; · (simp <;> omega)))), (H5.out.1.later h5.size (fun k h _ => h5.block k h)).low9, (H5.out.2.later h5.size (fun k h _ => h5.block k h)).low9⟩, heap_alloc_at _ _ _ (by simp), HB3.out.trans (h3.mono (by omega))⟩
  obtain ⟨W6, hW6, o1, o3, o5, hr6, hb6⟩ := hO _ rfl
  have HAW6 := Lib.hid o1
  have HBW6 := Lib.hid o3
  have HCW6 := Lib.hid o5
  have HWW6 := Lib.hid hb6
  have HNW6 : Hid (NumsAt W6 (.slice (some ⟨b + 1 + 1 + 1, 0, none⟩) 2 2) [5, 4] (fun k => k < W6.heap.size)) := by
    refine ⟨some ⟨b + 1 + 1 + 1, 0, none⟩, 2, rfl, by decide, by decide, fun i hi => ⟨_, 0, rfl, lt_of_block hr6, lt_of_block hr6, ?_⟩⟩
    have hi4 : i < 2 := hi
    have hc : i = 0 ∨ i = 1 := by omega
    rcases hc with rfl | rfl <;> (rw [cell_of_row _ _ _ _ _ _ hr6]; rfl)
  have HWE := Lib.hid hW6
  clear hO hW6 o1 o3 o5 hr6 hb6 H1 H3 H5 H35 H13 HB1 HB3 H2 H4 hs35 hs13
  go_wp2_with fail
  rw [← HWE.out, ← hbe]
  clear HWE
  have hc := Check_any (sampleJ []) (.slice x1 4 c1) (.slice y1 2 d1) [5, 4] (.slice (some ⟨b + 1 + 1 + 1, 0, none⟩) 2 2) W6 HAW6.out.s HAW6.out.t HNW6.out (by decide)
  rw [HJV.out, val_check] at hc
  refine hc.mono ?_
  rintro e W7 ⟨rfl, hb⟩
  clear hc hbe HNW6
  dsimp only
  have HAW7 := Lib.hid (HAW6.out.later hb)
  have HBW7 := Lib.hid (HBW6.out.later hb)
  have HCW7 := Lib.hid (HCW6.out.later hb)
  have HWW7 := Lib.hid (HWW6.out.trans (hb.mono HWW6.out.size))
  clear hb
  obtain ⟨k0, k1, k2, k3⟩ := HAW7.out.cs
  go_wp2_with fail
  clear k0 k1 k2 k3
  have hc := Plan_any (sampleJ []) (.slice x1 4 c1) (.slice y1 2 d1) W7 HAW7.out.s HAW7.out.t (HTZ.out.below HWW7.out h1z)
  rw [HJV.out] at hc
  refine hc.mono ?_
  rintro e W8 ⟨pv, rfl, hpv, hb⟩
  clear hc
  rw [val_plan] at hpv ⊢
  dsimp only
  have HP8 := Lib.hid hpv
  obtain ⟨pa, pc, rfl, _⟩ := id hpv
  have hl2 : ((([8, 4] : List Nat), (0 : Int)).1.map fun s : Nat => (s : Int)).length = 2 := rfl
  rw [hl2] at HP8 ⊢
  have HAW8 := Lib.hid (HAW7.out.later hb)
  have HBW8 := Lib.hid (HBW7.out.later hb)
  have HCW8 := Lib.hid (HCW7.out.later hb)
  have HWW8 := Lib.hid (HWW7.out.trans (hb.mono HWW7.out.size))
  clear hb hpv hl2
  obtain ⟨k0, k1, k2, k3⟩ := HCW8.out.cs
  go_wp2_with fail
  clear k0 k1 k2 k3
  have hc := Alone_any (sampleJ [(50, 51)]) (.slice x5 4 c5) (.slice y5 3 d5) W8 HCW8.out.s HCW8.out.t
  rw [HJV.out, val_alone] at hc
  refine hc.mono ?_
  rintro e W9 ⟨rfl, hb⟩
  clear hc
  dsimp only
  have HP9 := Lib.hid (HP8.out.later hb.size (fun k h _ => hb.block k h))
  have HAW9 := Lib.hid (HAW8.out.later hb)
  have HBW9 := Lib.hid (HBW8.out.later hb)
  have HCW9 := Lib.hid (HCW8.out.later hb)
  have HWW9 := Lib.hid (HWW8.out.trans (hb.mono HWW8.out.size))
  clear hb
  obtain ⟨k0, k1, k2, k3⟩ := HBW9.out.cs
  go_wp2_with fail
  clear k0 k1 k2 k3
  have hc := Most_any (sampleJ [(31, 33)]) (.slice x3 4 c3) (.slice y3 3 d3) W9 HBW9.out.s HBW9.out.t (HTZ.out.below HWW9.out h1z)
  rw [HJV.out, val_most2] at hc
  refine hc.mono ?_
  rintro e W10 ⟨rfl, hb⟩
  clear hc
  dsimp only
  have HP10 := Lib.hid (HP9.out.later hb.size (fun k h _ => hb.block k h))
  have HAW10 := Lib.hid (HAW9.out.later hb)
  have HBW10 := Lib.hid (HBW9.out.later hb)
  have HCW10 := Lib.hid (HCW9.out.later hb)
  have HWW10 := Lib.hid (HWW9.out.trans (hb.mono HWW9.out.size))
  clear hb
  obtain ⟨k0, k1, k2, k3⟩ := HBW10.out.cs
  go_wp2_with fail
  clear k0 k1 k2 k3
  have hc := Why_any (sampleJ [(31, 33)]) (.slice x3 4 c3) (.slice y3 3 d3) W10 HBW10.out.s HBW10.out.t (HTZ.out.below HWW10.out h1z)
  rw [HJV.out, val_why] at hc
  refine hc.mono ?_
  rintro e W11 ⟨rfl, hb⟩
  clear hc
  dsimp only
  have HP11 := Lib.hid (HP10.out.later hb.size (fun k h _ => hb.block k h))
  have HAW11 := Lib.hid (HAW10.out.later hb)
  have HBW11 := Lib.hid (HBW10.out.later hb)
  have HCW11 := Lib.hid (HCW10.out.later hb)
  have HWW11 := Lib.hid (HWW10.out.trans (hb.mono HWW10.out.size))
  clear hb
  obtain ⟨k0, k1, k2, k3⟩ := HBW11.out.cs
  go_wp2_with fail
  clear k0 k1 k2 k3
  have hc := Rounds_any (sampleJ [(31, 33)]) (.slice x3 4 c3) (.slice y3 3 d3) W11 HBW11.out.s HBW11.out.t (HTZ.out.below HWW11.out h1z)
  rw [HJV.out] at hc
  refine hc.mono ?_
  rintro e W12 ⟨rv, rfl, hrv, hb⟩
  clear hc
  rw [val_rounds2] at hrv ⊢
  dsimp only
  have HR12 := Lib.hid hrv
  obtain ⟨ra, rc, rfl, _⟩ := id hrv
  have hl3 : ((([0, 0, 1] : List Nat), (0 : Int)).1.map fun s : Nat => (s : Int)).length = 3 := rfl
  rw [hl3] at HR12 ⊢
  have HP12 := Lib.hid (HP11.out.later hb.size (fun k h _ => hb.block k h))
  have HAW12 := Lib.hid (HAW11.out.later hb)
  have HBW12 := Lib.hid (HBW11.out.later hb)
  have HCW12 := Lib.hid (HCW11.out.later hb)
  have HWW12 := Lib.hid (HWW11.out.trans (hb.mono HWW11.out.size))
  clear hb hrv hl3
  obtain ⟨k0, k1, k2, k3⟩ := HAW12.out.cs
  go_wp2_with fail
  clear k0 k1 k2 k3
  have hc := Lend_any (sampleJ []) (.slice x1 4 c1) (.slice y1 2 d1) W12 HAW12.out.s HAW12.out.t (HTZ.out.below HWW12.out h1z)
  rw [HJV.out, val_lend] at hc
  refine hc.mono ?_
  rintro e W13 ⟨rfl, hb⟩
  clear hc
  dsimp only
  have HP13 := Lib.hid (HP12.out.later hb.size (fun k h _ => hb.block k h))
  have HR13 := Lib.hid (HR12.out.later hb.size (fun k h _ => hb.block k h))
  have HAW13 := Lib.hid (HAW12.out.later hb)
  have HBW13 := Lib.hid (HBW12.out.later hb)
  have HCW13 := Lib.hid (HCW12.out.later hb)
  have HWW13 := Lib.hid (HWW12.out.trans (hb.mono HWW12.out.size))
  clear hb
  obtain ⟨k0, k1, k2, k3⟩ := HBW13.out.cs
  go_wp2_with fail
  clear k0 k1 k2 k3
  have hc := Plan_any (sampleJ [(31, 33)]) (.slice x3 4 c3) (.slice y3 3 d3) W13 HBW13.out.s HBW13.out.t (HTZ.out.below HWW13.out h1z)
  rw [HJV.out] at hc
  refine hc.mono ?_
  rintro e W14 ⟨p2, rfl, hp2, hb⟩
  clear hc
  rw [val_plan2] at hp2 ⊢
  dsimp only
  obtain ⟨qa, qc, rfl, _⟩ := id hp2
  have HP14 := Lib.hid (HP13.out.later hb.size (fun k h _ => hb.block k h))
  have HR14 := Lib.hid (HR13.out.later hb.size (fun k h _ => hb.block k h))
  have HAW14 := Lib.hid (HAW13.out.later hb)
  have HBW14 := Lib.hid (HBW13.out.later hb)
  have HCW14 := Lib.hid (HCW13.out.later hb)
  have HWW14 := Lib.hid (HWW13.out.trans (hb.mono HWW13.out.size))
  clear hb hp2
  go_wp2_with fail
  have hr := heap_alloc_at W14 (.cells #[.int .i64 8, .int .i64 4] 3) _ rfl
  have hn : NumsAt (W14.alloc (.cells #[.int .i64 8, .int .i64 4] 3)) (.slice (some ⟨W14.heap.size, 0, none⟩) 2 2) [8, 4] (fun _ => True) := by
    refine ⟨some ⟨W14.heap.size, 0, none⟩, 2, rfl, by decide, by decide, fun i hi => ⟨_, 0, rfl, trivial, lt_of_block hr, ?_⟩⟩
    have hi4 : i < 2 := hi
    have hc : i = 0 ∨ i = 1 := by omega
    rcases hc with rfl | rfl <;> (rw [cell_of_row _ _ _ _ _ _ hr]; rfl)
  refine (r12ints_any [8, 4] [8, 4] _ _ _ _ (by decide) (by decide) _ (HP14.out.later (by simp) (fun k h _ => hget_old _ _ _ (by omega))) hn).mono ?_
  rintro e W15 ⟨rfl, hb⟩
  simp only [decide_true]
  have HW15 := Lib.hid ((HWW14.out.alloc HWW14.out.size _).trans (hb.mono (by have := HWW14.out.size; simp; omega)))
  have HR15 := Lib.hid ((HR14.out.later (W := W14.alloc (.cells #[.int .i64 8, .int .i64 4] 3)) (by simp) (fun k h _ => hget_old _ _ _ (by omega))).later hb.size (fun k h _ => hb.block k h))
  clear hn hr hb
  go_wp2_with fail
  have hr := heap_alloc_at W15 (.cells #[.int .i64 0, .int .i64 0, .int .i64 1] 3) _ rfl
  have hn : NumsAt (W15.alloc (.cells #[.int .i64 0, .int .i64 0, .int .i64 1] 3)) (.slice (some ⟨W15.heap.size, 0, none⟩) 3 3) [0, 0, 1] (fun _ => True) := by
    refine ⟨some ⟨W15.heap.size, 0, none⟩, 3, rfl, by decide, by decide, fun i hi => ⟨_, 0, rfl, trivial, lt_of_block hr, ?_⟩⟩
    have hi4 : i < 3 := hi
    have hc : i = 0 ∨ i = 1 ∨ i = 2 := by omega
    rcases hc with rfl | rfl | rfl <;> (rw [cell_of_row _ _ _ _ _ _ hr]; rfl)
  refine (r12ints_any [0, 0, 1] [0, 0, 1] _ _ _ _ (by decide) (by decide) _ (HR15.out.later (by simp) (fun k h _ => hget_old _ _ _ (by omega))) hn).mono ?_
  rintro e W16 ⟨rfl, hb⟩
  simp only [decide_true]
  have HW16 := Lib.hid ((HW15.out.alloc HW15.out.size _).trans (hb.mono (by have := HW15.out.size; simp; omega)))
  clear hn hr hb
  go_wp2
  go_ret
  exact ⟨rfl, HW16.out⟩
end Go.Proofs.YtbmfphiecllggaaGreatDoor

/- Most and Why, in plain words. -/
namespace Go.Proofs.YtbmfphiecllggaaGreatDoor
set_option linter.unusedVariables false
set_option linter.unusedSimpArgs false
open Stab

theorem can_iff (j : JobD) (s : Nat) : canD j s = true ↔ ∃ l, PlanJ (selJ (rightsD j) s) (allD j) l := by
  unfold canD scoreD
  cases h : scoreJ 8 (selJ (rightsD j) s) (allD j) with
  | none => exact ⟨fun h => (by cases h), fun ⟨l, hl⟩ => absurd hl ((score_specJ 8 _ _).1 h l)⟩
  | some x => exact ⟨fun _ => ⟨_, ((score_specJ 8 _ _).2 x h).1⟩, fun _ => rfl⟩
theorem bit0_odd (s : Nat) : s.testBit 0 = decide (s % 2 = 1) := by
  rw [Nat.testBit_zero]
theorem bit_half (s i : Nat) : (s / 2).testBit i = s.testBit (i + 1) := by rw [Nat.testBit_succ]
theorem plan_sub : ∀ (Rs : List (List Nat)) (s t av : Nat) (l : List Nat), PlanJ (selJ Rs t) av l → (∀ i, s.testBit i = true → t.testBit i = true) → ∃ l', PlanJ (selJ Rs s) av l'
  | [], _, _, _, _, _, _ => ⟨[], rfl⟩
  | R :: Rs, s, t, av, l, h, hs => by
    have h0 := hs 0
    rw [bit0_odd, bit0_odd, decide_eq_true_eq, decide_eq_true_eq] at h0
    have h2 : ∀ i, (s / 2).testBit i = true → (t / 2).testBit i = true := fun i hi => by rw [bit_half] at hi ⊢; exact hs _ hi
    rw [selJ] at h
    rw [selJ]
    by_cases ht : t % 2 = 1
    · rw [if_pos ht] at h
      obtain ⟨x, l1, rfl, h3, h4, h5⟩ := h
      obtain ⟨l', hl'⟩ := plan_sub Rs (s / 2) (t / 2) _ l1 h5 h2
      by_cases hs1 : s % 2 = 1
      · rw [if_pos hs1]; exact ⟨x :: l', x, l', rfl, h3, h4, hl'⟩
      · rw [if_neg hs1]
        refine ⟨l', hl'.more rfl (fun i h h' x hx => hx) ((subJ_iff _ _).2 fun i hi => ?_)⟩
        rw [afterJ_bit, Bool.and_eq_true] at hi
        exact hi.1
    · rw [if_neg ht] at h
      rw [if_neg (fun e => ht (h0 e))]
      exact plan_sub Rs (s / 2) (t / 2) av l h h2
theorem can_sub {j : JobD} {s t : Nat} (h : canD j t = true) (hs : ∀ i, s.testBit i = true → t.testBit i = true) : canD j s = true := by
  rw [can_iff] at h ⊢
  obtain ⟨l, hl⟩ := h
  exact plan_sub _ s t _ l hl hs
theorem can_zero (j : JobD) : canD j 0 = true := by
  rw [can_iff]
  have : ∀ Rs : List (List Nat), selJ Rs 0 = [] := fun Rs => by
    induction Rs with
    | nil => rfl
    | cons R Rs ih => rw [selJ]; simpa using ih
  rw [this]
  exact ⟨[], rfl⟩
theorem can_all {j : JobD} (h : canD j (everyD j) = true) {s : Nat} (hs : s < 2 ^ j.ws.length) : canD j s = true :=
  can_sub h fun i hi => by
    unfold everyD
    rw [Nat.testBit_two_pow_sub_one, decide_eq_true_eq]
    apply Classical.byContradiction
    intro hn
    have := Nat.testBit_lt_two_pow (Nat.lt_of_lt_of_le hs (Nat.pow_le_pow_right (by decide) (by omega : j.ws.length ≤ i)))
    rw [this] at hi; cases hi
theorem fold_most (j : JobD) : ∀ (l : List Nat) (b : Nat), Srt ltM l → (∀ s ∈ l, sizeJ 4 b ≤ sizeJ 4 s ∧ (sizeJ 4 b = sizeJ 4 s → b ≤ s)) → canD j b = true →
    canD j (l.foldl (stepM j) b) = true ∧ (∀ s ∈ l, canD j s = true → sizeJ 4 s ≤ sizeJ 4 (l.foldl (stepM j) b) ∧ (sizeJ 4 s = sizeJ 4 (l.foldl (stepM j) b) → l.foldl (stepM j) b ≤ s)) ∧ sizeJ 4 b ≤ sizeJ 4 (l.foldl (stepM j) b) ∧ (sizeJ 4 b = sizeJ 4 (l.foldl (stepM j) b) → l.foldl (stepM j) b ≤ b)
  | [], b, _, _, hb => ⟨hb, fun s hs => (by cases hs), Nat.le_refl _, fun _ => Nat.le_refl _⟩
  | s :: l, b, hsr, hbl, hb => by
    obtain ⟨h1, h2⟩ := List.pairwise_cons.1 hsr
    have hbs := hbl s List.mem_cons_self
    rw [List.foldl_cons]
    by_cases hc : sizeJ 4 b < sizeJ 4 s ∧ canD j s = true
    · have hst : stepM j b s = s := by unfold stepM; rw [if_pos (by rw [Bool.and_eq_true, decide_eq_true_eq]; exact hc)]
      rw [hst]
      obtain ⟨g1, g2, g3, g4⟩ := fold_most j l s h2 (fun t ht => by have := (ltM_iff _ _).1 (h1 t ht); omega) hc.2
      refine ⟨g1, fun t ht hct => ?_, by omega, fun e => by omega⟩
      rcases List.mem_cons.1 ht with rfl | ht
      · exact ⟨g3, g4⟩
      · exact g2 t ht hct
    · have hst : stepM j b s = b := by unfold stepM; rw [if_neg (by rw [Bool.and_eq_true, decide_eq_true_eq]; exact hc)]
      rw [hst]
      obtain ⟨g1, g2, g3, g4⟩ := fold_most j l b h2 (fun t ht => hbl t (List.mem_cons_of_mem _ ht)) hb
      refine ⟨g1, fun t ht hct => ?_, g3, g4⟩
      rcases List.mem_cons.1 ht with rfl | ht
      · have h3 : ¬ sizeJ 4 b < sizeJ 4 t := fun h => hc ⟨h, hct⟩
        refine ⟨by omega, fun e => ?_⟩
        have h5 := g4 (by omega)
        have h6 := hbs.2 (by omega)
        omega
      · exact g2 t ht hct
theorem sizeJ_zero : ∀ n, sizeJ n 0 = 0
  | 0 => rfl
  | n + 1 => by rw [sizeJ, sizeJ_zero n]; simp
theorem setsM_srt (j : JobD) : Srt ltM (setsM j) := sort_srt _ List.nodup_range
theorem mem_setsM {j : JobD} {s : Nat} (h : s < 2 ^ j.ws.length) : s ∈ setsM j := (sort_perm lessM _).mem_iff.2 (List.mem_range.2 h)
/-- The most: one that can, and of all that can none is more, or as many and less. -/
theorem most_facts {j : JobD} (hv : validJb j = true) : ∃ b : Nat, mostD j = ((((sizeJ 4 b : Nat) : Int), ((b : Nat) : Int)), 0) ∧ b < 2 ^ j.ws.length ∧ canD j b = true ∧ ∀ s, s < 2 ^ j.ws.length → canD j s = true → sizeJ 4 s ≤ sizeJ 4 b ∧ (sizeJ 4 s = sizeJ 4 b → b ≤ s) := by
  obtain ⟨h1, h2, _⟩ := fold_most j (setsM j) 0 (setsM_srt j) (fun s _ => by rw [sizeJ_zero]; omega) (can_zero j)
  refine ⟨(setsM j).foldl (stepM j) 0, ?_, foldM_lt _ _ (Nat.two_pow_pos _) (fun s hs => setsM_lt s hs), h1, fun s hs hc => h2 s (mem_setsM hs) hc⟩
  unfold mostD
  rw [errD_ok hv, if_neg (by decide)]
  rfl
theorem find_first {l : List Nat} {p : Nat → Bool} {s : Nat} (hsr : Srt ltM l) (h : l.find? p = some s) : p s = true ∧ ∀ t ∈ l, p t = true → t = s ∨ ltM s t := by
  induction l with
  | nil => cases h
  | cons x l ih =>
    obtain ⟨h1, h2⟩ := List.pairwise_cons.1 hsr
    rw [List.find?_cons] at h
    cases hx : p x with
    | true =>
      rw [hx] at h
      obtain rfl : x = s := Option.some.inj h
      refine ⟨hx, fun t ht _ => ?_⟩
      rcases List.mem_cons.1 ht with rfl | ht
      · exact .inl rfl
      · exact .inr (h1 t ht)
    | false =>
      rw [hx] at h
      obtain ⟨g1, g2⟩ := ih h2 h
      refine ⟨g1, fun t ht hpt => ?_⟩
      rcases List.mem_cons.1 ht with rfl | ht
      · rw [hx] at hpt; cases hpt
      · exact g2 t ht hpt
/-- Why not: nothing, or the first that cannot. -/
theorem why_facts {j : JobD} (hv : validJb j = true) : (canD j (everyD j) = true ∧ whyD j = (0, 4)) ∨ (canD j (everyD j) = false ∧ ∃ s : Nat, whyD j = (((s : Nat) : Int), 0) ∧ s < 2 ^ j.ws.length ∧ canD j s = false ∧ ∀ t, t < 2 ^ j.ws.length → canD j t = false → sizeJ 4 s ≤ sizeJ 4 t ∧ (sizeJ 4 s = sizeJ 4 t → s ≤ t)) := by
  have hev : everyD j < 2 ^ j.ws.length := by have := Nat.two_pow_pos j.ws.length; unfold everyD; omega
  unfold whyD
  rw [errD_ok hv, if_neg (by decide)]
  cases h : (setsM j).find? (fun s => !canD j s) with
  | none =>
    have h1 := List.find?_eq_none.1 h _ (mem_setsM hev)
    exact .inl ⟨by simpa using h1, rfl⟩
  | some s =>
    obtain ⟨h1, h2⟩ := find_first (setsM_srt j) h
    have hs : s < 2 ^ j.ws.length := setsM_lt s (List.mem_of_find?_eq_some h)
    have h1 : canD j s = false := by simpa using h1
    refine .inr ⟨?_, s, rfl, hs, h1, fun t ht hc => ?_⟩
    · cases he : canD j (everyD j) with
      | false => rfl
      | true => rw [can_all he hs] at h1; cases h1
    · rcases h2 t (mem_setsM ht) (by rw [hc]; rfl) with rfl | h3
      · exact ⟨Nat.le_refl _, fun _ => Nat.le_refl _⟩
      · have := (ltM_iff _ _).1 h3; omega
theorem size_le4 : ∀ n < 5, ∀ b < 2 ^ n, sizeJ 4 b ≤ n ∧ (sizeJ 4 b = n → b = 2 ^ n - 1) := by decide +kernel
theorem size_every : ∀ n < 5, sizeJ 4 (2 ^ n - 1) = n := by decide +kernel
theorem size_less : ∀ s < 16, ∀ i < 4, s.testBit i = true → sizeJ 4 (afterJ s (2 ^ i)) < sizeJ 4 s := by decide +kernel
end Go.Proofs.YtbmfphiecllggaaGreatDoor

/- The plan told is the first of the cheapest, in order of the numbers. -/
namespace Go.Proofs.YtbmfphiecllggaaGreatDoor
set_option linter.unusedVariables false
set_option linter.unusedSimpArgs false

def FirstJ (m : Nat) (Rs : List (List Nat)) (av : Nat) (seen : List Nat) : Option (Nat × Nat) → Prop
  | none => ∀ s ∈ seen, subJ s av = true → scoreJ m Rs (afterJ av s) = none
  | some y => y.1 ∈ seen ∧ ∀ s ∈ seen, subJ s av = true → ∀ x, scoreJ m Rs (afterJ av s) = some x → y.2 ≤ sizeJ m s + x.2 ∧ (y.2 = sizeJ m s + x.2 → y.1 ≤ s)
theorem first_foldJ (m : Nat) (Rs : List (List Nat)) (av : Nat) : ∀ (R seen : List Nat) (b : Option (Nat × Nat)), (∀ a ∈ seen, ∀ c ∈ R, a < c) → R.Pairwise (· < ·) → FirstJ m Rs av seen b →
    FirstJ m Rs av (seen ++ R) (R.foldl (fun best s => if subJ s av then (match scoreJ m Rs (afterJ av s) with
      | none => best
      | some x => if (match best with | none => true | some y => decide (sizeJ m s + x.2 < y.2)) then some (s, sizeJ m s + x.2) else best) else best) b)
  | [], seen, b, _, _, h => by simpa using h
  | s :: R, seen, b, hlt, hsr, h => by
    obtain ⟨hs1, hs2⟩ := List.pairwise_cons.1 hsr
    rw [List.foldl_cons, show seen ++ s :: R = (seen ++ [s]) ++ R by simp]
    refine first_foldJ m Rs av R (seen ++ [s]) _ (fun a ha c hc => ?_) hs2 ?_
    · rcases List.mem_append.1 ha with ha | ha
      · exact hlt a ha c (List.mem_cons_of_mem _ hc)
      · rw [List.mem_singleton.1 ha]; exact hs1 c hc
    by_cases hsub : subJ s av = true
    · rw [if_pos hsub]
      cases hsc : scoreJ m Rs (afterJ av s) with
      | none =>
        cases b with
        | none =>
          intro t ht htb
          rcases List.mem_append.1 ht with ht | ht
          · exact h t ht htb
          · rw [List.mem_singleton.1 ht]; exact hsc
        | some y =>
          refine ⟨List.mem_append_left _ h.1, fun t ht htb x hx => ?_⟩
          rcases List.mem_append.1 ht with ht | ht
          · exact h.2 t ht htb x hx
          · rw [List.mem_singleton.1 ht, hsc] at hx; cases hx
      | some x0 =>
        dsimp only
        cases b with
        | none =>
          dsimp only
          rw [if_pos rfl]
          refine ⟨List.mem_append_right _ (List.mem_singleton.2 rfl), fun t ht htb x hx => ?_⟩
          rcases List.mem_append.1 ht with ht | ht
          · rw [h t ht htb] at hx; cases hx
          · rw [List.mem_singleton.1 ht] at hx ⊢
            rw [hsc] at hx
            obtain rfl : x0 = x := Option.some.inj hx
            exact ⟨Nat.le_refl _, fun _ => Nat.le_refl _⟩
        | some y =>
          dsimp only
          by_cases hlt2 : sizeJ m s + x0.2 < y.2
          · rw [if_pos (decide_eq_true hlt2)]
            refine ⟨List.mem_append_right _ (List.mem_singleton.2 rfl), fun t ht htb x hx => ?_⟩
            rcases List.mem_append.1 ht with ht | ht
            · have := (h.2 t ht htb x hx).1
              dsimp only
              omega
            · rw [List.mem_singleton.1 ht] at hx ⊢
              rw [hsc] at hx
              obtain rfl : x0 = x := Option.some.inj hx
              exact ⟨Nat.le_refl _, fun _ => Nat.le_refl _⟩
          · rw [if_neg (by rw [decide_eq_true_eq]; exact hlt2)]
            refine ⟨List.mem_append_left _ h.1, fun t ht htb x hx => ?_⟩
            rcases List.mem_append.1 ht with ht | ht
            · exact h.2 t ht htb x hx
            · rw [List.mem_singleton.1 ht] at hx ⊢
              rw [hsc] at hx
              obtain rfl : x0 = x := Option.some.inj hx
              refine ⟨by omega, fun _ => ?_⟩
              exact Nat.le_of_lt (hlt _ h.1 s List.mem_cons_self)
    · rw [if_neg hsub]
      cases b with
      | none =>
        intro t ht htb
        rcases List.mem_append.1 ht with ht | ht
        · exact h t ht htb
        · rw [List.mem_singleton.1 ht] at htb; exact absurd htb hsub
      | some y =>
        refine ⟨List.mem_append_left _ h.1, fun t ht htb x hx => ?_⟩
        rcases List.mem_append.1 ht with ht | ht
        · exact h.2 t ht htb x hx
        · rw [List.mem_singleton.1 ht] at htb; exact absurd htb hsub
/-- Of the plans as cheap as that told, none comes before it. -/
theorem told_first (m : Nat) : ∀ (Rs : List (List Nat)) (av : Nat) (l : List Nat), (∀ R ∈ Rs, R.Pairwise (· < ·)) → PlanJ Rs av l → costJ m l = costJ m (toldJ m Rs av) →
    ∀ i (h : i < l.length) (h' : i < (toldJ m Rs av).length), (∀ q (hq : q < l.length) (hq' : q < (toldJ m Rs av).length), q < i → l[q] = (toldJ m Rs av)[q]) → (toldJ m Rs av)[i] ≤ l[i]
  | [], av, l, _, _, _, i, _, h', _ => absurd h' (by simp [toldJ])
  | R :: Rs, av, l, hR, hp, hc, i, h, h', hq => by
    obtain ⟨s, t, rfl, h1, h2, h3⟩ := id hp
    cases hy : scoreJ m (R :: Rs) av with
    | none => exact absurd hp ((score_specJ m _ _).1 hy _)
    | some y =>
      have htold : toldJ m (R :: Rs) av = y.1 :: toldJ m Rs (afterJ av y.1) := by rw [toldJ, hy]
      have hcy := ((score_specJ m _ _).2 y hy).2.1
      have hf : FirstJ m Rs av R (scoreJ m (R :: Rs) av) := by
        have := first_foldJ m Rs av R [] none (fun a ha => by cases ha) (hR R List.mem_cons_self) (fun s hs => by cases hs)
        rw [List.nil_append] at this
        rw [scoreJ]
        exact this
      rw [hy] at hf
      cases hx : scoreJ m Rs (afterJ av s) with
      | none => exact absurd h3 ((score_specJ m _ _).1 hx t)
      | some x =>
        obtain ⟨g1, g2⟩ := hf.2 s h1 h2 x hx
        have hxs := (score_specJ m _ _).2 x hx
        have hct : costJ m (s :: t) = sizeJ m s + costJ m t := by unfold costJ; simp
        have hxt := hxs.2.2 t h3
        have hys : y.1 ≤ s := g2 (by omega)
        simp only [htold] at h' hq ⊢
        cases i with
        | zero => exact hys
        | succ i =>
          have h0 := hq 0 (by simp) (by simp) (by omega)
          have h0 : s = y.1 := by simpa using h0
          subst h0
          refine told_first m Rs (afterJ av y.1) t (fun R' hR' => hR R' (List.mem_cons_of_mem _ hR')) h3 (by rw [hxs.2.1]; omega) i (by simpa using h) (by simpa using h') (fun q hq1 hq2 hqi => ?_)
          have := hq (q + 1) (by simpa using hq1) (by simpa using hq2) (by omega)
          simpa using this
theorem rights_sorted (x : JobD) : ∀ R ∈ rightsD x, R.Pairwise (· < ·) := fun R hR => by
  unfold rightsD at hR
  obtain ⟨w, _, rfl⟩ := List.mem_map.1 hR
  exact List.Pairwise.filter _ List.pairwise_lt_range
end Go.Proofs.YtbmfphiecllggaaGreatDoor
