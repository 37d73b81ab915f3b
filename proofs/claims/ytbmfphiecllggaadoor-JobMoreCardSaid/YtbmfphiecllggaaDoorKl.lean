/- Texts Ha, Hb, Hc, Hd, He, Hg, Hm, Cb, Cn in one file; each begins with a word on what it proves. -/
import Derived.Laws.BitsAllLaws
import Derived.Laws.EntriesVeiled
import Derived.Test.YtbmfphiecllggaaDoorKj
import Derived.Test.YtbmfphiecllggaaDoorKg
import Derived.Test.YtbmfphiecllggaaDoorKh
import Derived.Test.YtbmfphiecllggaaDoorKf

/- The statements about jobs: their small functions, and the document's examples. -/
namespace Go.Proofs.YtbmfphiecllggaaDoor
set_option linter.unusedVariables false
set_option linter.unusedSimpArgs false
open Go.RowKit Go.Shelf
attribute [local go_sem] Oper.semAt_some

theorem wp_append_nilJ {w : World} {o : Oper} {a : Act} {K : Act → World → Prop} {Q : Exit → Act → World → Prop} (s x : Operand) (t : TypeId)
    (ho : o.op = .call { callee := .builtin .append, args := #[s, x], argTypes := #[t, t] }) (e : TypeId) (size bytes : Nat) (z : Value) (ht : Tryd.prog.underlying t = some (.slice e)) (hinfo : (Tryd.prog.info? e).map (fun i => (i.zero, i.size, i.bytes)) = some (some z, size, bytes))
    (g n k : Nat) (hnk : n ≤ k) (hs : a.eval s = .slice (some ⟨g, 0, none⟩) n k) (c : Nat) (hx : a.eval x = .slice none 0 c) (h : K (a.put o.dst (.slice (some ⟨g, 0, none⟩) n k)) w) : o.wp Tryd.prog a w K Q := by
  obtain ⟨i, hi, hz, hsize, hby⟩ := info_parts hinfo
  unfold Oper.wp execOp
  simp only [ho, resolve, invoke, builtin, Sem.run_bind, Sem.run_pure, Result.andThen_ok, List.map_toArray, List.map_cons, List.map_nil, hs, hx]
  have hr : (Builtin.append_ #[t, t] o.type #[.slice (some ⟨g, 0, none⟩) n k, .slice none 0 c]).run Tryd.prog w = .ok (.slice (some ⟨g, 0, none⟩) n k) w := by
    simp [Builtin.append_, run_underlying ht, sizeOf, typeInfo, hi, Builtin.lenOf, Builtin.firstCells, loadCells, loadCellsFrom, storeCells, hnk]
  rw [hr]
  exact h
theorem lspan_any (a b : Int) (w : World) : Calls Tryd.prog 72 #[.int .i64 a, .int .i64 b] w fun e w' => e = .returned (spV (a, b)) ∧ Below w.heap.size w w' := by
  go_enter Tryd.func72, Tryd.ntmps72
  go_wp2
  have hr : (w.alloc (.cells #[.int .i64 a, .int .i64 b] 24)).heap[w.heap.size]? = some (.cells #[.int .i64 a, .int .i64 b] 24 (0, 0)) := heap_alloc_at _ _ _ rfl
  have e0 := cell_of_row _ _ 0 _ _ _ hr
  have e1 := cell_of_row _ _ 1 _ _ _ hr
  exact bodyPost_ret (v := spV (a, b)) (by simp [results, Tryd.results72, go_sem, spV, e0, e1]) rfl ⟨rfl, (Below.refl _ _).alloc (Nat.le_refl _) _⟩
theorem wpList_max3 {w : World} {ops : Array Oper} {rest : List Oper} {o : Oper} {a : Act} {Q : Exit → Act → World → Prop} (hgd : o.guard = none) (x y z : Operand)
    (ho : o.op = .call { callee := .builtin .max, args := #[x, y, z], argTypes := #[3, 3, 3] }) (hty : o.type = 3) (p q r m : Int) (hx : a.eval x = .int .i64 p) (hy : a.eval y = .int .i64 q) (hz : a.eval z = .int .i64 r) (hm : max p (max q r) = m)
    (h : wpList Tryd.prog ops Q rest (a.put o.dst (.int .i64 m)) w) : wpList Tryd.prog ops Q (o :: rest) a w := by
  refine wpList_plain hgd fun K hK => ?_
  unfold Oper.wp execOp
  simp only [ho, resolve, invoke, builtin, Sem.run_bind, Sem.run_pure, Result.andThen_ok, List.map_toArray, List.map_cons, List.map_nil, hx, hy, hz, hty]
  have hr : (Builtin.max_ #[3, 3, 3] 3 #[Value.int IntKind.i64 p, Value.int IntKind.i64 q, Value.int IntKind.i64 r]).run Tryd.prog w = .ok (.int .i64 m) w := by
    rw [← hm]
    simp [Builtin.max_, Builtin.max2, go_sem]
    by_cases h1 : p < q
    · rw [if_pos h1]
      by_cases h2 : q < r
      · simp [h2]; omega
      · simp [h2]; omega
    · rw [if_neg h1]
      by_cases h2 : p < r
      · simp [h2]; omega
      · simp [h2]; omega
  rw [hr]
  exact hK _ _ h
set_option maxHeartbeats 4000000 in
theorem far_any (j : JobD) (n cap m cap' k cap3 : Nat) (ao ao' a3 : Option Addr) (w : World) :
    Calls Tryd.prog 26 #[jobV j (.slice ao n cap) (.slice ao' m cap'), .slice a3 k cap3] w fun e w' => e = .returned (.bool (decide (40 < max n (max m k)))) ∧ Below w.heap.size w w' := by
  unfold jobV
  obtain ⟨x, hx⟩ : ∃ x, x = max n (max m k) := ⟨_, rfl⟩
  have hmm : max (n : Int) (max (m : Int) (k : Int)) = (x : Int) := by omega
  rw [← hx]
  clear hx
  go_enter Tryd.func26, Tryd.ntmps26
  go_wp2_with (first | (refine wpList_max3 rfl (.tmp 8) (.tmp 11) (.tmp 13) rfl rfl (n : Int) (m : Int) (k : Int) _ rfl rfl rfl hmm ?_))
  go_ret
  refine ⟨congrArg (fun b => Ending.returned (Value.bool b)) ?_, Below.alloc' _ _⟩
  show decide _ = decide _
  rw [decide_eq_decide]
  omega
/-- A job is valid, and there is not far too much of something. -/
def fineJ (j : JobD) : Bool := decide (max j.st.bs.length j.ws.length ≤ 40) && validJb j
theorem fine_valid (j : JobD) : fineJ j = validJb j := by
  unfold fineJ
  cases h : validJb j with
  | false => simp
  | true =>
    obtain ⟨h1, h2, _⟩ := validJb_parts h
    have h3 := (validSt_parts h1).1
    rw [decide_eq_true (by omega)]; rfl
set_option maxHeartbeats 4000000 in
theorem fine_any (j : JobD) (bs ws : Value) (w : World) (hbs : SpansAt w bs j.st.bs (fun k => k < w.heap.size)) (hws : SpansAt w ws j.ws (fun k => k < w.heap.size)) :
    Calls Tryd.prog 32 #[jobV j bs ws] w fun e w' => e = .returned (.bool (validJb j)) ∧ Below w.heap.size w w' := by
  have HBS := Lib.hid hbs
  have HWS := Lib.hid hws
  obtain ⟨ao, cap, rfl, _⟩ := id hbs
  obtain ⟨ao2, cap2, rfl, _⟩ := id hws
  obtain ⟨nb, hnb⟩ : ∃ n, n = j.st.bs.length := ⟨_, rfl⟩
  obtain ⟨nw, hnw⟩ : ∃ n, n = j.ws.length := ⟨_, rfl⟩
  rw [← hnb] at HBS
  rw [← hnw] at HWS
  have HF := Lib.hid (fine_valid j)
  have HNB := Lib.hid hnb
  have HNW := Lib.hid hnw
  have hjv : jobV j (.slice ao nb cap) (.slice ao2 nw cap2) = .agg #[.slice ao nb cap, .int .i64 j.st.film.1, .int .i64 j.st.film.2, .slice ao2 nw cap2] := rfl
  rw [← hnb, ← hnw, hjv]
  have HJV := Lib.hid hjv
  clear hbs hws hnb hnw hjv
  have hrow : ∀ o, o = Obj.cells #[.slice ao nb cap, .int .i64 j.st.film.1, .int .i64 j.st.film.2, .slice ao2 nw cap2] 28 (0, 0) → (w.alloc o).heap[w.heap.size]? = some o := fun o _ => heap_alloc_at _ _ _ rfl
  have HR := Lib.hid (hrow _ rfl)
  clear hrow
  go_enter Tryd.func32, Tryd.ntmps32
  go_wp2_with fail
  have hc := far_any j nb cap nw cap2 0 0 ao ao2 none (w.alloc (.cells #[.slice ao nb cap, .int .i64 j.st.film.1, .int .i64 j.st.film.2, .slice ao2 nw cap2] 28))
  rw [HJV.out] at hc
  refine hc.mono ?_
  rintro e w1 ⟨rfl, hb1⟩
  clear hc
  dsimp only
  have hr1 := (hb1.block _ (by simp)).trans HR.out
  have hb01 : Below w.heap.size w w1 := (Below.alloc' _ _).trans (hb1.mono (by simp))
  have H1 := Lib.hid (And.intro hr1 hb01)
  have c0 : w1.cell? ⟨w.heap.size, 0, none⟩ = some (.slice ao nb cap) := by rw [cell_of_row _ _ _ _ _ _ hr1]; rfl
  have c1 : w1.cell? ⟨w.heap.size, 1, none⟩ = some (.int .i64 j.st.film.1) := by rw [cell_of_row _ _ _ _ _ _ hr1]; rfl
  have c2 : w1.cell? ⟨w.heap.size, 2, none⟩ = some (.int .i64 j.st.film.2) := by rw [cell_of_row _ _ _ _ _ _ hr1]; rfl
  have c3 : w1.cell? ⟨w.heap.size, 3, none⟩ = some (.slice ao2 nw cap2) := by rw [cell_of_row _ _ _ _ _ _ hr1]; rfl
  clear hb1 hr1 hb01
  by_cases h40 : 40 < max nb (max nw 0)
  · rw [decide_eq_true h40]
    have HX := Lib.hid (show validJb j = false by rw [← HF.out]; unfold fineJ; rw [decide_eq_false (by rw [← HNB.out, ← HNW.out]; omega)]; rfl)
    clear h40
    go_wp2
    go_ret
    exact ⟨by rw [HX.out]; rfl, H1.out.2⟩
  · rw [decide_eq_false h40]
    clear h40
    go_wp2_with fail
    have hc := r12job_any j (.slice ao nb cap) (.slice ao2 nw cap2) w1 (by rw [HNB.out] at HBS ⊢; exact (HBS.out.later H1.out.2.size (fun k h1 _ => H1.out.2.block k h1)).low) (by rw [HNW.out] at HWS ⊢; exact (HWS.out.later H1.out.2.size (fun k h1 _ => H1.out.2.block k h1)).low)
    rw [HJV.out] at hc
    refine hc.mono ?_
    rintro e w2 ⟨rfl, hb2⟩
    clear hc
    dsimp only
    have H2 := Lib.hid (H1.out.2.trans (hb2.mono H1.out.2.size))
    clear hb2
    cases hv : validJb j with
    | false =>
      have HV := Lib.hid hv
      clear hv
      go_wp2
      go_ret
      exact ⟨by rw [HV.out]; rfl, H2.out⟩
    | true =>
      have HV := Lib.hid hv
      clear hv
      go_wp2
      go_ret
      exact ⟨by rw [HV.out]; rfl, H2.out⟩
/-- The document's job with wants more. -/
def sampleJ (l : List (Int × Int)) : JobD := ⟨stackS, (31, 36) :: (20, 24) :: l⟩
def SS (b : Nat) (v : Value) (Y : World) : Prop := Y.cell? ⟨b, 0, none⟩ = some v ∧ Y.cell? ⟨b, 1, none⟩ = some (.int .i64 1) ∧ Y.cell? ⟨b, 2, none⟩ = some (.int .i64 2)
theorem SS.below {b : Nat} {v : Value} {Y Y' : World} (h : SS b v Y) (hb : Below Y.heap.size Y Y') : SS b v Y' :=
  ⟨cell_below h.1 hb, cell_below h.2.1 hb, cell_below h.2.2 hb⟩
theorem SS.keepsS {b q : Nat} {v : Value} {Y Y' : World} (h : SS b v Y) (hq : b < q) (hk : Keeps (fun k => k = q) Y Y') : SS b v Y' := by
  have hc : ∀ i u, Y.cell? ⟨b, i, none⟩ = some u → Y'.cell? ⟨b, i, none⟩ = some u := fun i u h => (World.cell?_of_block (w := Y) (w' := Y') (a := ⟨b, i, none⟩) (hk.block b (lt_of_cell h) (by omega))).trans h
  exact ⟨hc _ _ h.1, hc _ _ h.2.1, hc _ _ h.2.2⟩
/-- What extra wants come as: none, or one. -/
def ExtraJ (w : World) (v : Value) (l : List (Int × Int)) : Prop := (l = [] ∧ v = .slice none 0 0) ∨ ∃ g lo hi, l = [(lo, hi)] ∧ v = .slice (some ⟨g, 0, none⟩) 1 1 ∧ w.heap[g]? = some (.cells #[.int .i64 lo, .int .i64 hi] 24 (0, 0))
set_option maxRecDepth 100000 in
set_option maxHeartbeats 4000000 in
theorem sample_any (l : List (Int × Int)) (v : Value) (w : World) (hx : ExtraJ w v l) : Calls Tryd.prog 71 #[v] w fun e w' => (∃ bs ws, e = .returned (jobV (sampleJ l) bs ws) ∧ SpansAt w' bs stackS.bs (fun k => w.heap.size ≤ k ∧ k < w'.heap.size) ∧ SpansAt w' ws (sampleJ l).ws (fun k => w.heap.size ≤ k ∧ k < w'.heap.size)) ∧ Below w.heap.size w w' := by
  have HX := Lib.hid hx
  clear hx
  go_enter Tryd.func71, Tryd.ntmps71
  go_wp2_with fail
  obtain ⟨A, hA⟩ : ∃ A, A = w.alloc (.cells #[.slice none 0 0, .int .i64 0, .int .i64 0, .slice none 0 0] 28) := ⟨_, rfl⟩
  have HA1 := Lib.hid (show A.heap[w.heap.size]? = some (.cells #[.slice none 0 0, .int .i64 0, .int .i64 0, .slice none 0 0] 28 (0, 0)) by rw [hA]; exact heap_alloc_at _ _ _ rfl)
  have HA2 := Lib.hid (show Below w.heap.size w A by rw [hA]; exact Below.alloc' _ _)
  have hA3 : A.heap.size = w.heap.size + 1 := by rw [hA]; simp
  rw [← hA]
  clear hA
  refine (lspan_any (10) (10) _).mono ?_
  rintro e w1 ⟨rfl, hb1⟩
  have H1 := Lib.hid hb1
  clear hb1
  unfold spV
  dsimp only
  go_wp2_with fail
  refine (lspan_any (12) (13) _).mono ?_
  rintro e w2 ⟨rfl, hb1⟩
  have H2 := Lib.hid hb1
  clear hb1
  unfold spV
  dsimp only
  go_wp2_with fail
  refine (lspan_any (20) (20) _).mono ?_
  rintro e w3 ⟨rfl, hb1⟩
  have H3 := Lib.hid hb1
  clear hb1
  unfold spV
  dsimp only
  go_wp2_with fail
  refine (lspan_any (31) (32) _).mono ?_
  rintro e w4 ⟨rfl, hb1⟩
  have H4 := Lib.hid hb1
  clear hb1
  unfold spV
  dsimp only
  go_wp2_with fail
  have a1 := H1.out.size
  have a2 := H2.out.size
  have a3 := H3.out.size
  have a4 := H4.out.size
  obtain ⟨g, hg⟩ : ∃ x, x = w4.heap.size := ⟨_, rfl⟩
  obtain ⟨B, hB⟩ : ∃ B, B = w4.alloc (.cells #[.int .i64 10, .int .i64 10, .int .i64 12, .int .i64 13, .int .i64 20, .int .i64 20, .int .i64 31, .int .i64 32] 24) := ⟨_, rfl⟩
  have hBr : B.heap[g]? = some (.cells #[.int .i64 10, .int .i64 10, .int .i64 12, .int .i64 13, .int .i64 20, .int .i64 20, .int .i64 31, .int .i64 32] 24 (0, 0)) := by rw [hB, hg]; exact heap_alloc_at _ _ _ rfl
  have hBb : Below w.heap.size w B := by rw [hB]; exact ((HA2.out.trans (H1.out.mono (by omega))).trans ((H2.out.mono (by omega)).trans ((H3.out.mono (by omega)).trans (H4.out.mono (by omega))))).alloc (by omega) _
  have hBa : B.heap[w.heap.size]? = some (.cells #[.slice none 0 0, .int .i64 0, .int .i64 0, .slice none 0 0] 28 (0, 0)) := by
    rw [hB]
    exact (hget_old _ _ _ (by omega)).trans ((H4.out.block _ (by omega)).trans ((H3.out.block _ (by omega)).trans ((H2.out.block _ (by omega)).trans ((H1.out.block _ (by omega)).trans HA1.out))))
  try rw [← hB]
  try rw [← hg]
  have hgs := lt_of_block hBr
  have hga : w.heap.size < g := by omega
  clear hB hg
  refine (lspan_any 1 2 _).mono ?_
  rintro e w5 ⟨rfl, hb5⟩
  unfold spV
  dsimp only
  have r5 := (hb5.block _ (lt_of_block hBa)).trans hBa
  have g5 := (hb5.block _ hgs).trans hBr
  have b5 := hBb.trans (hb5.mono hBb.size)
  have R5 := Lib.hid (And.intro r5 (And.intro g5 b5))
  clear r5 g5 b5 hb5 hBr hBb hBa
  go_wp2_with fail
  obtain ⟨sb, hsb⟩ : ∃ x, x = w5.heap.size := ⟨_, rfl⟩
  obtain ⟨C, hC⟩ : ∃ C, C = w5.alloc (.cells #[.slice (some ⟨g, 0, none⟩) 4 4, .int .i64 1, .int .i64 2] 26 (0, 0)) := ⟨_, rfl⟩
  have hCr : C.heap[sb]? = some (.cells #[.slice (some ⟨g, 0, none⟩) 4 4, .int .i64 1, .int .i64 2] 26 (0, 0)) := by rw [hC, hsb]; exact heap_alloc_at _ _ _ rfl
  have hb5C : Below w5.heap.size w5 C := by rw [hC]; exact Below.alloc' _ _
  have hwC : Below w.heap.size w C := R5.out.2.2.trans (hb5C.mono R5.out.2.2.size)
  have haC := (hb5C.block _ (lt_of_block R5.out.1)).trans R5.out.1
  have hgC := (hb5C.block _ (lt_of_block R5.out.2.1)).trans R5.out.2.1
  have hsbs := lt_of_block hCr
  have hsbw : w.heap.size < sb := by rw [hsb]; exact lt_of_block R5.out.1
  have hS0 : SS sb (.slice (some ⟨g, 0, none⟩) 4 4) C := ⟨by rw [cell_of_row _ _ _ _ _ _ hCr]; rfl, by rw [cell_of_row _ _ _ _ _ _ hCr]; rfl, by rw [cell_of_row _ _ _ _ _ _ hCr]; rfl⟩
  rw [← hC]
  try rw [← hsb]
  have RC := Lib.hid (And.intro hwC (And.intro haC hgC))
  clear hC hsb hCr hb5C hwC haC hgC R5
  refine wp_region_tail 7 #[false, false, false, false, false, false, false, true] (SS sb (.slice (some ⟨g, 0, none⟩) 4 4)) (by kernel_rfl) (by kernel_rfl) (by rfl) (hS0.below (Below.refl _ _).drew) fun hS => ?_
  obtain ⟨D, hD⟩ : ∃ D, D = C.drew := ⟨_, rfl⟩
  have hCD : Below C.heap.size C D := by rw [hD]; exact (Below.refl _ _).drew
  rw [← hD] at hS ⊢
  have HCD := Lib.hid hCD
  clear hD hCD hS0
  refine wpAnyH_take (i := 0) (v := ?_) rfl (by kernel_rfl) (by kernel_rfl) (by kernel_rfl) (fun _ _ _ h => h) (Or.inl ⟨by rfl, ?_⟩) hS ?_
  rotate_left
  · (intro W hSw; obtain ⟨q0, q1, q2⟩ := hSw; go_simp; try with_reducible rfl)
  try simp only [List.getElem_toArray, List.getElem_cons_succ, List.getElem_cons_zero, Act.put, List.setIfInBounds_toArray, List.set_cons_zero, List.set_cons_succ]
  refine wpAnyH_take (i := 4) (v := ?_) rfl (by kernel_rfl) (by kernel_rfl) (by kernel_rfl) (fun _ _ _ h => h) (Or.inl ⟨by rfl, ?_⟩) hS ?_
  rotate_left
  · (intro W hSw; obtain ⟨q0, q1, q2⟩ := hSw; go_simp; try with_reducible rfl)
  try simp only [List.getElem_toArray, List.getElem_cons_succ, List.getElem_cons_zero, Act.put, List.setIfInBounds_toArray, List.set_cons_zero, List.set_cons_succ]
  refine wpAnyH_call (k := 1) (by kernel_rfl) rfl rfl (f := 72) (args := #[.int .i64 31, .int .i64 36]) (by simp [execOp, go_sem, Act.eval, Act.put]) ?_
  refine (lspan_any 31 36 _).mono ?_
  rintro e w6 ⟨rfl, hb6⟩
  unfold spV
  dsimp only
  have H6 := Lib.hid (HCD.out.trans (hb6.mono HCD.out.size))
  refine ⟨hS.below hb6, ?_⟩
  have hS := hS.below hb6
  clear hb6
  try simp only [List.getElem_toArray, List.getElem_cons_succ, List.getElem_cons_zero, Act.put, List.setIfInBounds_toArray, List.set_cons_zero, List.set_cons_succ]
  refine wpAnyH_call (k := 2) (by kernel_rfl) rfl rfl (f := 72) (args := #[.int .i64 20, .int .i64 24]) (by simp [execOp, go_sem, Act.eval, Act.put]) ?_
  refine (lspan_any 20 24 _).mono ?_
  rintro e w7 ⟨rfl, hb7⟩
  unfold spV
  dsimp only
  have H7 := Lib.hid (H6.out.trans (hb7.mono H6.out.size))
  refine ⟨hS.below hb7, ?_⟩
  have hS := hS.below hb7
  clear hb7
  try simp only [List.getElem_toArray, List.getElem_cons_succ, List.getElem_cons_zero, Act.put, List.setIfInBounds_toArray, List.set_cons_zero, List.set_cons_succ]
  refine wpAnyH_ready (rs := [3]) (by kernel_rfl) (by simp) ?_
  refine AllReadyH.cons rfl (fun K hK => ?_) AllReadyH.nil
  go_simp
  obtain ⟨q, hq⟩ : ∃ x, x = w7.heap.size := ⟨_, rfl⟩
  obtain ⟨E, hE⟩ : ∃ E, E = w7.alloc (.cells #[.int .i64 31, .int .i64 36, .int .i64 20, .int .i64 24] 24) := ⟨_, rfl⟩
  have hEr : E.heap[q]? = some (.cells #[.int .i64 31, .int .i64 36, .int .i64 20, .int .i64 24] 24 (0, 0)) := by rw [hE, hq]; exact heap_alloc_at _ _ _ rfl
  have h7E : Below w7.heap.size w7 E := by rw [hE]; exact Below.alloc' _ _
  have hqC : C.heap.size ≤ q := by rw [hq]; exact H7.out.size
  have hCE : Below C.heap.size C E := H7.out.trans (h7E.mono H7.out.size)
  try rw [← hE]
  try rw [← hq]
  have hS2 := hS.below h7E
  clear hE hq hS h7E
  refine hK _ _ hS2 (fun hS => ?_)
  clear hK K hS2
  try simp only [List.getElem_toArray, List.getElem_cons_succ, List.getElem_cons_zero, Act.put, List.setIfInBounds_toArray, List.set_cons_zero, List.set_cons_succ]
  have hownE : E.ownsRow q 24 2 (.slice (some ⟨q, 0, none⟩) 2 2) 2 (([(31, 36), (20, 24)] : List (Int × Int)).flatMap spanC) := ⟨by decide, .inr ⟨q, 2, _, rfl, Nat.le_refl _, hEr, by decide, by decide, by rfl, by rfl⟩⟩
  have hqE := lt_of_block hEr
  have H8 := Lib.hid (And.intro hownE hCE)
  clear hEr
  refine wpAnyH_oper (k := 5) (by kernel_rfl) rfl (by kernel_rfl) ?_
  have hfin : ∀ (v' : Value) (W : World), W.ownsRow q 24 2 v' (2 + l.length) (([(31, 36), (20, 24)] : List (Int × Int)).flatMap spanC ++ l.flatMap spanC) → Keeps (fun k => k = q) E W → (∃ a c, v' = .slice a (2 + l.length) c) ∧ SpansAt W v' (sampleJ l).ws (fun k => q ≤ k ∧ k < W.heap.size) ∧ Below C.heap.size C W := by
    intro v' W h1 h2
    refine ⟨?_, spans_of_own (by show 2 + l.length = l.length + 1 + 1; omega) ?_, H8.out.2.trans (h2.below H8.out.2.size (fun k h e => by omega))⟩
    · rcases h1.2 with ⟨h3, h4⟩ | ⟨g, cap, cur, h3, _⟩
      · omega
      · exact ⟨_, _, h3⟩
    · rw [← List.flatMap_append] at h1
      exact h1
  have HFIN := Lib.hid hfin
  clear hfin
  rcases HX.out with ⟨rfl, rfl⟩ | ⟨xg, lo, hi, rfl, rfl, hxg⟩
  · refine wp_append_nilJ (.tmp 14) (.tmp 15) 22 rfl 24 2 16 _ underSpansJ infoSpanJ q 2 2 (Nat.le_refl _) rfl 0 rfl ?_
    have hsl := HFIN.out _ E (by simpa using H8.out.1) (Keeps.refl _ _)
    have HSL := Lib.hid hsl
    refine ⟨hS, ?_⟩
    try simp only [List.getElem_toArray, List.getElem_cons_succ, List.getElem_cons_zero, Act.put, List.setIfInBounds_toArray, List.set_cons_zero, List.set_cons_succ]
    refine wpAnyH_take (i := 6) (v := ?_) rfl (by kernel_rfl) (by kernel_rfl) (by kernel_rfl) (fun _ _ _ h => h) (Or.inl ⟨by rfl, ?_⟩) hS ?_
    rotate_left
    · (intro W hSw; obtain ⟨q0, q1, q2⟩ := hSw; go_simp; try with_reducible rfl)
    try simp only [List.getElem_toArray, List.getElem_cons_succ, List.getElem_cons_zero, Act.put, List.setIfInBounds_toArray, List.set_cons_zero, List.set_cons_succ]
    refine wpAnyH_done (by kernel_rfl) ?_ _
    unfold TailQ
    simp only [List.drop_succ_cons, List.drop_zero]
    have hr0 := (hsl.2.2.block _ (lt_of_block RC.out.2.1)).trans RC.out.2.1
    have HR0 := Lib.hid hr0
    have p0 : E.cell? ⟨w.heap.size, 0, none⟩ = some (.slice none 0 0) := by rw [cell_of_row _ _ _ _ _ _ hr0]; rfl
    have p1 : E.cell? ⟨w.heap.size, 1, none⟩ = some (.int .i64 0) := by rw [cell_of_row _ _ _ _ _ _ hr0]; rfl
    have p2 : E.cell? ⟨w.heap.size, 2, none⟩ = some (.int .i64 0) := by rw [cell_of_row _ _ _ _ _ _ hr0]; rfl
    have p3 : E.cell? ⟨w.heap.size, 3, none⟩ = some (.slice none 0 0) := by rw [cell_of_row _ _ _ _ _ _ hr0]; rfl
    have pf : ∀ k, E.frozen? ⟨w.heap.size, k, none⟩ = false := fun k => frozen_of_row _ _ _ _ _ hr0
    clear hr0 hsl hS
    go_wp2_with fail
    obtain ⟨W9, hW9⟩ : ∃ W, W = (((E.setCell ⟨w.heap.size, 0, none⟩ (.slice (some ⟨g, 0, none⟩) 4 4)).setCell ⟨w.heap.size, 1, none⟩ (.int .i64 1)).setCell ⟨w.heap.size, 2, none⟩ (.int .i64 2)).setCell ⟨w.heap.size, 3, none⟩ (.slice (some ⟨q, 0, none⟩) 2 2) := ⟨_, rfl⟩
    have hr9 : W9.heap[w.heap.size]? = some (.cells #[.slice (some ⟨g, 0, none⟩) 4 4, .int .i64 1, .int .i64 2, (.slice (some ⟨q, 0, none⟩) 2 2)] 28 (0, 0)) := by rw [hW9]; exact four_setJ HR0.out
    have hk9 : Keeps (fun k => k = w.heap.size) E W9 := by rw [hW9]; exact keeps_fourJ _ _ _ _ _ _
    rw [← hW9]
    clear hW9 p0 p1 p2 p3 pf
    have q0 : W9.cell? ⟨w.heap.size, 0, none⟩ = some (.slice (some ⟨g, 0, none⟩) 4 4) := by rw [cell_of_row _ _ _ _ _ _ hr9]; rfl
    have q1 : W9.cell? ⟨w.heap.size, 1, none⟩ = some (.int .i64 1) := by rw [cell_of_row _ _ _ _ _ _ hr9]; rfl
    have q2 : W9.cell? ⟨w.heap.size, 2, none⟩ = some (.int .i64 2) := by rw [cell_of_row _ _ _ _ _ _ hr9]; rfl
    have q3 : W9.cell? ⟨w.heap.size, 3, none⟩ = some (.slice (some ⟨q, 0, none⟩) 2 2) := by rw [cell_of_row _ _ _ _ _ _ hr9]; rfl
    have hs9 := hk9.size
    have hsC := HSL.out.2.2.size
    have hg9 := (hk9.block g (by have := lt_of_block RC.out.2.2; omega) (by omega)).trans ((HSL.out.2.2.block g (lt_of_block RC.out.2.2)).trans RC.out.2.2)
    refine bodyPost_ret (v := .agg #[.slice (some ⟨g, 0, none⟩) 4 4, .int .i64 1, .int .i64 2, (.slice (some ⟨q, 0, none⟩) 2 2)]) (by simp [results, Tryd.results71, go_sem, q0, q1, q2, q3]) rfl ⟨⟨_, _, rfl, ?_, ?_⟩, RC.out.1.trans ((HSL.out.2.2.mono RC.out.1.size).trans (hk9.below (by have := RC.out.1.size; omega) (fun k h e => by omega)))⟩
    · refine ⟨some ⟨g, 0, none⟩, 4, rfl, by decide, by decide, fun i hi => ⟨g, 0, rfl, ⟨by omega, lt_of_block hg9⟩, lt_of_block hg9, ?_⟩⟩
      have hi4 : i < 4 := hi
      have hc : i = 0 ∨ i = 1 ∨ i = 2 ∨ i = 3 := by omega
      rcases hc with rfl | rfl | rfl | rfl <;> exact ⟨by rw [cell_of_row _ _ _ _ _ _ hg9]; rfl, by rw [cell_of_row _ _ _ _ _ _ hg9]; rfl⟩
    · obtain ⟨a, c, g1, g2, g3, g4⟩ := HSL.out.2.1.later hs9 (fun k h1 h2 => hk9.block k h1 (by omega))
      refine ⟨a, c, g1, g2, g3, fun q hq => ?_⟩
      obtain ⟨b, off, f1, f2, f3, f4⟩ := g4 q hq
      exact ⟨b, off, f1, ⟨by omega, f3⟩, f3, f4⟩
  · refine wp_append_here (.tmp 14) (.tmp 15) 22 rfl q 24 2 16 _ underSpansJ infoSpanJ rfl (by decide) (.slice (some ⟨q, 0, none⟩) 2 2) 2 _ rfl H8.out.1 ⟨xg, 0, none⟩ 1 1 [.int .i64 lo, .int .i64 hi] rfl rfl (news_block ((H8.out.2.block xg (by have := lt_of_block hxg; have := RC.out.1.size; omega)).trans ((RC.out.1.block xg (lt_of_block hxg)).trans hxg))) (by simp [Value.oneCell']) (by omega) (by decide) (by omega) ?_
    intro v7 V7 hown7 hg7 hat7
    have hk7 := keeps_grown hg7
    have hkE : Keeps (fun k => k = q) E V7 := hk7.mono (fun k _ e => (Option.some.inj e).symm)
    have hsl := HFIN.out v7 V7 (by simpa [spanC] using hown7) hkE
    obtain ⟨⟨a7, c7, rfl⟩, _⟩ := id hsl
    have hS := hS.keepsS (by omega) hkE
    clear hown7 hg7 hat7 hk7 hkE
    have HSL := Lib.hid hsl
    refine ⟨hS, ?_⟩
    try simp only [List.getElem_toArray, List.getElem_cons_succ, List.getElem_cons_zero, Act.put, List.setIfInBounds_toArray, List.set_cons_zero, List.set_cons_succ]
    refine wpAnyH_take (i := 6) (v := ?_) rfl (by kernel_rfl) (by kernel_rfl) (by kernel_rfl) (fun _ _ _ h => h) (Or.inl ⟨by rfl, ?_⟩) hS ?_
    rotate_left
    · (intro W hSw; obtain ⟨q0, q1, q2⟩ := hSw; go_simp; try with_reducible rfl)
    try simp only [List.getElem_toArray, List.getElem_cons_succ, List.getElem_cons_zero, Act.put, List.setIfInBounds_toArray, List.set_cons_zero, List.set_cons_succ]
    refine wpAnyH_done (by kernel_rfl) ?_ _
    unfold TailQ
    simp only [List.drop_succ_cons, List.drop_zero]
    have hr0 := (hsl.2.2.block _ (lt_of_block RC.out.2.1)).trans RC.out.2.1
    have HR0 := Lib.hid hr0
    have p0 : V7.cell? ⟨w.heap.size, 0, none⟩ = some (.slice none 0 0) := by rw [cell_of_row _ _ _ _ _ _ hr0]; rfl
    have p1 : V7.cell? ⟨w.heap.size, 1, none⟩ = some (.int .i64 0) := by rw [cell_of_row _ _ _ _ _ _ hr0]; rfl
    have p2 : V7.cell? ⟨w.heap.size, 2, none⟩ = some (.int .i64 0) := by rw [cell_of_row _ _ _ _ _ _ hr0]; rfl
    have p3 : V7.cell? ⟨w.heap.size, 3, none⟩ = some (.slice none 0 0) := by rw [cell_of_row _ _ _ _ _ _ hr0]; rfl
    have pf : ∀ k, V7.frozen? ⟨w.heap.size, k, none⟩ = false := fun k => frozen_of_row _ _ _ _ _ hr0
    clear hr0 hsl hS
    go_wp2_with fail
    obtain ⟨W9, hW9⟩ : ∃ W, W = (((V7.setCell ⟨w.heap.size, 0, none⟩ (.slice (some ⟨g, 0, none⟩) 4 4)).setCell ⟨w.heap.size, 1, none⟩ (.int .i64 1)).setCell ⟨w.heap.size, 2, none⟩ (.int .i64 2)).setCell ⟨w.heap.size, 3, none⟩ (.slice a7 (2 + 1) c7) := ⟨_, rfl⟩
    have hr9 : W9.heap[w.heap.size]? = some (.cells #[.slice (some ⟨g, 0, none⟩) 4 4, .int .i64 1, .int .i64 2, (.slice a7 (2 + 1) c7)] 28 (0, 0)) := by rw [hW9]; exact four_setJ HR0.out
    have hk9 : Keeps (fun k => k = w.heap.size) V7 W9 := by rw [hW9]; exact keeps_fourJ _ _ _ _ _ _
    rw [← hW9]
    clear hW9 p0 p1 p2 p3 pf
    have q0 : W9.cell? ⟨w.heap.size, 0, none⟩ = some (.slice (some ⟨g, 0, none⟩) 4 4) := by rw [cell_of_row _ _ _ _ _ _ hr9]; rfl
    have q1 : W9.cell? ⟨w.heap.size, 1, none⟩ = some (.int .i64 1) := by rw [cell_of_row _ _ _ _ _ _ hr9]; rfl
    have q2 : W9.cell? ⟨w.heap.size, 2, none⟩ = some (.int .i64 2) := by rw [cell_of_row _ _ _ _ _ _ hr9]; rfl
    have q3 : W9.cell? ⟨w.heap.size, 3, none⟩ = some (.slice a7 (2 + 1) c7) := by rw [cell_of_row _ _ _ _ _ _ hr9]; rfl
    have hs9 := hk9.size
    have hsC := HSL.out.2.2.size
    have hg9 := (hk9.block g (by have := lt_of_block RC.out.2.2; omega) (by omega)).trans ((HSL.out.2.2.block g (lt_of_block RC.out.2.2)).trans RC.out.2.2)
    refine bodyPost_ret (v := .agg #[.slice (some ⟨g, 0, none⟩) 4 4, .int .i64 1, .int .i64 2, (.slice a7 (2 + 1) c7)]) (by simp [results, Tryd.results71, go_sem, q0, q1, q2, q3]) rfl ⟨⟨_, _, rfl, ?_, ?_⟩, RC.out.1.trans ((HSL.out.2.2.mono RC.out.1.size).trans (hk9.below (by have := RC.out.1.size; omega) (fun k h e => by omega)))⟩
    · refine ⟨some ⟨g, 0, none⟩, 4, rfl, by decide, by decide, fun i hi => ⟨g, 0, rfl, ⟨by omega, lt_of_block hg9⟩, lt_of_block hg9, ?_⟩⟩
      have hi4 : i < 4 := hi
      have hc : i = 0 ∨ i = 1 ∨ i = 2 ∨ i = 3 := by omega
      rcases hc with rfl | rfl | rfl | rfl <;> exact ⟨by rw [cell_of_row _ _ _ _ _ _ hg9]; rfl, by rw [cell_of_row _ _ _ _ _ _ hg9]; rfl⟩
    · obtain ⟨a, c, g1, g2, g3, g4⟩ := HSL.out.2.1.later hs9 (fun k h1 h2 => hk9.block k h1 (by omega))
      refine ⟨a, c, g1, g2, g3, fun q hq => ?_⟩
      obtain ⟨b, off, f1, f2, f3, f4⟩ := g4 q hq
      exact ⟨b, off, f1, ⟨by omega, f3⟩, f3, f4⟩
end Go.Proofs.YtbmfphiecllggaaDoor

/- What the document fixes of chapter 12, in the statements about jobs: awake is true. -/
namespace Go.Proofs.YtbmfphiecllggaaDoor
set_option linter.unusedVariables false
set_option linter.unusedSimpArgs false
open Go.RowKit Go.Shelf
attribute [local go_sem] Oper.semAt_some

theorem val_check : checkD (sampleJ []) [5, 4] = ((1, 2), 0) := by decide +kernel
theorem val_plan : planD (sampleJ []) = ([8, 4], 0) := by decide +kernel
theorem val_alone : aloneD (sampleJ [(50, 51)]) = (3, 0) := by decide +kernel
theorem val_most2 : mostD (sampleJ [(31, 33)]) = ((2, 3), 0) := val_most
theorem val_why : whyD (sampleJ [(31, 33)]) = (7, 0) := by decide +kernel
theorem val_rounds2 : roundsD (sampleJ [(31, 33)]) = ([0, 0, 1], 0) := val_rounds
theorem val_lend : lendD (sampleJ []) = (3, 0) := by decide +kernel
theorem val_plan2 : planD (sampleJ [(31, 33)]) = ([], 4) := by decide +kernel
/-- One of the jobs, in its box. -/
structure OneJ (b : Nat) (l : List (Int × Int)) (x : Option Addr) (c : Nat) (y : Option Addr) (n d : Nat) (W : World) : Prop where
  row : W.heap[b]? = some (.cells #[.slice x 4 c, .int .i64 1, .int .i64 2, .slice y n d] 28 (0, 0))
  s : SpansAt W (.slice x 4 c) stackS.bs (fun k => k < W.heap.size)
  t : SpansAt W (.slice y n d) (sampleJ l).ws (fun k => k < W.heap.size)
theorem OneJ.later {b : Nat} {l : List (Int × Int)} {x y : Option Addr} {c n d : Nat} {W W' : World} (h : OneJ b l x c y n d W) (hb : Below W.heap.size W W') : OneJ b l x c y n d W' :=
  ⟨(hb.block _ (lt_of_block h.row)).trans h.row, (h.s.later hb.size (fun k h _ => hb.block k h)).low9, (h.t.later hb.size (fun k h _ => hb.block k h)).low9⟩
theorem OneJ.cs {b : Nat} {l : List (Int × Int)} {x y : Option Addr} {c n d : Nat} {W : World} (h : OneJ b l x c y n d W) : W.cell? ⟨b, 0, none⟩ = some (.slice x 4 c) ∧ W.cell? ⟨b, 1, none⟩ = some (.int .i64 1) ∧ W.cell? ⟨b, 2, none⟩ = some (.int .i64 2) ∧ W.cell? ⟨b, 3, none⟩ = some (.slice y n d) :=
  ⟨by rw [cell_of_row _ _ _ _ _ _ h.row]; rfl, by rw [cell_of_row _ _ _ _ _ _ h.row]; rfl, by rw [cell_of_row _ _ _ _ _ _ h.row]; rfl, by rw [cell_of_row _ _ _ _ _ _ h.row]; rfl⟩
set_option maxRecDepth 100000 in
set_option maxHeartbeats 8000000 in
theorem lawake_any (w : World) (htz : TabZ w) : Calls Tryd.prog 27 #[] w fun e w' => e = .returned (.bool true) ∧ Below w.heap.size w w' := by
  have HTZ := Lib.hid htz
  have h1z := htz.lt
  clear htz
  have hjv : ∀ l v u, jobV (sampleJ l) v u = .agg #[v, .int .i64 1, .int .i64 2, u] := fun _ _ _ => rfl
  have HJV := Lib.hid hjv
  clear hjv
  go_enter Tryd.func27, Tryd.ntmps27
  go_wp2_with fail
  refine (sample_any [] _ _ (.inl ⟨rfl, rfl⟩)).mono ?_
  rintro e w1 ⟨⟨v1, u1, rfl, hv, hu⟩, hb1⟩
  rw [HJV.out]
  dsimp only
  have H1 := Lib.hid (And.intro hv.low9 hu.low9)
  have HB1 := Lib.hid hb1
  obtain ⟨x1, c1, rfl, _⟩ := id hv
  obtain ⟨y1, d1, rfl, _⟩ := id hu
  clear hv hu hb1
  go_wp2_with fail
  refine (lspan_any 31 33 _).mono ?_
  rintro e w2 ⟨rfl, hb⟩
  unfold spV
  dsimp only
  have H2 := Lib.hid hb
  clear hb
  go_wp2_with fail
  have hx := heap_alloc_at w2 (.cells #[.int .i64 31, .int .i64 33] 24) _ rfl
  refine (sample_any [(31, 33)] _ _ (.inr ⟨_, 31, 33, rfl, rfl, hx⟩)).mono ?_
  rintro e w3 ⟨⟨v3, u3, rfl, hv, hu⟩, hb⟩
  rw [HJV.out]
  dsimp only
  have H3 := Lib.hid (And.intro hv.low9 hu.low9)
  have HB3 := Lib.hid (HB1.out.trans ((H2.out.mono HB1.out.size).trans ((Below.alloc' _ _).mono (by have := HB1.out.size; have := H2.out.size; omega))) |>.trans (hb.mono (by have := HB1.out.size; have := H2.out.size; simp; omega)))
  have H13 := Lib.hid (H2.out.trans (((Below.alloc' _ _).mono H2.out.size).trans (hb.mono (by have := H2.out.size; simp; omega))))
  obtain ⟨x3, c3, rfl, _⟩ := id hv
  obtain ⟨y3, d3, rfl, _⟩ := id hu
  clear hv hu hb hx
  go_wp2_with fail
  refine (lspan_any 50 51 _).mono ?_
  rintro e w4 ⟨rfl, hb⟩
  unfold spV
  dsimp only
  have H4 := Lib.hid hb
  clear hb
  go_wp2_with fail
  have hx := heap_alloc_at w4 (.cells #[.int .i64 50, .int .i64 51] 24) _ rfl
  refine (sample_any [(50, 51)] _ _ (.inr ⟨_, 50, 51, rfl, rfl, hx⟩)).mono ?_
  rintro e w5 ⟨⟨v5, u5, rfl, hv, hu⟩, hb⟩
  rw [HJV.out]
  dsimp only
  have H5 := Lib.hid (And.intro hv.low9 hu.low9)
  have H35 := Lib.hid (H4.out.trans (((Below.alloc' _ _).mono H4.out.size).trans (hb.mono (by have := H4.out.size; simp; omega))))
  obtain ⟨x5, c5, rfl, _⟩ := id hv
  obtain ⟨y5, d5, rfl, _⟩ := id hu
  have hl1 : stackS.bs.length = 4 := rfl
  have hl2 : (sampleJ []).ws.length = 2 := rfl
  have hl3 : (sampleJ [(31, 33)]).ws.length = 3 := rfl
  have hl4 : (sampleJ [(50, 51)]).ws.length = 3 := rfl
  rw [hl1] at H1 H3 H5 ⊢
  rw [hl2] at H1 ⊢
  rw [hl3] at H3 ⊢
  rw [hl4] at H5 ⊢
  clear hl1 hl2 hl3 hl4 hv hu hb hx
  obtain ⟨b, hbe⟩ : ∃ x, x = w5.heap.size := ⟨_, rfl⟩
  have hs35 := H35.out.size
  have hs13 := H13.out.size
  have hO : ∀ o, o = Obj.cells #[.int .i64 5, .int .i64 4] 3 (0, 0) → ∃ W6, W6 = (((w5.alloc (.cells #[.slice x1 4 c1, .int .i64 1, .int .i64 2, .slice y1 2 d1] 28)).alloc (.cells #[.slice x3 4 c3, .int .i64 1, .int .i64 2, .slice y3 3 d3] 28)).alloc (.cells #[.slice x5 4 c5, .int .i64 1, .int .i64 2, .slice y5 3 d5] 28)).alloc o ∧
      OneJ b [] x1 c1 y1 2 d1 W6 ∧ OneJ (b + 1) [(31, 33)] x3 c3 y3 3 d3 W6 ∧ OneJ (b + 1 + 1) [(50, 51)] x5 c5 y5 3 d5 W6 ∧ W6.heap[b + 1 + 1 + 1]? = some o ∧ Below w.heap.size w W6 := by
    rintro o rfl
    refine ⟨_, rfl, ?_⟩
    have h5 : Below w5.heap.size w5 ((((w5.alloc (.cells #[.slice x1 4 c1, .int .i64 1, .int .i64 2, .slice y1 2 d1] 28)).alloc (.cells #[.slice x3 4 c3, .int .i64 1, .int .i64 2, .slice y3 3 d3] 28)).alloc (.cells #[.slice x5 4 c5, .int .i64 1, .int .i64 2, .slice y5 3 d5] 28)).alloc (.cells #[.int .i64 5, .int .i64 4] 3 (0, 0))) :=
      ((((Below.refl _ _).alloc (Nat.le_refl _) _).alloc (by simp) _).alloc (by simp <;> omega) _).alloc (by simp <;> omega) _
    have h3 : Below w3.heap.size w3 _ := H35.out.trans (h5.mono hs35)
    have h1 : Below w1.heap.size w1 _ := H13.out.trans (h3.mono hs13)
    have hB3 := HB3.out.size
    rw [hbe]
    refine ⟨⟨(by repeat (first | (refine heap_alloc_at _ _ _ ?_; (simp <;> omega); done) | (refine (hget_old _ _ _ ?_).trans ?_; · (simp <;> omega)))), (H1.out.1.later h1.size (fun k h _ => h1.block k h)).low9, (H1.out.2.later h1.size (fun k h _ => h1.block k h)).low9⟩, ⟨(by repeat (first | (refine heap_alloc_at _ _ _ ?_; (simp <;> omega); done) | (refine (hget_old _ _ _ ?_).trans ?_; · (simp <;> omega)))), (H3.out.1.later h3.size (fun k h _ => h3.block k h)).low9, (H3.out.2.later h3.size (fun k h _ => h3.block k h)).low9⟩, ⟨(by repeat (first | (refine heap_alloc_at _ _ _ ?_; (simp <;> omega); done) | (refine (hget_old _ _ _ ?_).trans ?_; · (simp <;> omega)))), (H5.out.1.later h5.size (fun k h _ => h5.block k h)).low9, (H5.out.2.later h5.size (fun k h _ => h5.block k h)).low9⟩, heap_alloc_at _ _ _ (by simp), HB3.out.trans (h3.mono (by omega))⟩
  obtain ⟨W6, hW6, o1, o3, o5, hr6, hb6⟩ := hO _ rfl
  have HAW6 := Lib.hid o1
  have HBW6 := Lib.hid o3
  have HCW6 := Lib.hid o5
  have HWW6 := Lib.hid hb6
  have HNW6 : Hid (NumsAt W6 (.slice (some ⟨b + 1 + 1 + 1, 0, none⟩) 2 2) [5, 4] (fun k => k < W6.heap.size)) := by
    refine ⟨some ⟨b + 1 + 1 + 1, 0, none⟩, 2, rfl, by decide, by decide, fun i hi => ⟨_, 0, rfl, lt_of_block hr6, lt_of_block hr6, ?_⟩⟩
    have hi4 : i < 2 := hi
    have hc : i = 0 ∨ i = 1 := by omega
    rcases hc with rfl | rfl <;> (rw [cell_of_row _ _ _ _ _ _ hr6]; rfl)
  have HWE := Lib.hid hW6
  clear hO hW6 o1 o3 o5 hr6 hb6 H1 H3 H5 H35 H13 HB1 HB3 H2 H4 hs35 hs13
  go_wp2_with fail
  rw [← HWE.out, ← hbe]
  clear HWE
  have hc := Check_any (sampleJ []) (.slice x1 4 c1) (.slice y1 2 d1) [5, 4] (.slice (some ⟨b + 1 + 1 + 1, 0, none⟩) 2 2) W6 HAW6.out.s HAW6.out.t HNW6.out (by decide)
  rw [HJV.out, val_check] at hc
  refine hc.mono ?_
  rintro e W7 ⟨rfl, hb⟩
  clear hc hbe HNW6
  dsimp only
  have HAW7 := Lib.hid (HAW6.out.later hb)
  have HBW7 := Lib.hid (HBW6.out.later hb)
  have HCW7 := Lib.hid (HCW6.out.later hb)
  have HWW7 := Lib.hid (HWW6.out.trans (hb.mono HWW6.out.size))
  clear hb
  obtain ⟨k0, k1, k2, k3⟩ := HAW7.out.cs
  go_wp2_with fail
  clear k0 k1 k2 k3
  have hc := Plan_any (sampleJ []) (.slice x1 4 c1) (.slice y1 2 d1) W7 HAW7.out.s HAW7.out.t (HTZ.out.below HWW7.out h1z)
  rw [HJV.out] at hc
  refine hc.mono ?_
  rintro e W8 ⟨pv, rfl, hpv, hb⟩
  clear hc
  rw [val_plan] at hpv ⊢
  dsimp only
  have HP8 := Lib.hid hpv
  obtain ⟨pa, pc, rfl, _⟩ := id hpv
  have hl2 : ((([8, 4] : List Nat), (0 : Int)).1.map fun s : Nat => (s : Int)).length = 2 := rfl
  rw [hl2] at HP8 ⊢
  have HAW8 := Lib.hid (HAW7.out.later hb)
  have HBW8 := Lib.hid (HBW7.out.later hb)
  have HCW8 := Lib.hid (HCW7.out.later hb)
  have HWW8 := Lib.hid (HWW7.out.trans (hb.mono HWW7.out.size))
  clear hb hpv hl2
  obtain ⟨k0, k1, k2, k3⟩ := HCW8.out.cs
  go_wp2_with fail
  clear k0 k1 k2 k3
  have hc := Alone_any (sampleJ [(50, 51)]) (.slice x5 4 c5) (.slice y5 3 d5) W8 HCW8.out.s HCW8.out.t
  rw [HJV.out, val_alone] at hc
  refine hc.mono ?_
  rintro e W9 ⟨rfl, hb⟩
  clear hc
  dsimp only
  have HP9 := Lib.hid (HP8.out.later hb.size (fun k h _ => hb.block k h))
  have HAW9 := Lib.hid (HAW8.out.later hb)
  have HBW9 := Lib.hid (HBW8.out.later hb)
  have HCW9 := Lib.hid (HCW8.out.later hb)
  have HWW9 := Lib.hid (HWW8.out.trans (hb.mono HWW8.out.size))
  clear hb
  obtain ⟨k0, k1, k2, k3⟩ := HBW9.out.cs
  go_wp2_with fail
  clear k0 k1 k2 k3
  have hc := Most_any (sampleJ [(31, 33)]) (.slice x3 4 c3) (.slice y3 3 d3) W9 HBW9.out.s HBW9.out.t (HTZ.out.below HWW9.out h1z)
  rw [HJV.out, val_most2] at hc
  refine hc.mono ?_
  rintro e W10 ⟨rfl, hb⟩
  clear hc
  dsimp only
  have HP10 := Lib.hid (HP9.out.later hb.size (fun k h _ => hb.block k h))
  have HAW10 := Lib.hid (HAW9.out.later hb)
  have HBW10 := Lib.hid (HBW9.out.later hb)
  have HCW10 := Lib.hid (HCW9.out.later hb)
  have HWW10 := Lib.hid (HWW9.out.trans (hb.mono HWW9.out.size))
  clear hb
  obtain ⟨k0, k1, k2, k3⟩ := HBW10.out.cs
  go_wp2_with fail
  clear k0 k1 k2 k3
  have hc := Why_any (sampleJ [(31, 33)]) (.slice x3 4 c3) (.slice y3 3 d3) W10 HBW10.out.s HBW10.out.t (HTZ.out.below HWW10.out h1z)
  rw [HJV.out, val_why] at hc
  refine hc.mono ?_
  rintro e W11 ⟨rfl, hb⟩
  clear hc
  dsimp only
  have HP11 := Lib.hid (HP10.out.later hb.size (fun k h _ => hb.block k h))
  have HAW11 := Lib.hid (HAW10.out.later hb)
  have HBW11 := Lib.hid (HBW10.out.later hb)
  have HCW11 := Lib.hid (HCW10.out.later hb)
  have HWW11 := Lib.hid (HWW10.out.trans (hb.mono HWW10.out.size))
  clear hb
  obtain ⟨k0, k1, k2, k3⟩ := HBW11.out.cs
  go_wp2_with fail
  clear k0 k1 k2 k3
  have hc := Rounds_any (sampleJ [(31, 33)]) (.slice x3 4 c3) (.slice y3 3 d3) W11 HBW11.out.s HBW11.out.t (HTZ.out.below HWW11.out h1z)
  rw [HJV.out] at hc
  refine hc.mono ?_
  rintro e W12 ⟨rv, rfl, hrv, hb⟩
  clear hc
  rw [val_rounds2] at hrv ⊢
  dsimp only
  have HR12 := Lib.hid hrv
  obtain ⟨ra, rc, rfl, _⟩ := id hrv
  have hl3 : ((([0, 0, 1] : List Nat), (0 : Int)).1.map fun s : Nat => (s : Int)).length = 3 := rfl
  rw [hl3] at HR12 ⊢
  have HP12 := Lib.hid (HP11.out.later hb.size (fun k h _ => hb.block k h))
  have HAW12 := Lib.hid (HAW11.out.later hb)
  have HBW12 := Lib.hid (HBW11.out.later hb)
  have HCW12 := Lib.hid (HCW11.out.later hb)
  have HWW12 := Lib.hid (HWW11.out.trans (hb.mono HWW11.out.size))
  clear hb hrv hl3
  obtain ⟨k0, k1, k2, k3⟩ := HAW12.out.cs
  go_wp2_with fail
  clear k0 k1 k2 k3
  have hc := Lend_any (sampleJ []) (.slice x1 4 c1) (.slice y1 2 d1) W12 HAW12.out.s HAW12.out.t (HTZ.out.below HWW12.out h1z)
  rw [HJV.out, val_lend] at hc
  refine hc.mono ?_
  rintro e W13 ⟨rfl, hb⟩
  clear hc
  dsimp only
  have HP13 := Lib.hid (HP12.out.later hb.size (fun k h _ => hb.block k h))
  have HR13 := Lib.hid (HR12.out.later hb.size (fun k h _ => hb.block k h))
  have HAW13 := Lib.hid (HAW12.out.later hb)
  have HBW13 := Lib.hid (HBW12.out.later hb)
  have HCW13 := Lib.hid (HCW12.out.later hb)
  have HWW13 := Lib.hid (HWW12.out.trans (hb.mono HWW12.out.size))
  clear hb
  obtain ⟨k0, k1, k2, k3⟩ := HBW13.out.cs
  go_wp2_with fail
  clear k0 k1 k2 k3
  have hc := Plan_any (sampleJ [(31, 33)]) (.slice x3 4 c3) (.slice y3 3 d3) W13 HBW13.out.s HBW13.out.t (HTZ.out.below HWW13.out h1z)
  rw [HJV.out] at hc
  refine hc.mono ?_
  rintro e W14 ⟨p2, rfl, hp2, hb⟩
  clear hc
  rw [val_plan2] at hp2 ⊢
  dsimp only
  obtain ⟨qa, qc, rfl, _⟩ := id hp2
  have HP14 := Lib.hid (HP13.out.later hb.size (fun k h _ => hb.block k h))
  have HR14 := Lib.hid (HR13.out.later hb.size (fun k h _ => hb.block k h))
  have HAW14 := Lib.hid (HAW13.out.later hb)
  have HBW14 := Lib.hid (HBW13.out.later hb)
  have HCW14 := Lib.hid (HCW13.out.later hb)
  have HWW14 := Lib.hid (HWW13.out.trans (hb.mono HWW13.out.size))
  clear hb hp2
  go_wp2_with fail
  have hr := heap_alloc_at W14 (.cells #[.int .i64 8, .int .i64 4] 3) _ rfl
  have hn : NumsAt (W14.alloc (.cells #[.int .i64 8, .int .i64 4] 3)) (.slice (some ⟨W14.heap.size, 0, none⟩) 2 2) [8, 4] (fun _ => True) := by
    refine ⟨some ⟨W14.heap.size, 0, none⟩, 2, rfl, by decide, by decide, fun i hi => ⟨_, 0, rfl, trivial, lt_of_block hr, ?_⟩⟩
    have hi4 : i < 2 := hi
    have hc : i = 0 ∨ i = 1 := by omega
    rcases hc with rfl | rfl <;> (rw [cell_of_row _ _ _ _ _ _ hr]; rfl)
  refine (r12ints_any [8, 4] [8, 4] _ _ _ _ (by decide) (by decide) _ (HP14.out.later (by simp) (fun k h _ => hget_old _ _ _ (by omega))) hn).mono ?_
  rintro e W15 ⟨rfl, hb⟩
  simp only [decide_true]
  have HW15 := Lib.hid ((HWW14.out.alloc HWW14.out.size _).trans (hb.mono (by have := HWW14.out.size; simp; omega)))
  have HR15 := Lib.hid ((HR14.out.later (W := W14.alloc (.cells #[.int .i64 8, .int .i64 4] 3)) (by simp) (fun k h _ => hget_old _ _ _ (by omega))).later hb.size (fun k h _ => hb.block k h))
  clear hn hr hb
  go_wp2_with fail
  have hr := heap_alloc_at W15 (.cells #[.int .i64 0, .int .i64 0, .int .i64 1] 3) _ rfl
  have hn : NumsAt (W15.alloc (.cells #[.int .i64 0, .int .i64 0, .int .i64 1] 3)) (.slice (some ⟨W15.heap.size, 0, none⟩) 3 3) [0, 0, 1] (fun _ => True) := by
    refine ⟨some ⟨W15.heap.size, 0, none⟩, 3, rfl, by decide, by decide, fun i hi => ⟨_, 0, rfl, trivial, lt_of_block hr, ?_⟩⟩
    have hi4 : i < 3 := hi
    have hc : i = 0 ∨ i = 1 ∨ i = 2 := by omega
    rcases hc with rfl | rfl | rfl <;> (rw [cell_of_row _ _ _ _ _ _ hr]; rfl)
  refine (r12ints_any [0, 0, 1] [0, 0, 1] _ _ _ _ (by decide) (by decide) _ (HR15.out.later (by simp) (fun k h _ => hget_old _ _ _ (by omega))) hn).mono ?_
  rintro e W16 ⟨rfl, hb⟩
  simp only [decide_true]
  have HW16 := Lib.hid ((HW15.out.alloc HW15.out.size _).trans (hb.mono (by have := HW15.out.size; simp; omega)))
  clear hn hr hb
  go_wp2
  go_ret
  exact ⟨rfl, HW16.out⟩
end Go.Proofs.YtbmfphiecllggaaDoor

/- The statements about jobs: truths, plans and sets by numbers. -/
namespace Go.Proofs.YtbmfphiecllggaaDoor
set_option linter.unusedVariables false
set_option linter.unusedSimpArgs false
open Go.RowKit Go.Shelf
attribute [local go_sem] Oper.semAt_some

theorem SpansAt.mono9 {W : World} {v : Value} {l : List (Int × Int)} {Rd Rd' : Nat → Prop} (h : SpansAt W v l Rd) (hr : ∀ k, k < W.heap.size → Rd k → Rd' k) : SpansAt W v l Rd' := by
  obtain ⟨a, c, g1, g2, g3, g4⟩ := h
  exact ⟨a, c, g1, g2, g3, fun q hq => by obtain ⟨b, off, f1, f2, f3, f4⟩ := g4 q hq; exact ⟨b, off, f1, hr b f3 f2, f3, f4⟩⟩
theorem NumsAt.low9 {W : World} {v : Value} {l : List Int} {Rd : Nat → Prop} (h : NumsAt W v l Rd) : NumsAt W v l (fun k => k < W.heap.size) := by
  obtain ⟨a, c, g1, g2, g3, g4⟩ := h
  exact ⟨a, c, g1, g2, g3, fun q hq => by obtain ⟨b, off, f1, f2, f3, f4⟩ := g4 q hq; exact ⟨b, off, f1, f3, f3, f4⟩⟩
end Go.Proofs.YtbmfphiecllggaaDoor

/- JobTrue: each stack of a right plan truly is as long as is wanted, and none has a block of another one. -/
namespace Go.Proofs.YtbmfphiecllggaaDoor
set_option linter.unusedVariables false
set_option linter.unusedSimpArgs false
open Go.RowKit Go.Shelf
attribute [local go_sem] Oper.semAt_some

end Go.Proofs.YtbmfphiecllggaaDoor

/- JobTrue, walked. -/
namespace Go.Proofs.YtbmfphiecllggaaDoor
set_option linter.unusedVariables false
set_option linter.unusedSimpArgs false
open Go.RowKit Go.Shelf
attribute [local go_sem] Oper.semAt_some

end Go.Proofs.YtbmfphiecllggaaDoor

/- JobLend, walked. -/
namespace Go.Proofs.YtbmfphiecllggaaDoor
set_option linter.unusedVariables false
set_option linter.unusedSimpArgs false
open Go.RowKit Go.Shelf
attribute [local go_sem] Oper.semAt_some

end Go.Proofs.YtbmfphiecllggaaDoor

/- JobPlan$1: how many blocks a plan has. -/
namespace Go.Proofs.YtbmfphiecllggaaDoor
set_option linter.unusedVariables false
set_option linter.unusedSimpArgs false
open Go.RowKit Go.Shelf
attribute [local go_sem] Oper.semAt_some

theorem size_le8 : ∀ s < 256, sizeJ 8 s ≤ 8 := by decide +kernel
theorem cost_take (p : List Nat) (k : Nat) (h : k < p.length) : costJ 8 (p.take (k + 1)) = costJ 8 (p.take k) + sizeJ 8 p[k] := by
  unfold costJ
  rw [List.take_succ_eq_append_getElem h, List.map_append, List.sum_append]
  simp
theorem cost_le (p : List Nat) (hp : ∀ s ∈ p, s < 256) : costJ 8 p ≤ 8 * p.length := by
  induction p with
  | nil => simp [costJ]
  | cons s p ih =>
    have h1 := ih (fun x hx => hp x (List.mem_cons_of_mem _ hx))
    have h2 := size_le8 s (hp s List.mem_cons_self)
    unfold costJ at h1 ⊢
    simp only [List.map_cons, List.sum_cons, List.length_cons]
    omega
end Go.Proofs.YtbmfphiecllggaaDoor

/- JobMore in plain words: a block more, a wider want, and wants numbered otherwise. -/
namespace Go.Proofs.YtbmfphiecllggaaDoor
set_option linter.unusedVariables false
set_option linter.unusedSimpArgs false

/-! ### more stacks that are right, more blocks -/
def SubL : List (List Nat) → List (List Nat) → Prop
  | [], [] => True
  | R :: Rs, R' :: Rs' => (∀ s ∈ R, s ∈ R') ∧ SubL Rs Rs'
  | _, _ => False
theorem SubL.sel : ∀ {Rs Rs' : List (List Nat)} (s : Nat), SubL Rs Rs' → SubL (selJ Rs s) (selJ Rs' s)
  | [], [], _, _ => trivial
  | [], _ :: _, _, h => h.elim
  | _ :: _, [], _, h => h.elim
  | R :: Rs, R' :: Rs', s, h => by
    rw [selJ, selJ]
    split
    · exact ⟨h.1, SubL.sel _ h.2⟩
    · exact SubL.sel _ h.2
theorem SubL.plan : ∀ {Rs Rs' : List (List Nat)} {av av' : Nat} {l : List Nat}, SubL Rs Rs' → (∀ i, av.testBit i = true → av'.testBit i = true) → PlanJ Rs av l → PlanJ Rs' av' l
  | [], [], _, _, _, _, _, hp => hp
  | [], _ :: _, _, _, _, h, _, _ => h.elim
  | _ :: _, [], _, _, _, h, _, _ => h.elim
  | R :: Rs, R' :: Rs', av, av', l, h, hs, hp => by
    obtain ⟨s, t, rfl, h1, h2, h3⟩ := hp
    rw [subJ_iff] at h2
    refine ⟨s, t, rfl, h.1 s h1, (subJ_iff _ _).2 fun i hi => hs i (h2 i hi), SubL.plan h.2 (fun i hi => ?_) h3⟩
    rw [afterJ_bit] at hi ⊢
    rw [Bool.and_eq_true] at hi ⊢
    exact ⟨hs i hi.1, hi.2⟩
theorem SubL.map : ∀ {ws ws' : List (Int × Int)} (f g : Int × Int → List Nat), ws.length = ws'.length → (∀ i (h : i < ws.length) (h' : i < ws'.length), ∀ s ∈ f ws[i], s ∈ g ws'[i]) → SubL (ws.map f) (ws'.map g)
  | [], [], _, _, _, _ => trivial
  | [], _ :: _, _, _, h, _ => by simp at h
  | _ :: _, [], _, _, h, _ => by simp at h
  | w :: ws, w' :: ws', f, g, h, hm => ⟨hm 0 (by simp) (by simp), SubL.map f g (by simpa using h) fun i h1 h2 s hs => hm (i + 1) (by simpa using h1) (by simpa using h2) s hs⟩

/-! ### what one job can, another can -/
structure ToJ (j z : JobD) : Prop where
  n : z.ws.length = j.ws.length
  plan : ∀ l, PlanJ (rightsD j) (allD j) l → ∃ l', PlanJ (rightsD z) (allD z) l' ∧ costJ 8 l' = costJ 8 l
  can : ∀ s, s < 2 ^ j.ws.length → canD j s = true → ∃ s', s' < 2 ^ j.ws.length ∧ canD z s' = true ∧ sizeJ 4 s' = sizeJ 4 s
  alone : (∀ w, (h : w < j.ws.length) → rightsS j.st j.ws[w] ≠ []) → ∀ w, (h : w < z.ws.length) → rightsS z.st z.ws[w] ≠ []
  rounds : ∀ own : List Nat, own.length = j.ws.length → GrowJ 0 own → numbersJ own ≤ j.ws.length → (∀ k, canD j (withJ own 0 k) = true) → ∃ own' : List Nat, own'.length = j.ws.length ∧ GrowJ 0 own' ∧ (∀ k, k < numbersJ own' → canD z (withJ own' 0 k) = true) ∧ numbersJ own' ≤ numbersJ own
theorem told_least {j : JobD} {l : List Nat} (h : PlanJ (rightsD j) (allD j) l) : costJ 8 (toldJ 8 (rightsD j) (allD j)) ≤ costJ 8 l := by
  cases hs : scoreJ 8 (rightsD j) (allD j) with
  | none => exact absurd h ((score_specJ 8 _ _).1 hs l)
  | some x =>
    obtain ⟨_, h2, h3⟩ := (score_specJ 8 _ _).2 x hs
    rw [h2]
    exact h3 l h
theorem rounds_no {j : JobD} (hv : validJb j = true) (h : aloneN j ≠ everyD j) : roundsD j = ([], 4) := by unfold roundsD; rw [errD_ok hv, if_neg (by decide), if_neg h]
/-- What the statement says of another job. -/
theorem ToJ.fin {j z : JobD} (h : ToJ j z) (hj : validJb j = true) (hz : validJb z = true) :
    (mostD j).1.1 ≤ (mostD z).1.1 ∧ ((planD j).2 = 0 → (planD z).2 = 0 ∧ costJ 8 (planD z).1 ≤ costJ 8 (planD j).1) ∧ ((roundsD j).2 = 0 → (roundsD z).2 = 0 ∧ numbersJ (roundsD z).1 ≤ numbersJ (roundsD j).1) := by
  refine ⟨?_, fun he => ?_, fun he => ?_⟩
  · obtain ⟨b, h1, h2, h3, _⟩ := most_facts hj
    obtain ⟨c, k1, _, _, k4⟩ := most_facts hz
    obtain ⟨s', s1, s2, s3⟩ := h.can b h2 h3
    have := (k4 s' (by rw [h.n]; exact s1) s2).1
    rw [h1, k1]
    show ((sizeJ 4 b : Nat) : Int) ≤ ((sizeJ 4 c : Nat) : Int)
    omega
  · cases hc : canD j (everyD j) with
    | false => rw [planD_cannot hj hc] at he; cases he
    | true =>
      obtain ⟨l', h1, h2⟩ := h.plan _ (can_told hc)
      rw [planD_can hj hc, planD_can hz (can_of_plan h1)]
      refine ⟨rfl, ?_⟩
      show costJ 8 _ ≤ costJ 8 _
      rw [← h2]
      exact told_least h1
  · by_cases ha : aloneN j = everyD j
    · obtain ⟨l, h1, h2, h3, h4, h5, _⟩ := rounds_told hj ha
      have hza : aloneN z = everyD z := (alone_bit z).2 (h.alone ((alone_bit j).1 ha))
      obtain ⟨q, k1, k2, k3, k4, k5, k6⟩ := rounds_told hz hza
      obtain ⟨own, o1, o2, o3, o4⟩ := h.rounds l h2 (grow_of l 0 h3) h4 h5
      have := (k6 own (by rw [o1, h.n]) o2 o3).1
      rw [h1, k1]
      exact ⟨rfl, Nat.le_trans this o4⟩
    · rw [rounds_no hj ha] at he; cases he

/-! ### a block more, a wider want -/
structure MoreJ (j z : JobD) : Prop where
  n : z.ws.length = j.ws.length
  all : ∀ i, (allD j).testBit i = true → (allD z).testBit i = true
  sub : SubL (rightsD j) (rightsD z)
theorem MoreJ.can {j z : JobD} (h : MoreJ j z) {s : Nat} (hc : canD j s = true) : canD z s = true := by
  rw [can_iff] at hc ⊢
  obtain ⟨l, hl⟩ := hc
  exact ⟨l, (h.sub.sel s).plan h.all hl⟩
theorem sub_get : ∀ {Rs Rs' : List (List Nat)}, SubL Rs Rs' → ∀ (i : Nat) (h : i < Rs.length) (h' : i < Rs'.length), ∀ s ∈ Rs[i], s ∈ Rs'[i]
  | [], _, _, _, h, _, _, _ => by simp at h
  | _ :: _, [], h, _, _, _, _, _ => h.elim
  | R :: Rs, R' :: Rs', h, 0, _, _, s, hs => h.1 s hs
  | R :: Rs, R' :: Rs', h, i + 1, h1, h2, s, hs => sub_get h.2 i (by simpa using h1) (by simpa using h2) s hs
theorem MoreJ.to {j z : JobD} (h : MoreJ j z) : ToJ j z := by
  refine ⟨h.n, fun l hl => ⟨l, h.sub.plan h.all hl, rfl⟩, fun s hs hc => ⟨s, hs, h.can hc, rfl⟩, fun ha w hw he => ?_, fun own h1 h2 _ h4 => ⟨own, h1, h2, fun k _ => h.can (h4 k), Nat.le_refl _⟩⟩
  have hw2 : w < j.ws.length := by rw [← h.n]; exact hw
  have hsub := sub_get h.sub w (by unfold rightsD; simpa using hw2) (by unfold rightsD; simpa using hw)
  unfold rightsD at hsub
  rw [List.getElem_map, List.getElem_map, he] at hsub
  exact ha w hw2 (List.eq_nil_iff_forall_not_mem.2 fun s hs => by simpa using hsub s hs)
theorem sel_more {α : Type} : ∀ (bs : List α) (e : α) (s : Nat), s < 2 ^ bs.length → selJ (bs ++ [e]) s = selJ bs s := fun bs e s hs => by
  have := sel_takeJ (bs ++ [e]) s bs.length hs (by simp)
  rw [List.take_left] at this
  exact this.symm
theorem more_block (j : JobD) (e : Int × Int) : MoreJ j ⟨⟨j.st.bs ++ [e], j.st.film⟩, j.ws⟩ := by
  refine ⟨rfl, fun i hi => ?_, SubL.map _ _ rfl fun i h1 h2 s hs => ?_⟩
  · unfold allD at hi ⊢
    rw [Nat.testBit_two_pow_sub_one, decide_eq_true_eq] at hi ⊢
    rw [List.length_append]
    omega
  · unfold rightsS at hs ⊢
    rw [mem_rightsJ] at hs ⊢
    obtain ⟨h1, h2, h3⟩ := hs
    refine ⟨?_, h2, ?_⟩
    · rw [List.length_append, List.length_singleton, Nat.pow_succ]; omega
    · rw [sel_more _ _ _ h1]; exact h3
theorem more_want (j : JobD) (k : Nat) (hk : k < j.ws.length) (lo hi : Int) (h1 : lo ≤ j.ws[k].1) (h2 : j.ws[k].2 ≤ hi) : MoreJ j ⟨j.st, j.ws.set k (lo, hi)⟩ := by
  refine ⟨by simp, fun i hi => hi, SubL.map _ _ (by simp) fun i h3 h4 s hs => ?_⟩
  unfold rightsS at hs ⊢
  rw [mem_rightsJ] at hs ⊢
  refine ⟨hs.1, hs.2.1, ?_⟩
  have h5 := hs.2.2
  unfold insideJ at h5 ⊢
  rw [List.getElem_set]
  simp only [Bool.and_eq_true, decide_eq_true_eq] at h5 ⊢
  split
  · rename_i he
    subst he
    dsimp only
    omega
  · exact h5

/-! ### wants numbered otherwise -/
def revJ (n s : Nat) : Nat := setJ (fun i => s.testBit (n - 1 - i)) n
theorem rev_idx : ∀ n < 5, ∀ s < 2 ^ n, revJ n s < 2 ^ n ∧ sizeJ 4 (revJ n s) = sizeJ 4 s ∧ selJ (List.range n).reverse (revJ n s) = (selJ (List.range n) s).reverse := by decide +kernel
theorem sel_rev {α : Type} (d : α) (L : List α) (hL : L.length < 5) (s : Nat) (hs : s < 2 ^ L.length) : selJ L.reverse (revJ L.length s) = (selJ L s).reverse := by
  have he : L = (List.range L.length).map fun i => L.getD i d := by
    apply List.ext_getElem
    · simp
    · intro i h1 h2
      simp [List.getD_eq_getElem?_getD, h1]
  have hr := (rev_idx L.length hL s hs).2.2
  generalize L.length = n at *
  rw [he, ← List.map_reverse, sel_mapJ, sel_mapJ, hr, List.map_reverse]
theorem after_comm (a s t : Nat) : afterJ (afterJ a s) t = afterJ (afterJ a t) s := by
  apply Nat.eq_of_testBit_eq
  intro i
  rw [afterJ_bit, afterJ_bit, afterJ_bit, afterJ_bit, Bool.and_assoc, Bool.and_assoc, Bool.and_comm (!s.testBit i)]
theorem plan_snoc : ∀ (Rs : List (List Nat)) (R : List Nat) (av s : Nat) (l : List Nat), s ∈ R → subJ s av = true → PlanJ Rs (afterJ av s) l → PlanJ (Rs ++ [R]) av (l ++ [s])
  | [], R, av, s, l, h1, h2, h3 => by
    have h3 : l = [] := h3
    subst h3
    exact ⟨s, [], rfl, h1, h2, rfl⟩
  | R0 :: Rs, R, av, s, l, h1, h2, h3 => by
    obtain ⟨s0, t, rfl, k1, k2, k3⟩ := h3
    rw [subJ_iff] at k2 h2
    refine ⟨s0, t ++ [s], rfl, k1, (subJ_iff _ _).2 fun i hi => ?_, plan_snoc Rs R _ s t h1 ((subJ_iff _ _).2 fun i hi => ?_) (by rw [after_comm]; exact k3)⟩
    · have := k2 i hi
      rw [afterJ_bit, Bool.and_eq_true] at this
      exact this.1
    · rw [afterJ_bit, h2 i hi]
      cases h0 : s0.testBit i with
      | false => rfl
      | true =>
        have := k2 i h0
        rw [afterJ_bit, hi] at this
        simp at this
theorem plan_rev : ∀ (Rs : List (List Nat)) (av : Nat) (l : List Nat), PlanJ Rs av l → PlanJ Rs.reverse av l.reverse
  | [], _, l, h => by
    have h : l = [] := h
    subst h; rfl
  | R :: Rs, av, l, h => by
    obtain ⟨s, t, rfl, h1, h2, h3⟩ := h
    rw [List.reverse_cons, List.reverse_cons]
    exact plan_snoc _ _ _ _ _ h1 h2 (plan_rev Rs _ t h3)
theorem cost_rev (l : List Nat) : costJ 8 l.reverse = costJ 8 l := by
  unfold costJ
  induction l with
  | nil => rfl
  | cons s l ih =>
    rw [List.reverse_cons, List.map_append, List.sum_append, ih]
    simp
    omega
/-- Numbers of what comes first. -/
def renJ : List Nat → List Nat → List Nat
  | _, [] => []
  | seen, x :: l => seen.findIdx (· == x) :: renJ (if seen.contains x then seen else seen ++ [x]) l
def growB : Nat → List Nat → Bool
  | _, [] => true
  | n, x :: l => decide (x ≤ n) && growB (max n (x + 1)) l
theorem grow_b : ∀ (l : List Nat) (n : Nat), growB n l = true → GrowJ n l
  | [], _, _ => trivial
  | x :: l, n, h => by
    unfold growB at h
    rw [Bool.and_eq_true, decide_eq_true_eq] at h
    exact ⟨h.1, grow_b l _ h.2⟩
def renB (l : List Nat) : Bool :=
  decide ((renJ [] l.reverse).length = l.length) && growB 0 (renJ [] l.reverse) && decide (numbersJ (renJ [] l.reverse) ≤ numbersJ l) &&
    (List.range (numbersJ (renJ [] l.reverse))).all fun k => (List.range 4).any fun k' => withJ (renJ [] l.reverse) 0 k == revJ l.length (withJ l 0 k')
theorem ren_0 : renB [] = true := by decide +kernel
theorem ren_1 : ∀ a < 4, renB [a] = true := by decide +kernel
theorem ren_2 : ∀ a < 4, ∀ b < 4, renB [a, b] = true := by decide +kernel
theorem ren_3 : ∀ a < 4, ∀ b < 4, ∀ c < 4, renB [a, b, c] = true := by decide +kernel
theorem ren_4 : ∀ a < 4, ∀ b < 4, ∀ c < 4, ∀ d < 4, renB [a, b, c, d] = true := by decide +kernel
theorem ren_all (l : List Nat) (hl : l.length < 5) (hx : ∀ x ∈ l, x < 4) : renB l = true := by
  match l, hl, hx with
  | [], _, _ => exact ren_0
  | [a], _, hx => exact ren_1 a (hx a (by simp))
  | [a, b], _, hx => exact ren_2 a (hx a (by simp)) b (hx b (by simp))
  | [a, b, c], _, hx => exact ren_3 a (hx a (by simp)) b (hx b (by simp)) c (hx c (by simp))
  | [a, b, c, d], _, hx => exact ren_4 a (hx a (by simp)) b (hx b (by simp)) c (hx c (by simp)) d (hx d (by simp))
  | _ :: _ :: _ :: _ :: _ :: _, hl, _ => simp at hl; omega
theorem rev_job (j : JobD) : rightsD ⟨j.st, j.ws.reverse⟩ = (rightsD j).reverse := by unfold rightsD; rw [List.map_reverse]
theorem rev_can {j : JobD} (h4 : j.ws.length < 5) {s : Nat} (hs : s < 2 ^ j.ws.length) (hc : canD j s = true) : canD ⟨j.st, j.ws.reverse⟩ (revJ j.ws.length s) = true := by
  rw [can_iff] at hc ⊢
  obtain ⟨l, hl⟩ := hc
  refine ⟨l.reverse, ?_⟩
  have hn : (rightsD j).length = j.ws.length := by simp [rightsD]
  have := sel_rev [] (rightsD j) (by rw [hn]; exact h4) s (by rw [hn]; exact hs)
  rw [hn] at this
  rw [rev_job, this]
  exact plan_rev _ _ _ hl
theorem rev_to {j : JobD} (hv : validJb j = true) : ToJ j ⟨j.st, j.ws.reverse⟩ := by
  have h4 : j.ws.length < 5 := by have := (validJb_parts hv).2.1; omega
  refine ⟨by simp, fun l hl => ⟨l.reverse, ?_, cost_rev l⟩, fun s hs hc => ⟨revJ j.ws.length s, (rev_idx _ h4 s hs).1, rev_can h4 hs hc, (rev_idx _ h4 s hs).2.1⟩, fun ha w hw => ?_, fun own h1 h2 h3 h5 => ?_⟩
  · rw [rev_job]
    exact plan_rev _ _ _ hl
  · show rightsS j.st j.ws.reverse[w] ≠ []
    have hw2 : w < j.ws.length := by simpa using hw
    rw [List.getElem_reverse]
    exact ha _ (by omega)
  · have hren := ren_all own (by omega) (fun x hx => by have := (numbers_ge own 0).2 x hx; unfold numbersJ at h3; omega)
    unfold renB at hren
    simp only [Bool.and_eq_true, decide_eq_true_eq, List.all_eq_true, List.any_eq_true, List.mem_range, beq_iff_eq] at hren
    obtain ⟨⟨⟨r1, r2⟩, r3⟩, r4⟩ := hren
    refine ⟨renJ [] own.reverse, by rw [r1, h1], grow_b _ _ r2, fun k hk => ?_, r3⟩
    obtain ⟨k', _, hk'⟩ := r4 k hk
    rw [hk', h1]
    exact rev_can h4 (by have := with_ltJ own k'; rwa [h1] at this) (h5 k')
theorem rev_back (j : JobD) : (⟨j.st, j.ws.reverse.reverse⟩ : JobD) = j := by rw [List.reverse_reverse]
theorem rev_valid {j : JobD} (hv : validJb j = true) : validJb ⟨j.st, j.ws.reverse⟩ = true := by
  unfold validJb at hv ⊢
  simpa using hv
theorem plan_err {j : JobD} (hv : validJb j = true) : planD j = ([], 4) ∨ (planD j).2 = 0 := by
  cases hc : canD j (everyD j) with
  | true => right; rw [planD_can hv hc]
  | false => left; exact planD_cannot hv hc
theorem rounds_err {j : JobD} (hv : validJb j = true) : roundsD j = ([], 4) ∨ (roundsD j).2 = 0 := by
  by_cases h : aloneN j = everyD j
  · obtain ⟨l, h1, _⟩ := rounds_told hv h
    right; rw [h1]
  · left; exact rounds_no hv h
theorem score_rev (j : JobD) (av : Nat) : (scoreD ⟨j.st, j.ws.reverse⟩ (everyD ⟨j.st, j.ws.reverse⟩) av).isSome = (scoreD j (everyD j) av).isSome := by
  have key : ∀ (i : JobD), (scoreD i (everyD i) av).isSome = true ↔ ∃ l, PlanJ (rightsD i) av l := fun i => by
    unfold scoreD everyD
    rw [show i.ws.length = (rightsD i).length by simp [rightsD], sel_allJ]
    cases hs : scoreJ 8 (rightsD i) av with
    | none => exact ⟨fun h => (nomatch h), fun h => absurd h.choose_spec ((score_specJ 8 _ _).1 hs _)⟩
    | some x => exact ⟨fun _ => ⟨_, ((score_specJ 8 _ _).2 x hs).1⟩, fun _ => rfl⟩
  rw [Bool.eq_iff_iff, key, key, rev_job]
  constructor
  · rintro ⟨l, hl⟩
    have := plan_rev _ _ _ hl
    rw [List.reverse_reverse] at this
    exact ⟨_, this⟩
  · rintro ⟨l, hl⟩
    exact ⟨_, plan_rev _ _ _ hl⟩
theorem lend_rev {j : JobD} (hv : validJb j = true) : lendD ⟨j.st, j.ws.reverse⟩ = lendD j := by
  have hn : lendN ⟨j.st, j.ws.reverse⟩ = lendN j := by
    unfold lendN
    have : (fun b => (scoreD ⟨j.st, j.ws.reverse⟩ (everyD ⟨j.st, j.ws.reverse⟩) (afterJ (allD ⟨j.st, j.ws.reverse⟩) (2 ^ b))).isSome) = fun b => (scoreD j (everyD j) (afterJ (allD j) (2 ^ b))).isSome := funext fun b => score_rev j _
    rw [this]
  have hc : canD ⟨j.st, j.ws.reverse⟩ (everyD ⟨j.st, j.ws.reverse⟩) = canD j (everyD j) := score_rev j (allD j)
  unfold lendD
  rw [errD_ok hv, errD_ok (rev_valid hv), hn, hc]
/-- What the statement says of wants that are numbered otherwise. -/
theorem rev_fin {j : JobD} (hv : validJb j = true) : (mostD ⟨j.st, j.ws.reverse⟩).1.1 = (mostD j).1.1 ∧ (planD ⟨j.st, j.ws.reverse⟩).2 = (planD j).2 ∧ costJ 8 (planD ⟨j.st, j.ws.reverse⟩).1 = costJ 8 (planD j).1 ∧
    (roundsD ⟨j.st, j.ws.reverse⟩).2 = (roundsD j).2 ∧ numbersJ (roundsD ⟨j.st, j.ws.reverse⟩).1 = numbersJ (roundsD j).1 ∧ lendD ⟨j.st, j.ws.reverse⟩ = lendD j := by
  have hv2 := rev_valid hv
  obtain ⟨a1, a2, a3⟩ := (rev_to hv).fin hv hv2
  have hto := rev_to hv2
  rw [show (⟨(⟨j.st, j.ws.reverse⟩ : JobD).st, (⟨j.st, j.ws.reverse⟩ : JobD).ws.reverse⟩ : JobD) = j from rev_back j] at hto
  obtain ⟨b1, b2, b3⟩ := hto.fin hv2 hv
  refine ⟨by omega, ?_, ?_, ?_, ?_, lend_rev hv⟩
  · rcases plan_err hv with h | h
    · rcases plan_err hv2 with k | k
      · rw [h, k]
      · rw [h] at b2; exact absurd (b2 k).1 (by decide)
    · rw [h, (a2 h).1]
  · rcases plan_err hv with h | h
    · rcases plan_err hv2 with k | k
      · rw [h, k]
      · rw [h] at b2; exact absurd (b2 k).1 (by decide)
    · exact Nat.le_antisymm (a2 h).2 (b2 (a2 h).1).2
  · rcases rounds_err hv with h | h
    · rcases rounds_err hv2 with k | k
      · rw [h, k]
      · rw [h] at b3; exact absurd (b3 k).1 (by decide)
    · rw [h, (a3 h).1]
  · rcases rounds_err hv with h | h
    · rcases rounds_err hv2 with k | k
      · rw [h, k]
      · rw [h] at b3; exact absurd (b3 k).1 (by decide)
    · exact Nat.le_antisymm (a3 h).2 (b3 (a3 h).1).2
theorem planD_len {j : JobD} (hv : validJb j = true) : (planD j).1.length ≤ 4 := by
  cases hc : canD j (everyD j) with
  | true =>
    rw [planD_can hv hc]
    show (toldJ 8 (rightsD j) (allD j)).length ≤ 4
    rw [(plan_facts (can_told hc)).len]
    exact (validJb_parts hv).2.1
  | false => rw [planD_cannot hv hc]; simp
end Go.Proofs.YtbmfphiecllggaaDoor

/- JobMore in plain words: how great numbers are, and what is said of both other jobs. -/
namespace Go.Proofs.YtbmfphiecllggaaDoor
set_option linter.unusedVariables false
set_option linter.unusedSimpArgs false

theorem planD_small {j : JobD} (hv : validJb j = true) : (planD j).1.length ≤ 4 ∧ (∀ s ∈ (planD j).1, s < 256) ∧ costJ 8 (planD j).1 ≤ 32 := by
  have hs : ∀ s ∈ (planD j).1, s < 256 := by
    cases hc : canD j (everyD j) with
    | true =>
      rw [planD_can hv hc]
      intro s hs
      have h1 := (plan_facts (can_told hc)).lt s hs
      have h2 := (validSt_parts (validJb_parts hv).1).1
      exact Nat.lt_of_lt_of_le h1 (Nat.pow_le_pow_right (by decide) h2 : 2 ^ j.st.bs.length ≤ 2 ^ 8)
    | false => rw [planD_cannot hv hc]; intro s hs; simp at hs
  refine ⟨planD_len hv, hs, ?_⟩
  have := cost_le (planD j).1 hs
  have := planD_len hv
  omega
theorem roundsD_small {j : JobD} (hv : validJb j = true) : (roundsD j).1.length ≤ 4 ∧ (∀ s ∈ (roundsD j).1, s ≤ 4) ∧ numbersJ (roundsD j).1 ≤ 4 := by
  have h4 := (validJb_parts hv).2.1
  by_cases h : aloneN j = everyD j
  · obtain ⟨l, h1, h2, _, h3, _⟩ := rounds_told hv h
    rw [h1]
    refine ⟨by show l.length ≤ 4; omega, fun s hs => ?_, by show numbersJ l ≤ 4; omega⟩
    have h5 := (numbers_ge l 0).2 s hs
    unfold numbersJ at h3
    omega
  · rw [rounds_no hv h]
    exact ⟨by simp, fun s hs => by simp at hs, by decide⟩
/-- What the statement asks of another job; k = 1 for wants that are numbered otherwise. -/
structure FinJ (j z : JobD) (k : Nat) : Prop where
  most : (mostD j).1.1 ≤ (mostD z).1.1
  plan : (planD j).2 = 0 → (planD z).2 = 0 ∧ costJ 8 (planD z).1 ≤ costJ 8 (planD j).1
  rounds : (roundsD j).2 = 0 → (roundsD z).2 = 0 ∧ numbersJ (roundsD z).1 ≤ numbersJ (roundsD j).1
  same : k = 1 → (mostD z).1.1 = (mostD j).1.1 ∧ (planD z).2 = (planD j).2 ∧ costJ 8 (planD z).1 = costJ 8 (planD j).1 ∧ (roundsD z).2 = (roundsD j).2 ∧ numbersJ (roundsD z).1 = numbersJ (roundsD j).1 ∧ lendD z = lendD j
theorem fin_0 {j z : JobD} (h : ToJ j z) (hj : validJb j = true) (hz : validJb z = true) : FinJ j z 0 := by
  obtain ⟨h1, h2, h3⟩ := h.fin hj hz
  exact ⟨h1, h2, h3, fun h => by cases h⟩
theorem fin_1 {j : JobD} (hj : validJb j = true) : FinJ j ⟨j.st, j.ws.reverse⟩ 1 := by
  obtain ⟨h1, h2, h3⟩ := (rev_to hj).fin hj (rev_valid hj)
  exact ⟨h1, h2, h3, fun _ => rev_fin hj⟩
theorem most_zero {j : JobD} (hv : validJb j = true) : (mostD j).2 = 0 := by
  obtain ⟨b, h, _⟩ := most_facts hv
  rw [h]
end Go.Proofs.YtbmfphiecllggaaDoor
