/- Texts Fa, Fb, Fc, Fd in one file; each begins with a word on what it proves. -/
import Derived.Test.YtagjepclobobjaaVa
import Derived.Test.YtagjepclobobjaaVk

/- The lot of the document's examples, and what is fixed of it. -/
namespace Go.Proofs.Ytagjepclobobjaa
set_option linter.unusedVariables false
set_option linter.unusedSimpArgs false

def sampleL : LotD := ⟨[(2, 1), (4, 3), (8, 6)], 2, [[(1, 1), (0, 2), (1, 3), (2, 4), (0, 1)], [(0, 0), (0, 0), (0, 0), (0, 0), (0, 0)], [(-9, -9), (-9, -9), (-9, -9), (-9, -9), (-9, -9)], [(7, 7), (6, 6), (6, 6), (6, 6), (6, 6)]], [30, 20, 5], 8, [(0, 1), (1, 2)]⟩
theorem s_valid : validL sampleL = true := by kernel_rfl
theorem s_sells : sellsD sampleL 3 = (2, 0) := by kernel_rfl
theorem s_worth : worthD sampleL 0 = ((20, 30), 0) := by kernel_rfl
theorem s_value : valueD sampleL = ((55, 65), 0) := by kernel_rfl
theorem s_best : bestD sampleL 0 = (0, true, 22, 0) := by kernel_rfl
theorem s_scrap : scrapD sampleL = (4, 4, 0) := by kernel_rfl
theorem s_deliver : deliverD sampleL = (2, [1, 0, -1, -1], 0) := by kernel_rfl
theorem s_check : checkL sampleL [(0, 0, 30)] = (0, 2, 0) := by kernel_rfl
theorem s_sum : sumD sampleL [(0, 1, 20), (1, 0, 30)] = (50, 0) := by kernel_rfl
end Go.Proofs.Ytagjepclobobjaa

/- Statements about lots: spans, points, the sample, entries. -/
namespace Go.Proofs.Ytagjepclobobjaa
set_option linter.unusedVariables false
set_option linter.unusedSimpArgs false
open Go.RowKit Go.Shelf
attribute [local go_sem] Oper.semAt_some

theorem span13_any (a b : Int) (w : World) : Calls Try.prog 17 #[.int .i64 a, .int .i64 b] w fun e w' => e = .returned (.agg #[.int .i64 a, .int .i64 b]) ∧ Below w.heap.size w w' := by
  go_enter Try.func17, Try.ntmps17
  go_wp2
  have hr : (w.alloc (.cells #[.int .i64 a, .int .i64 b] 37)).heap[w.heap.size]? = some (.cells #[.int .i64 a, .int .i64 b] 37 (0, 0)) := heap_alloc_at _ _ _ rfl
  have e0 := cell_of_row _ _ 0 _ _ _ hr
  have e1 := cell_of_row _ _ 1 _ _ _ hr
  exact bodyPost_ret (v := .agg #[.int .i64 a, .int .i64 b]) (by simp [results, Try.results17, go_sem, e0, e1]) rfl ⟨rfl, (Below.refl _ _).alloc (Nat.le_refl _) _⟩
theorem wpList_storeB {P : Program} {ops : Array Oper} {rest : List Oper} {o : Oper} {a : Act} {w : World} {Q : Exit → Act → World → Prop} (hgd : o.guard = none) (ty : TypeId) (x y : Operand) (ho : o.op = .store ty x y)
    (g : Nat) (cells : Array Value) (hx : a.eval x = .pointer (some ⟨g, 0, none⟩)) (hy : a.eval y = .agg cells)
    (t : TypeId) (old : Array Value) (hg : w.heap[g]? = some (.cells old t (0, 0))) (hi : (P.info? ty).map (·.size) = some cells.size)
    (hold : old.size = cells.size) (h1 : cells.all (·.oneCell') = true)
    (h : ∀ w', w'.heap[g]? = some (.cells cells t (0, 0)) → Keeps (fun k => k = g) w w' → w'.heap.size = w.heap.size → wpList P ops Q rest (a.put o.dst undef) w') : wpList P ops Q (o :: rest) a w :=
  wpList_store_row hgd ty x y ho g cells hx hy t old hg hi hold h1 (h _ (setRow_heap _ _ _ _ _ _ hg) (keeps_setRow _ _ _) (by simp))
theorem flat_any {α : Type} (f : α → List Value) (m : Nat) : ∀ (l : List α) (i q : Nat) (hi : i < l.length), (∀ a ∈ l, (f a).length = m) → q < m → (l.flatMap f)[i * m + q]? = (f l[i])[q]?
  | a :: l, 0, q, _, hf, hq => by
    simp only [List.flatMap_cons, Nat.zero_mul, Nat.zero_add, List.getElem_cons_zero]
    rw [List.getElem?_append_left (by rw [hf a (by simp)]; exact hq)]
  | a :: l, i + 1, q, hi, hf, hq => by
    have hm : (f a).length = m := hf a (by simp)
    rw [List.flatMap_cons, List.getElem?_append_right (by rw [hm, Nat.add_mul]; omega), hm, show (i + 1) * m + q - m = i * m + q by rw [Nat.add_mul]; omega]
    exact flat_any f m l i q (by simpa using hi) (fun x hx => hf x (by simp [hx])) hq
theorem spans_rowF {W : World} {g : Nat} {cs : Array Value} {t : TypeId} (l : List (Int × Int)) (h : W.heap[g]? = some (.cells cs t (0, 0))) (hc : cs.toList = l.flatMap fun x => [.int .i64 x.1, .int .i64 x.2]) (hm : l.length ≤ 1000) : SpansAt W (.slice (some ⟨g, 0, none⟩) l.length l.length) l (fun k => k = g) := by
  refine ⟨_, _, rfl, Nat.le_refl _, by unfold maxLen; omega, fun i hi => ⟨g, 0, rfl, rfl, lt_of_block h, ?_⟩⟩
  have hx : ∀ q, q < 2 → W.cell? ⟨g, 0 + (i * 2 + q), none⟩ = ([Value.int .i64 l[i].1, .int .i64 l[i].2] : List Value)[q]? := fun q hq => by
    rw [cell_of_row _ _ _ _ _ _ h, ← Array.getElem?_toList, hc, Nat.zero_add]
    exact flat_any _ 2 l i q hi (fun _ _ => rfl) hq
  exact ⟨hx 0 (by decide), hx 1 (by decide)⟩
theorem blocks_rowF {W : World} {g : Nat} {cs : Array Value} {t : TypeId} (l : List (List (Int × Int))) (h : W.heap[g]? = some (.cells cs t (0, 0))) (hc : cs.toList = l.flatMap ptsC) (h5 : ∀ x ∈ l, x.length = 5) (hm : l.length ≤ 1000) : BlocksAt W (.slice (some ⟨g, 0, none⟩) l.length l.length) l (fun k => k = g) := by
  refine ⟨_, _, rfl, Nat.le_refl _, by unfold maxLen; omega, fun i hi => ⟨h5 _ (List.getElem_mem hi), g, 0, rfl, rfl, lt_of_block h, fun k hk => ?_⟩⟩
  have h10 : ∀ x ∈ l, (ptsC x).length = 10 := fun x hx => by
    have h5 := h5 x hx
    match x, h5 with
    | [_, _, _, _, _], _ => rfl
  rw [cell_of_row _ _ _ _ _ _ h, ← Array.getElem?_toList, hc, Nat.zero_add]
  exact flat_any _ 10 l i k hi h10 hk
theorem SpansAt.monoF {W : World} {v : Value} {l : List (Int × Int)} {R S : Nat → Prop} (h : SpansAt W v l R) (hs : ∀ k, R k → S k) : SpansAt W v l S := by
  obtain ⟨ao, cap, h1, h2, h3, h4⟩ := h
  exact ⟨ao, cap, h1, h2, h3, fun i hi => by obtain ⟨b, off, e1, e2, e3⟩ := h4 i hi; exact ⟨b, off, e1, hs _ e2, e3⟩⟩
theorem BlocksAt.mono {W : World} {v : Value} {l : List (List (Int × Int))} {R S : Nat → Prop} (h : BlocksAt W v l R) (hs : ∀ k, R k → S k) : BlocksAt W v l S := by
  obtain ⟨ao, cap, h1, h2, h3, h4⟩ := h
  exact ⟨ao, cap, h1, h2, h3, fun i hi => by obtain ⟨h5, b, off, e1, e2, e3⟩ := h4 i hi; exact ⟨h5, b, off, e1, hs _ e2, e3⟩⟩
theorem EntsAt.mono {W : World} {v : Value} {l : List EntD} {R S : Nat → Prop} (h : EntsAt W v l R) (hs : ∀ k, R k → S k) : EntsAt W v l S := by
  obtain ⟨ao, cap, h1, h2, h3, h4⟩ := h
  exact ⟨ao, cap, h1, h2, h3, fun i hi => by obtain ⟨b, off, e1, e2, e3⟩ := h4 i hi; exact ⟨b, off, e1, hs _ e2, e3⟩⟩
theorem ents_rowF {W : World} {g : Nat} {cs : Array Value} {t : TypeId} (l : List EntD) (h : W.heap[g]? = some (.cells cs t (0, 0))) (hc : cs.toList = l.flatMap fun x => [.int .i64 x.1, .int .i64 x.2.1, .int .i64 x.2.2]) (hm : l.length ≤ 1000) : EntsAt W (.slice (some ⟨g, 0, none⟩) l.length l.length) l (fun k => k = g) := by
  refine ⟨_, _, rfl, Nat.le_refl _, by unfold maxLen; omega, fun i hi => ⟨g, 0, rfl, rfl, lt_of_block h, ?_⟩⟩
  have hx : ∀ q, q < 3 → W.cell? ⟨g, 0 + (i * 3 + q), none⟩ = ([Value.int .i64 l[i].1, .int .i64 l[i].2.1, .int .i64 l[i].2.2] : List Value)[q]? := fun q hq => by
    rw [cell_of_row _ _ _ _ _ _ h, ← Array.getElem?_toList, hc, Nat.zero_add]
    exact flat_any _ 3 l i q hi (fun _ _ => rfl) hq
  exact ⟨hx 0 (by decide), hx 1 (by decide), hx 2 (by decide)⟩
theorem nums_rowF {W : World} {g : Nat} {cs : Array Value} {t : TypeId} (l : List Int) (h : W.heap[g]? = some (.cells cs t (0, 0))) (hc : cs.toList = l.map (Value.int .i64)) (hm : l.length ≤ 1000) : NumsAt W (.slice (some ⟨g, 0, none⟩) l.length l.length) l (fun k => k = g) := by
  refine ⟨_, _, rfl, Nat.le_refl _, by unfold maxLen; omega, fun i hi => ⟨g, 0, rfl, rfl, lt_of_block h, ?_⟩⟩
  rw [cell_of_row _ _ _ _ _ _ h, ← Array.getElem?_toList, hc, Nat.zero_add]
  simp [hi]
set_option maxRecDepth 100000 in
set_option maxHeartbeats 4000000 in
theorem points13_any (a b c d e : Int) (w : World) : Calls Try.prog 35 #[.int .i64 a, .int .i64 b, .int .i64 c, .int .i64 d, .int .i64 e] w fun o w' => o = .returned (.agg #[.int .i64 a, .int .i64 a, .int .i64 b, .int .i64 b, .int .i64 c, .int .i64 c, .int .i64 d, .int .i64 d, .int .i64 e, .int .i64 e]) ∧ Below w.heap.size w w' := by
  obtain ⟨W0, hW0⟩ : ∃ W, W = w.alloc (.cells #[.int .i64 0, .int .i64 0, .int .i64 0, .int .i64 0, .int .i64 0, .int .i64 0, .int .i64 0, .int .i64 0, .int .i64 0, .int .i64 0] 51) := ⟨_, rfl⟩
  have HB := Lib.hid (show Below w.heap.size w W0 by rw [hW0]; exact below_allocG _ _)
  have HR := Lib.hid (show W0.heap[w.heap.size]? = some (.cells #[.int .i64 0, .int .i64 0, .int .i64 0, .int .i64 0, .int .i64 0, .int .i64 0, .int .i64 0, .int .i64 0, .int .i64 0, .int .i64 0] 51 (0, 0)) by rw [hW0]; exact heap_alloc_at _ _ _ rfl)
  have BW0 := Lib.hid (Below.refl W0.heap.size W0)
  go_enter Try.func35, Try.ntmps35
  go_wp2_with fail
  rw [← hW0]
  clear hW0
  refine (span13_any a a _).mono ?_
  rintro e W1 ⟨rfl, hb⟩
  have BW1 := Lib.hid (BW0.out.trans (hb.mono BW0.out.size))
  clear hb
  go_wp2_with fail
  refine (span13_any b b _).mono ?_
  rintro e W2 ⟨rfl, hb⟩
  have BW2 := Lib.hid (BW1.out.trans (hb.mono BW1.out.size))
  clear hb
  go_wp2_with fail
  refine (span13_any c c _).mono ?_
  rintro e W3 ⟨rfl, hb⟩
  have BW3 := Lib.hid (BW2.out.trans (hb.mono BW2.out.size))
  clear hb
  go_wp2_with fail
  refine (span13_any d d _).mono ?_
  rintro e W4 ⟨rfl, hb⟩
  have BW4 := Lib.hid (BW3.out.trans (hb.mono BW3.out.size))
  clear hb
  go_wp2_with fail
  refine (span13_any e e _).mono ?_
  rintro o W5 ⟨rfl, hb⟩
  have B5 := Lib.hid (BW4.out.trans (hb.mono BW4.out.size))
  have r5 := (B5.out.block _ (lt_of_block HR.out)).trans HR.out
  have hsz := B5.out.size
  have hsw := HB.out.size
  have R5 := Lib.hid r5
  clear hb r5
  dsimp only
  go_wp2_with (first | (refine wpList_storeB rfl 51 _ _ rfl w.heap.size #[.int .i64 a, .int .i64 a, .int .i64 b, .int .i64 b, .int .i64 c, .int .i64 c, .int .i64 d, .int .i64 d, .int .i64 e, .int .i64 e] rfl rfl 51 _ R5.out rfl rfl (by simp [Value.oneCell']) ?_))
  intro w' hg hk hz
  have HG := Lib.hid hg
  have HK := Lib.hid hk
  clear hg hk hz
  go_wp2
  have e0 := cell_of_row _ _ 0 _ _ _ HG.out
  have e1 := cell_of_row _ _ 1 _ _ _ HG.out
  have e2 := cell_of_row _ _ 2 _ _ _ HG.out
  have e3 := cell_of_row _ _ 3 _ _ _ HG.out
  have e4 := cell_of_row _ _ 4 _ _ _ HG.out
  have e5 := cell_of_row _ _ 5 _ _ _ HG.out
  have e6 := cell_of_row _ _ 6 _ _ _ HG.out
  have e7 := cell_of_row _ _ 7 _ _ _ HG.out
  have e8 := cell_of_row _ _ 8 _ _ _ HG.out
  have e9 := cell_of_row _ _ 9 _ _ _ HG.out
  refine bodyPost_ret (v := .agg #[.int .i64 a, .int .i64 a, .int .i64 b, .int .i64 b, .int .i64 c, .int .i64 c, .int .i64 d, .int .i64 d, .int .i64 e, .int .i64 e]) (by simp [results, Try.results35, go_sem, e0, e1, e2, e3, e4, e5, e6, e7, e8, e9]) rfl ⟨rfl, (HB.out.trans (B5.out.mono hsw)).trans (HK.out.below (by omega) (fun k h e => by omega))⟩
set_option maxRecDepth 100000 in
set_option maxHeartbeats 4000000 in
theorem sample13_any (w : World) : Calls Try.prog 10 #[] w fun e w' => ∃ p, e = .returned (lotV sampleL p) ∧ LotAt sampleL p (fun k => w.heap.size ≤ k) w' ∧ Below w.heap.size w w' := by
  obtain ⟨W0, hW0⟩ : ∃ W, W = (w.alloc (.cells #[.slice none 0 0, .int .i64 0, .slice none 0 0, .slice none 0 0, .int .i64 0, .slice none 0 0] 32)).alloc (.cells #[.int .i64 2, .int .i64 1, .int .i64 4, .int .i64 3, .int .i64 8, .int .i64 6] 82) := ⟨_, rfl⟩
  have HB := Lib.hid (show Below w.heap.size w W0 by rw [hW0]; exact (below_allocG _ _).alloc (by simp) _)
  have HR := Lib.hid (show W0.heap[w.heap.size]? = some (.cells #[.slice none 0 0, .int .i64 0, .slice none 0 0, .slice none 0 0, .int .i64 0, .slice none 0 0] 32 (0, 0)) by rw [hW0]; exact (hget_old _ _ _ (by simp)).trans (heap_alloc_at _ _ _ rfl))
  have HL := Lib.hid (show W0.heap[w.heap.size + 1]? = some (.cells #[.int .i64 2, .int .i64 1, .int .i64 4, .int .i64 3, .int .i64 8, .int .i64 6] 82 (0, 0)) by rw [hW0]; exact heap_alloc_at _ _ _ (by simp))
  have HS0 := Lib.hid (show W0.heap.size = w.heap.size + 2 by rw [hW0]; simp)
  have BW0 := Lib.hid (Below.refl W0.heap.size W0)
  go_enter Try.func10, Try.ntmps10
  go_wp2_with fail
  rw [← hW0]
  clear hW0
  refine (span13_any 1 1 _).mono ?_
  rintro e W1 ⟨rfl, hb⟩
  have BW1 := Lib.hid (BW0.out.trans (hb.mono BW0.out.size))
  clear hb
  go_wp2_with fail
  refine (span13_any 0 2 _).mono ?_
  rintro e W2 ⟨rfl, hb⟩
  have BW2 := Lib.hid (BW1.out.trans (hb.mono BW1.out.size))
  clear hb
  go_wp2_with fail
  refine (span13_any 1 3 _).mono ?_
  rintro e W3 ⟨rfl, hb⟩
  have BW3 := Lib.hid (BW2.out.trans (hb.mono BW2.out.size))
  clear hb
  go_wp2_with fail
  refine (span13_any 2 4 _).mono ?_
  rintro e W4 ⟨rfl, hb⟩
  have BW4 := Lib.hid (BW3.out.trans (hb.mono BW3.out.size))
  clear hb
  go_wp2_with fail
  refine (span13_any 0 1 _).mono ?_
  rintro e W5 ⟨rfl, hb⟩
  have BW5 := Lib.hid (BW4.out.trans (hb.mono BW4.out.size))
  clear hb
  go_wp2_with fail
  refine (points13_any 0 0 0 0 0 _).mono ?_
  rintro e W6 ⟨rfl, hb⟩
  have BW6 := Lib.hid (BW5.out.trans (hb.mono BW5.out.size))
  clear hb
  go_wp2_with fail
  refine (points13_any (-9) (-9) (-9) (-9) (-9) _).mono ?_
  rintro e W7 ⟨rfl, hb⟩
  have BW7 := Lib.hid (BW6.out.trans (hb.mono BW6.out.size))
  clear hb
  go_wp2_with fail
  refine (points13_any 7 6 6 6 6 _).mono ?_
  rintro o W8 ⟨rfl, hb⟩
  have B8 := Lib.hid (BW7.out.trans (hb.mono BW7.out.size))
  have r8 := (B8.out.block _ (lt_of_block HR.out)).trans HR.out
  have hsz := B8.out.size
  have hsw := HB.out.size
  have R8 := Lib.hid r8
  clear hb r8
  dsimp only
  go_wp2_with (first | (refine wpList_storeB rfl 32 _ _ rfl w.heap.size #[.slice (some ⟨w.heap.size + 1, 0, none⟩) 3 3, .int .i64 2, .slice (some ⟨W8.heap.size, 0, none⟩) 4 4, .slice (some ⟨W8.heap.size + 1, 0, none⟩) 3 3, .int .i64 8, .slice (some ⟨W8.heap.size + 1 + 1, 0, none⟩) 2 2] rfl rfl 32 _ ((hget_old _ _ _ (by have := lt_of_block R8.out; simp; omega)).trans ((hget_old _ _ _ (by have := lt_of_block R8.out; simp; omega)).trans ((hget_old _ _ _ (by have := lt_of_block R8.out; omega)).trans R8.out))) rfl rfl (by simp [Value.oneCell']) ?_))
  intro w' hg hk hz
  have hs0 := HS0.out
  have hx8 : w'.heap[W8.heap.size]? = some (.cells _ _ (0, 0)) := (hk.block _ (by simp <;> omega) (by omega)).trans ((hget_old _ _ _ (by simp <;> omega)).trans ((hget_old _ _ _ (by simp <;> omega)).trans (heap_alloc_at _ _ _ rfl)))
  have hx9 : w'.heap[W8.heap.size + 1]? = some (.cells _ _ (0, 0)) := (hk.block _ (by simp <;> omega) (by omega)).trans ((hget_old _ _ _ (by simp <;> omega)).trans (heap_alloc_at _ _ _ (by simp <;> omega)))
  have hx10 : w'.heap[W8.heap.size + 1 + 1]? = some (.cells _ _ (0, 0)) := (hk.block _ (by simp <;> omega) (by omega)).trans (heap_alloc_at _ _ _ (by simp <;> omega))
  have hxl := (hk.block (w.heap.size + 1) (by simp <;> omega) (by omega)).trans ((hget_old _ _ _ (by simp <;> omega)).trans ((hget_old _ _ _ (by simp <;> omega)).trans ((hget_old _ _ _ (by omega)).trans ((B8.out.block _ (lt_of_block HL.out)).trans HL.out))))
  have hbf : Below w.heap.size w w' := (HB.out.trans ((((B8.out.alloc (by omega) _).alloc (by simp <;> omega) _).alloc (by simp <;> omega) _).mono hsw)).trans (hk.below (by simp <;> omega) (fun k h e => by omega))
  have hlot : LotAt sampleL ⟨.slice (some ⟨w.heap.size + 1, 0, none⟩) 3 3, .slice (some ⟨W8.heap.size, 0, none⟩) 4 4, .slice (some ⟨W8.heap.size + 1, 0, none⟩) 3 3, .slice (some ⟨W8.heap.size + 1 + 1, 0, none⟩) 2 2⟩ (fun k => w.heap.size ≤ k) w' :=
    ⟨SpansAt.monoF (spans_rowF sampleL.lim hxl rfl (by decide)) fun k e => by omega, (blocks_rowF sampleL.blocks hx8 rfl (by decide) (by decide)).mono fun k e => by omega, (nums_rowF sampleL.pays hx9 rfl (by decide)).mono fun k e => by omega, SpansAt.monoF (spans_rowF sampleL.orders hx10 rfl (by decide)) fun k e => by omega⟩
  have HG := Lib.hid hg
  have HBF := Lib.hid hbf
  have HLOT := Lib.hid hlot
  clear hg hk hz hx8 hx9 hx10 hxl hbf hlot
  go_wp2
  have e0 := cell_of_row _ _ 0 _ _ _ HG.out
  have e1 := cell_of_row _ _ 1 _ _ _ HG.out
  have e2 := cell_of_row _ _ 2 _ _ _ HG.out
  have e3 := cell_of_row _ _ 3 _ _ _ HG.out
  have e4 := cell_of_row _ _ 4 _ _ _ HG.out
  have e5 := cell_of_row _ _ 5 _ _ _ HG.out
  refine bodyPost_ret (v := lotV sampleL ⟨.slice (some ⟨w.heap.size + 1, 0, none⟩) 3 3, .slice (some ⟨W8.heap.size, 0, none⟩) 4 4, .slice (some ⟨W8.heap.size + 1, 0, none⟩) 3 3, .slice (some ⟨W8.heap.size + 1 + 1, 0, none⟩) 2 2⟩) (by simp [results, Try.results10, go_sem, lotV, lotC, sampleL, e0, e1, e2, e3, e4, e5]) rfl ⟨_, rfl, HLOT.out, HBF.out⟩
end Go.Proofs.Ytagjepclobobjaa

/- Statements about lots: entries, lists that are the same. -/
namespace Go.Proofs.Ytagjepclobobjaa
set_option linter.unusedVariables false
set_option linter.unusedSimpArgs false
open Go.RowKit Go.Shelf
attribute [local go_sem] Oper.semAt_some

def entC (x : EntD) : List Value := [.int .i64 x.1, .int .i64 x.2.1, .int .i64 x.2.2]
theorem ents_of_own {w : World} {base : Nat} {e : TypeId} {v : Value} {l : List EntD} {n : Nat} (hn : n = l.length) (h : w.ownsRow base e 3 v n (l.flatMap entC)) : EntsAt w v l (fun k => base ≤ k) := by
  subst hn
  rcases id h.2 with ⟨h2, h3⟩ | ⟨g, cap, cur, h2, h3, h4, h5, h6, h7, h8⟩
  · refine ⟨none, 0, by rw [h2, h3], by omega, by decide, fun i hi => by omega⟩
  · subst h2
    refine ⟨_, cap, rfl, h5, h6, fun i hi => ⟨g, 0, rfl, h3, lt_of_block h4, ?_⟩⟩
    have hc : ∀ k, k < 3 → w.cell? ⟨g, i * 3 + k, none⟩ = (entC l[i])[k]? := fun k hk => by
      rw [World.ownsRow.cellAt h (i * 3 + k) (by omega)]
      exact flat_any entC 3 l i k hi (fun _ _ => rfl) hk
    rw [Nat.zero_add]
    exact ⟨hc 0 (by decide), hc 1 (by decide), hc 2 (by decide)⟩
def entN (xs : List Int) (k : Nat) : List EntD := (List.range k).map fun j => (xs.getD (3 * j) 0, xs.getD (3 * j + 1) 0, xs.getD (3 * j + 2) 0)
def entF (xs : List Int) : List EntD := entN xs (xs.length / 3)
theorem entN_len (xs : List Int) (k : Nat) : (entN xs k).length = k := by simp [entN]
theorem entN_succ (xs : List Int) (k : Nat) : entN xs (k + 1) = entN xs k ++ [(xs.getD (3 * k) 0, xs.getD (3 * k + 1) 0, xs.getD (3 * k + 2) 0)] := by
  unfold entN
  rw [List.range_succ, List.map_append]
  rfl
theorem underEnts : Try.prog.underlying 42 = some (.slice 69) := by kernel_rfl
theorem infoEnt : (Try.prog.info? 69).map (fun i => (i.zero, i.size, i.bytes)) = some (some (.agg #[.int .i64 0, .int .i64 0, .int .i64 0]), 3, 24) := by kernel_rfl
set_option maxRecDepth 100000 in
set_option maxHeartbeats 4000000 in
theorem entries13_any (xs : List Int) (v : Value) (w : World) (h : NumsAt w v xs (fun k => k < w.heap.size)) (h9 : xs.length ≤ 1000) : Calls Try.prog 14 #[v] w fun e w' => ∃ v', e = .returned v' ∧ EntsAt w' v' (entF xs) (fun k => w.heap.size ≤ k) ∧ Below w.heap.size w w' := by
  obtain ⟨ao, cap, rfl, _, _, hel⟩ := h
  obtain ⟨n, hn⟩ : ∃ n, n = xs.length := ⟨_, rfl⟩
  rw [← hn] at h9 ⊢
  have HN := Lib.hid hn
  have HEL := Lib.hid hel
  clear hn hel
  go_enter Try.func14, Try.ntmps14
  go_wp2_with fail
  go_loopw [2, 3] (fun av iv wr => ∃ k : Nat, 3 * k ≤ n ∧ iv = .int .i64 (3 * k : Nat) ∧ wr.ownsRow w.heap.size 69 3 av k ((entN xs k).flatMap entC) ∧ Below w.heap.size w wr) (fun _ iv _ => n - (intOf iv).toNat)
  case atStart => exact ⟨0, by omega, rfl, ⟨rfl, .inl ⟨rfl, rfl⟩⟩, Below.refl _ _⟩
  case round =>
    obtain ⟨k, hk, hiv, hown, hbr⟩ := hrel
    obtain ⟨m, hm⟩ : ∃ m, m = 3 * k := ⟨_, rfl⟩
    rw [← hm] at hiv hk
    subst hiv
    have HOWN := Lib.hid hown
    have HBR := Lib.hid hbr
    have HM := Lib.hid hm
    have hszr := hbr.size
    clear hown hbr hm
    have w1 : IntKind.i64.wrap ((m : Int) + 2) = (m : Int) + 2 := by rw [IntWalk.i64_in _ (by omega)]
    have w2 : IntKind.i64.wrap ((m : Int) + 1) = (m : Int) + 1 := by rw [IntWalk.i64_in _ (by omega)]
    have w3 : IntKind.i64.wrap ((m : Int) + 3) = (m : Int) + 3 := by rw [IntWalk.i64_in _ (by omega)]
    by_cases hlt : m + 2 < n
    · have hlti : (m : Int) + 2 < (n : Int) := by omega
      have hl1 : m + 1 < n := by omega
      have hl0 : m < n := by omega
      have hi1 : (m : Int) + 1 < (n : Int) := by omega
      have hi0 : (m : Int) < (n : Int) := by omega
      have p2 : 0 ≤ (m : Int) + 2 := by omega
      have t2 : ((m : Int) + 2).toNat = m + 2 := by omega
      have t1 : ((m : Int) + 1).toNat = m + 1 := by omega
      have p1 : 0 ≤ (m : Int) + 1 := by omega
      have p0 : 0 ≤ (m : Int) := by omega
      obtain ⟨b, off, rfl, hb, _, k0⟩ := HEL.out m (by rw [← HN.out]; omega)
      obtain ⟨b', off', hbb, _, _, k1⟩ := HEL.out (m + 1) (by rw [← HN.out]; omega)
      obtain ⟨b'', off'', hbb2, _, _, k2⟩ := HEL.out (m + 2) (by rw [← HN.out]; omega)
      cases hbb
      cases hbb2
      have hblk := HBR.out.block b hb
      replace k0 := (World.cell?_of_block (w := w) (w' := wr) (a := ⟨b, off + m, none⟩) hblk).trans k0
      replace k1 := (World.cell?_of_block (w := w) (w' := wr) (a := ⟨b, off + (m + 1), none⟩) hblk).trans k1
      replace k2 := (World.cell?_of_block (w := w) (w' := wr) (a := ⟨b, off + (m + 2), none⟩) hblk).trans k2
      have g0 : xs.getD m 0 = xs[m]'(by rw [← HN.out]; omega) := by rw [List.getD_eq_getElem?_getD, List.getElem?_eq_getElem (by rw [← HN.out]; omega)]; rfl
      have g1 : xs.getD (m + 1) 0 = xs[m + 1]'(by rw [← HN.out]; omega) := by rw [List.getD_eq_getElem?_getD, List.getElem?_eq_getElem (by rw [← HN.out]; omega)]; rfl
      have g2 : xs.getD (m + 2) 0 = xs[m + 2]'(by rw [← HN.out]; omega) := by rw [List.getD_eq_getElem?_getD, List.getElem?_eq_getElem (by rw [← HN.out]; omega)]; rfl
      rw [← g0] at k0
      rw [← g1] at k1
      rw [← g2] at k2
      have hsucc := entN_succ xs k
      rw [← HM.out] at hsucc
      obtain ⟨x0, hx0⟩ : ∃ x, x = xs.getD m 0 := ⟨_, rfl⟩
      obtain ⟨x1, hx1⟩ : ∃ x, x = xs.getD (m + 1) 0 := ⟨_, rfl⟩
      obtain ⟨x2, hx2⟩ : ∃ x, x = xs.getD (m + 2) 0 := ⟨_, rfl⟩
      rw [← hx0] at k0
      rw [← hx1] at k1
      rw [← hx2] at k2
      rw [← hx0, ← hx1, ← hx2] at hsucc
      have HSUC := Lib.hid hsucc
      clear hsucc hx0 hx1 hx2 g0 g1 g2 hblk hb
      go_wp2_with fail
      refine wp_region_tail 17 #[false, false, false, false, false, false, false, false, false, false, false, false, false, false, false, false, false, true, true] (fun W => Below wr.heap.size wr W) (by kernel_rfl) (by kernel_rfl) (by rfl) (Below.refl _ _).drew fun hS0 => ?_
      refine wpAnyH_take (i := 0) (v := u2) rfl (by kernel_rfl) (by kernel_rfl) (by kernel_rfl) (fun _ _ _ h => h) (yields_value rfl fun W hS => by simp [execOp, go_sem, Act.eval, Act.put, w1, w2, hi0, hi1, hlti, p0, p1, p2, t1, t2]) hS0 ?_
      simp only [Act.put, List.setIfInBounds_toArray, List.set_cons_zero, List.set_cons_succ]
      refine wpAnyH_take (i := 1) (v := .slice (some ⟨b, off, none⟩) n cap) rfl (by kernel_rfl) (by kernel_rfl) (by kernel_rfl) (fun _ _ _ h => h) (yields_value rfl fun W hS => by simp [execOp, go_sem, Act.eval, Act.put, w1, w2, hi0, hi1, hlti, p0, p1, p2, t1, t2]) hS0 ?_
      simp only [Act.put, List.setIfInBounds_toArray, List.set_cons_zero, List.set_cons_succ]
      refine wpAnyH_take (i := 2) (v := .int .i64 (m : Int)) rfl (by kernel_rfl) (by kernel_rfl) (by kernel_rfl) (fun _ _ _ h => h) (yields_value rfl fun W hS => by simp [execOp, go_sem, Act.eval, Act.put, w1, w2, hi0, hi1, hlti, p0, p1, p2, t1, t2]) hS0 ?_
      simp only [Act.put, List.setIfInBounds_toArray, List.set_cons_zero, List.set_cons_succ]
      refine wpAnyH_take (i := 3) (v := .pointer (some ⟨b, off + m, none⟩)) rfl (by kernel_rfl) (by kernel_rfl) (by kernel_rfl) (fun _ _ _ h => h) (yields_value rfl fun W hS => by simp [execOp, go_sem, Act.eval, Act.put, w1, w2, hi0, hi1, hlti, p0, p1, p2, t1, t2]) hS0 ?_
      simp only [Act.put, List.setIfInBounds_toArray, List.set_cons_zero, List.set_cons_succ]
      refine wpAnyH_take (i := 4) (v := .int .i64 x0) rfl (by kernel_rfl) (by kernel_rfl) (by kernel_rfl) (fun _ _ _ h => h) (yields_value rfl fun W hS => by have c0 := (World.cell?_of_block (w := wr) (w' := W) (a := ⟨b, off + m, none⟩) (hS.block b (by omega))).trans k0; simp [execOp, go_sem, Act.eval, Act.put, c0]) hS0 ?_
      simp only [Act.put, List.setIfInBounds_toArray, List.set_cons_zero, List.set_cons_succ]
      refine wpAnyH_take (i := 5) (v := .slice (some ⟨b, off, none⟩) n cap) rfl (by kernel_rfl) (by kernel_rfl) (by kernel_rfl) (fun _ _ _ h => h) (yields_value rfl fun W hS => by simp [execOp, go_sem, Act.eval, Act.put, w1, w2, hi0, hi1, hlti, p0, p1, p2, t1, t2]) hS0 ?_
      simp only [Act.put, List.setIfInBounds_toArray, List.set_cons_zero, List.set_cons_succ]
      refine wpAnyH_take (i := 6) (v := .int .i64 (m : Int)) rfl (by kernel_rfl) (by kernel_rfl) (by kernel_rfl) (fun _ _ _ h => h) (yields_value rfl fun W hS => by simp [execOp, go_sem, Act.eval, Act.put, w1, w2, hi0, hi1, hlti, p0, p1, p2, t1, t2]) hS0 ?_
      simp only [Act.put, List.setIfInBounds_toArray, List.set_cons_zero, List.set_cons_succ]
      refine wpAnyH_take (i := 7) (v := .int .i64 ((m : Int) + 1)) rfl (by kernel_rfl) (by kernel_rfl) (by kernel_rfl) (fun _ _ _ h => h) (yields_value rfl fun W hS => by simp [execOp, go_sem, Act.eval, Act.put, w1, w2, hi0, hi1, hlti, p0, p1, p2, t1, t2]) hS0 ?_
      simp only [Act.put, List.setIfInBounds_toArray, List.set_cons_zero, List.set_cons_succ]
      refine wpAnyH_take (i := 8) (v := .pointer (some ⟨b, off + (m + 1), none⟩)) rfl (by kernel_rfl) (by kernel_rfl) (by kernel_rfl) (fun _ _ _ h => h) (yields_value rfl fun W hS => by simp [execOp, go_sem, Act.eval, Act.put, w1, w2, hi0, hi1, hlti, p0, p1, p2, t1, t2]) hS0 ?_
      simp only [Act.put, List.setIfInBounds_toArray, List.set_cons_zero, List.set_cons_succ]
      refine wpAnyH_take (i := 9) (v := .int .i64 x1) rfl (by kernel_rfl) (by kernel_rfl) (by kernel_rfl) (fun _ _ _ h => h) (yields_value rfl fun W hS => by have c0 := (World.cell?_of_block (w := wr) (w' := W) (a := ⟨b, off + (m + 1), none⟩) (hS.block b (by omega))).trans k1; simp [execOp, go_sem, Act.eval, Act.put, c0]) hS0 ?_
      simp only [Act.put, List.setIfInBounds_toArray, List.set_cons_zero, List.set_cons_succ]
      refine wpAnyH_take (i := 10) (v := .slice (some ⟨b, off, none⟩) n cap) rfl (by kernel_rfl) (by kernel_rfl) (by kernel_rfl) (fun _ _ _ h => h) (yields_value rfl fun W hS => by simp [execOp, go_sem, Act.eval, Act.put, w1, w2, hi0, hi1, hlti, p0, p1, p2, t1, t2]) hS0 ?_
      simp only [Act.put, List.setIfInBounds_toArray, List.set_cons_zero, List.set_cons_succ]
      refine wpAnyH_take (i := 11) (v := .int .i64 (m : Int)) rfl (by kernel_rfl) (by kernel_rfl) (by kernel_rfl) (fun _ _ _ h => h) (yields_value rfl fun W hS => by simp [execOp, go_sem, Act.eval, Act.put, w1, w2, hi0, hi1, hlti, p0, p1, p2, t1, t2]) hS0 ?_
      simp only [Act.put, List.setIfInBounds_toArray, List.set_cons_zero, List.set_cons_succ]
      refine wpAnyH_take (i := 12) (v := .int .i64 ((m : Int) + 2)) rfl (by kernel_rfl) (by kernel_rfl) (by kernel_rfl) (fun _ _ _ h => h) (yields_value rfl fun W hS => by simp [execOp, go_sem, Act.eval, Act.put, w1, w2, hi0, hi1, hlti, p0, p1, p2, t1, t2]) hS0 ?_
      simp only [Act.put, List.setIfInBounds_toArray, List.set_cons_zero, List.set_cons_succ]
      refine wpAnyH_take (i := 13) (v := .pointer (some ⟨b, off + (m + 2), none⟩)) rfl (by kernel_rfl) (by kernel_rfl) (by kernel_rfl) (fun _ _ _ h => h) (yields_value rfl fun W hS => by simp [execOp, go_sem, Act.eval, Act.put, w1, w2, hi0, hi1, hlti, p0, p1, p2, t1, t2]) hS0 ?_
      simp only [Act.put, List.setIfInBounds_toArray, List.set_cons_zero, List.set_cons_succ]
      refine wpAnyH_take (i := 14) (v := .int .i64 x2) rfl (by kernel_rfl) (by kernel_rfl) (by kernel_rfl) (fun _ _ _ h => h) (yields_value rfl fun W hS => by have c0 := (World.cell?_of_block (w := wr) (w' := W) (a := ⟨b, off + (m + 2), none⟩) (hS.block b (by omega))).trans k2; simp [execOp, go_sem, Act.eval, Act.put, c0]) hS0 ?_
      simp only [Act.put, List.setIfInBounds_toArray, List.set_cons_zero, List.set_cons_succ]
      refine wpAnyH_take (i := 15) (v := .agg #[.int .i64 x0, .int .i64 x1, .int .i64 x2]) rfl (by kernel_rfl) (by kernel_rfl) (by kernel_rfl) (fun _ _ _ h => h) (yields_value rfl fun W hS => by simp [execOp, go_sem, Act.eval, Act.put, w1, w2, hi0, hi1, hlti, p0, p1, p2, t1, t2]) hS0 ?_
      simp only [Act.put, List.setIfInBounds_toArray, List.set_cons_zero, List.set_cons_succ]
      refine wpAnyH_value (k := 16) (v := .slice (some ⟨wr.heap.size, 0, none⟩) 1 1) (w' := wr.drew.alloc (.cells #[.int .i64 x0, .int .i64 x1, .int .i64 x2] 69)) (by kernel_rfl) rfl rfl (by simp [execOp, go_sem, Act.eval, Act.put]) (hS0.alloc (Nat.le_refl _) _) ?_
      simp only [List.getElem_toArray, List.getElem_cons_succ, List.getElem_cons_zero, Act.put, List.setIfInBounds_toArray, List.set_cons_zero, List.set_cons_succ]
      refine wpAnyH_done (by kernel_rfl) ?_ _
      unfold TailQ
      simp only [List.drop_succ_cons, List.drop_zero, Act.put, List.setIfInBounds_toArray, List.set_cons_zero, List.set_cons_succ]
      have hbr8 : Below wr.heap.size wr (wr.drew.alloc (.cells #[.int .i64 x0, .int .i64 x1, .int .i64 x2] 69)) := hS0.alloc (by simp) _
      generalize hW7 : wr.drew.alloc (.cells #[.int .i64 x0, .int .i64 x1, .int .i64 x2] 69) = W7 at hbr8 ⊢
      have hga : W7.heap[wr.heap.size]? = some (.cells #[.int .i64 x0, .int .i64 x1, .int .i64 x2] 69 (0, 0)) := by rw [← hW7]; exact heap_alloc_at _ _ _ (by simp)
      have hk7 : Keeps (fun q => w.heap.size ≤ q) wr W7 := by rw [← hW7]; exact (Keeps.drew _ wr).trans (Keeps.alloc _ _ _)
      have hs7 := hbr8.size
      have hown7 := own_block HOWN.out (fun q e => hbr8.block q (HOWN.out.lt q e).2)
      clear hS0 hW7
      refine wpList_append_here rfl (.tmp 11) (.tmp 27) 42 rfl w.heap.size 69 3 24 _ underEnts infoEnt rfl (by decide) _ k _ rfl hown7 wr.heap.size 1 #[.int .i64 x0, .int .i64 x1, .int .i64 x2] 69 (0, 0) rfl hga rfl (by simp [Value.oneCell']) (by have := HM.out; omega) (by decide) (by omega) ?_
      intro v1 W8 hown8 hg8 hat8
      have hob := fun q (e : _ = some q) => (HOWN.out.lt q e).1
      have hk8 : Keeps (fun q => w.heap.size ≤ q) wr W8 := hk7.trans ((keeps_grown hg8).mono fun q _ e => hob q e)
      have hbf : Below w.heap.size w W8 := HBR.out.trans (hk8.below hszr (fun q h1 h2 => by omega))
      have hown9 : W8.ownsRow w.heap.size 69 3 v1 (k + 1) ((entN xs (k + 1)).flatMap entC) := by
        rw [HSUC.out, List.flatMap_append]
        exact hown8
      have HF := Lib.hid (And.intro hown9 hbf)
      clear hown8 hg8 hat8 hk8 hbf hown9 hbr8 hob hga hk7 hown7
      simp only [Act.put, List.setIfInBounds_toArray, List.set_cons_zero, List.set_cons_succ]
      go_wp2_with fail
      go_roundw
      case measure => simp [intOf]; omega
      have hm3 := HM.out
      exact ⟨k + 1, by omega, by rw [hm3]; congr 1 <;> omega, HF.out.1, HF.out.2⟩
    · have hlti : ¬ (m : Int) + 2 < (n : Int) := by omega
      have hke : k = n / 3 := by have := HM.out; omega
      subst hke
      go_wp2
      refine bodyPost_ret (v := u2) (by simp [results, Try.results14, go_sem]) rfl ⟨_, rfl, ?_, HBR.out⟩
      unfold entF
      rw [← HN.out]
      exact ents_of_own (by rw [entN_len]) HOWN.out
end Go.Proofs.Ytagjepclobobjaa

/- Statements about lots: lists that are the same. -/
namespace Go.Proofs.Ytagjepclobobjaa
set_option linter.unusedVariables false
set_option linter.unusedSimpArgs false
open Go.RowKit Go.Shelf
attribute [local go_sem] Oper.semAt_some

theorem same_upto {xs ys : List Int} (n : Nat) (hx : xs.length = n) (hy : ys.length = n) (h : ∀ j, j < n → xs.getD j 0 = ys.getD j 0) : xs = ys := by
  refine List.ext_getElem (by omega) fun i h1 h2 => ?_
  have := h i (by omega)
  rwa [List.getD_eq_getElem?_getD, List.getD_eq_getElem?_getD, List.getElem?_eq_getElem h1, List.getElem?_eq_getElem h2] at this
set_option maxRecDepth 100000 in
set_option maxHeartbeats 4000000 in
theorem ints13_any (xs ys : List Int) (v1 v2 : Value) (w : World) (h1 : NumsAt w v1 xs (fun k => k < w.heap.size)) (h2 : NumsAt w v2 ys (fun k => k < w.heap.size)) (h8 : xs.length ≤ 1000) (h9 : ys.length ≤ 1000) : Calls Try.prog 30 #[v1, v2] w fun e w' => e = .returned (.bool (decide (xs = ys))) ∧ Below w.heap.size w w' := by
  obtain ⟨ao, cap, rfl, _, _, hel⟩ := h1
  obtain ⟨ao2, cap2, rfl, _, _, hel2⟩ := h2
  obtain ⟨n, hn⟩ : ∃ n, n = xs.length := ⟨_, rfl⟩
  obtain ⟨m, hm⟩ : ∃ m, m = ys.length := ⟨_, rfl⟩
  rw [← hn] at h8 ⊢
  rw [← hm] at h9 ⊢
  have HN := Lib.hid hn
  have HM := Lib.hid hm
  have HEL := Lib.hid hel
  have HEL2 := Lib.hid hel2
  clear hn hm hel hel2
  go_enter Try.func30, Try.ntmps30
  by_cases hnm : n = m
  · subst hnm
    go_wp2_with fail
    go_loopw [5] (fun iv wr => ∃ k : Nat, k ≤ n ∧ iv = .int .i64 (k : Nat) ∧ (∀ j, j < k → xs.getD j 0 = ys.getD j 0) ∧ Below w.heap.size w wr) (fun iv _ => n - (intOf iv).toNat)
    case atStart => exact ⟨0, by omega, rfl, fun j h => by omega, Below.refl _ _⟩
    case round =>
      obtain ⟨k, hk, rfl, hsame, hbr⟩ := hrel
      have HS := Lib.hid hsame
      have HBR := Lib.hid hbr
      clear hsame hbr
      by_cases hlt : k < n
      · have hlti : (k : Int) < (n : Int) := by omega
        have w1 : IntKind.i64.wrap ((k : Int) + 1) = (k : Int) + 1 := by rw [IntWalk.i64_in _ (by omega)]
        obtain ⟨b, off, rfl, hb, _, k0⟩ := HEL.out k (by rw [← HN.out]; omega)
        obtain ⟨b', off', rfl, hb', _, k1⟩ := HEL2.out k (by rw [← HM.out]; omega)
        replace k0 := (World.cell?_of_block (w := w) (w' := wr) (a := ⟨b, off + k, none⟩) (HBR.out.block b hb)).trans k0
        replace k1 := (World.cell?_of_block (w := w) (w' := wr) (a := ⟨b', off' + k, none⟩) (HBR.out.block b' hb')).trans k1
        have g0 : xs.getD k 0 = xs[k]'(by rw [← HN.out]; omega) := by rw [List.getD_eq_getElem?_getD, List.getElem?_eq_getElem (by rw [← HN.out]; omega)]; rfl
        have g1 : ys.getD k 0 = ys[k]'(by rw [← HM.out]; omega) := by rw [List.getD_eq_getElem?_getD, List.getElem?_eq_getElem (by rw [← HM.out]; omega)]; rfl
        rw [← g0] at k0
        rw [← g1] at k1
        obtain ⟨x0, hx0⟩ : ∃ x, x = xs.getD k 0 := ⟨_, rfl⟩
        obtain ⟨y0, hy0⟩ : ∃ x, x = ys.getD k 0 := ⟨_, rfl⟩
        rw [← hx0] at k0
        rw [← hy0] at k1
        have HX := Lib.hid (And.intro hx0 hy0)
        clear g0 g1 hb hb' hx0 hy0
        by_cases hxy : x0 = y0
        · subst hxy
          go_wp2_with fail
          refine wp_region_held_drew (S := fun W => W.cell? ⟨b, off + k, none⟩ = some (.int .i64 x0) ∧ W.cell? ⟨b', off' + k, none⟩ = some (.int .i64 x0)) rfl ⟨k0, k1⟩ fun hS => ?_
          refine wpAnyH_take (i := 0) (v := ?_) rfl (by kernel_rfl) (by kernel_rfl) (by kernel_rfl) (fun _ _ _ h => h) (Or.inl ⟨by rfl, ?_⟩) hS ?_
          rotate_left
          · (intro W hSw; obtain ⟨q0, q1⟩ := hSw; go_simp; try with_reducible rfl)
          try simp only [List.getElem_toArray, List.getElem_cons_succ, List.getElem_cons_zero, Act.put, List.setIfInBounds_toArray, List.set_cons_zero, List.set_cons_succ]
          refine wpAnyH_take (i := 1) (v := ?_) rfl (by kernel_rfl) (by kernel_rfl) (by kernel_rfl) (fun _ _ _ h => h) (Or.inl ⟨by rfl, ?_⟩) hS ?_
          rotate_left
          · (intro W hSw; obtain ⟨q0, q1⟩ := hSw; go_simp; try with_reducible rfl)
          try simp only [List.getElem_toArray, List.getElem_cons_succ, List.getElem_cons_zero, Act.put, List.setIfInBounds_toArray, List.set_cons_zero, List.set_cons_succ]
          refine wpAnyH_take (i := 2) (v := ?_) rfl (by kernel_rfl) (by kernel_rfl) (by kernel_rfl) (fun _ _ _ h => h) (Or.inl ⟨by rfl, ?_⟩) hS ?_
          rotate_left
          · (intro W hSw; obtain ⟨q0, q1⟩ := hSw; go_simp; try with_reducible rfl)
          try simp only [List.getElem_toArray, List.getElem_cons_succ, List.getElem_cons_zero, Act.put, List.setIfInBounds_toArray, List.set_cons_zero, List.set_cons_succ]
          refine wpAnyH_take (i := 3) (v := ?_) rfl (by kernel_rfl) (by kernel_rfl) (by kernel_rfl) (fun _ _ _ h => h) (Or.inl ⟨by rfl, ?_⟩) hS ?_
          rotate_left
          · (intro W hSw; obtain ⟨q0, q1⟩ := hSw; go_simp; try with_reducible rfl)
          try simp only [List.getElem_toArray, List.getElem_cons_succ, List.getElem_cons_zero, Act.put, List.setIfInBounds_toArray, List.set_cons_zero, List.set_cons_succ]
          refine wpAnyH_take (i := 4) (v := ?_) rfl (by kernel_rfl) (by kernel_rfl) (by kernel_rfl) (fun _ _ _ h => h) (Or.inl ⟨by rfl, ?_⟩) hS ?_
          rotate_left
          · (intro W hSw; obtain ⟨q0, q1⟩ := hSw; go_simp; try with_reducible rfl)
          try simp only [List.getElem_toArray, List.getElem_cons_succ, List.getElem_cons_zero, Act.put, List.setIfInBounds_toArray, List.set_cons_zero, List.set_cons_succ]
          refine wpAnyH_take (i := 5) (v := ?_) rfl (by kernel_rfl) (by kernel_rfl) (by kernel_rfl) (fun _ _ _ h => h) (Or.inl ⟨by rfl, ?_⟩) hS ?_
          rotate_left
          · (intro W hSw; obtain ⟨q0, q1⟩ := hSw; go_simp; try with_reducible rfl)
          try simp only [List.getElem_toArray, List.getElem_cons_succ, List.getElem_cons_zero, Act.put, List.setIfInBounds_toArray, List.set_cons_zero, List.set_cons_succ]
          refine wpAnyH_take (i := 6) (v := ?_) rfl (by kernel_rfl) (by kernel_rfl) (by kernel_rfl) (fun _ _ _ h => h) (Or.inl ⟨by rfl, ?_⟩) hS ?_
          rotate_left
          · (intro W hSw; obtain ⟨q0, q1⟩ := hSw; go_simp; try with_reducible rfl)
          try simp only [List.getElem_toArray, List.getElem_cons_succ, List.getElem_cons_zero, Act.put, List.setIfInBounds_toArray, List.set_cons_zero, List.set_cons_succ]
          refine wpAnyH_take (i := 7) (v := ?_) rfl (by kernel_rfl) (by kernel_rfl) (by kernel_rfl) (fun _ _ _ h => h) (Or.inl ⟨by rfl, ?_⟩) hS ?_
          rotate_left
          · (intro W hSw; obtain ⟨q0, q1⟩ := hSw; go_simp; try with_reducible rfl)
          try simp only [List.getElem_toArray, List.getElem_cons_succ, List.getElem_cons_zero, Act.put, List.setIfInBounds_toArray, List.set_cons_zero, List.set_cons_succ]
          refine wpAnyH_take (i := 8) (v := ?_) rfl (by kernel_rfl) (by kernel_rfl) (by kernel_rfl) (fun _ _ _ h => h) (Or.inl ⟨by rfl, ?_⟩) hS ?_
          rotate_left
          · (intro W hSw; obtain ⟨q0, q1⟩ := hSw; go_simp; try with_reducible rfl)
          try simp only [List.getElem_toArray, List.getElem_cons_succ, List.getElem_cons_zero, Act.put, List.setIfInBounds_toArray, List.set_cons_zero, List.set_cons_succ]
          refine wpAnyH_done (by kernel_rfl) ?_ _
          clear hS
          go_wp2
          go_roundw
          case measure => simp [intOf]; omega
          refine ⟨k + 1, by omega, by simp, fun j hj => ?_, HBR.out.drew⟩
          by_cases h : j = k
          · subst h
            rw [← HX.out.1, ← HX.out.2]
          · exact HS.out j (by omega)
        · have hne : xs ≠ ys := fun e => hxy (by rw [HX.out.1, HX.out.2, e])
          go_wp2_with fail
          refine wp_region_held_drew (S := fun W => W.cell? ⟨b, off + k, none⟩ = some (.int .i64 x0) ∧ W.cell? ⟨b', off' + k, none⟩ = some (.int .i64 y0)) rfl ⟨k0, k1⟩ fun hS => ?_
          refine wpAnyH_take (i := 0) (v := ?_) rfl (by kernel_rfl) (by kernel_rfl) (by kernel_rfl) (fun _ _ _ h => h) (Or.inl ⟨by rfl, ?_⟩) hS ?_
          rotate_left
          · (intro W hSw; obtain ⟨q0, q1⟩ := hSw; go_simp; try with_reducible rfl)
          try simp only [List.getElem_toArray, List.getElem_cons_succ, List.getElem_cons_zero, Act.put, List.setIfInBounds_toArray, List.set_cons_zero, List.set_cons_succ]
          refine wpAnyH_take (i := 1) (v := ?_) rfl (by kernel_rfl) (by kernel_rfl) (by kernel_rfl) (fun _ _ _ h => h) (Or.inl ⟨by rfl, ?_⟩) hS ?_
          rotate_left
          · (intro W hSw; obtain ⟨q0, q1⟩ := hSw; go_simp; try with_reducible rfl)
          try simp only [List.getElem_toArray, List.getElem_cons_succ, List.getElem_cons_zero, Act.put, List.setIfInBounds_toArray, List.set_cons_zero, List.set_cons_succ]
          refine wpAnyH_take (i := 2) (v := ?_) rfl (by kernel_rfl) (by kernel_rfl) (by kernel_rfl) (fun _ _ _ h => h) (Or.inl ⟨by rfl, ?_⟩) hS ?_
          rotate_left
          · (intro W hSw; obtain ⟨q0, q1⟩ := hSw; go_simp; try with_reducible rfl)
          try simp only [List.getElem_toArray, List.getElem_cons_succ, List.getElem_cons_zero, Act.put, List.setIfInBounds_toArray, List.set_cons_zero, List.set_cons_succ]
          refine wpAnyH_take (i := 3) (v := ?_) rfl (by kernel_rfl) (by kernel_rfl) (by kernel_rfl) (fun _ _ _ h => h) (Or.inl ⟨by rfl, ?_⟩) hS ?_
          rotate_left
          · (intro W hSw; obtain ⟨q0, q1⟩ := hSw; go_simp; try with_reducible rfl)
          try simp only [List.getElem_toArray, List.getElem_cons_succ, List.getElem_cons_zero, Act.put, List.setIfInBounds_toArray, List.set_cons_zero, List.set_cons_succ]
          refine wpAnyH_take (i := 4) (v := ?_) rfl (by kernel_rfl) (by kernel_rfl) (by kernel_rfl) (fun _ _ _ h => h) (Or.inl ⟨by rfl, ?_⟩) hS ?_
          rotate_left
          · (intro W hSw; obtain ⟨q0, q1⟩ := hSw; go_simp; try with_reducible rfl)
          try simp only [List.getElem_toArray, List.getElem_cons_succ, List.getElem_cons_zero, Act.put, List.setIfInBounds_toArray, List.set_cons_zero, List.set_cons_succ]
          refine wpAnyH_take (i := 5) (v := ?_) rfl (by kernel_rfl) (by kernel_rfl) (by kernel_rfl) (fun _ _ _ h => h) (Or.inl ⟨by rfl, ?_⟩) hS ?_
          rotate_left
          · (intro W hSw; obtain ⟨q0, q1⟩ := hSw; go_simp; try with_reducible rfl)
          try simp only [List.getElem_toArray, List.getElem_cons_succ, List.getElem_cons_zero, Act.put, List.setIfInBounds_toArray, List.set_cons_zero, List.set_cons_succ]
          refine wpAnyH_take (i := 6) (v := ?_) rfl (by kernel_rfl) (by kernel_rfl) (by kernel_rfl) (fun _ _ _ h => h) (Or.inl ⟨by rfl, ?_⟩) hS ?_
          rotate_left
          · (intro W hSw; obtain ⟨q0, q1⟩ := hSw; go_simp; try with_reducible rfl)
          try simp only [List.getElem_toArray, List.getElem_cons_succ, List.getElem_cons_zero, Act.put, List.setIfInBounds_toArray, List.set_cons_zero, List.set_cons_succ]
          refine wpAnyH_take (i := 7) (v := ?_) rfl (by kernel_rfl) (by kernel_rfl) (by kernel_rfl) (fun _ _ _ h => h) (Or.inl ⟨by rfl, ?_⟩) hS ?_
          rotate_left
          · (intro W hSw; obtain ⟨q0, q1⟩ := hSw; go_simp; try with_reducible rfl)
          try simp only [List.getElem_toArray, List.getElem_cons_succ, List.getElem_cons_zero, Act.put, List.setIfInBounds_toArray, List.set_cons_zero, List.set_cons_succ]
          refine wpAnyH_take (i := 8) (v := ?_) rfl (by kernel_rfl) (by kernel_rfl) (by kernel_rfl) (fun _ _ _ h => h) (Or.inl ⟨by rfl, ?_⟩) hS ?_
          rotate_left
          · (intro W hSw; obtain ⟨q0, q1⟩ := hSw; go_simp; try with_reducible rfl)
          try simp only [List.getElem_toArray, List.getElem_cons_succ, List.getElem_cons_zero, Act.put, List.setIfInBounds_toArray, List.set_cons_zero, List.set_cons_succ]
          refine wpAnyH_done (by kernel_rfl) ?_ _
          clear hS
          go_wp2
          exact bodyPost_ret (v := .bool false) (by simp [results, Try.results30, go_sem]) rfl ⟨by simp [hne], HBR.out.drew⟩
      · have hlti : ¬ (k : Int) < (n : Int) := by omega
        have hke : k = n := by omega
        subst hke
        have he : xs = ys := same_upto k HN.out.symm HM.out.symm HS.out
        go_wp2
        exact bodyPost_ret (v := .bool true) (by simp [results, Try.results30, go_sem]) rfl ⟨by simp [he], HBR.out⟩
  · have hne : xs ≠ ys := fun e => hnm (by rw [HN.out, HM.out, e])
    have hi : ¬ (n : Int) = (m : Int) := by omega
    go_wp2
    exact bodyPost_ret (v := .bool false) (by simp [results, Try.results30, go_sem]) rfl ⟨by simp [hne], Below.refl _ _⟩
end Go.Proofs.Ytagjepclobobjaa
