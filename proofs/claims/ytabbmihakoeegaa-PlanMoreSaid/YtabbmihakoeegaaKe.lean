/- Texts Z, Za, Zb, Zc, Zd, Ze, Zf, Zg, Zh, Zi, Zj, Zk, Zl, Zm, Zn, Zo in one file; each begins with a word on what it proves. -/
import Derived.Laws.CopyRow
import Derived.Test.YtabbmihakoeegaaKd
import Derived.Test.YtabbmihakoeegaaKb

/- The first set that is so. -/
namespace Go.Proofs.Ytabbmihakoeegaa
set_option linter.unusedVariables false
set_option linter.unusedSimpArgs false
open Go.RowKit Go.Shelf
attribute [local go_sem] Oper.semAt_some

theorem ones_all : ∀ m : Fin 9, ∀ t : Fin 256, t.val < 2 ^ m.val → ones t.val ≤ m.val := by decide +kernel
theorem ones_le (m t : Nat) (hm : m ≤ 8) (ht : t < 2 ^ m) : ones t ≤ m := by
  have : 2 ^ m ≤ 2 ^ 8 := Nat.pow_le_pow_right (by decide) hm
  exact ones_all ⟨m, by omega⟩ ⟨t, by omega⟩ ht
/-- The first set that is so, the smaller ones first, of the same size the lesser ones. -/
def FirstRes (m : Nat) (isF : Nat → Bool) (s : Nat) (b : Bool) : Prop :=
  (b = true ∧ s < 2 ^ m ∧ isF s = true ∧ ∀ t, t < 2 ^ m → isF t = true → ones s < ones t ∨ (ones s = ones t ∧ s ≤ t)) ∨ (b = false ∧ s = 0 ∧ ∀ t, t < 2 ^ m → isF t = false)

end Go.Proofs.Ytabbmihakoeegaa

/- A pair with some of its readings alone. -/
namespace Go.Proofs.Ytabbmihakoeegaa
set_option linter.unusedVariables false
set_option linter.unusedSimpArgs false
open Go.RowKit Go.Shelf
attribute [local go_sem] Oper.semAt_some

theorem bit_test0 (s k : Nat) (hs : s < 256) : (bits BinOp.and IntKind.u64 ((s : Int) / 2 ^ k) 1 == 0) = !s.testBit k := by
  have h1 : ((s : Int) / 2 ^ k) = ((s / 2 ^ k : Nat) : Int) := by simp
  have h2 : s / 2 ^ k ≤ s := Nat.div_le_self _ _
  rw [h1, Nat.testBit_eq_decide_div_mod_eq]
  generalize s / 2 ^ k = q at *
  rw [and_one_u64 _ (by omega) (by omega)]
  rw [Bool.eq_iff_iff]
  simp
  omega
def encRd (r : RdD) : Value := .agg #[.int .i64 r.a, .int .i64 r.b, .int .i64 r.m, .int .i64 r.lo, .int .i64 r.hi]
end Go.Proofs.Ytabbmihakoeegaa

/- slices.IndexFunc, by the closure of only. -/
namespace Go.Proofs.Ytabbmihakoeegaa
set_option linter.unusedVariables false
set_option linter.unusedSimpArgs false
open Go.RowKit Go.Shelf
attribute [local go_sem] Oper.semAt_some

end Go.Proofs.Ytabbmihakoeegaa

/- Stores into the middle of a row; clear of a row's tail. -/
namespace Go.Proofs.Ytabbmihakoeegaa
set_option linter.unusedVariables false
set_option linter.unusedSimpArgs false
open Go.RowKit Go.Shelf

/-- A row in which a segment is changed. -/
structure Seg (cur cur' : Array Value) (o : Nat) (cs : List Value) : Prop where
  size : cur'.size = cur.size
  other : ∀ k, (k < o ∨ o + cs.length ≤ k) → cur'[k]? = cur[k]?
  own : ∀ k, k < cs.length → cur'[o + k]? = cs[k]?
theorem seg_of (cur : Array Value) (o : Nat) (cs : List Value) (h : o + cs.length ≤ cur.size) : Seg cur (cur.toList.take o ++ cs ++ cur.toList.drop (o + cs.length)).toArray o cs := by
  refine ⟨by simp; omega, fun k hk => ?_, fun k hk => ?_⟩
  · simp only [List.getElem?_toArray, List.getElem?_append, List.length_append, List.length_take, Array.length_toList, List.getElem?_take, List.getElem?_drop, Array.getElem?_toList]
    have hm : min o cur.size = o := by omega
    rw [hm]
    rcases hk with hk | hk
    · simp [hk, show k < o + cs.length by omega]
    · simp [show ¬ k < o + cs.length by omega, show o + cs.length + (k - (o + cs.length)) = k by omega]
  · simp only [List.getElem?_toArray, List.getElem?_append, List.length_append, List.length_take, Array.length_toList]
    have hm : min o cur.size = o := by omega
    rw [hm]
    simp [show o + k < o + cs.length by omega]
    intro h; omega
theorem run_store_at {P : Program} {o : Oper} {ρ : Operand → Value} {w : World} (ty : TypeId) (x y : Operand) (ho : o.op = .store ty x y)
    (g off : Nat) (cells : Array Value) (hx : ρ x = .pointer (some ⟨g, off, none⟩)) (hy : ρ y = .agg cells)
    (t : TypeId) (cur : Array Value) (hg : w.heap[g]? = some (.cells cur t (0, 0))) (hi : (P.info? ty).map (·.size) = some cells.size)
    (hfit : off + cells.size ≤ cur.size) (h1 : cells.all (·.oneCell') = true) :
    (execOp ρ o).run P w = .ok .skip (w.setRow g (cur.toList.take off ++ cells.toList ++ cur.toList.drop (off + cells.toList.length)).toArray) := by
  have hst := run_storeCells_at P g off t cells.toList 0 cur w hg (by simpa using hfit) (fun v hv => (Array.all_eq_true_iff_forall_mem.1 h1) v (by simpa using hv))
  have hsv : (storeVar ty ⟨g, off, none⟩ (.agg cells)).run P w = .ok () (w.setRow g (cur.toList.take off ++ cells.toList ++ cur.toList.drop (off + cells.toList.length)).toArray) := by
    cases hq : P.info? ty with
    | none => simp [hq] at hi
    | some i =>
      have hs : cells.size = i.size := by simp [hq] at hi; omega
      simp [storeVar, sizeOf, typeInfo, hq, Value.cells, hs] at hst ⊢
      exact hst
  unfold execOp
  simp only [ho, hx, hy, Instr.storeAt, Instr.sureAddr, Sem.run_bind, Sem.run_pure, Result.andThen_ok, hsv]
theorem wpList_store_at {P : Program} {ops : Array Oper} {rest : List Oper} {o : Oper} {a : Act} {w : World} {Q : Exit → Act → World → Prop} (hgd : o.guard = none) (ty : TypeId) (x y : Operand) (ho : o.op = .store ty x y)
    (g off : Nat) (cells : Array Value) (hx : a.eval x = .pointer (some ⟨g, off, none⟩)) (hy : a.eval y = .agg cells)
    (t : TypeId) (cur : Array Value) (hg : w.heap[g]? = some (.cells cur t (0, 0))) (hi : (P.info? ty).map (·.size) = some cells.size)
    (hfit : off + cells.size ≤ cur.size) (h1 : cells.all (·.oneCell') = true)
    (h : ∀ w' cur', Seg cur cur' off cells.toList → w'.heap[g]? = some (.cells cur' t (0, 0)) → Keeps (fun k => k = g) w w' → w'.heap.size = w.heap.size → wpList P ops Q rest (a.put o.dst undef) w') : wpList P ops Q (o :: rest) a w := by
  refine wpList_plain hgd fun K hK => ?_
  unfold Oper.wp
  rw [run_store_at ty x y ho g off cells hx hy t cur hg hi hfit h1]
  exact hK _ _ (h _ _ (seg_of cur off cells.toList (by simpa using hfit)) (setRow_heap _ _ _ _ _ _ hg) (keeps_setRow _ _ _) (by simp))

/-- 'clear' of the tail of a row. -/
theorem run_clear_at {P : Program} {w : World} (t ty elem : TypeId) (ht : P.underlying t = some (.slice elem)) (g off n cap : Nat) (te : TypeId) (cur : Array Value) (hg : w.heap[g]? = some (.cells cur te (0, 0)))
    (z : Array Value) (hz : (zeroValue elem).run P w = .ok (.agg z) w) (hfit : off + (Builtin.zeroCells z n).size ≤ cur.size) (h1 : ∀ v ∈ (Builtin.zeroCells z n).toList, v.oneCell' = true) :
    ∃ w' cur', (Builtin.clear_ #[t] ty #[.slice (some ⟨g, off, none⟩) n cap]).run P w = .ok (.tuple #[]) w' ∧ w'.heap[g]? = some (.cells cur' te (0, 0)) ∧ cur'.size = cur.size ∧ (∀ k, k < off → cur'[k]? = cur[k]?) ∧ Keeps (fun k => k = g) w w' ∧ w'.heap.size = w.heap.size := by
  cases n with
  | zero => exact ⟨w, cur, by simp [Builtin.clear_, run_underlying ht], hg, rfl, fun k _ => rfl, Keeps.refl _ _, rfl⟩
  | succ n =>
    have hst := run_storeCells_at P g off te (Builtin.zeroCells z (n + 1)).toList 0 cur w hg (by simpa using hfit) h1
    have hs := seg_of cur off (Builtin.zeroCells z (n + 1)).toList (by simpa using hfit)
    refine ⟨_, _, ?_, setRow_heap _ _ _ _ _ _ hg, hs.size, fun k hk => hs.other k (.inl hk), keeps_setRow _ _ _, by simp⟩
    have hc : (Value.agg z).cells = z := rfl
    simp only [Nat.add_zero] at hst
    simp [Builtin.clear_, run_underlying ht, hz, hc, hst]

end Go.Proofs.Ytabbmihakoeegaa

/- slices.DeleteFunc, by the closure of only. -/
namespace Go.Proofs.Ytabbmihakoeegaa
set_option linter.unusedVariables false
set_option linter.unusedSimpArgs false
open Go.RowKit Go.Shelf
attribute [local go_sem] Oper.semAt_some

def rdC (r : RdD) : List Value := [.int .i64 r.a, .int .i64 r.b, .int .i64 r.m, .int .i64 r.lo, .int .i64 r.hi]
/-- Element i of a row of readings. -/
def RdIn (cur : Array Value) (i : Nat) (r : RdD) : Prop := ∀ q, q < 5 → cur[i * 5 + q]? = (rdC r)[q]?
theorem RdIn.other {cur cur' : Array Value} {o : Nat} {cs : List Value} {i : Nat} {r : RdD} (h : RdIn cur i r) (hs : Seg cur cur' o cs) (hd : i * 5 + 5 ≤ o ∨ o + cs.length ≤ i * 5) : RdIn cur' i r := by
  intro q hq
  rw [hs.other _ (by omega)]
  exact h q hq
theorem RdIn.own {cur cur' : Array Value} {i : Nat} {r : RdD} (hs : Seg cur cur' (i * 5) (rdC r)) : RdIn cur' i r := fun q hq => hs.own q (by simpa [rdC] using hq)
/-- Those of the first j readings that are in a set. -/
def keptL (l : List RdD) (s j : Nat) : List RdD := (List.range j).filterMap fun i => if s.testBit i then l[i]? else none
theorem keptL_yes (l : List RdD) (s j : Nat) (hj : j < l.length) (h : s.testBit j = true) : keptL l s (j + 1) = keptL l s j ++ [l[j]] := by
  unfold keptL
  rw [List.range_succ, List.filterMap_append]
  simp [h, List.getElem?_eq_getElem hj]
theorem keptL_no (l : List RdD) (s j : Nat) (h : s.testBit j = false) : keptL l s (j + 1) = keptL l s j := by
  unfold keptL
  rw [List.range_succ, List.filterMap_append]
  simp [h]
theorem keptL_le (l : List RdD) (s : Nat) : ∀ j, (keptL l s j).length ≤ j
  | 0 => by simp [keptL]
  | j + 1 => by
    have := keptL_le l s j
    unfold keptL at *
    rw [List.range_succ, List.filterMap_append, List.length_append]
    have h2 : (List.filterMap (fun i => if s.testBit i = true then l[i]? else none) [j]).length ≤ 1 := List.length_filterMap_le _ _
    omega
theorem keptL_all (l : List RdD) (s k : Nat) (hk : k ≤ l.length) (h : ∀ j, j < k → s.testBit j = true) : keptL l s k = l.take k := by
  induction k with
  | zero => simp [keptL]
  | succ k ih =>
    rw [keptL_yes l s k (by omega) (h k (by omega)), ih (by omega) (fun j hj => h j (by omega)), List.take_succ_eq_append_getElem (by omega)]

end Go.Proofs.Ytabbmihakoeegaa

/- slices.DeleteFunc, by the closure of only: the walk. -/
namespace Go.Proofs.Ytabbmihakoeegaa
set_option linter.unusedVariables false
set_option linter.unusedSimpArgs false
open Go.RowKit Go.Shelf
attribute [local go_sem] Oper.semAt_some

theorem readsAt_of_row {w : World} {ob n : Nat} {t : TypeId} {cur : Array Value} {l : List RdD} (hn : n = l.length) (h : w.heap[ob]? = some (.cells cur t (0, 0))) (hl : l.length ≤ 8) (hr : ∀ i (hi : i < l.length), RdIn cur i l[i]) : ReadsAt w (.slice (some ⟨ob, 0, none⟩) n n) l (fun k => k = ob) := by
  subst hn
  refine ⟨_, _, rfl, Nat.le_refl _, by unfold maxLen; omega, fun i hi => ⟨ob, 0, rfl, rfl, lt_of_block h, ?_⟩⟩
  have := hr i hi
  refine ⟨?_, ?_, ?_, ?_, ?_⟩
  · rw [Nat.zero_add, cell_of_row w _ _ _ _ _ h]; exact this 0 (by omega)
  · rw [Nat.zero_add, cell_of_row w _ _ _ _ _ h]; exact this 1 (by omega)
  · rw [Nat.zero_add, cell_of_row w _ _ _ _ _ h]; exact this 2 (by omega)
  · rw [Nat.zero_add, cell_of_row w _ _ _ _ _ h]; exact this 3 (by omega)
  · rw [Nat.zero_add, cell_of_row w _ _ _ _ _ h]; exact this 4 (by omega)

theorem zero_cells (n : Nat) : ∀ v ∈ (Builtin.zeroCells #[.int .i64 0, .int .i64 0, .int .i64 0, .int .i64 0, .int .i64 0] n).toList, v.oneCell' = true := by
  intro v hv
  simp only [Builtin.zeroCells, Array.toList_map, List.mem_map] at hv
  obtain ⟨i, _, rfl⟩ := hv
  have : i % 5 < 5 := Nat.mod_lt _ (by omega)
  have h5 : (#[Value.int .i64 0, .int .i64 0, .int .i64 0, .int .i64 0, .int .i64 0] : Array Value).size = 5 := rfl
  rw [h5]
  generalize i % 5 = j at *
  match j, this with
  | 0, _ | 1, _ | 2, _ | 3, _ | 4, _ => rfl
end Go.Proofs.Ytabbmihakoeegaa

/- A copy of a row of readings. -/
namespace Go.Proofs.Ytabbmihakoeegaa
set_option linter.unusedVariables false
set_option linter.unusedSimpArgs false
open Go.RowKit Go.Shelf

theorem run_copy_rows {P : Program} (w : World) (dT sT ty elem : TypeId) (size : Nat) (g o dLen dCap : Nat) (a : Addr) (sLen sCap : Nat) (cur : Array Value) (t : TypeId) (cs : List Value)
    (hu : P.underlying dT = some (.slice elem)) (hs : (P.info? elem).map (·.size) = some size)
    (hg : w.heap[g]? = some (.cells cur t (0, 0))) (hn : cs.length = Nat.min sLen dLen * size)
    (hsrc : ∀ j v, cs[j]? = some v → w.cell? (a.add j) = some v) (hfit : o + cs.length ≤ cur.size) (h1 : ∀ v ∈ cs, v.oneCell' = true) :
    (Builtin.copy_ #[dT, sT] ty #[.slice (some ⟨g, o, none⟩) dLen dCap, .slice (some a) sLen sCap]).run P w =
      .ok (goInt (Nat.min sLen dLen)) (w.setRow g (cur.toList.take o ++ cs ++ cur.toList.drop (o + cs.length)).toArray) := by
  have hl := run_loadCells_list (P := P) w a cs hsrc
  have hst := run_storeCells_at P g o t cs 0 cur w hg (by simpa using hfit) h1
  cases hq : P.info? elem with
  | none => simp [hq] at hs
  | some i =>
    have hi : i.size = size := by simpa [hq] using hs
    simp [Builtin.copy_, run_underlying hu, Builtin.lenOf, Builtin.firstCells, sizeOf, typeInfo, hq, hi, ← hn, hl, hst]

end Go.Proofs.Ytabbmihakoeegaa

/- A pair with some of its readings alone: the walk. -/
namespace Go.Proofs.Ytabbmihakoeegaa
set_option linter.unusedVariables false
set_option linter.unusedSimpArgs false
open Go.RowKit Go.Shelf
attribute [local go_sem] Oper.semAt_some

theorem infoRead : (Try.prog.info? 48).map (fun i => (i.zero, i.size, i.bytes)) = some (some (.agg #[.int .i64 0, .int .i64 0, .int .i64 0, .int .i64 0, .int .i64 0]), 5, 40) := by kernel_rfl
theorem flat_length : ∀ (l : List RdD), (l.flatMap rdC).length = l.length * 5
  | [] => rfl
  | r :: l => by rw [List.flatMap_cons, List.length_append, flat_length l, List.length_cons]; simp [rdC]; omega
theorem flat_at : ∀ (l : List RdD) (i q : Nat) (hi : i < l.length), q < 5 → (l.flatMap rdC)[i * 5 + q]? = (rdC l[i])[q]?
  | [], i, q, hi, _ => by simp at hi
  | r :: l, 0, q, _, hq => by
    rw [List.flatMap_cons, List.getElem?_append_left (by simp [rdC]; omega)]
    simp
  | r :: l, i + 1, q, hi, hq => by
    have h5 : (rdC r).length = 5 := rfl
    rw [List.flatMap_cons, List.getElem?_append_right (by rw [h5]; omega), h5, show (i + 1) * 5 + q - 5 = i * 5 + q by omega]
    simpa using flat_at l i q (by simpa using hi) hq
theorem flat_one (l : List RdD) : ∀ v ∈ l.flatMap rdC, v.oneCell' = true := by
  intro v hv
  obtain ⟨r, _, hr⟩ := List.mem_flatMap.1 hv
  simp only [rdC, List.mem_cons, List.not_mem_nil, or_false] at hr
  rcases hr with rfl | rfl | rfl | rfl | rfl <;> rfl
/-- Readings are copied into a row. -/
theorem copy_reads (l : List RdD) (ao : Option Addr) (cap : Nat) (Rd : Nat → Prop) (W : World) (h : ReadsAt W (.slice ao l.length cap) l Rd) (ob : Nat) (cur : Array Value) (hob : W.heap[ob]? = some (.cells cur 48 (0, 0))) (hsz : cur.size = 5 * l.length) :
    ∃ W2 cur2, (Builtin.copy_ #[25, 25] 3 #[.slice (some ⟨ob, 0, none⟩) l.length l.length, .slice ao l.length cap]).run Try.prog W = .ok (.int .i64 l.length) W2 ∧
      W2.heap[ob]? = some (.cells cur2 48 (0, 0)) ∧ cur2.size = 5 * l.length ∧ (∀ i (hi : i < l.length), RdIn cur2 i l[i]) ∧ Keeps (fun k => k = ob) W W2 ∧ W2.heap.size = W.heap.size := by
  obtain ⟨ao', cap', he, _, _, hel⟩ := h
  cases he
  by_cases h0 : l = []
  · subst h0
    refine ⟨W, cur, ?_, hob, hsz, fun i hi => by simp at hi, Keeps.refl _ _, rfl⟩
    obtain ⟨i0, hi0, hz0, hz1, hz2⟩ := info_parts infoRead
    have hu : Try.prog.underlying 25 = some (.slice 48) := by kernel_rfl
    have hl0 : (loadCells ⟨0, 0, none⟩ 0).run Try.prog W = .ok #[] W := by rfl
    cases ao with
    | none => simp [Builtin.copy_, run_underlying hu, Builtin.lenOf, Builtin.firstCells, sizeOf, typeInfo, hi0, hz1, goInt, storeCells]
    | some a =>
      have hla := run_loadCells_list (P := Try.prog) W a [] (fun j v h => by simp at h)
      simp at hla
      simp [Builtin.copy_, run_underlying hu, Builtin.lenOf, Builtin.firstCells, sizeOf, typeInfo, hi0, hz1, goInt, storeCells, hla]
  · obtain ⟨b, off, rfl, _⟩ := hel 0 (List.length_pos_iff.2 h0)
    have hseg := seg_of cur 0 (l.flatMap rdC) (by rw [flat_length]; omega)
    refine ⟨_, _, (run_copy_rows W _ _ _ 48 5 ob 0 _ _ ⟨b, off, none⟩ _ _ cur 48 (l.flatMap rdC) (by kernel_rfl) (by kernel_rfl) hob (by rw [flat_length]; simp) ?_ (by rw [flat_length]; omega) (flat_one l)).trans ?_, setRow_heap _ _ _ _ _ _ hob, hseg.size.trans hsz, ?_, keeps_setRow _ _ _, by simp⟩
    · intro j v hj
      have hjl : j < l.length * 5 := by have := (List.getElem?_eq_some_iff.1 hj).1; rwa [flat_length] at this
      obtain ⟨b2, off2, he2, _, _, e1, e2, e3, e4, e5⟩ := hel (j / 5) (by omega)
      cases he2
      have hq : j % 5 < 5 := Nat.mod_lt _ (by omega)
      have hj2 : j = j / 5 * 5 + j % 5 := by omega
      have hjl2 : j / 5 < l.length := by omega
      rw [hj2, flat_at l (j / 5) (j % 5) hjl2 hq] at hj
      rw [Addr.add_mid, show off + j = off + j / 5 * 5 + j % 5 by omega]
      have hjc : j % 5 = 0 ∨ j % 5 = 1 ∨ j % 5 = 2 ∨ j % 5 = 3 ∨ j % 5 = 4 := by omega
      rcases hjc with hc | hc | hc | hc | hc <;> rw [hc] at hj ⊢ <;> simp [rdC] at hj <;> subst hj
      · exact e1
      · exact e2
      · exact e3
      · exact e4
      · exact e5
    · simp [goInt]
    · intro i hi q hq
      have := hseg.own (i * 5 + q) (by rw [flat_length]; omega)
      simp only [Nat.zero_add] at this ⊢
      rw [this]
      exact flat_at l i q hi hq

theorem pairRow_one (p : PairD) (bs rs : Value) (h1 : bs.oneCell' = true) (h2 : rs.oneCell' = true) : (pairRow p bs rs).all (·.oneCell') = true := by
  have h3 : ∀ n, (Value.int .i64 n).oneCell' = true := fun _ => rfl
  simp [pairRow, h1, h2, h3]
end Go.Proofs.Ytabbmihakoeegaa

/- Is there a truth, by the readings of a set? -/
namespace Go.Proofs.Ytabbmihakoeegaa
set_option linter.unusedVariables false
set_option linter.unusedSimpArgs false
open Go.RowKit Go.Shelf
attribute [local go_sem] Oper.semAt_some

def onlyP (p : PairD) (s : Nat) : PairD := { p with rs := keptL p.rs s p.rs.length }
theorem keptL_mem (l : List RdD) (s j : Nat) (r : RdD) (h : r ∈ keptL l s j) : r ∈ l := by
  unfold keptL at h
  obtain ⟨i, _, hi⟩ := List.mem_filterMap.1 h
  split at hi
  · exact List.mem_of_getElem? hi
  · cases hi
theorem onlyP_valid (p : PairD) (s : Nat) (h : validB p = true) : validB (onlyP p s) = true := by
  have hle := keptL_le p.rs s p.rs.length
  simp only [validB, okHead, okZR, Bool.and_eq_true, List.all_eq_true, decide_eq_true_eq] at h ⊢
  obtain ⟨⟨⟨⟨a1, a2⟩, a3⟩, a4⟩, c⟩ := h
  refine ⟨⟨⟨⟨a1, ?_⟩, a3⟩, a4⟩, fun r hr => c r (keptL_mem _ _ _ _ hr)⟩
  show ((keptL p.rs s p.rs.length).length : Int) ≤ 8
  omega
theorem readsL_all (l : List RdD) : ∀ k, k ≤ l.length → ∀ m, l.length ≤ m → readsL l (2 ^ m - 1) k = (l.take k).map readB := by
  intro k
  induction k with
  | zero => intro _ m _; simp [readsL]
  | succ k ih =>
    intro hk m hm
    have ht : (2 ^ m - 1).testBit k = true := by rw [Nat.testBit_two_pow_sub_one]; simp; omega
    rw [readsL_yes l _ k _ ht (List.getElem?_eq_getElem (by omega)), ih (by omega) m hm, List.take_succ_eq_append_getElem (by omega), List.map_append]
    rfl
theorem readsL_kept (l : List RdD) (s : Nat) : ∀ k, readsL l s k = (keptL l s k).map readB := by
  intro k
  unfold readsL keptL
  rw [List.map_filterMap]
  congr 1
  funext i
  split <;> simp
theorem onlyP_outs (p : PairD) (s : Nat) : pairOuts (onlyP p s) (allR (onlyP p s)) = pairOuts p s := by
  unfold pairOuts
  have : boundsL (onlyP p s) (allR (onlyP p s)) = boundsL p s := by
    unfold boundsL allR onlyP
    simp only
    rw [readsL_all _ _ (Nat.le_refl _) _ (Nat.le_refl _), List.take_length, readsL_kept]
  rw [this]
  rfl

theorem SpansAt.mono {W : World} {v : Value} {l : List (Int × Int)} {Rd Rd' : Nat → Prop} (h : SpansAt W v l Rd) (hr : ∀ k, Rd k → Rd' k) : SpansAt W v l Rd' := by
  obtain ⟨ao, cap, h1, h2, h3, h4⟩ := h
  exact ⟨ao, cap, h1, h2, h3, fun i hi => by obtain ⟨b, off, e1, e2, e3⟩ := h4 i hi; exact ⟨b, off, e1, hr b e2, e3⟩⟩
theorem ReadsAt.mono {W : World} {v : Value} {l : List RdD} {Rd Rd' : Nat → Prop} (h : ReadsAt W v l Rd) (hr : ∀ k, Rd k → Rd' k) : ReadsAt W v l Rd' := by
  obtain ⟨ao, cap, h1, h2, h3, h4⟩ := h
  exact ⟨ao, cap, h1, h2, h3, fun i hi => by obtain ⟨b, off, e1, e2, e3⟩ := h4 i hi; exact ⟨b, off, e1, hr b e2, e3⟩⟩
end Go.Proofs.Ytabbmihakoeegaa

/- The closures of Wrong and Clash. -/
namespace Go.Proofs.Ytabbmihakoeegaa
set_option linter.unusedVariables false
set_option linter.unusedSimpArgs false
open Go.RowKit Go.Shelf
attribute [local go_sem] Oper.semAt_some

/-- A pair that is looked at, in memory: its bench and its rows. -/
structure Opened (p : PairD) (bp : Nat) (bs rs mv : Value) (Rd : Nat → Prop) (w : World) : Prop where
  b : w.heap[bp]? = some (benchObj bs rs p.zl p.zh p.rl p.rh mv)
  r : ∀ k, Rd k → k < w.heap.size
  s : SpansAt w bs p.bs Rd
  t : ReadsAt w rs p.rs Rd
theorem Opened.later {p : PairD} {bp : Nat} {bs rs mv : Value} {Rd : Nat → Prop} {w W : World} (h : Opened p bp bs rs mv Rd w) (hb : Below w.heap.size w W) : Opened p bp bs rs mv Rd W :=
  ⟨(hb.block _ (lt_of_block h.b)).trans h.b, fun k hk => Nat.lt_of_lt_of_le (h.r k hk) hb.size, h.s.later hb.size (fun k hk _ => hb.block k hk), h.t.later hb.size (fun k hk _ => hb.block k hk)⟩
theorem andNot_u64 : ∀ m : Fin 9, ∀ s : Fin 256, s.val < 2 ^ m.val → bits BinOp.andNot IntKind.u64 ((2 ^ m.val - 1 : Nat) : Int) (s.val : Int) = ((2 ^ m.val - 1 - s.val : Nat) : Int) := by decide +kernel

end Go.Proofs.Ytabbmihakoeegaa

/- Wrong. -/
namespace Go.Proofs.Ytabbmihakoeegaa
set_option linter.unusedVariables false
set_option linter.unusedSimpArgs false
open Go.RowKit Go.Shelf
attribute [local go_sem] Oper.semAt_some

/-- What Wrong returns. -/
def WrongRes (p : PairD) (many set er : Int) : Prop :=
  (validB p = false ∧ many = 0 ∧ set = 0 ∧ er = 1) ∨ (validB p = true ∧ er = 0 ∧ ∃ s b, FirstRes p.rs.length (fun s => decide (pairOuts p (allR p - s) ≠ [])) s b ∧ set = (s : Nat) ∧ many = (ones s : Nat))
end Go.Proofs.Ytabbmihakoeegaa

/- Clash. -/
namespace Go.Proofs.Ytabbmihakoeegaa
set_option linter.unusedVariables false
set_option linter.unusedSimpArgs false
open Go.RowKit Go.Shelf
attribute [local go_sem] Oper.semAt_some

/-- What Clash returns. -/
def ClashRes (p : PairD) (set er : Int) : Prop :=
  (validB p = false ∧ set = 0 ∧ er = 1) ∨ (validB p = true ∧ pairOuts p (allR p) ≠ [] ∧ set = 0 ∧ er = 4) ∨
  (validB p = true ∧ pairOuts p (allR p) = [] ∧ er = 0 ∧ ∃ s b, FirstRes p.rs.length (fun s => decide (pairOuts p s = [])) s b ∧ set = (s : Nat))
end Go.Proofs.Ytabbmihakoeegaa

/- Longest. -/
namespace Go.Proofs.Ytabbmihakoeegaa
set_option linter.unusedVariables false
set_option linter.unusedSimpArgs false
open Go.RowKit Go.Shelf
attribute [local go_sem] Oper.semAt_some

/-- A set of numbers below another one. -/
def setN (f : Nat → Bool) : Nat → Nat
  | 0 => 0
  | i + 1 => if f i then setN f i + 2 ^ i else setN f i
theorem setN_lt (f : Nat → Bool) : ∀ n, setN f n < 2 ^ n
  | 0 => by simp [setN]
  | n + 1 => by
    have := setN_lt f n
    unfold setN
    split <;> omega
theorem shl_bit : ∀ i : Fin 5, wrap64 (2 ^ i.val) = ((2 ^ i.val : Nat) : Int) := by decide +kernel
theorem or_bit : ∀ i : Fin 5, ∀ s : Fin 32, s.val < 2 ^ i.val → bits BinOp.or IntKind.i64 (s.val : Int) ((2 ^ i.val : Nat) : Int) = ((s.val + 2 ^ i.val : Nat) : Int) := by decide +kernel
theorem or_bits (s i : Nat) (hi : i < 5) (h1 : s < 2 ^ i) : bits BinOp.or IntKind.i64 ((s : Nat) : Int) (wrap64 (2 ^ i)) = ((s + 2 ^ i : Nat) : Int) := by
  have h2 : 2 ^ i ≤ 2 ^ 5 := Nat.pow_le_pow_right (by decide) (by omega)
  have h3 : wrap64 (2 ^ i) = ((2 ^ i : Nat) : Int) := shl_bit ⟨i, hi⟩
  rw [h3]
  exact or_bit ⟨i, hi⟩ ⟨s, by omega⟩ h1
/-- Is a block no shorter than each of some? -/
def sureK (p : PairD) (i m : Nat) : Bool := (List.range m).all fun k => decide (0 ≤ (difS p i k).1)
theorem sureK_next (p : PairD) (i m : Nat) : sureK p i (m + 1) = (sureK p i m && decide (0 ≤ (difS p i m).1)) := by simp [sureK, List.range_succ]
def sureB (p : PairD) (i : Nat) : Bool := sureK p i p.bs.length
def canB (p : PairD) (i : Nat) : Bool := decide (outs (boundsL p (allR p) ++ longL i p.bs.length) (comps p.zl p.zh p.rl p.rh) ≠ [])
/-- What Longest returns. -/
def longF (p : PairD) : (Int × Int) × Int :=
  if validB p = false then ((0, 0), 1) else if pairOuts p (allR p) = [] then ((0, 0), 10) else (((setN (sureB p) p.bs.length : Nat), (setN (canB p) p.bs.length : Nat)), 0)

theorem own_below {B : Nat} {e : TypeId} {k : Nat} {v : Value} {n : Nat} {xs : List Value} {w w' : World} (h : w.ownsRow B e k v n xs) (hb : Below w.heap.size w w') : w'.ownsRow B e k v n xs :=
  h.kept (row := none) ⟨hb.os, hb.tape, hb.output, hb.size, fun j hj _ => hb.block j hj⟩ (by cases hv : v.ownBlock <;> simp)
theorem longL_length (i n : Nat) : (longL i n).length = n := by simp [longL]
theorem okB_long (p : PairD) (hp : OkP p) (s i n : Nat) (hi : i < 5) (hn : n ≤ 5) : ∀ x ∈ boundsL p s ++ longL i n, okB x := by
  intro x hx
  rcases List.mem_append.1 hx with hx | hx
  · exact okB_bounds p hp s x hx
  · obtain ⟨k, hk, rfl⟩ := List.mem_map.1 hx
    have : k < n := by simpa using hk
    unfold okB longB
    dsimp only
    refine ⟨by omega, by omega, by omega, by omega, by omega, by omega, by simp, by simp, by simp⟩

end Go.Proofs.Ytabbmihakoeegaa

/- A set of numbers as a map; join, the closure of Groups. -/
namespace Go.Proofs.Ytabbmihakoeegaa
set_option linter.unusedVariables false
set_option linter.unusedSimpArgs false
open Go.RowKit Go.Shelf
attribute [local go_sem] Oper.semAt_some

/-! ### a set of numbers as a map to bools -/
def entI (i : Nat) (x : Int) : MapEntry := { key := .int .i64 x, val := .bool true, born := i }
def setM (L : List Int) : Obj := .map (L.mapIdx entI).toArray L.length
theorem under_mib : Try.prog.underlying 96 = some (.map 3 4) := by kernel_rfl
theorem find_set (x : Int) : ∀ (l : List MapEntry) (i : Nat), (∀ e ∈ l, ∃ y, e.key = .int .i64 y ∧ e.val = .bool true) →
    ((∃ e ∈ l, e.key = .int .i64 x) ∧ ∃ j, Instr.findNow (.int .i64) (.int .i64 x) l i = some (some (j, .bool true))) ∨ ((∀ e ∈ l, e.key ≠ .int .i64 x) ∧ Instr.findNow (.int .i64) (.int .i64 x) l i = some none)
  | [], i, _ => .inr ⟨fun _ he => absurd he (by simp), rfl⟩
  | e :: l, i, h => by
    obtain ⟨y, hy, hv⟩ := h e List.mem_cons_self
    unfold Instr.findNow
    rw [hy]
    by_cases hxy : x = y
    · subst hxy
      refine .inl ⟨⟨e, List.mem_cons_self, hy⟩, i, ?_⟩
      simp [Instr.sameNow, hv]
    · have hs : Instr.sameNow (.int .i64) (.int .i64 x) (.int .i64 y) = some false := by simp [Instr.sameNow, hxy]
      rw [hs]
      rcases find_set x l (i + 1) (fun e he => h e (List.mem_cons_of_mem _ he)) with ⟨⟨e', he', hk⟩, j, hj⟩ | ⟨h1, h2⟩
      · exact .inl ⟨⟨e', List.mem_cons_of_mem _ he', hk⟩, j, hj⟩
      · refine .inr ⟨fun e' he' => ?_, h2⟩
        rcases List.mem_cons.1 he' with rfl | he'
        · rw [hy]; intro hh; cases hh; exact hxy rfl
        · exact h1 e' he'
theorem ents_ok (L : List Int) : ∀ e ∈ (L.mapIdx entI).toArray.toList, ∃ y, e.key = .int .i64 y ∧ e.val = .bool true := by
  intro e he
  simp only [List.mem_mapIdx] at he
  obtain ⟨i, hi, rfl⟩ := he
  exact ⟨_, rfl, rfl⟩
theorem ents_mem (L : List Int) (x : Int) : (∃ e ∈ (L.mapIdx entI).toArray.toList, e.key = .int .i64 x) ↔ x ∈ L := by
  constructor
  · rintro ⟨e, he, hk⟩
    simp only [List.mem_mapIdx] at he
    obtain ⟨i, hi, rfl⟩ := he
    simp only [entI, Value.int.injEq, true_and] at hk
    subst hk
    exact List.getElem_mem hi
  · intro h
    obtain ⟨i, hi, rfl⟩ := List.getElem_of_mem h
    exact ⟨entI i L[i], by simp only [List.mem_mapIdx]; exact ⟨i, hi, rfl⟩, rfl⟩
theorem find_in (L : List Int) (x : Int) (w : World) (h : x ∈ L) : ∃ j, (Instr.findKey 3 (.int .i64 x) (L.mapIdx entI).toArray.toList).run Try.prog w = .ok (some (j, .bool true)) w := by
  rcases find_set x (L.mapIdx entI).toArray.toList 0 (ents_ok L) with ⟨h1, j, hj⟩ | ⟨h1, _⟩
  · refine ⟨j, ?_⟩
    unfold Instr.findKey
    simp only [Sem.run_bind, run_underlying under_int, Result.andThen_ok, hj]
    rfl
  · obtain ⟨e, he, hk⟩ := (ents_mem L x).2 h
    exact absurd hk (h1 e he)
theorem find_out (L : List Int) (x : Int) (w : World) (h : x ∉ L) : (Instr.findKey 3 (.int .i64 x) (L.mapIdx entI).toArray.toList).run Try.prog w = .ok none w := by
  rcases find_set x (L.mapIdx entI).toArray.toList 0 (ents_ok L) with ⟨h1, _⟩ | ⟨_, h2⟩
  · exact absurd ((ents_mem L x).1 h1) h
  · unfold Instr.findKey
    simp only [Sem.run_bind, run_underlying under_int, Result.andThen_ok, h2]
    rfl
theorem check_int (e : Bool) (x : Int) (w : World) : (Instr.checkKey e 10000 3 (.int .i64 x)).run Try.prog w = .ok () w := by kernel_rfl
theorem zero_bool (w : World) : (zeroValue 4).run Try.prog w = .ok (.bool false) w := by kernel_rfl
theorem lookup_set (mb : Nat) (L : List Int) (x : Int) (w : World) (hm : w.heap[mb]? = some (setM L)) : (Instr.lookup 96 (.map (some mb)) (.int .i64 x) false).run Try.prog w = .ok (.bool (decide (x ∈ L))) w := by
  have hg : (getObj mb).run Try.prog w = .ok (setM L) w := by simp [getObj, Sem.run, hm, setM]
  unfold Instr.lookup
  by_cases h : x ∈ L
  · obtain ⟨j, hj⟩ := find_in L x w h
    simp only [Sem.run_bind, run_underlying under_mib, Result.andThen_ok, hg, setM, Sem.run_pure, check_int, hj, h, decide_true]
    rfl
  · simp only [Sem.run_bind, run_underlying under_mib, Result.andThen_ok, hg, setM, Sem.run_pure, check_int, find_out L x w h, h, decide_false, zero_bool]
    rfl
theorem update_set (mb : Nat) (L : List Int) (x : Int) (w : World) (hm : w.heap[mb]? = some (setM L)) (h : x ∉ L) : (Instr.mapUpdate 96 (.map (some mb)) (.int .i64 x) (.bool true)).run Try.prog w = .ok () (w.putObj mb (setM (L ++ [x]))) := by
  have hg : (getObj mb).run Try.prog w = .ok (setM L) w := by simp [getObj, Sem.run, hm, setM]
  have he : setM (L ++ [x]) = .map ((L.mapIdx entI).toArray.push { key := .int .i64 x, val := .bool true, born := L.length }) (L.length + 1) := by
    simp [setM, List.mapIdx_append, entI]
  rw [he]
  unfold Instr.mapUpdate
  simp only [Sem.run_bind, run_underlying under_mib, Result.andThen_ok, hg, setM, check_int, find_out L x w h]
  simp [setObj, Sem.run, hm, setM, World.putObj]

/-! ### blocks that hang together -/
def Adj (p : PairD) (x y : Int) : Prop := ∃ r ∈ p.rs, (r.a = x ∧ r.b = y) ∨ (r.b = x ∧ r.a = y)
inductive Conn (p : PairD) : Int → Int → Prop
  | refl (x : Int) : Conn p x x
  | step {x y z : Int} : Conn p x y → Adj p y z → Conn p x z
theorem Conn.trans {p : PairD} {x y z : Int} (h : Conn p x y) (k : Conn p y z) : Conn p x z := by
  induction k with
  | refl => exact h
  | step _ ha ih => exact .step ih ha
theorem Adj.symm {p : PairD} {x y : Int} (h : Adj p x y) : Adj p y x := by
  obtain ⟨r, hr, h | h⟩ := h
  · exact ⟨r, hr, .inr ⟨h.2, h.1⟩⟩
  · exact ⟨r, hr, .inl ⟨h.2, h.1⟩⟩
theorem Conn.symm {p : PairD} {x y : Int} (h : Conn p x y) : Conn p y x := by
  induction h with
  | refl => exact .refl _
  | step _ ha ih => exact (Conn.step (.refl _) ha.symm).trans ih
theorem Conn.closed {p : PairD} {x y : Int} (h : Conn p x y) {S : Int → Prop} (hx : S x) (hS : ∀ u v, S u → Adj p u v → S v) : S y := by
  induction h with
  | refl => exact hx
  | step _ ha ih => exact hS _ _ ih ha
/-- What join does to the set of all that were seen. -/
structure JoinRel (p : PairD) (x : Int) (L L' : List Int) : Prop where
  sub : ∀ y ∈ L, y ∈ L'
  nodup : L'.Nodup
  range : ∀ y ∈ L', 0 ≤ y ∧ y < p.bs.length
  own : x ∈ L'
  conn : ∀ y ∈ L', y ∈ L ∨ Conn p x y
  adj : ∀ y ∈ L', y ∉ L → ∀ z, Adj p y z → z ∈ L'
  len : L.length ≤ L'.length
theorem nodup_len (n : Nat) : ∀ (L : List Int), L.Nodup → (∀ y ∈ L, 0 ≤ y ∧ y < n) → L.length ≤ n := by
  induction n with
  | zero =>
    intro L _ h
    cases L with
    | nil => simp
    | cons a l => have := h a List.mem_cons_self; omega
  | succ n ih =>
    intro L hd h
    have h1 := ih (L.erase (n : Int)) (hd.erase _) (fun y hy => by
      have h2 := (hd.mem_erase_iff).1 hy
      have h3 := h y h2.2
      have h4 := h2.1
      omega)
    have h2 := List.length_erase (a := (n : Int)) (l := L)
    split at h2 <;> omega

end Go.Proofs.Ytabbmihakoeegaa

/- join, the closure of Groups. -/
namespace Go.Proofs.Ytabbmihakoeegaa
set_option linter.unusedVariables false
set_option linter.unusedSimpArgs false
open Go.RowKit Go.Shelf
attribute [local go_sem] Oper.semAt_some

structure JoinAt (p : PairD) (b1 b2 b3 bp mb : Nat) (bs rs mv : Value) (Rd : Nat → Prop) (w : World) : Prop where
  h1 : w.heap[b1]? = some (.cells #[.map (some mb)] 96 (0, 0))
  h2 : w.heap[b2]? = some (boxPtr bp)
  h3 : w.heap[b3]? = some (.cells #[.func (.func 62) #[] #[.pointer (some ⟨b1, 0, none⟩), .pointer (some ⟨b2, 0, none⟩), .pointer (some ⟨b3, 0, none⟩)]] 97 (0, 0))
  hb : w.heap[bp]? = some (benchObj bs rs p.zl p.zh p.rl p.rh mv)
  n1 : b1 ≠ mb
  n2 : b2 ≠ mb
  n3 : b3 ≠ mb
  nb : bp ≠ mb
  nr : ∀ k, Rd k → k ≠ mb
  rd : ReadsAt w rs p.rs Rd
theorem JoinAt.later {p : PairD} {b1 b2 b3 bp mb : Nat} {bs rs mv : Value} {Rd : Nat → Prop} {w W : World} (h : JoinAt p b1 b2 b3 bp mb bs rs mv Rd w) (hk : Keeps (fun k => k = mb) w W) : JoinAt p b1 b2 b3 bp mb bs rs mv Rd W :=
  ⟨(hk.block _ (lt_of_block h.h1) h.n1).trans h.h1, (hk.block _ (lt_of_block h.h2) h.n2).trans h.h2, (hk.block _ (lt_of_block h.h3) h.n3).trans h.h3, (hk.block _ (lt_of_block h.hb) h.nb).trans h.hb,
    h.n1, h.n2, h.n3, h.nb, h.nr, h.rd.later hk.size (fun k hk' hr => hk.block k hk' (h.nr k hr))⟩
/-- As far as join has come. -/
structure JoinK (p : PairD) (x : Int) (L Lk : List Int) (k : Nat) : Prop where
  sub : ∀ y ∈ L, y ∈ Lk
  nodup : Lk.Nodup
  range : ∀ y ∈ Lk, 0 ≤ y ∧ y < p.bs.length
  own : x ∈ Lk
  conn : ∀ y ∈ Lk, y ∈ L ∨ Conn p x y
  adj : ∀ y ∈ Lk, y ∉ L → y ≠ x → ∀ z, Adj p y z → z ∈ Lk
  done : ∀ r ∈ p.rs.take k, (r.a = x → r.b ∈ Lk) ∧ (r.b = x → r.a ∈ Lk)
  len : L.length + 1 ≤ Lk.length
theorem JoinK.start {p : PairD} {x : Int} {L : List Int} (hx : 0 ≤ x ∧ x < p.bs.length) (hn : L.Nodup) (hr : ∀ y ∈ L, 0 ≤ y ∧ y < p.bs.length) (h : x ∉ L) : JoinK p x L (L ++ [x]) 0 := by
  refine ⟨fun y hy => by simp [hy], ?_, fun y hy => ?_, by simp, fun y hy => ?_, fun y hy h1 h2 => ?_, by simp, by simp⟩
  · rw [List.nodup_append]
    exact ⟨hn, by simp, by simp; exact fun a ha hax => h (hax ▸ ha)⟩
  · rcases List.mem_append.1 hy with hy | hy
    · exact hr y hy
    · rw [List.mem_singleton.1 hy]; exact hx
  · rcases List.mem_append.1 hy with hy | hy
    · exact .inl hy
    · rw [List.mem_singleton.1 hy]; exact .inr (.refl _)
  · rcases List.mem_append.1 hy with hy | hy
    · exact absurd hy h1
    · exact absurd (List.mem_singleton.1 hy) h2
theorem JoinK.next {p : PairD} {x : Int} {L Lk : List Int} {k : Nat} (h : JoinK p x L Lk k) (hk : k < p.rs.length) (hne : p.rs[k].a ≠ x) (hne2 : p.rs[k].b ≠ x) : JoinK p x L Lk (k + 1) := by
  refine ⟨h.sub, h.nodup, h.range, h.own, h.conn, h.adj, fun r hr => ?_, h.len⟩
  rw [List.take_succ_eq_append_getElem hk] at hr
  rcases List.mem_append.1 hr with hr | hr
  · exact h.done r hr
  · rw [List.mem_singleton.1 hr]; exact ⟨fun e => absurd e hne, fun e => absurd e hne2⟩
theorem JoinK.go {p : PairD} {x z : Int} {L Lk L' : List Int} {k : Nat} (h : JoinK p x L Lk k) (hk : k < p.rs.length) (hj : JoinRel p z Lk L') (ha : Adj p x z) (hr : (p.rs[k].a = x → p.rs[k].b = z) ∧ (p.rs[k].b = x → p.rs[k].a = z)) : JoinK p x L L' (k + 1) := by
  refine ⟨fun y hy => hj.sub y (h.sub y hy), hj.nodup, hj.range, hj.sub _ h.own, fun y hy => ?_, fun y hy h1 h2 v hv => ?_, fun r hr' => ?_, Nat.le_trans h.len hj.len⟩
  · rcases hj.conn y hy with h1 | h1
    · exact h.conn y h1
    · exact .inr ((Conn.step (.refl _) ha).trans h1)
  · by_cases hin : y ∈ Lk
    · exact hj.sub _ (h.adj y hin h1 h2 v hv)
    · exact hj.adj y hy hin v hv
  · rw [List.take_succ_eq_append_getElem hk] at hr'
    rcases List.mem_append.1 hr' with hr' | hr'
    · exact ⟨fun e => hj.sub _ ((h.done r hr').1 e), fun e => hj.sub _ ((h.done r hr').2 e)⟩
    · rw [List.mem_singleton.1 hr']; exact ⟨fun e => by rw [hr.1 e]; exact hj.own, fun e => by rw [hr.2 e]; exact hj.own⟩
theorem JoinK.end {p : PairD} {x : Int} {L Lk : List Int} (h : JoinK p x L Lk p.rs.length) : JoinRel p x L Lk := by
  refine ⟨h.sub, h.nodup, h.range, h.own, h.conn, fun y hy hn z hz => ?_, by have := h.len; omega⟩
  by_cases hyx : y = x
  · subst hyx
    obtain ⟨r, hr, hz | hz⟩ := hz
    · have := (h.done r (by rw [List.take_length]; exact hr)).1 hz.1; rw [hz.2] at this; exact this
    · have := (h.done r (by rw [List.take_length]; exact hr)).2 hz.1; rw [hz.2] at this; exact this
  · exact h.adj y hy hn hyx z hz
theorem ne_of_valid (p : PairD) (hv : validB p = true) (r : RdD) (hr : r ∈ p.rs) : r.a ≠ r.b := by
  simp only [validB, Bool.and_eq_true, List.all_eq_true, okRd, decide_eq_true_eq] at hv
  exact (hv.2 r hr).1.1.2
theorem JoinRel.same {p : PairD} {x : Int} {L : List Int} (hn : L.Nodup) (hr : ∀ y ∈ L, 0 ≤ y ∧ y < p.bs.length) (h : x ∈ L) : JoinRel p x L L :=
  ⟨fun _ h => h, hn, hr, h, fun _ h => .inl h, fun _ h h' => absurd h h', Nat.le_refl _⟩

set_option maxRecDepth 100000 in
set_option maxHeartbeats 4000000 in
theorem join_any (p : PairD) (hv : validB p = true) (b1 b2 b3 bp mb : Nat) (bs rs mv : Value) (Rd : Nat → Prop) : ∀ (N : Nat) (x : Int) (L : List Int) (w : World), p.bs.length ≤ L.length + N → 0 ≤ x → x < p.bs.length → L.Nodup → (∀ y ∈ L, 0 ≤ y ∧ y < p.bs.length) →
    JoinAt p b1 b2 b3 bp mb bs rs mv Rd w → w.heap[mb]? = some (setM L) →
    Calls Try.prog 62 (#[.int .i64 x] ++ #[.pointer (some ⟨b1, 0, none⟩), .pointer (some ⟨b2, 0, none⟩), .pointer (some ⟨b3, 0, none⟩)]) w fun e w' => e = .returned (.tuple #[]) ∧ (∃ L', w'.heap[mb]? = some (setM L') ∧ JoinRel p x L L') ∧ Keeps (fun k => k = mb) w w' := by
  have hp := OkP.of p hv
  have eg := enters_of Try.func62 (by kernel_rfl) rfl
  intro N
  induction N with
  | zero =>
    intro x L w hN hx0 hxn hnd hrg ha hm
    have hin : x ∈ L := by
      rcases Classical.em (x ∈ L) with h | h
      · exact h
      · have := nodup_len p.bs.length (L ++ [x]) (JoinK.start ⟨hx0, hxn⟩ hnd hrg h).nodup (JoinK.start ⟨hx0, hxn⟩ hnd hrg h).range
        simp at this
        omega
    have hlk := lookup_set mb L x w hm
    have d1 : w.cell? ⟨b1, 0, none⟩ = some (.map (some mb)) := by rw [cell_of_row w _ _ _ _ _ ha.h1]; rfl
    rw [show decide (x ∈ L) = true by simpa using hin] at hlk
    have HR := Lib.hid (JoinRel.same hnd hrg hin)
    have HM := Lib.hid hm
    clear hin hnd hrg ha hm
    go_enter Try.func62, Try.ntmps62
    go_wp2
    exact bodyPost_ret (v := .tuple #[]) (by simp [results, Try.results62, go_sem]) rfl ⟨rfl, ⟨L, HM.out, HR.out⟩, Keeps.refl _ _⟩
  | succ N ih =>
    intro x L w hN hx0 hxn hnd hrg ha hm
    have hlk := lookup_set mb L x w hm
    have d1 : w.cell? ⟨b1, 0, none⟩ = some (.map (some mb)) := by rw [cell_of_row w _ _ _ _ _ ha.h1]; rfl
    by_cases hin : x ∈ L
    · rw [show decide (x ∈ L) = true by simpa using hin] at hlk
      have HR := Lib.hid (JoinRel.same hnd hrg hin)
      have HM := Lib.hid hm
      clear hin hnd hrg ha hm ih
      go_enter Try.func62, Try.ntmps62
      go_wp2
      exact bodyPost_ret (v := .tuple #[]) (by simp [results, Try.results62, go_sem]) rfl ⟨rfl, ⟨L, HM.out, HR.out⟩, Keeps.refl _ _⟩
    · rw [show decide (x ∈ L) = false by simpa using hin] at hlk
      have hup := update_set mb L x w hm hin
      have HST := Lib.hid (JoinK.start ⟨hx0, hxn⟩ hnd hrg hin)
      obtain ⟨W1, hW1⟩ : ∃ W1, W1 = w.putObj mb (setM (L ++ [x])) := ⟨_, rfl⟩
      rw [← hW1] at hup
      have hk1 : Keeps (fun k => k = mb) w W1 := by rw [hW1]; exact Keeps.putObj _ _ _ rfl
      have hm1 : W1.heap[mb]? = some (setM (L ++ [x])) := by rw [hW1]; exact World.putObj_heap_same (lt_of_block hm)
      have ha1 := ha.later hk1
      obtain ⟨aor, capr, hrse, hl1, hl2, hel⟩ := id ha1.rd
      subst hrse
      have d2 : W1.cell? ⟨b2, 0, none⟩ = some (.pointer (some ⟨bp, 0, none⟩)) := by rw [cell_of_row W1 _ _ _ _ _ ha1.h2]; rfl
      have d5 : W1.cell? ⟨bp, 5, none⟩ = some (.slice aor p.rs.length capr) := by rw [cell_of_row W1 _ _ _ _ _ ha1.hb]; rfl
      have IH := Lib.hid ih
      have HA := Lib.hid ha
      have HK1 := Lib.hid hk1
      have HM1 := Lib.hid hm1
      clear ih ha hm hW1 hk1 hm1 ha1 hel hin hnd hrg
      go_enter Try.func62, Try.ntmps62
      go_wp2
      have hm8 := hp.m8
      go_loopw [18] (fun i wr => ∃ k : Nat, k ≤ p.rs.length ∧ i = .int .i64 k ∧ (∃ Lk, wr.heap[mb]? = some (setM Lk) ∧ JoinK p x L Lk k) ∧ Keeps (fun k => k = mb) w wr) (fun i _ => p.rs.length - (intOf i).toNat)
      case atStart => exact ⟨0, by omega, rfl, ⟨_, HM1.out, HST.out⟩, HK1.out⟩
      case round =>
        clear d1 d2 d5 hlk hup
        obtain ⟨k, hk, rfl, ⟨Lk, hmk, hjk⟩, hkk⟩ := hrel
        have HMK := Lib.hid hmk
        have HJ := Lib.hid hjk
        have HKK := Lib.hid hkk
        have HAR := Lib.hid (HA.out.later hkk)
        clear hmk hjk hkk
        by_cases hlk : k < p.rs.length
        · obtain ⟨ao', cap', hrse', _, _, hel⟩ := HAR.out.rd
          cases hrse'
          obtain ⟨b, off, rfl, hr, hbl, f1, f2, f3, f4, f5⟩ := hel k hlk
          have hrd := hp.rs _ (List.getElem_mem hlk)
          have hmem := List.getElem_mem hlk
          have HNE := Lib.hid (ne_of_valid p hv _ hmem)
          have HNX := Lib.hid (HJ.out.next hlk)
          have HGO := Lib.hid (fun z L' => HJ.out.go (z := z) (L' := L') hlk)
          generalize hrg : p.rs[k] = rd at *
          obtain ⟨ra, rb, rm, rlo, rhi⟩ := rd
          clear hel
          have r3 : ∀ o, (wr.alloc o).cell? ⟨b3, 0, none⟩ = some (.func (.func 62) #[] #[.pointer (some ⟨b1, 0, none⟩), .pointer (some ⟨b2, 0, none⟩), .pointer (some ⟨b3, 0, none⟩)]) := fun o => by
            rw [cell_of_row _ _ _ _ _ _ ((Below.heap_alloc wr o _ (lt_of_block HAR.out.h3)).trans HAR.out.h3)]; rfl
          have HW : Hid (∀ o, JoinAt p b1 b2 b3 bp mb bs (.slice (some ⟨b, off, none⟩) p.rs.length capr) mv Rd (wr.alloc o) ∧ (wr.alloc o).heap[mb]? = some (setM Lk) ∧ Keeps (fun k => k = mb) w (wr.alloc o)) := fun o =>
            ⟨HAR.out.later (Keeps.alloc _ _ _), (Below.heap_alloc wr o _ (lt_of_block HMK.out)).trans HMK.out, HKK.out.trans (Keeps.alloc _ _ _)⟩
          by_cases hxa : x = ra
          · have hd : (x == ra) = true := by simpa using hxa
            have HXA := Lib.hid hxa
            clear hxa
            go_wp2_with fail
            refine (IH.out rb Lk _ (by have := HJ.out.len; omega) hrd.2.2.1 hrd.2.2.2.1 HJ.out.nodup HJ.out.range (by exact (HW.out _).1) (by exact (HW.out _).2.1)).mono ?_
            rintro e w8 ⟨rfl, ⟨L', hm', hj'⟩, hk8⟩
            have HM8 := Lib.hid hm'
            have HJ8 := Lib.hid hj'
            have HK8 := Lib.hid ((HW.out _).2.2.trans hk8)
            clear hm' hj' hk8
            go_wp2
            exact ⟨⟨k + 1, by omega, by go_num, ⟨L', HM8.out, HGO.out _ _ HJ8.out ⟨_, hmem, .inl ⟨HXA.out.symm, rfl⟩⟩ ⟨fun _ => rfl, fun e => absurd (HXA.out.symm.trans e.symm) HNE.out⟩⟩, HK8.out⟩, by simp [intOf]; omega⟩
          · have hd : (x == ra) = false := by simpa using hxa
            by_cases hxb : x = rb
            · have hd2 : (x == rb) = true := by simpa using hxb
              have HXA := Lib.hid hxa
              have HXB := Lib.hid hxb
              clear hxa hxb
              go_wp2_with fail
              refine (IH.out ra Lk _ (by have := HJ.out.len; omega) hrd.1 hrd.2.1 HJ.out.nodup HJ.out.range (by exact (HW.out _).1) (by exact (HW.out _).2.1)).mono ?_
              rintro e w8 ⟨rfl, ⟨L', hm', hj'⟩, hk8⟩
              have HM8 := Lib.hid hm'
              have HJ8 := Lib.hid hj'
              have HK8 := Lib.hid ((HW.out _).2.2.trans hk8)
              clear hm' hj' hk8
              go_wp2
              exact ⟨⟨k + 1, by omega, by go_num, ⟨L', HM8.out, HGO.out _ _ HJ8.out ⟨_, hmem, .inr ⟨HXB.out.symm, rfl⟩⟩ ⟨fun e => absurd e.symm HXA.out, fun _ => rfl⟩⟩, HK8.out⟩, by simp [intOf]; omega⟩
            · have hd2 : (x == rb) = false := by simpa using hxb
              have HXA := Lib.hid hxa
              have HXB := Lib.hid hxb
              clear hxa hxb
              go_wp2
              exact ⟨⟨k + 1, by omega, by go_num, ⟨Lk, (HW.out _).2.1, HNX.out (fun e => HXA.out e.symm) (fun e => HXB.out e.symm)⟩, (HW.out _).2.2⟩, by simp [intOf]; omega⟩
        · obtain rfl : k = p.rs.length := by omega
          go_wp2
          go_end0
          exact ⟨rfl, ⟨Lk, HMK.out, HJ.out.end⟩, HKK.out⟩

end Go.Proofs.Ytabbmihakoeegaa

/- Groups. -/
namespace Go.Proofs.Ytabbmihakoeegaa
set_option linter.unusedVariables false
set_option linter.unusedSimpArgs false
open Go.RowKit Go.Shelf
attribute [local go_sem] Oper.semAt_some

/-- Does a block not hang together with a lesser one? -/
def IsMin (p : PairD) (j : Nat) : Prop := ∀ k : Nat, k < j → ¬ Conn p k j
/-- What Groups returns. -/
def GroupsRes (p : PairD) (n er : Int) : Prop :=
  (validB p = false ∧ n = 0 ∧ er = 1) ∨ (validB p = true ∧ er = 0 ∧ ∃ f : Nat → Bool, (∀ j, j < p.bs.length → (f j = true ↔ IsMin p j)) ∧ n = (((List.range p.bs.length).filter f).length : Nat))
theorem groups_results (t1 t2 : Array Value) (h2 : t1.getD 2 undef = t2.getD 2 undef) (h3 : t1.getD 3 undef = t2.getD 3 undef) : results Try.f22 t1 = results Try.f22 t2 := by
  have : Try.f22.results = #[.tmp 2, .cell 3 33] := rfl
  unfold results
  rw [this]
  simp only [Array.getD_eq_getD_getElem?] at h2 h3
  simp [h2, h3]
theorem groups_run (tmps : Array Value) (E : Nat) (x n : Int) (W : World) (h2 : tmps.getD 2 undef = .int .i64 x) (h3 : tmps.getD 3 undef = .pointer (some ⟨E, 0, none⟩))
    (he : W.heap[E]? = some (.cells #[.int .i64 n] 33 (0, 0))) :
    (results Try.f22 tmps).run Try.prog W = .ok (.tuple #[.int .i64 x, .int .i64 n]) W := by
  have e2 : W.cell? ⟨E, 0, none⟩ = some (.int .i64 n) := by rw [cell_of_row W _ _ _ _ _ he]; rfl
  rw [groups_results tmps #[undef, undef, .int .i64 x, .pointer (some ⟨E, 0, none⟩)] h2 h3]
  simp [results, Try.results22, go_sem, e2]
theorem groups_leaf (n : Int) (R : Ending → World → Prop) (E : Nat) (tmps : Array Value) (w5 : World) (h2 : tmps.getD 2 undef = .int .i64 0) (h3 : tmps.getD 3 undef = .pointer (some ⟨E, 0, none⟩))
    (he : w5.heap[E]? = some (.cells #[.int .i64 0] 33 (0, 0)))
    (hR : ∀ W', Keeps (fun k => k = E) w5 W' → R (.returned (.tuple #[.int .i64 0, .int .i64 n])) W') :
    Leaves Try.prog Try.f22 tmps R [{ target := .fn (.func 60) #[.pointer (some ⟨E, 0, none⟩)], args := #[] }] (.panicking [{ v := stopV n, recovered := false }]) w5 := by
  refine leaves_cons (f := 60) (args := #[.pointer (some ⟨E, 0, none⟩)]) (by simp) (by simp [go_sem, invoke]) ?_
  refine (catch_stop_groups n E 0 w5 he).mono ?_
  rintro e u' w' ⟨rfl, rfl, hk, he'⟩
  exact ⟨_, groups_run tmps E 0 n w' h2 h3 he', hR _ hk⟩
theorem groups_leaf_ret (R : Ending → World → Prop) (E : Nat) (x : Int) (tmps : Array Value) (w5 : World) (h2 : tmps.getD 2 undef = .int .i64 x) (h3 : tmps.getD 3 undef = .pointer (some ⟨E, 0, none⟩))
    (he : w5.heap[E]? = some (.cells #[.int .i64 0] 33 (0, 0)))
    (hR : R (.returned (.tuple #[.int .i64 x, .int .i64 0])) w5) :
    Leaves Try.prog Try.f22 tmps R [{ target := .fn (.func 60) #[.pointer (some ⟨E, 0, none⟩)], args := #[] }] .returning w5 := by
  refine leaves_cons (f := 60) (args := #[.pointer (some ⟨E, 0, none⟩)]) (by simp) (by simp [go_sem, invoke]) ?_
  refine (catch_idle_groups E w5).mono ?_
  rintro e u' w' ⟨rfl, rfl, rfl⟩
  exact ⟨_, groups_run tmps E x 0 w' h2 h3 he, hR⟩
/-- As far as Groups has come. -/
structure SeenK (p : PairD) (i : Nat) (L : List Int) : Prop where
  nodup : L.Nodup
  range : ∀ y ∈ L, 0 ≤ y ∧ y < p.bs.length
  adj : ∀ y ∈ L, ∀ z, Adj p y z → z ∈ L
  from' : ∀ y ∈ L, ∃ j : Nat, j < i ∧ Conn p j y
  all : ∀ j : Nat, j < i → (j : Int) ∈ L
theorem SeenK.next {p : PairD} {i : Nat} {L L' : List Int} (h : SeenK p i L) (hj : JoinRel p i L L') : SeenK p (i + 1) L' := by
  refine ⟨hj.nodup, hj.range, fun y hy z hz => ?_, fun y hy => ?_, fun j hji => ?_⟩
  · by_cases hin : y ∈ L
    · exact hj.sub _ (h.adj y hin z hz)
    · exact hj.adj y hy hin z hz
  · rcases hj.conn y hy with h1 | h1
    · obtain ⟨j, h2, h3⟩ := h.from' y h1; exact ⟨j, by omega, h3⟩
    · exact ⟨i, by omega, h1⟩
  · by_cases he : j = i
    · subst he; exact hj.own
    · exact hj.sub _ (h.all j (by omega))
theorem SeenK.min {p : PairD} {i : Nat} {L : List Int} (h : SeenK p i L) : (i : Int) ∉ L ↔ IsMin p i := by
  constructor
  · intro hn k hk hc
    exact hn (hc.closed (S := fun y => y ∈ L) (h.all k hk) (fun u v hu ha => h.adj u hu v ha))
  · intro hm hin
    obtain ⟨j, h1, h2⟩ := h.from' _ hin
    exact hm j h1 h2
/-- How many of the first blocks are the least of all that hang together with them. -/
def ManyK (p : PairD) (i m : Nat) : Prop := ∃ f : Nat → Bool, (∀ j, j < i → (f j = true ↔ IsMin p j)) ∧ m = ((List.range i).filter f).length
theorem ManyK.next {p : PairD} {i m : Nat} {L : List Int} (h : ManyK p i m) (hs : SeenK p i L) : ManyK p (i + 1) (if (i : Int) ∈ L then m else m + 1) := by
  obtain ⟨f, h1, rfl⟩ := h
  refine ⟨fun j => if j = i then !decide ((i : Int) ∈ L) else f j, fun j hj => ?_, ?_⟩
  · by_cases he : j = i
    · subst he
      simp only [if_true, Bool.not_eq_true', decide_eq_false_iff_not]
      exact hs.min
    · simp only [if_neg he]
      exact h1 j (by omega)
  · rw [List.range_succ, List.filter_append, List.length_append]
    have e1 : (List.range i).filter (fun j => if j = i then !decide ((i : Int) ∈ L) else f j) = (List.range i).filter f := by
      apply List.filter_congr
      intro j hj
      rw [List.mem_range] at hj
      rw [if_neg (by omega)]
    rw [e1]
    by_cases hin : (i : Int) ∈ L
    · simp [hin]
    · simp [hin]

set_option maxRecDepth 100000 in
set_option maxHeartbeats 8000000 in
theorem groupsp_any (p : PairD) (bs rs : Value) (Rd : Nat → Prop) (w : World) (hRd : ∀ k, Rd k → k < w.heap.size) (hbs : SpansAt w bs p.bs Rd) (hrs : ReadsAt w rs p.rs Rd) :
    Calls Try.prog 22 #[.agg (pairRow p bs rs)] w fun e w' => (∃ n er, e = .returned (.tuple #[.int .i64 n, .int .i64 er]) ∧ GroupsRes p n er) ∧ Below w.heap.size w w' := by
  have hmf : ∀ fn first cap w, (Instr.makeFunc fn first cap).run Try.prog w = .ok (.func fn first cap) w := fun _ _ _ _ => rfl
  obtain ⟨W0, hW0⟩ : ∃ W0, W0 = (w.alloc (.cells (pairRow p bs rs) 27 (0, 0))).alloc (.cells #[.int .i64 0] 33 (0, 0)) := ⟨_, rfl⟩
  have w0 : W0.heap[w.heap.size]? = some (.cells (pairRow p bs rs) 27 (0, 0)) := by rw [hW0]; exact (by repeat (first | (refine heap_alloc_at _ _ _ ?_; (simp <;> omega); done) | (refine (hget_old _ _ _ ?_).trans ?_; · (simp <;> omega))))
  have w3 : W0.heap[w.heap.size + 1]? = some (.cells #[.int .i64 0] 33 (0, 0)) := by rw [hW0]; exact (by repeat (first | (refine heap_alloc_at _ _ _ ?_; (simp <;> omega); done) | (refine (hget_old _ _ _ ?_).trans ?_; · (simp <;> omega))))
  have hbW : Below w.heap.size w W0 := by rw [hW0]; exact ((Below.refl _ _).alloc (Nat.le_refl _) _).alloc (by simp) _
  have hsW : W0.heap.size = w.heap.size + 2 := by rw [hW0]; simp
  have hbsW : SpansAt W0 bs p.bs Rd := hbs.later (by omega) (fun k hk _ => hbW.block k hk)
  have hrsW : ReadsAt W0 rs p.rs Rd := hrs.later (by omega) (fun k hk _ => hbW.block k hk)
  have hf : validB p = true → ∀ W bp, Below W0.heap.size W0 W → W.heap[bp]? = some (benchObj bs rs p.zl p.zh p.rl p.rh (.map none)) → Calls Try.prog 61 (#[.pointer (some ⟨bp, 0, none⟩)] ++ #[]) W fun e W' => e = .returned (.bool true) ∧ W = W' := fun hv W bp hb hbp => always_any _ _
  have HF := Lib.hid hf
  have HBS := Lib.hid hbsW
  have HRS := Lib.hid hrsW
  have HB := Lib.hid hbW
  clear hf hbsW hrsW hbW hrs
  have c0 : W0.cell? ⟨w.heap.size, 0, none⟩ = some bs := by rw [cell_of_row W0 _ _ _ _ _ w0]; rfl
  have c1 : W0.cell? ⟨w.heap.size, 1, none⟩ = some (.int .i64 p.zl) := by rw [cell_of_row W0 _ _ _ _ _ w0]; rfl
  have c2 : W0.cell? ⟨w.heap.size, 2, none⟩ = some (.int .i64 p.zh) := by rw [cell_of_row W0 _ _ _ _ _ w0]; rfl
  have c3 : W0.cell? ⟨w.heap.size, 3, none⟩ = some (.int .i64 p.rl) := by rw [cell_of_row W0 _ _ _ _ _ w0]; rfl
  have c4 : W0.cell? ⟨w.heap.size, 4, none⟩ = some (.int .i64 p.rh) := by rw [cell_of_row W0 _ _ _ _ _ w0]; rfl
  have c5 : W0.cell? ⟨w.heap.size, 5, none⟩ = some rs := by rw [cell_of_row W0 _ _ _ _ _ w0]; rfl
  have eg := enters_of Try.func61 (by kernel_rfl) rfl
  have h3 := Lib.hid w3
  have h0 := Lib.hid w0
  clear w3 w0
  unfold pairRow at hW0 ⊢
  go_enter_defers Try.func22, Try.ntmps22
  go_wp2_with fail
  rw [← hW0]
  clear hW0
  cases hv : validB p with
  | false =>
    refine (open_bad p bs rs Rd W0 (by exact HBS.out) (by exact HRS.out) 61 #[] true eg (by exact HF.out) hv).mono ?_
    rintro e w5 ⟨rfl, hb5⟩
    refine groups_leaf 1 _ (w.heap.size + 1) _ w5 rfl rfl ((hb5.block _ (by omega)).trans h3.out) (fun W' hk => ⟨⟨_, _, rfl, .inl ⟨hv, rfl, rfl⟩⟩, ?_⟩)
    exact HB.out.trans ((hb5.mono (by omega)).trans (hk.below (by have := hb5.size; omega) (fun k h => by omega)))
  | true =>
    have hp := OkP.of p hv
    have hn5 := hp.n5
    refine (open_yes p bs rs Rd W0 (by exact HBS.out) (by exact HRS.out) 61 #[] true eg (by exact HF.out) hv rfl).mono ?_
    rintro e w5 ⟨bp, rfl, hle, hbp, hb5⟩
    have hle5 : W0.heap.size ≤ w5.heap.size := hb5.size
    have hltb := lt_of_block hbp
    have HB5 := Lib.hid (HB.out.trans (hb5.mono (by omega)))
    have hrs5 : ReadsAt w5 rs p.rs Rd := HRS.out.later hle5 (fun k hk _ => hb5.block k hk)
    have HBP := Lib.hid hbp
    have HB5' := Lib.hid hb5
    have HRS5 := Lib.hid hrs5
    clear hbp hb5 hrs5 c0 c1 c2 c3 c4 c5
    have hmm := @run_makeMap Try.prog
    obtain ⟨ao, cap, hbse, hc1, hc2, _⟩ := id hbs
    subst hbse
    have k0 : ∀ o, (w5.alloc o).cell? ⟨bp, 0, none⟩ = some (.slice ao p.bs.length cap) := fun o => by rw [cell_of_row _ _ _ _ _ _ ((Below.heap_alloc w5 o _ hltb).trans HBP.out)]; rfl
    go_wp2_with fail
    obtain ⟨W, hW⟩ : ∃ W, W = (((w5.alloc (boxPtr bp)).alloc (.map #[] 0)).alloc (.cells #[.map (some (w5.heap.size + 1))] 96)).alloc (.cells #[.nilFunc] 97) := ⟨_, rfl⟩
    have q0 : W.heap[w5.heap.size]? = some (boxPtr bp) := by rw [hW]; exact (by repeat (first | (refine heap_alloc_at _ _ _ ?_; (simp <;> omega); done) | (refine (hget_old _ _ _ ?_).trans ?_; · (simp <;> omega))))
    have q1 : W.heap[w5.heap.size + 1]? = some (setM []) := by rw [hW]; exact (by repeat (first | (refine heap_alloc_at _ _ _ ?_; (simp <;> omega); done) | (refine (hget_old _ _ _ ?_).trans ?_; · (simp <;> omega))))
    have q2 : W.heap[w5.heap.size + 1 + 1]? = some (.cells #[.map (some (w5.heap.size + 1))] 96 (0, 0)) := by rw [hW]; exact (by repeat (first | (refine heap_alloc_at _ _ _ ?_; (simp <;> omega); done) | (refine (hget_old _ _ _ ?_).trans ?_; · (simp <;> omega))))
    have q3 : W.heap[w5.heap.size + 1 + 1 + 1]? = some (.cells #[.nilFunc] 97 (0, 0)) := by rw [hW]; exact (by repeat (first | (refine heap_alloc_at _ _ _ ?_; (simp <;> omega); done) | (refine (hget_old _ _ _ ?_).trans ?_; · (simp <;> omega))))
    have hsW5 : W.heap.size = w5.heap.size + 4 := by rw [hW]; simp
    have hb5W : Below w5.heap.size w5 W := by rw [hW]; exact ((((Below.refl _ _).alloc (Nat.le_refl _) _).alloc (by simp) _).alloc (by simp <;> omega) _).alloc (by simp <;> omega) _
    have q4 := (hb5W.block bp hltb).trans HBP.out
    have j3 : W.cell? ⟨w5.heap.size + 1 + 1 + 1, 0, none⟩ = some .nilFunc := by rw [cell_of_row W _ _ _ _ _ q3]; rfl
    have j4 : ∀ k, W.frozen? ⟨w5.heap.size + 1 + 1 + 1, k, none⟩ = false := fun k => frozen_of_row W _ _ _ _ q3
    have l0 : ∀ v, (W.setCell ⟨w5.heap.size + 1 + 1 + 1, 0, none⟩ v).cell? ⟨w5.heap.size, 0, none⟩ = some (.pointer (some ⟨bp, 0, none⟩)) := fun v => by rw [cell_of_row _ _ _ _ _ _ ((Below.heap_setCell _ _ _ _ (by simp <;> omega)).trans q0)]; rfl
    have l1 : ∀ v, (W.setCell ⟨w5.heap.size + 1 + 1 + 1, 0, none⟩ v).cell? ⟨bp, 0, none⟩ = some (.slice ao p.bs.length cap) := fun v => by rw [cell_of_row _ _ _ _ _ _ ((Below.heap_setCell _ _ _ _ (by simp; omega)).trans q4)]; rfl
    have HW : Hid (JoinAt p (w5.heap.size + 1 + 1) w5.heap.size (w5.heap.size + 1 + 1 + 1) bp (w5.heap.size + 1) (.slice ao p.bs.length cap) rs (.map none) Rd (W.setCell ⟨w5.heap.size + 1 + 1 + 1, 0, none⟩ (.func (.func 62) #[] #[.pointer (some ⟨w5.heap.size + 1 + 1, 0, none⟩), .pointer (some ⟨w5.heap.size, 0, none⟩), .pointer (some ⟨w5.heap.size + 1 + 1 + 1, 0, none⟩)]))) := by
      refine ⟨(Below.heap_setCell _ _ _ _ (by simp <;> omega)).trans q2, (Below.heap_setCell _ _ _ _ (by simp <;> omega)).trans q0, one_setCell q3, (Below.heap_setCell _ _ _ _ (by simp; omega)).trans q4, by omega, by omega, by omega, by omega, fun k hk => by have := hRd k hk; omega, ?_⟩
      exact HRS5.out.later (by simp; omega) (fun k hk _ => (Below.heap_setCell _ _ _ _ (by simp; omega)).trans (hb5W.block k hk))
    have HM : Hid ((W.setCell ⟨w5.heap.size + 1 + 1 + 1, 0, none⟩ (.func (.func 62) #[] #[.pointer (some ⟨w5.heap.size + 1 + 1, 0, none⟩), .pointer (some ⟨w5.heap.size, 0, none⟩), .pointer (some ⟨w5.heap.size + 1 + 1 + 1, 0, none⟩)])).heap[w5.heap.size + 1]? = some (setM [])) := (Below.heap_setCell _ _ _ _ (by simp)).trans q1
    have HBW5 := Lib.hid hb5W
    clear q0 q1 q2 q3 q4 hb5W
    unfold boxPtr at hW
    rw [← hW]
    clear hW
    have hst : ∀ f a b, (store ⟨w5.heap.size + 1 + 1 + 1, 0, none⟩ (.func f a b)).run Try.prog W = .ok () (W.setCell ⟨w5.heap.size + 1 + 1 + 1, 0, none⟩ (.func f a b)) := fun f a b => (run_store Try.prog W _ _ _ rfl).trans (by simp [stored, j3, j4])
    rw [hst]
    have hbX := HBW5.out.setCell (p := ⟨w5.heap.size + 1 + 1 + 1, 0, none⟩) (by simp; omega) (.func (.func 62) #[] #[.pointer (some ⟨w5.heap.size + 1 + 1, 0, none⟩), .pointer (some ⟨w5.heap.size, 0, none⟩), .pointer (some ⟨w5.heap.size + 1 + 1 + 1, 0, none⟩)])
    obtain ⟨X, hX⟩ : ∃ X, X = W.setCell ⟨w5.heap.size + 1 + 1 + 1, 0, none⟩ (.func (.func 62) #[] #[.pointer (some ⟨w5.heap.size + 1 + 1, 0, none⟩), .pointer (some ⟨w5.heap.size, 0, none⟩), .pointer (some ⟨w5.heap.size + 1 + 1 + 1, 0, none⟩)]) := ⟨_, rfl⟩
    have m0 := l0 (.func (.func 62) #[] #[.pointer (some ⟨w5.heap.size + 1 + 1, 0, none⟩), .pointer (some ⟨w5.heap.size, 0, none⟩), .pointer (some ⟨w5.heap.size + 1 + 1 + 1, 0, none⟩)])
    have m1 := l1 (.func (.func 62) #[] #[.pointer (some ⟨w5.heap.size + 1 + 1, 0, none⟩), .pointer (some ⟨w5.heap.size, 0, none⟩), .pointer (some ⟨w5.heap.size + 1 + 1 + 1, 0, none⟩)])
    rw [← hX] at HW HM hbX m0 m1 ⊢
    have HBX := Lib.hid hbX
    have egj := enters_of Try.func62 (by kernel_rfl) rfl
    clear hX hbX hst l0 l1 j3 j4 k0
    go_wp2_with fail
    have hb5s := HB5.out.size
    have hbxs := HBX.out.size
    go_loopw [7, 20] (fun c i wr => ∃ (k m : Nat) (L : List Int), k ≤ p.bs.length ∧ i = .int .i64 k ∧ c = .int .i64 m ∧ m ≤ k ∧ wr.heap[w5.heap.size + 1]? = some (setM L) ∧ SeenK p k L ∧ ManyK p k m ∧ Keeps (fun k => k = w5.heap.size + 1) X wr) (fun _ i _ => p.bs.length - (intOf i).toNat)
    case atStart => exact ⟨0, 0, [], by omega, rfl, rfl, by omega, HM.out, ⟨by simp, by simp, by simp, by simp, by intro j hj; omega⟩, ⟨fun _ => true, by intro j hj; omega, rfl⟩, Keeps.refl _ _⟩
    case round =>
      obtain ⟨k, m, L, hk, rfl, rfl, hmk, hmap, hsn, hmy, hkk⟩ := hrel
      have HA := Lib.hid (HW.out.later hkk)
      have HMP := Lib.hid hmap
      have HSN := Lib.hid hsn
      have HMY := Lib.hid (hmy.next hsn)
      have HMY0 := Lib.hid hmy
      have HKK := Lib.hid hkk
      clear m0 m1
      by_cases hlk : k < p.bs.length
      · have hlkp := lookup_set (w5.heap.size + 1) L k wr hmap
        have d1 : wr.cell? ⟨w5.heap.size + 1 + 1, 0, none⟩ = some (.map (some (w5.heap.size + 1))) := by rw [cell_of_row wr _ _ _ _ _ HA.out.h1]; rfl
        have d3 : wr.cell? ⟨w5.heap.size + 1 + 1 + 1, 0, none⟩ = some (.func (.func 62) #[] #[.pointer (some ⟨w5.heap.size + 1 + 1, 0, none⟩), .pointer (some ⟨w5.heap.size, 0, none⟩), .pointer (some ⟨w5.heap.size + 1 + 1 + 1, 0, none⟩)]) := by rw [cell_of_row wr _ _ _ _ _ HA.out.h3]; rfl
        clear hmap hsn hmy hkk
        have HJ := Lib.hid (join_any p hv _ _ _ bp (w5.heap.size + 1) _ rs _ Rd p.bs.length k L wr (by omega) (by omega) (by omega) HSN.out.nodup HSN.out.range HA.out HMP.out)
        by_cases hin : (k : Int) ∈ L
        · rw [show decide ((k : Int) ∈ L) = true by simpa using hin] at hlkp
          have e1 := HMY.out
          rw [if_pos hin] at e1
          have E1 := Lib.hid e1
          clear e1 hin
          go_wp2_with fail
          refine HJ.out.mono ?_
          rintro e w8 ⟨rfl, ⟨L', hm', hj'⟩, hk8⟩
          have HM8 := Lib.hid hm'
          have HJ8 := Lib.hid (HSN.out.next hj')
          have HK8 := Lib.hid (HKK.out.trans hk8)
          clear hm' hj' hk8
          go_wp2
          exact ⟨⟨k + 1, m, L', by omega, by go_num, rfl, by omega, HM8.out, HJ8.out, E1.out, HK8.out⟩, by simp [intOf]; omega⟩
        · rw [show decide ((k : Int) ∈ L) = false by simpa using hin] at hlkp
          have e1 := HMY.out
          rw [if_neg hin] at e1
          have E1 := Lib.hid e1
          clear e1 hin
          go_wp2_with fail
          refine HJ.out.mono ?_
          rintro e w8 ⟨rfl, ⟨L', hm', hj'⟩, hk8⟩
          have HM8 := Lib.hid hm'
          have HJ8 := Lib.hid (HSN.out.next hj')
          have HK8 := Lib.hid (HKK.out.trans hk8)
          clear hm' hj' hk8
          go_wp2
          exact ⟨⟨k + 1, m + 1, L', by omega, by go_num, by go_num, by omega, HM8.out, HJ8.out, E1.out, HK8.out⟩, by simp [intOf]; omega⟩
      · obtain rfl : k = p.bs.length := by omega
        clear hmap hsn hmy hkk
        have hbX : Below w5.heap.size w5 wr := HBX.out.trans (HKK.out.below (by omega) (fun k h => by omega))
        have k3 := (hbX.block (w.heap.size + 1) (by omega)).trans ((HB5'.out.block _ (by omega)).trans h3.out)
        have d0 : wr.cell? ⟨w.heap.size + 1, 0, none⟩ = some (.int .i64 0) := by rw [cell_of_row wr _ _ _ _ _ k3]; rfl
        have d1 : ∀ j, wr.frozen? ⟨w.heap.size + 1, j, none⟩ = false := fun j => frozen_of_row _ _ _ _ _ k3
        have K3 := Lib.hid k3
        have HBL := Lib.hid (HB5.out.trans (hbX.mono (by omega)))
        clear k3 hbX
        go_wp2
        obtain ⟨W9, hW9⟩ : ∃ W9, W9 = wr.setCell ⟨w.heap.size + 1, 0, none⟩ (.int .i64 0) := ⟨_, rfl⟩
        have l3 : W9.heap[w.heap.size + 1]? = some (.cells #[.int .i64 0] 33 (0, 0)) := by rw [hW9]; simp [World.setCell, Array.getElem?_modify, K3.out]
        have hb9 : Below w.heap.size w W9 := by rw [hW9]; exact HBL.out.setCell (by simp) _
        rw [← hW9]
        obtain ⟨f, hf1, hf2⟩ := HMY0.out
        exact groups_leaf_ret _ (w.heap.size + 1) _ _ W9 rfl rfl l3 ⟨⟨_, _, rfl, .inr ⟨hv, rfl, f, hf1, by rw [hf2]⟩⟩, hb9⟩

end Go.Proofs.Ytabbmihakoeegaa
