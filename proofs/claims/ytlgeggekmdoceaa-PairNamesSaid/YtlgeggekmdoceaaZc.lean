/- Stores into the middle of a row; clear of a row's tail. -/
import Derived.Test.YtlgeggekmdoceaaZb
import Derived.Laws.CopyRow
namespace Go.Proofs.Ytlgeggekmdoceaa
set_option linter.unusedVariables false
set_option linter.unusedSimpArgs false
open Go.RowKit Go.Shelf

/-- A row in which a segment is changed. -/
structure Seg (cur cur' : Array Value) (o : Nat) (cs : List Value) : Prop where
  size : cur'.size = cur.size
  other : ∀ k, (k < o ∨ o + cs.length ≤ k) → cur'[k]? = cur[k]?
  own : ∀ k, k < cs.length → cur'[o + k]? = cs[k]?
theorem seg_of (cur : Array Value) (o : Nat) (cs : List Value) (h : o + cs.length ≤ cur.size) : Seg cur (cur.toList.take o ++ cs ++ cur.toList.drop (o + cs.length)).toArray o cs := by
  refine ⟨by simp; omega, fun k hk => ?_, fun k hk => ?_⟩
  · simp only [List.getElem?_toArray, List.getElem?_append, List.length_append, List.length_take, Array.length_toList, List.getElem?_take, List.getElem?_drop, Array.getElem?_toList]
    have hm : min o cur.size = o := by omega
    rw [hm]
    rcases hk with hk | hk
    · simp [hk, show k < o + cs.length by omega]
    · simp [show ¬ k < o + cs.length by omega, show o + cs.length + (k - (o + cs.length)) = k by omega]
  · simp only [List.getElem?_toArray, List.getElem?_append, List.length_append, List.length_take, Array.length_toList]
    have hm : min o cur.size = o := by omega
    rw [hm]
    simp [show o + k < o + cs.length by omega]
    intro h; omega
theorem run_store_at {P : Program} {o : Oper} {ρ : Operand → Value} {w : World} (ty : TypeId) (x y : Operand) (ho : o.op = .store ty x y)
    (g off : Nat) (cells : Array Value) (hx : ρ x = .pointer (some ⟨g, off, none⟩)) (hy : ρ y = .agg cells)
    (t : TypeId) (cur : Array Value) (hg : w.heap[g]? = some (.cells cur t (0, 0))) (hi : (P.info? ty).map (·.size) = some cells.size)
    (hfit : off + cells.size ≤ cur.size) (h1 : cells.all (·.oneCell') = true) :
    (execOp ρ o).run P w = .ok .skip (w.setRow g (cur.toList.take off ++ cells.toList ++ cur.toList.drop (off + cells.toList.length)).toArray) := by
  have hst := run_storeCells_at P g off t cells.toList 0 cur w hg (by simpa using hfit) (fun v hv => (Array.all_eq_true_iff_forall_mem.1 h1) v (by simpa using hv))
  have hsv : (storeVar ty ⟨g, off, none⟩ (.agg cells)).run P w = .ok () (w.setRow g (cur.toList.take off ++ cells.toList ++ cur.toList.drop (off + cells.toList.length)).toArray) := by
    cases hq : P.info? ty with
    | none => simp [hq] at hi
    | some i =>
      have hs : cells.size = i.size := by simp [hq] at hi; omega
      simp [storeVar, sizeOf, typeInfo, hq, Value.cells, hs] at hst ⊢
      exact hst
  unfold execOp
  simp only [ho, hx, hy, Instr.storeAt, Instr.sureAddr, Sem.run_bind, Sem.run_pure, Result.andThen_ok, hsv]
theorem wpList_store_at {P : Program} {ops : Array Oper} {rest : List Oper} {o : Oper} {a : Act} {w : World} {Q : Exit → Act → World → Prop} (hgd : o.guard = none) (ty : TypeId) (x y : Operand) (ho : o.op = .store ty x y)
    (g off : Nat) (cells : Array Value) (hx : a.eval x = .pointer (some ⟨g, off, none⟩)) (hy : a.eval y = .agg cells)
    (t : TypeId) (cur : Array Value) (hg : w.heap[g]? = some (.cells cur t (0, 0))) (hi : (P.info? ty).map (·.size) = some cells.size)
    (hfit : off + cells.size ≤ cur.size) (h1 : cells.all (·.oneCell') = true)
    (h : ∀ w' cur', Seg cur cur' off cells.toList → w'.heap[g]? = some (.cells cur' t (0, 0)) → Keeps (fun k => k = g) w w' → w'.heap.size = w.heap.size → wpList P ops Q rest (a.put o.dst undef) w') : wpList P ops Q (o :: rest) a w := by
  refine wpList_plain hgd fun K hK => ?_
  unfold Oper.wp
  rw [run_store_at ty x y ho g off cells hx hy t cur hg hi hfit h1]
  exact hK _ _ (h _ _ (seg_of cur off cells.toList (by simpa using hfit)) (setRow_heap _ _ _ _ _ _ hg) (keeps_setRow _ _ _) (by simp))

/-- 'clear' of the tail of a row. -/
theorem run_clear_at {P : Program} {w : World} (t ty elem : TypeId) (ht : P.underlying t = some (.slice elem)) (g off n cap : Nat) (te : TypeId) (cur : Array Value) (hg : w.heap[g]? = some (.cells cur te (0, 0)))
    (z : Array Value) (hz : (zeroValue elem).run P w = .ok (.agg z) w) (hfit : off + (Builtin.zeroCells z n).size ≤ cur.size) (h1 : ∀ v ∈ (Builtin.zeroCells z n).toList, v.oneCell' = true) :
    ∃ w' cur', (Builtin.clear_ #[t] ty #[.slice (some ⟨g, off, none⟩) n cap]).run P w = .ok (.tuple #[]) w' ∧ w'.heap[g]? = some (.cells cur' te (0, 0)) ∧ cur'.size = cur.size ∧ (∀ k, k < off → cur'[k]? = cur[k]?) ∧ Keeps (fun k => k = g) w w' ∧ w'.heap.size = w.heap.size := by
  cases n with
  | zero => exact ⟨w, cur, by simp [Builtin.clear_, run_underlying ht], hg, rfl, fun k _ => rfl, Keeps.refl _ _, rfl⟩
  | succ n =>
    have hst := run_storeCells_at P g off te (Builtin.zeroCells z (n + 1)).toList 0 cur w hg (by simpa using hfit) h1
    have hs := seg_of cur off (Builtin.zeroCells z (n + 1)).toList (by simpa using hfit)
    refine ⟨_, _, ?_, setRow_heap _ _ _ _ _ _ hg, hs.size, fun k hk => hs.other k (.inl hk), keeps_setRow _ _ _, by simp⟩
    have hc : (Value.agg z).cells = z := rfl
    simp only [Nat.add_zero] at hst
    simp [Builtin.clear_, run_underlying ht, hz, hc, hst]

end Go.Proofs.Ytlgeggekmdoceaa
