/- A pair with some of its readings alone: the walk. -/
import Derived.Test.YtlgeggekmdoceaaZf
namespace Go.Proofs.Ytlgeggekmdoceaa
set_option linter.unusedVariables false
set_option linter.unusedSimpArgs false
open Go.RowKit Go.Shelf
attribute [local go_sem] Oper.semAt_some

theorem infoRead : (Try.prog.info? 44).map (fun i => (i.zero, i.size, i.bytes)) = some (some (.agg #[.int .i64 0, .int .i64 0, .int .i64 0, .int .i64 0, .int .i64 0]), 5, 40) := by kernel_rfl
theorem flat_length : ∀ (l : List RdD), (l.flatMap rdC).length = l.length * 5
  | [] => rfl
  | r :: l => by rw [List.flatMap_cons, List.length_append, flat_length l, List.length_cons]; simp [rdC]; omega
theorem flat_at : ∀ (l : List RdD) (i q : Nat) (hi : i < l.length), q < 5 → (l.flatMap rdC)[i * 5 + q]? = (rdC l[i])[q]?
  | [], i, q, hi, _ => by simp at hi
  | r :: l, 0, q, _, hq => by
    rw [List.flatMap_cons, List.getElem?_append_left (by simp [rdC]; omega)]
    simp
  | r :: l, i + 1, q, hi, hq => by
    have h5 : (rdC r).length = 5 := rfl
    rw [List.flatMap_cons, List.getElem?_append_right (by rw [h5]; omega), h5, show (i + 1) * 5 + q - 5 = i * 5 + q by omega]
    simpa using flat_at l i q (by simpa using hi) hq
theorem flat_one (l : List RdD) : ∀ v ∈ l.flatMap rdC, v.oneCell' = true := by
  intro v hv
  obtain ⟨r, _, hr⟩ := List.mem_flatMap.1 hv
  simp only [rdC, List.mem_cons, List.not_mem_nil, or_false] at hr
  rcases hr with rfl | rfl | rfl | rfl | rfl <;> rfl
/-- Readings are copied into a row. -/
theorem copy_reads (l : List RdD) (ao : Option Addr) (cap : Nat) (Rd : Nat → Prop) (W : World) (h : ReadsAt W (.slice ao l.length cap) l Rd) (ob : Nat) (cur : Array Value) (hob : W.heap[ob]? = some (.cells cur 44 (0, 0))) (hsz : cur.size = 5 * l.length) :
    ∃ W2 cur2, (Builtin.copy_ #[25, 25] 3 #[.slice (some ⟨ob, 0, none⟩) l.length l.length, .slice ao l.length cap]).run Try.prog W = .ok (.int .i64 l.length) W2 ∧
      W2.heap[ob]? = some (.cells cur2 44 (0, 0)) ∧ cur2.size = 5 * l.length ∧ (∀ i (hi : i < l.length), RdIn cur2 i l[i]) ∧ Keeps (fun k => k = ob) W W2 ∧ W2.heap.size = W.heap.size := by
  obtain ⟨ao', cap', he, _, _, hel⟩ := h
  cases he
  by_cases h0 : l = []
  · subst h0
    refine ⟨W, cur, ?_, hob, hsz, fun i hi => by simp at hi, Keeps.refl _ _, rfl⟩
    obtain ⟨i0, hi0, hz0, hz1, hz2⟩ := info_parts infoRead
    have hu : Try.prog.underlying 25 = some (.slice 44) := by kernel_rfl
    have hl0 : (loadCells ⟨0, 0, none⟩ 0).run Try.prog W = .ok #[] W := by rfl
    cases ao with
    | none => simp [Builtin.copy_, run_underlying hu, Builtin.lenOf, Builtin.firstCells, sizeOf, typeInfo, hi0, hz1, goInt, storeCells]
    | some a =>
      have hla := run_loadCells_list (P := Try.prog) W a [] (fun j v h => by simp at h)
      simp at hla
      simp [Builtin.copy_, run_underlying hu, Builtin.lenOf, Builtin.firstCells, sizeOf, typeInfo, hi0, hz1, goInt, storeCells, hla]
  · obtain ⟨b, off, rfl, _⟩ := hel 0 (List.length_pos_iff.2 h0)
    have hseg := seg_of cur 0 (l.flatMap rdC) (by rw [flat_length]; omega)
    refine ⟨_, _, (run_copy_rows W _ _ _ 44 5 ob 0 _ _ ⟨b, off, none⟩ _ _ cur 44 (l.flatMap rdC) (by kernel_rfl) (by kernel_rfl) hob (by rw [flat_length]; simp) ?_ (by rw [flat_length]; omega) (flat_one l)).trans ?_, setRow_heap _ _ _ _ _ _ hob, hseg.size.trans hsz, ?_, keeps_setRow _ _ _, by simp⟩
    · intro j v hj
      have hjl : j < l.length * 5 := by have := (List.getElem?_eq_some_iff.1 hj).1; rwa [flat_length] at this
      obtain ⟨b2, off2, he2, _, _, e1, e2, e3, e4, e5⟩ := hel (j / 5) (by omega)
      cases he2
      have hq : j % 5 < 5 := Nat.mod_lt _ (by omega)
      have hj2 : j = j / 5 * 5 + j % 5 := by omega
      have hjl2 : j / 5 < l.length := by omega
      rw [hj2, flat_at l (j / 5) (j % 5) hjl2 hq] at hj
      rw [Addr.add_mid, show off + j = off + j / 5 * 5 + j % 5 by omega]
      have hjc : j % 5 = 0 ∨ j % 5 = 1 ∨ j % 5 = 2 ∨ j % 5 = 3 ∨ j % 5 = 4 := by omega
      rcases hjc with hc | hc | hc | hc | hc <;> rw [hc] at hj ⊢ <;> simp [rdC] at hj <;> subst hj
      · exact e1
      · exact e2
      · exact e3
      · exact e4
      · exact e5
    · simp [goInt]
    · intro i hi q hq
      have := hseg.own (i * 5 + q) (by rw [flat_length]; omega)
      simp only [Nat.zero_add] at this ⊢
      rw [this]
      exact flat_at l i q hi hq

theorem pairRow_one (p : PairD) (bs rs : Value) (h1 : bs.oneCell' = true) (h2 : rs.oneCell' = true) : (pairRow p bs rs).all (·.oneCell') = true := by
  have h3 : ∀ n, (Value.int .i64 n).oneCell' = true := fun _ => rfl
  simp [pairRow, h1, h2, h3]
set_option maxRecDepth 100000 in
set_option maxHeartbeats 4000000 in
theorem only_any (p : PairD) (bs rs : Value) (s : Nat) (hs : s < 256) (hm8 : p.rs.length ≤ 8) (hb1c : bs.oneCell' = true) (Rd : Nat → Prop) (w : World) (hrs : ReadsAt w rs p.rs Rd) :
    Calls Try.prog 99 #[.agg (pairRow p bs rs), .int .u64 s] w fun e w' => ∃ rs', e = .returned (.agg (pairRow { p with rs := keptL p.rs s p.rs.length } bs rs')) ∧ Below w.heap.size w w' ∧
      ReadsAt w' rs' (keptL p.rs s p.rs.length) (fun k => w.heap.size ≤ k) := by
  obtain ⟨ao, cap, rfl, hc1, hc2, hel⟩ := id hrs
  clear hel
  obtain ⟨W0, hW0⟩ : ∃ W0, W0 = ((w.alloc (.cells (pairRow p bs (.slice ao p.rs.length cap)) 27 (0, 0))).alloc (.cells #[.int .u64 s] 89 (0, 0))).alloc (.cells #[.slice none 0 0, .int .i64 0, .int .i64 0, .int .i64 0, .int .i64 0, .slice none 0 0] 27 (0, 0)) := ⟨_, rfl⟩
  have w0 : W0.heap[w.heap.size]? = some (.cells (pairRow p bs (.slice ao p.rs.length cap)) 27 (0, 0)) := by rw [hW0]; exact (by repeat (first | (refine heap_alloc_at _ _ _ ?_; (simp <;> omega); done) | (refine (hget_old _ _ _ ?_).trans ?_; · (simp <;> omega))))
  have w1 : W0.heap[w.heap.size + 1]? = some (.cells #[.int .u64 s] 89 (0, 0)) := by rw [hW0]; exact (by repeat (first | (refine heap_alloc_at _ _ _ ?_; (simp <;> omega); done) | (refine (hget_old _ _ _ ?_).trans ?_; · (simp <;> omega))))
  have w2 : W0.heap[w.heap.size + 1 + 1]? = some (.cells #[.slice none 0 0, .int .i64 0, .int .i64 0, .int .i64 0, .int .i64 0, .slice none 0 0] 27 (0, 0)) := by rw [hW0]; exact (by repeat (first | (refine heap_alloc_at _ _ _ ?_; (simp <;> omega); done) | (refine (hget_old _ _ _ ?_).trans ?_; · (simp <;> omega))))
  have hbW : Below w.heap.size w W0 := by rw [hW0]; exact (((Below.refl _ _).alloc (Nat.le_refl _) _).alloc (by simp) _).alloc (by simp <;> omega) _
  have hsW : W0.heap.size = w.heap.size + 3 := by rw [hW0]; simp
  have hmk : (Instr.makeSlice 25 (.int .i64 p.rs.length) (.int .i64 p.rs.length)).run Try.prog W0 = .ok (.slice (some ⟨W0.heap.size, 0, none⟩) p.rs.length p.rs.length) (W0.alloc (.cells (madeCells #[.int .i64 0, .int .i64 0, .int .i64 0, .int .i64 0, .int .i64 0] (p.rs.length * 5)) 44)) := by
    obtain ⟨i0, hi0, hz0, hz1, hz2⟩ := info_parts infoRead
    have := run_makeSlice (P := Try.prog) (w := W0) 25 44 i0 _ (by kernel_rfl) hi0 hz0 .i64 .i64 p.rs.length p.rs.length (by omega) (by omega) (by rw [hz1]; simp; omega) (by rw [hz2]; omega) (by omega)
    rw [hz1] at this
    simpa [Value.cells] using this
  obtain ⟨cur0, hcur0⟩ : ∃ cur0, cur0 = madeCells #[.int .i64 0, .int .i64 0, .int .i64 0, .int .i64 0, .int .i64 0] (p.rs.length * 5) := ⟨_, rfl⟩
  rw [← hcur0] at hmk
  have hsz0 : cur0.size = 5 * p.rs.length := by rw [hcur0, size_madeCells]; omega
  obtain ⟨W1, hW1⟩ : ∃ W1, W1 = W0.alloc (.cells cur0 44) := ⟨_, rfl⟩
  rw [← hW1] at hmk
  have hb1 : Below W0.heap.size W0 W1 := by rw [hW1]; exact (Below.refl _ _).alloc (Nat.le_refl _) _
  have hs1 : W1.heap.size = W0.heap.size + 1 := by rw [hW1]; simp
  have hob : W1.heap[W0.heap.size]? = some (.cells cur0 44 (0, 0)) := by rw [hW1]; exact heap_alloc_at _ _ _ rfl
  have v0 := (hb1.block _ (by omega)).trans w0
  have c5 : W0.cell? ⟨w.heap.size, 5, none⟩ = some (.slice ao p.rs.length cap) := by rw [cell_of_row W0 _ _ _ _ _ w0]; rfl
  have d5 : W1.cell? ⟨w.heap.size, 5, none⟩ = some (.slice ao p.rs.length cap) := by rw [cell_of_row W1 _ _ _ _ _ v0]; rfl
  have hrs1 : ReadsAt W1 (.slice ao p.rs.length cap) p.rs Rd := hrs.later (by omega) (fun k hk _ => (hb1.block k (by omega)).trans (hbW.block k hk))
  obtain ⟨W2, cur2, hcp, hob2, hsz2, hrow2, hk2, hs2⟩ := copy_reads p.rs ao cap Rd W1 hrs1 W0.heap.size cur0 hob hsz0
  have y0 := (hk2.block w.heap.size (by omega) (by omega)).trans v0
  have y1 := (hk2.block (w.heap.size + 1) (by omega) (by omega)).trans ((hb1.block _ (by omega)).trans w1)
  have y2 := (hk2.block (w.heap.size + 1 + 1) (by omega) (by omega)).trans ((hb1.block _ (by omega)).trans w2)
  have hbw2 : Below w.heap.size w W2 := hbW.trans ((hb1.mono (by omega)).trans (hk2.below (by omega) (fun k h => by omega)))
  rw [hsW] at hmk hcp hob2 hs1
  have hs22 : W2.heap.size = w.heap.size + 4 := by omega
  have HMK := Lib.hid hmk
  have HCP := Lib.hid hcp
  have HOB := Lib.hid hob2
  have HROW := Lib.hid hrow2
  have HBW2 := Lib.hid hbw2
  have Y0 := Lib.hid y0
  have Y1 := Lib.hid y1
  have Y2 := Lib.hid y2
  have hmf : ∀ fn first cap w, (Instr.makeFunc fn first cap).run Try.prog w = .ok (.func fn first cap) w := fun _ _ _ _ => rfl
  clear hmk hW1 hcur0 hob hb1 hcp hob2 hrow2 hbw2 y0 y1 y2 hk2 hrs1 hrs hbW v0 w0 w1 w2
  unfold pairRow at hW0 ⊢
  go_enter Try.func99, Try.ntmps99
  go_wp2_with fail
  rw [← hW0]
  clear hW0
  rw [HMK.out]
  go_wp2_with fail
  rw [HCP.out]
  go_wp2_with fail
  have e1 := (hget_old W2 (.cells #[.int .i64 (-1)] 3 (0, 0)) (w.heap.size + 3) (by omega)).trans HOB.out
  have e2 := heap_alloc_at W2 (.cells #[.int .i64 (-1)] 3 (0, 0)) (w.heap.size + 3 + 1) (by omega)
  have e3 := (hget_old W2 (.cells #[.int .i64 (-1)] 3 (0, 0)) (w.heap.size + 1) (by omega)).trans Y1.out
  refine (delete_any p.rs hm8 s hs (w.heap.size + 3 + 1) (w.heap.size + 1) (w.heap.size + 3) (by omega) (by omega) (by omega) cur2 _ e1 hsz2 HROW.out e2 e3).mono ?_
  rintro e w5 ⟨hk5, rfl, cur5, hob5, hsz5, hrow5⟩
  have hs5 : W2.heap.size + 1 ≤ w5.heap.size := by have := hk5.size; simpa using this
  have z0 := (hk5.block w.heap.size (by simp; omega) (by omega)).trans ((hget_old W2 (.cells #[.int .i64 (-1)] 3 (0, 0)) w.heap.size (by omega)).trans Y0.out)
  have z2 := (hk5.block (w.heap.size + 1 + 1) (by simp; omega) (by omega)).trans ((hget_old W2 (.cells #[.int .i64 (-1)] 3 (0, 0)) (w.heap.size + 1 + 1) (by omega)).trans Y2.out)
  have hb5 : Below w.heap.size w w5 := (HBW2.out.alloc (by omega) _).trans (hk5.below (by simp; omega) (fun k h => by omega))
  have c0 : w5.cell? ⟨w.heap.size, 0, none⟩ = some bs := by rw [cell_of_row w5 _ _ _ _ _ z0]; rfl
  have c1 : w5.cell? ⟨w.heap.size, 1, none⟩ = some (.int .i64 p.zl) := by rw [cell_of_row w5 _ _ _ _ _ z0]; rfl
  have c2 : w5.cell? ⟨w.heap.size, 2, none⟩ = some (.int .i64 p.zh) := by rw [cell_of_row w5 _ _ _ _ _ z0]; rfl
  have c3 : w5.cell? ⟨w.heap.size, 3, none⟩ = some (.int .i64 p.rl) := by rw [cell_of_row w5 _ _ _ _ _ z0]; rfl
  have c4 : w5.cell? ⟨w.heap.size, 4, none⟩ = some (.int .i64 p.rh) := by rw [cell_of_row w5 _ _ _ _ _ z0]; rfl
  have c5' : w5.cell? ⟨w.heap.size, 5, none⟩ = some (.slice ao p.rs.length cap) := by rw [cell_of_row w5 _ _ _ _ _ z0]; rfl
  have fz : ∀ k, w5.frozen? ⟨w.heap.size, k, none⟩ = false := fun k => frozen_of_row _ _ _ _ _ z0
  obtain ⟨sl, hsl⟩ : ∃ sl, sl = Value.slice (some ⟨w.heap.size + 3, 0, none⟩) (keptL p.rs s p.rs.length).length p.rs.length := ⟨_, rfl⟩
  obtain ⟨W6, hW6⟩ : ∃ W6, W6 = w5.setCell ⟨w.heap.size, 5, none⟩ sl := ⟨_, rfl⟩
  have k0 : W6.heap[w.heap.size]? = some (.cells (pairRow p bs sl) 27 (0, 0)) := by
    rw [hW6]; unfold pairRow at z0 ⊢; simp [World.setCell, Array.getElem?_modify, z0]
  have k2 : W6.heap[w.heap.size + 1 + 1]? = some (.cells #[.slice none 0 0, .int .i64 0, .int .i64 0, .int .i64 0, .int .i64 0, .slice none 0 0] 27 (0, 0)) := (by rw [hW6]; exact (Below.heap_setCell _ _ _ _ (by simp <;> omega)).trans z2)
  have k3 : W6.heap[w.heap.size + 3]? = some (.cells cur5 44 (0, 0)) := by rw [hW6]; exact (Below.heap_setCell _ _ _ _ (by simp <;> omega)).trans hob5
  have hb6 : Below w.heap.size w W6 := by rw [hW6]; exact hb5.setCell (by simp) _
  have Z := Lib.hid z0
  have Z2 := Lib.hid z2
  have K0 := Lib.hid k0
  have K2 := Lib.hid k2
  have K3 := Lib.hid k3
  have HB6 := Lib.hid hb6
  have HW6 := Lib.hid hW6
  clear z0 z2 k0 k2 k3 hb6 hk5 hob5 hb5 hW6
  subst hsl
  have K2' : Hid ((w5.setCell ⟨w.heap.size, 5, none⟩ (.slice (some ⟨w.heap.size + 3, 0, none⟩) (keptL p.rs s p.rs.length).length p.rs.length)).heap[w.heap.size + 1 + 1]? = some (.cells #[.slice none 0 0, .int .i64 0, .int .i64 0, .int .i64 0, .int .i64 0, .slice none 0 0] 27 (0, 0))) := by
    have := K2.out
    rw [HW6.out] at this
    exact this
  go_wp2_with (first | (refine wpList_storeA rfl 27 _ _ rfl (w.heap.size + 1 + 1) (pairRow p bs (.slice (some ⟨w.heap.size + 3, 0, none⟩) (keptL p.rs s p.rs.length).length p.rs.length)) rfl rfl 27 _ K2'.out rfl rfl (pairRow_one p bs _ hb1c rfl) ?_))
  rw [← HW6.out]
  intro w7 h7 hk7 hs7
  go_wp2
  refine bodyPost_ret (v := .agg (pairRow p bs (.slice (some ⟨w.heap.size + 3, 0, none⟩) (keptL p.rs s p.rs.length).length p.rs.length))) (results_cell_row (fn := Try.f99) (p := 4) rfl _ _ (w.heap.size + 1 + 1) 27 _ (0, 0) _ rfl h7 underPair rfl rfl) rfl ⟨_, rfl, HB6.out.trans (hk7.below (by have := HB6.out.size; omega) (fun k h => by omega)), ?_⟩
  refine ⟨_, _, rfl, keptL_le _ _ _, by unfold maxLen; omega, fun i hi => ?_⟩
  have k7 := (hk7.block (w.heap.size + 3) (lt_of_block K3.out) (by omega)).trans K3.out
  have := hrow5 i hi
  refine ⟨w.heap.size + 3, 0, rfl, by omega, lt_of_block k7, ?_, ?_, ?_, ?_, ?_⟩
  · rw [Nat.zero_add, cell_of_row w7 _ _ _ _ _ k7]; exact this 0 (by omega)
  · rw [Nat.zero_add, cell_of_row w7 _ _ _ _ _ k7]; exact this 1 (by omega)
  · rw [Nat.zero_add, cell_of_row w7 _ _ _ _ _ k7]; exact this 2 (by omega)
  · rw [Nat.zero_add, cell_of_row w7 _ _ _ _ _ k7]; exact this 3 (by omega)
  · rw [Nat.zero_add, cell_of_row w7 _ _ _ _ _ k7]; exact this 4 (by omega)

end Go.Proofs.Ytlgeggekmdoceaa
