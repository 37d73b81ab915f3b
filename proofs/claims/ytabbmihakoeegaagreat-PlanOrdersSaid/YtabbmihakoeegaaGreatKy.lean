/- Texts Yl, Rt, Qv, Qw, Qx, Qy in one file; each begins with a word on what it proves. -/
import Derived.Test.YtabbmihakoeegaaGreatKn
import Derived.Test.YtabbmihakoeegaaGreatKi
import Derived.Test.YtabbmihakoeegaaGreatKv

/- PlanClosed (plain): a least set of readings that leaves as few groups as all has as many readings as blocks less groups. -/
namespace Go.Proofs.YtabbmihakoeegaaGreat
set_option linter.unusedVariables false
set_option linter.unusedSimpArgs false
open Go.RowKit Stab

def cS (p : PairD) (s : Nat) : Nat := cntM (onlyP p s)
theorem groupsS_is {p : PairD} (hv : validB p = true) (s : Nat) : groupsS p s = (cS p s : Int) := by
  unfold groupsS
  rw [groupsV_yes (onlyP_valid p s hv)]
  rfl
def closeS (q : PlanD) : Nat := firstV (fun s => decide (groupsS q.pr s = groupsS q.pr (everyV q))) (setsV q false)
end Go.Proofs.YtabbmihakoeegaaGreat

/- The reference: Groups. -/
namespace Go.Proofs.YtabbmihakoeegaaGreat
set_option linter.unusedVariables false
set_option linter.unusedSimpArgs false
open Go.RowKit Go.Shelf
attribute [local go_sem] Oper.semAt_some

def labO (l : List Int) : Obj := .cells ((l.map (Value.int .i64)).toArray) 3 (0, 0)
theorem infoInt3 : (Tryz.prog.info? 3).map (fun i => (i.zero, i.size, i.bytes)) = some (some (.int .i64 0), 1, 8) := by kernel_rfl
theorem lab_cell {W : World} {b : Nat} {l : List Int} (h : W.heap[b]? = some (labO l)) (i : Nat) (hi : i < l.length) : W.cell? ⟨b, i, none⟩ = some (.int .i64 l[i]) := by
  rw [cell_of_row W b i _ _ _ h]
  simp [hi]
theorem lab_frozen {W : World} {b : Nat} {l : List Int} (h : W.heap[b]? = some (labO l)) (i : Nat) : W.frozen? ⟨b, i, none⟩ = false := frozen_of_row W b i _ _ h
theorem lab_set {W : World} {b : Nat} {l : List Int} (h : W.heap[b]? = some (labO l)) (i : Nat) (v : Int) : (W.setCell ⟨b, i, none⟩ (.int .i64 v)).heap[b]? = some (labO (l.set i v)) := by
  unfold labO at *
  simp [World.setCell, Array.getElem?_modify, h, List.map_set]
theorem lab_made (n : Nat) : madeCells #[.int .i64 0] n = ((List.replicate n (0 : Int)).map (Value.int .i64)).toArray := by
  apply Array.toList_inj.1
  rw [toList_madeCells_one]
  simp
def initK (n k : Nat) : List Int := (List.range n).map fun i : Nat => if i < k then (i : Int) else 0
theorem initK_zero (n : Nat) : initK n 0 = List.replicate n 0 := by
  unfold initK
  apply List.ext_getElem <;> simp
theorem initK_all (p : PairD) : initK p.bs.length p.bs.length = labelsK p 0 := by
  unfold initK labelsK
  apply List.map_congr_left
  intro i hi
  rw [if_pos (List.mem_range.1 hi)]
theorem initK_next (n k : Nat) (h : k < n) : (initK n k).set k (k : Int) = initK n (k + 1) := by
  unfold initK
  apply List.ext_getElem
  · simp
  · intro i h1 h2
    rw [List.getElem_set]
    simp only [List.getElem_map, List.getElem_range]
    by_cases hik : k = i
    · subst hik; simp
    · rw [if_neg hik]
      by_cases h3 : i < k
      · rw [if_pos h3, if_pos (by omega)]
      · rw [if_neg h3, if_neg (by omega)]
theorem initK_length (n k : Nat) : (initK n k).length = n := by simp [initK]
theorem fold_length : ∀ (rs : List RdD) (l : List Int), (rs.foldl relaxR l).length = l.length
  | [], _ => rfl
  | r :: rs, l => by rw [List.foldl_cons, fold_length rs, relax_length]
theorem labels_length (p : PairD) : ∀ k, (labelsK p k).length = p.bs.length
  | 0 => by simp [labelsK]
  | k + 1 => by show (p.rs.foldl relaxR (labelsK p k)).length = _; rw [fold_length, labels_length p k]
def sweepK (p : PairD) (k j : Nat) : List Int := (p.rs.take j).foldl relaxR (labelsK p k)
theorem sweepK_next (p : PairD) (k j : Nat) (h : j < p.rs.length) : sweepK p k (j + 1) = relaxR (sweepK p k j) p.rs[j] := by
  unfold sweepK
  rw [List.take_succ_eq_append_getElem h, List.foldl_append]
  rfl
theorem sweepK_all (p : PairD) (k : Nat) : sweepK p k p.rs.length = labelsK p (k + 1) := by
  unfold sweepK
  rw [List.take_length]
  rfl
theorem sweepK_length (p : PairD) (k j : Nat) : (sweepK p k j).length = p.bs.length := by unfold sweepK; rw [fold_length, labels_length]
def ownK (p : PairD) (k : Nat) : Nat := ((List.range k).filter (ownL p)).length
theorem ownK_next (p : PairD) (k : Nat) : ownK p (k + 1) = ownK p k + (if ownL p k then 1 else 0) := by
  unfold ownK
  rw [List.range_succ, List.filter_append, List.length_append]
  congr 1
  cases h : ownL p k <;> simp [h]
theorem ownK_le (p : PairD) (k : Nat) : ownK p k ≤ k := by
  unfold ownK
  refine Nat.le_trans (List.length_filter_le _ _) ?_
  simp
set_option maxRecDepth 100000 in
set_option maxHeartbeats 4000000 in
theorem rgroups_any (p : PairD) (bs rs : Value) (w : World) (hpa : PairAt w p bs rs) :
    Calls Tryz.prog 94 #[.agg (pairRow p bs rs)] w fun e w' => e = .returned (.tuple #[.int .i64 (groupsV p).1, .int .i64 (groupsV p).2]) ∧ Below w.heap.size w w' := by
  obtain ⟨ao, cap, hbse, _⟩ := id hpa.b
  subst hbse
  obtain ⟨ao2, cap2, hrse, _⟩ := id hpa.r
  subst hrse
  obtain ⟨W0, hW0⟩ : ∃ W0, W0 = w.alloc (.cells (pairRow p (.slice ao p.bs.length cap) (.slice ao2 p.rs.length cap2)) 27 (0, 0)) := ⟨_, rfl⟩
  have hb0 : Below w.heap.size w W0 := by rw [hW0]; exact (Below.refl _ _).alloc (Nat.le_refl _) _
  have hr1 : W0.heap[w.heap.size]? = some (pairObj p (.slice ao p.bs.length cap) (.slice ao2 p.rs.length cap2)) := by rw [hW0]; exact heap_alloc_at _ _ _ rfl
  have hsw : W0.heap.size = w.heap.size + 1 := by rw [hW0]; simp
  have HB0 := Lib.hid hb0
  have HR1 := Lib.hid hr1
  have HPA := Lib.hid (hpa.later hb0)
  have rows : ∀ W', Below W0.heap.size W0 W' → (W'.cell? ⟨w.heap.size, 0, none⟩ = some (.slice ao p.bs.length cap) ∧ W'.cell? ⟨w.heap.size, 1, none⟩ = some (.int .i64 p.zl) ∧ W'.cell? ⟨w.heap.size, 2, none⟩ = some (.int .i64 p.zh) ∧
        W'.cell? ⟨w.heap.size, 3, none⟩ = some (.int .i64 p.rl) ∧ W'.cell? ⟨w.heap.size, 4, none⟩ = some (.int .i64 p.rh) ∧ W'.cell? ⟨w.heap.size, 5, none⟩ = some (.slice ao2 p.rs.length cap2)) := fun W' hb => by
    have q1 := (hb.block w.heap.size (by omega)).trans hr1
    unfold pairObj pairRow at q1
    refine ⟨?_, ?_, ?_, ?_, ?_, ?_⟩ <;> (rw [cell_of_row _ _ _ _ _ _ q1]; rfl)
  have ROWS := Lib.hid rows
  clear rows hb0 hr1 hpa
  unfold pairRow at hW0 ⊢
  obtain ⟨ao', cap', hae, _, _, hel⟩ := id HPA.out.r
  obtain ⟨rfl, _, rfl⟩ := Value.slice.inj hae
  clear hae
  have HE2 := Lib.hid hel
  clear hel
  obtain ⟨c0, c1, c2, c3, c4, c5⟩ := ROWS.out W0 (Below.refl _ _)
  go_enter Tryz.func94, Tryz.ntmps94
  go_wp2_with fail
  rw [← hW0]
  clear hW0
  refine (check_any p _ _ true W0 (by exact HPA.out)).mono ?_
  rintro e w2 ⟨rfl, hb2⟩
  have hge2 := hb2.size
  have HB2 := Lib.hid hb2
  clear hb2 c0 c1 c2 c3 c4 c5
  obtain ⟨c0, _, _, _, _, c5⟩ := ROWS.out w2 HB2.out
  cases hv : validB p with
  | false =>
    have hck : checkV p true = 1 := by unfold checkV; rw [hv]; rfl
    have HG := Lib.hid (show groupsV p = (0, 1) by unfold groupsV; rw [hv]; rfl)
    rw [hck]
    clear hck hv
    go_wp2
    refine bodyPost_ret (v := .tuple #[.int .i64 0, .int .i64 1]) (by simp [results, Tryz.results94, go_sem]) rfl ⟨?_, HB0.out.trans (HB2.out.mono (by omega))⟩
    rw [HG.out]
  | true =>
    have hck : checkV p true = 0 := by unfold checkV; rw [hv]; rfl
    have HG := Lib.hid (show groupsV p = (((ownK p p.bs.length : Nat) : Int), 0) by unfold groupsV; rw [hv]; rfl)
    rw [hck]
    have hp := OkP.of p hv
    have HP := Lib.hid hp
    have hn1 := hp.n1
    have hn5 := hp.n5
    have hm8 := hp.m8
    have hmk : (Instr.makeSlice 28 (.int .i64 p.bs.length) (.int .i64 p.bs.length)).run Tryz.prog w2 = .ok (.slice (some ⟨w2.heap.size, 0, none⟩) p.bs.length p.bs.length) (w2.alloc (labO (initK p.bs.length 0))) := by
      obtain ⟨i0, hi0, hz0, hz1, hz2⟩ := info_parts infoInt3
      have := run_makeSlice (P := Tryz.prog) (w := w2) 28 3 i0 _ (by kernel_rfl) hi0 hz0 .i64 .i64 p.bs.length p.bs.length (by omega) (by omega) (by rw [hz1]; simp; omega) (by rw [hz2]; omega) (by omega)
      rw [hz1] at this
      simp only [Value.cells, Nat.mul_one] at this
      rw [lab_made] at this
      rw [initK_zero]
      exact this
    have HMK := Lib.hid hmk
    clear hck hv hp hmk
    go_wp2_with fail
    rw [HMK.out]
    go_wp2_with fail
    obtain ⟨W3, hW3⟩ : ∃ W3, W3 = w2.alloc (labO (initK p.bs.length 0)) := ⟨_, rfl⟩
    have hb3 : Below W0.heap.size W0 W3 := by rw [hW3]; exact HB2.out.alloc hge2 _
    have hl3 : W3.heap[w2.heap.size]? = some (labO (initK p.bs.length 0)) := by rw [hW3]; exact heap_alloc_at _ _ _ rfl
    rw [← hW3]
    obtain ⟨L, hL⟩ : ∃ L, L = w2.heap.size := ⟨_, rfl⟩
    rw [← hL] at hl3 ⊢
    have hLge : W0.heap.size ≤ L := by omega
    have HB3 := Lib.hid hb3
    have HL3 := Lib.hid hl3
    clear hW3 hb3 hl3 hL c0 c5 HMK HB2 hge2
    go_loopw [6] (fun i wr => ∃ k : Nat, k ≤ p.bs.length ∧ i = .int .i64 k ∧ wr.heap[L]? = some (labO (initK p.bs.length k)) ∧ Below W0.heap.size W0 wr) (fun i _ => p.bs.length - (intOf i).toNat)
    case atStart => exact ⟨0, by omega, rfl, HL3.out, HB3.out⟩
    case round =>
      obtain ⟨k, hk, rfl, hl, hb⟩ := hrel
      have HL := Lib.hid hl
      have HB := Lib.hid hb
      have hgew := hb.size
      clear hl hb
      by_cases hlk : k < p.bs.length
      · have hd : decide ((k : Int) < (p.bs.length : Int)) = true := by simp; omega
        have q1 := lab_cell HL.out k (by rw [initK_length]; exact hlk)
        have q2 := lab_frozen HL.out k
        have HN := Lib.hid (initK_next p.bs.length k hlk)
        have hwk : IntKind.i64.wrap ((k : Int) + 1) = ((k + 1 : Nat) : Int) := by rw [IntWalk.i64_in _ (by omega)]; omega
        go_wp2
        exact ⟨⟨k + 1, by omega, by first | rfl | (congr 1; omega), by rw [← HN.out]; exact lab_set HL.out k _, HB.out.setCell (by exact hLge) _⟩, by simp [intOf]; omega⟩
      obtain rfl : k = p.bs.length := by omega
      have hd : decide ((p.bs.length : Int) < (p.bs.length : Int)) = false := by simp
      have HL0 := Lib.hid (show wr.heap[L]? = some (labO (labelsK p 0)) by rw [← initK_all]; exact HL.out)
      go_wp2_with fail
      obtain ⟨W4, hW4⟩ : ∃ W4, W4 = wr := ⟨_, rfl⟩
      subst hW4
      go_loopw [7] (fun i wr => ∃ k : Nat, k ≤ p.bs.length ∧ i = .int .i64 k ∧ wr.heap[L]? = some (labO (labelsK p k)) ∧ Below W0.heap.size W0 wr) (fun i _ => p.bs.length - (intOf i).toNat)
      case atStart => exact ⟨0, by omega, rfl, HL0.out, HB.out⟩
      case round =>
        obtain ⟨k, hk, rfl, hl, hb⟩ := hrel
        have HL := Lib.hid hl
        have HB := Lib.hid hb
        have hgew := hb.size
        clear hl hb
        by_cases hlk : k < p.bs.length
        · have hd : decide ((k : Int) < (p.bs.length : Int)) = true := by simp; omega
          have hwk : IntKind.i64.wrap ((k : Int) + 1) = ((k + 1 : Nat) : Int) := by rw [IntWalk.i64_in _ (by omega)]; omega
          go_wp2_with fail
          obtain ⟨W5, hW5⟩ : ∃ W5, W5 = wr := ⟨_, rfl⟩
          subst hW5
          go_loopw [8] (fun i wr => ∃ j : Nat, j ≤ p.rs.length ∧ i = .int .i64 j ∧ wr.heap[L]? = some (labO (sweepK p k j)) ∧ Below W0.heap.size W0 wr) (fun i _ => p.rs.length - (intOf i).toNat)
          case atStart => exact ⟨0, by omega, rfl, HL.out, HB.out⟩
          case round =>
            obtain ⟨j, hj, rfl, hl, hb⟩ := hrel
            have HL := Lib.hid hl
            have HB := Lib.hid hb
            have hgew := hb.size
            clear hl hb
            obtain ⟨_, _, _, _, _, c5⟩ := ROWS.out wr HB.out
            by_cases hlj : j < p.rs.length
            · have hd : decide ((j : Int) < (p.rs.length : Int)) = true := by simp; omega
              have hwj : IntKind.i64.wrap ((j : Int) + 1) = ((j + 1 : Nat) : Int) := by rw [IntWalk.i64_in _ (by omega)]; omega
              go_wp2_with fail
              have hp := HP.out
              have hrd := hp.rs _ (List.getElem_mem hlj)
              obtain ⟨b, off, rfl, _, hbl, e1, e2, _, _, _⟩ := HE2.out j hlj
              have f1 := (HB.out.cell (p := ⟨b, off + j * 5, none⟩) hbl).trans e1
              have f2 := (HB.out.cell (p := ⟨b, off + j * 5 + 1, none⟩) hbl).trans e2
              have hnx := sweepK_next p k j hlj
              unfold relaxR labA at hnx
              obtain ⟨na, hna⟩ : ∃ n : Nat, p.rs[j].a = n := ⟨p.rs[j].a.toNat, by omega⟩
              obtain ⟨nb, hnb⟩ : ∃ n : Nat, p.rs[j].b = n := ⟨p.rs[j].b.toNat, by omega⟩
              rw [hna] at f1 hrd hnx
              rw [hnb] at f2 hrd hnx
              simp only [Int.toNat_natCast] at hnx
              have hna1 : na < p.bs.length := by omega
              have hnb1 : nb < p.bs.length := by omega
              have r1 := lab_cell HL.out na (by rw [sweepK_length]; exact hna1)
              have r2 := lab_cell HL.out nb (by rw [sweepK_length]; exact hnb1)
              have g1 := lab_frozen HL.out na
              have g2 := lab_frozen HL.out nb
              rw [List.getD_eq_getElem?_getD, List.getD_eq_getElem?_getD, List.getElem?_eq_getElem (by rw [sweepK_length]; exact hna1), List.getElem?_eq_getElem (by rw [sweepK_length]; exact hnb1)] at hnx
              simp only [Option.getD_some] at hnx
              obtain ⟨la, hla⟩ : ∃ x, x = (sweepK p k j)[na]'(by rw [sweepK_length]; exact hna1) := ⟨_, rfl⟩
              obtain ⟨lb, hlb⟩ : ∃ x, x = (sweepK p k j)[nb]'(by rw [sweepK_length]; exact hnb1) := ⟨_, rfl⟩
              rw [← hla] at r1 hnx
              rw [← hlb] at r2 hnx
              obtain ⟨mn, hmn⟩ : ∃ x, x = min la lb := ⟨_, rfl⟩
              rw [← hmn] at hnx
              have hset1 : ∀ n, ((wr.drewN n).setCell ⟨L, na, none⟩ (.int .i64 mn)).heap[L]? = some (labO ((sweepK p k j).set na mn)) := fun n => lab_set (W := wr.drewN n) HL.out na mn
              have r3 := fun n => lab_cell (hset1 n) nb (by rw [List.length_set, sweepK_length]; exact hnb1)
              have g3 := fun n => lab_frozen (hset1 n) nb
              have HF := Lib.hid (fun n => lab_set (hset1 n) nb mn)
              have HBF : Hid (∀ n, Below W0.heap.size W0 (((wr.drewN n).setCell ⟨L, na, none⟩ (.int .i64 mn)).setCell ⟨L, nb, none⟩ (.int .i64 mn))) := fun n => ((show Below W0.heap.size W0 (wr.drewN n) from ⟨HB.out.os, HB.out.tape, HB.out.output, HB.out.size, HB.out.block⟩).setCell (by exact hLge) _).setCell (by exact hLge) _
              have HNX := Lib.hid hnx
              have HMN := Lib.hid hmn
              clear hp hna hnb e1 e2 hnx hla hlb hset1 hmn
              go_quiet (fail)
              go_wp2_with fail
              go_quiet (fail)
              have hm2 : (if lb < la then lb else la) = mn := by rw [HMN.out]; omega
              have hm3 : min la lb = mn := HMN.out.symm
              first | rw [hm2] | rw [hm3]
              clear hm2 hm3
              go_wp2
              exact ⟨⟨j + 1, by omega, by first | rfl | (congr 1; omega), by rw [HNX.out]; exact HF.out _, HBF.out _⟩, by simp [intOf]; omega⟩
            obtain rfl : j = p.rs.length := by omega
            have hd : decide ((p.rs.length : Int) < (p.rs.length : Int)) = false := by simp
            have HLN := Lib.hid (show wr.heap[L]? = some (labO (labelsK p (k + 1))) by rw [← sweepK_all]; exact HL.out)
            go_wp2
            exact ⟨⟨k + 1, by omega, by first | rfl | (congr 1; omega), HLN.out, HB.out⟩, by simp [intOf]; omega⟩
        obtain rfl : k = p.bs.length := by omega
        have hd : decide ((p.bs.length : Int) < (p.bs.length : Int)) = false := by simp
        go_wp2_with fail
        obtain ⟨W5, hW5⟩ : ∃ W5, W5 = wr := ⟨_, rfl⟩
        subst hW5
        go_loopw [12, 13] (fun m i wr => ∃ k : Nat, k ≤ p.bs.length ∧ i = .int .i64 k ∧ m = .int .i64 (ownK p k : Nat) ∧ wr = W5) (fun _ i _ => p.bs.length - (intOf i).toNat)
        case atStart => exact ⟨0, by omega, rfl, rfl, rfl⟩
        case round =>
          obtain ⟨k, hk, rfl, rfl, rfl⟩ := hrel
          by_cases hlk : k < p.bs.length
          · have hd : decide ((k : Int) < (p.bs.length : Int)) = true := by simp; omega
            have q1 := lab_cell HL.out k (by rw [labels_length]; exact hlk)
            have hle := ownK_le p k
            have HN := Lib.hid (ownK_next p k)
            have ho : ((labelsK p p.bs.length)[k]'(by rw [labels_length]; exact hlk) == (k : Int)) = ownL p k := by
              unfold ownL labA
              rw [Int.toNat_natCast, List.getD_eq_getElem?_getD, List.getElem?_eq_getElem (by rw [labels_length]; exact hlk)]
              rfl
            have hwk : IntKind.i64.wrap ((k : Int) + 1) = ((k + 1 : Nat) : Int) := by rw [IntWalk.i64_in _ (by omega)]; omega
            have hwm : IntKind.i64.wrap (((ownK p k : Nat) : Int) + 1) = ((ownK p k + 1 : Nat) : Int) := by rw [IntWalk.i64_in _ (by omega)]; omega
            generalize (labelsK p p.bs.length)[k]'(by rw [labels_length]; exact hlk) = x at *
            cases hb : ownL p k
            all_goals
              rw [hb] at ho
              have HO := Lib.hid hb
              clear hb
              go_wp2
              exact ⟨⟨k + 1, by omega, by first | rfl | (congr 1; omega), by rw [HN.out, HO.out]; rfl, by first | rfl | trivial⟩, by simp [intOf]; omega⟩
          obtain rfl : k = p.bs.length := by omega
          have hd : decide ((p.bs.length : Int) < (p.bs.length : Int)) = false := by simp
          go_wp2
          refine bodyPost_ret (v := .tuple #[.int .i64 (ownK p p.bs.length : Nat), .int .i64 0]) (by simp [results, Tryz.results94, go_sem]) rfl ⟨?_, HB0.out.trans (HB.out.mono (by omega))⟩
          rw [HG.out]

end Go.Proofs.YtabbmihakoeegaaGreat

/- The reference: groups, Closed. -/
namespace Go.Proofs.YtabbmihakoeegaaGreat
set_option linter.unusedVariables false
set_option linter.unusedSimpArgs false
open Go.RowKit Go.Shelf
attribute [local go_sem] Oper.semAt_some

theorem groupsV_onlyR {q : PlanD} (hv : validB q.pr = true) (s : Nat) : groupsV (onlyP q.pr s) = (groupsS q.pr s, 0) := by
  rw [groupsS_is hv, groupsV_yes (onlyP_valid q.pr s hv)]
  rfl
theorem closedR_is {q : PlanD} (hv : validP q = true) : closedV q = ((closeS q : Int), 0) := by
  unfold closedV
  rw [if_neg (by rw [hv]; decide)]
  rfl
theorem closedR_no {q : PlanD} (hv : validP q = false) : closedV q = (0, 1) := by
  unfold closedV
  rw [if_pos hv]
set_option maxRecDepth 100000 in
set_option maxHeartbeats 4000000 in
theorem rgroups8_any {q : PlanD} (hq : OkQ q) {bs rs ps : Value} (s : Nat) (hs : s < 256) (w : World) (hpa : PlanAt w q bs rs ps) :
    Calls Tryz.prog 70 #[.agg (planRow q bs rs ps), .int .i64 s] w fun e w' => e = .returned (.int .i64 (groupsS q.pr s)) ∧ Below w.heap.size w w' := by
  have HG := Lib.hid (groupsV_onlyR hq.pr s)
  have HQ := Lib.hid hq
  clear hq
  obtain ⟨aob, capb, hbv, _⟩ := id hpa.p.b
  obtain ⟨aor, capr, hrv, _⟩ := id hpa.p.r
  obtain ⟨aop, capp, hpv, _⟩ := id hpa.n
  subst hbv hrv hpv
  obtain ⟨W0, hW0⟩ : ∃ W0, W0 = w.alloc (.cells (planRow q (.slice aob q.pr.bs.length capb) (.slice aor q.pr.rs.length capr) (.slice aop q.prices.length capp)) 30 (0, 0)) := ⟨_, rfl⟩
  have hb0 : Below w.heap.size w W0 := by rw [hW0]; exact (Below.refl _ _).alloc (Nat.le_refl _) _
  have hr1 : W0.heap[w.heap.size]? = some (.cells (planRow q (.slice aob q.pr.bs.length capb) (.slice aor q.pr.rs.length capr) (.slice aop q.prices.length capp)) 30 (0, 0)) := by rw [hW0]; exact heap_alloc_at _ _ _ rfl
  have hsw : W0.heap.size = w.heap.size + 1 := by rw [hW0]; simp
  have HB0 := Lib.hid hb0
  have HR1 := Lib.hid hr1
  have HPA := Lib.hid (hpa.later hb0)
  have rows : ∀ W', Below W0.heap.size W0 W' → (W'.cell? ⟨w.heap.size, 0, none⟩ = some (.slice aob q.pr.bs.length capb) ∧ W'.cell? ⟨w.heap.size, 1, none⟩ = some (.int .i64 q.pr.zl) ∧ W'.cell? ⟨w.heap.size, 2, none⟩ = some (.int .i64 q.pr.zh) ∧
        W'.cell? ⟨w.heap.size, 3, none⟩ = some (.int .i64 q.pr.rl) ∧ W'.cell? ⟨w.heap.size, 4, none⟩ = some (.int .i64 q.pr.rh) ∧ W'.cell? ⟨w.heap.size, 5, none⟩ = some (.slice aor q.pr.rs.length capr) ∧ W'.cell? ⟨w.heap.size, 6, none⟩ = some (.int .i64 q.wide) ∧ W'.cell? ⟨w.heap.size, 7, none⟩ = some (.slice aop q.prices.length capp)) := fun W' hb => by
    have q1 := (hb.block w.heap.size (by omega)).trans hr1
    unfold planRow at q1
    refine ⟨?_, ?_, ?_, ?_, ?_, ?_, ?_, ?_⟩ <;> (rw [cell_of_row _ _ _ _ _ _ q1]; rfl)
  have ROWS := Lib.hid rows
  clear rows hb0 hr1 hpa
  unfold planRow at hW0 ⊢
  obtain ⟨c0, c1, c2, c3, c4, c5, c6, c7⟩ := ROWS.out W0 (Below.refl _ _)
  have HB1 : Hid (Below W0.heap.size W0 W0) := Lib.hid (Below.refl _ _)
  go_enter Tryz.func70, Tryz.ntmps70
  go_wp2_with fail
  rw [← hW0]
  clear hW0
  refine (only8_any HQ.out s hs _ (HPA.out.later HB1.out)).mono ?_
  rintro e u1 ⟨rs', rfl, hrs, hb⟩
  have hba := HB1.out.trans (hb.mono HB1.out.size)
  have hpr : PairAt u1 (onlyP q.pr s) (.slice aob q.pr.bs.length capb) rs' := PairAt.of (HPA.out.later hba).p.b hrs
  have HPR := Lib.hid hpr
  have HBO := Lib.hid hba
  clear hb hba hrs hpr c0 c1 c2 c3 c4 c5 c6 c7
  dsimp only
  go_wp2_with fail
  refine (rgroups_any _ _ _ _ HPR.out).mono ?_
  rintro e u2 ⟨he, hb⟩
  rw [HG.out] at he
  dsimp only at he
  subst he
  have HB2 := Lib.hid (HBO.out.trans (hb.mono HBO.out.size))
  clear hb HPR
  dsimp only
  go_wp2_with fail
  go_ret
  exact ⟨rfl, HB0.out.trans (HB2.out.mono HB0.out.size)⟩
set_option maxRecDepth 100000 in
set_option maxHeartbeats 4000000 in
theorem rclosed_any {q : PlanD} {bs rs ps : Value} (w : World) (hpa : PlanAt w q bs rs ps) :
    Calls Tryz.prog 23 #[.agg (planRow q bs rs ps)] w fun e w' => e = .returned (.tuple #[.int .i64 (closedV q).1, .int .i64 (closedV q).2]) ∧ Below w.heap.size w w' := by
  obtain ⟨aob, capb, hbv, _⟩ := id hpa.p.b
  obtain ⟨aor, capr, hrv, _⟩ := id hpa.p.r
  obtain ⟨aop, capp, hpv, _⟩ := id hpa.n
  subst hbv hrv hpv
  obtain ⟨W0, hW0⟩ : ∃ W0, W0 = w.alloc (.cells (planRow q (.slice aob q.pr.bs.length capb) (.slice aor q.pr.rs.length capr) (.slice aop q.prices.length capp)) 30 (0, 0)) := ⟨_, rfl⟩
  have hb0 : Below w.heap.size w W0 := by rw [hW0]; exact (Below.refl _ _).alloc (Nat.le_refl _) _
  have hr1 : W0.heap[w.heap.size]? = some (.cells (planRow q (.slice aob q.pr.bs.length capb) (.slice aor q.pr.rs.length capr) (.slice aop q.prices.length capp)) 30 (0, 0)) := by rw [hW0]; exact heap_alloc_at _ _ _ rfl
  have hsw : W0.heap.size = w.heap.size + 1 := by rw [hW0]; simp
  have HB0 := Lib.hid hb0
  have HR1 := Lib.hid hr1
  have HPA := Lib.hid (hpa.later hb0)
  have rows : ∀ W', Below W0.heap.size W0 W' → (W'.cell? ⟨w.heap.size, 0, none⟩ = some (.slice aob q.pr.bs.length capb) ∧ W'.cell? ⟨w.heap.size, 1, none⟩ = some (.int .i64 q.pr.zl) ∧ W'.cell? ⟨w.heap.size, 2, none⟩ = some (.int .i64 q.pr.zh) ∧
        W'.cell? ⟨w.heap.size, 3, none⟩ = some (.int .i64 q.pr.rl) ∧ W'.cell? ⟨w.heap.size, 4, none⟩ = some (.int .i64 q.pr.rh) ∧ W'.cell? ⟨w.heap.size, 5, none⟩ = some (.slice aor q.pr.rs.length capr) ∧ W'.cell? ⟨w.heap.size, 6, none⟩ = some (.int .i64 q.wide) ∧ W'.cell? ⟨w.heap.size, 7, none⟩ = some (.slice aop q.prices.length capp)) := fun W' hb => by
    have q1 := (hb.block w.heap.size (by omega)).trans hr1
    unfold planRow at q1
    refine ⟨?_, ?_, ?_, ?_, ?_, ?_, ?_, ?_⟩ <;> (rw [cell_of_row _ _ _ _ _ _ q1]; rfl)
  have ROWS := Lib.hid rows
  clear rows hb0 hr1 hpa
  unfold planRow at hW0 ⊢
  obtain ⟨c0, c1, c2, c3, c4, c5, c6, c7⟩ := ROWS.out W0 (Below.refl _ _)
  have HB1 : Hid (Below W0.heap.size W0 W0) := Lib.hid (Below.refl _ _)
  go_enter Tryz.func23, Tryz.ntmps23
  go_wp2_with fail
  rw [← hW0]
  clear hW0
  refine (plan8_any _ (HPA.out.later HB1.out)).mono ?_
  rintro e w2 ⟨rfl, hb⟩
  have HB2 := Lib.hid (HB1.out.trans (hb.mono HB1.out.size))
  clear hb
  try dsimp only
  clear c0 c1 c2 c3 c4 c5 c6 c7
  obtain ⟨c0, c1, c2, c3, c4, c5, c6, c7⟩ := ROWS.out w2 HB2.out
  cases hv : validP q with
  | false =>
    have HV := Lib.hid (closedR_no hv)
    clear hv c0 c1 c2 c3 c4 c5 c6 c7
    go_wp2_with fail
    refine bodyPost_ret (v := .tuple #[.int .i64 0, .int .i64 1]) (by simp [results, Tryz.results23, go_sem]) rfl ⟨?_, HB0.out.trans (HB2.out.mono HB0.out.size)⟩
    rw [HV.out]
  | true =>
  have hq := OkQ.of hv
  have h256 := hq.p256
  have hm8 := hq.m8
  have hev := @everyV_lt q
  obtain ⟨is, his⟩ : ∃ f : Nat → Bool, f = fun s => decide (groupsS q.pr s = groupsS q.pr (everyV q)) := ⟨_, rfl⟩
  have hise : is (everyV q) = true := by rw [his]; exact decide_eq_true rfl
  have HVAL := Lib.hid ((closedR_is hv).trans (by rw [show closeS q = scanF q false is (everyV q) by rw [scan_end (pr := false) hise, his]; rfl]))
  have HIS : Hid (∀ k, is k = decide (groupsS q.pr k = groupsS q.pr (everyV q))) := Lib.hid fun k => by rw [his]
  obtain ⟨ev, hevs⟩ : ∃ s, s = everyV q := ⟨_, rfl⟩
  have HSC : Hid (∀ k, k ≤ ev → ScanOk q false is k (scanF q false is k)) := Lib.hid fun k hk => scan_inv hise k (by rw [← hevs]; exact hk)
  have HSZ : Hid (scanF q false is 0 = ev) := Lib.hid hevs.symm
  rw [← hevs] at hev HVAL HIS
  have HEVS := Lib.hid hevs
  have HQ := Lib.hid hq
  obtain ⟨ge, hge⟩ : ∃ x, x = groupsS q.pr ev := ⟨_, rfl⟩
  rw [← hge] at HIS
  have HGE := Lib.hid hge
  clear hv hq his hise hevs hge
  go_wp2_with fail
  refine (every8_any HQ.out.m8 _ (HPA.out.later HB2.out)).mono ?_
  rintro e w3 ⟨rfl, hb⟩
  have HB3 := Lib.hid (HB2.out.trans (hb.mono HB2.out.size))
  clear hb
  try dsimp only
  rw [← HEVS.out]
  clear c0 c1 c2 c3 c4 c5 c6 c7
  go_wp2_with fail
  go_loopw [4, 5] (fun bv iv wr => ∃ k : Nat, k ≤ ev ∧ iv = .int .i64 k ∧ bv = .int .i64 (scanF q false is k : Nat) ∧ Below W0.heap.size W0 wr) (fun _ iv _ => ev - (intOf iv).toNat)
  case atStart => exact ⟨0, Nat.zero_le _, rfl, by rw [HSZ.out], HB3.out⟩
  case round =>
    obtain ⟨k, hk, rfl, rfl, hb⟩ := hrel
    have HB := Lib.hid hb
    clear hb
    obtain ⟨c0, c1, c2, c3, c4, c5, c6, c7⟩ := ROWS.out wr HB.out
    have hsk := HSC.out k hk
    have hbl := hsk.lt
    have hnx : scanF q false is (k + 1) = if lessW q false k (scanF q false is k) && is k then k else scanF q false is k := rfl
    have hwi : IntKind.i64.wrap ((k : Int) + 1) = ((k + 1 : Nat) : Int) := by rw [IntWalk.i64_in _ (by omega)]; omega
    go_wp2_with fail
    refine (every8_any HQ.out.m8 _ (HPA.out.later HB.out)).mono ?_
    rintro e w5 ⟨rfl, hb⟩
    have HB5 := Lib.hid (HB.out.trans (hb.mono HB.out.size))
    clear hb
    try dsimp only
    rw [← HEVS.out]
    clear c0 c1 c2 c3 c4 c5 c6 c7
    by_cases hlt : k < ev
    case neg =>
      have hlti : ¬ (k : Int) < (ev : Int) := by omega
      have hltd : decide (k < ev) = false := decide_eq_false hlt
      have hke : k = ev := by omega
      obtain ⟨b, hbb⟩ : ∃ x, x = scanF q false is k := ⟨_, rfl⟩
      have HV2 := HVAL.out
      rw [← hke, ← hbb] at HV2
      rw [← hbb] at hbl ⊢
      have HV3 := Lib.hid HV2
      clear HV2 hke hnx hsk hbb
      go_wp2_with fail
      refine bodyPost_ret (v := .tuple #[.int .i64 (b : Nat), .int .i64 0]) (by simp [results, Tryz.results23, go_sem]) rfl ⟨?_, HB0.out.trans (HB5.out.mono HB0.out.size)⟩
      rw [HV3.out]
    case pos =>
    have hls := scan_tie HQ.out hsk (by rw [← HEVS.out]; exact hlt)
    obtain ⟨b, hbb⟩ : ∃ x, x = scanF q false is k := ⟨_, rfl⟩
    rw [← hbb] at hnx hbl hls ⊢
    have hls2 : lessW q false k b = decide (ones k < ones b) := by
      rw [Bool.eq_iff_iff, hls, decide_eq_true_eq]
      have e : muchV q false k = muchV q false b := rfl
      omega
    rw [hls2, HIS.out k] at hnx
    have hlti : (k : Int) < (ev : Int) := by omega
    have hltd : decide (k < ev) = true := decide_eq_true hlt
    have hkl : k < 2 ^ q.prices.length := by omega
    obtain ⟨gk, hgk⟩ : ∃ x, x = groupsS q.pr k := ⟨_, rfl⟩
    rw [← hgk] at hnx
    have HGK := Lib.hid hgk
    clear hsk hbb hls hls2 hgk
    by_cases h1 : ones k < ones b
    · have h1i : (ones k : Int) < (ones b : Int) := by omega
      have h1d : decide (ones k < ones b) = true := decide_eq_true h1
      have h1j : decide ((ones k : Int) < (ones b : Int)) = true := decide_eq_true h1i
      rw [h1d, Bool.true_and] at hnx
      by_cases h2 : gk = ge
      · rw [decide_eq_true h2] at hnx
        have HNX := Lib.hid hnx
        have HEQ := Lib.hid h2
        have h2e : (gk == ge) = true := by rw [h2]; exact beq_self_eq_true ge
        clear hnx h2
        go_wp2_with fail
        refine wp_region_held_drew (S := fun W' => W'.cell? ⟨w.heap.size, 0, none⟩ = some (.slice aob q.pr.bs.length capb) ∧ W'.cell? ⟨w.heap.size, 1, none⟩ = some (.int .i64 q.pr.zl) ∧ W'.cell? ⟨w.heap.size, 2, none⟩ = some (.int .i64 q.pr.zh) ∧ W'.cell? ⟨w.heap.size, 3, none⟩ = some (.int .i64 q.pr.rl) ∧ W'.cell? ⟨w.heap.size, 4, none⟩ = some (.int .i64 q.pr.rh) ∧ W'.cell? ⟨w.heap.size, 5, none⟩ = some (.slice aor q.pr.rs.length capr) ∧ W'.cell? ⟨w.heap.size, 6, none⟩ = some (.int .i64 q.wide) ∧ W'.cell? ⟨w.heap.size, 7, none⟩ = some (.slice aop q.prices.length capp)) (by kernel_rfl) (ROWS.out _ HB5.out.drew) fun hS => ?_
        have HBD := Lib.hid HB5.out.drew
        refine wpAnyH_take (i := 0) (v := ?_) rfl (by kernel_rfl) (by kernel_rfl) (by kernel_rfl) (fun _ _ _ h => h) (Or.inl ⟨by rfl, ?_⟩) hS ?_
        rotate_left
        · (intro W h; obtain ⟨a,b,c,d,e,f,g,h⟩ := h; go_simp; try with_reducible rfl)
        try simp only [List.getElem_toArray, List.getElem_cons_succ, List.getElem_cons_zero, Act.put, List.setIfInBounds_toArray, List.set_cons_zero, List.set_cons_succ]
        refine wpAnyH_take (i := 2) (v := ?_) rfl (by kernel_rfl) (by kernel_rfl) (by kernel_rfl) (fun _ _ _ h => h) (Or.inl ⟨by rfl, ?_⟩) hS ?_
        rotate_left
        · (intro W h; obtain ⟨a,b,c,d,e,f,g,h⟩ := h; go_simp; try with_reducible rfl)
        try simp only [List.getElem_toArray, List.getElem_cons_succ, List.getElem_cons_zero, Act.put, List.setIfInBounds_toArray, List.set_cons_zero, List.set_cons_succ]
        refine wpAnyH_ready (rs := [1]) (by kernel_rfl) (by simp) ?_
        refine .cons rfl (fun K hK => ?_) .nil
        go_simp
        refine (size8_any k (by omega) _).mono ?_
        rintro e wz ⟨rfl, rfl⟩
        try dsimp only
        refine hK.out _ _ hS (fun hS => ?_)
        clear hK K
        try simp only [List.getElem_toArray, List.getElem_cons_succ, List.getElem_cons_zero, Act.put, List.setIfInBounds_toArray, List.set_cons_zero, List.set_cons_succ]
        refine wpAnyH_ready (rs := [3]) (by kernel_rfl) (by simp) ?_
        refine .cons rfl (fun K hK => ?_) .nil
        go_simp
        refine (size8_any b (by omega) _).mono ?_
        rintro e wz ⟨rfl, rfl⟩
        try dsimp only
        refine hK.out _ _ hS (fun hS => ?_)
        clear hK K
        try simp only [List.getElem_toArray, List.getElem_cons_succ, List.getElem_cons_zero, Act.put, List.setIfInBounds_toArray, List.set_cons_zero, List.set_cons_succ]
        refine wpAnyH_take (i := 4) (v := ?_) rfl (by kernel_rfl) (by kernel_rfl) (by kernel_rfl) (fun _ _ _ h => h) (Or.inl ⟨by rfl, ?_⟩) hS ?_
        rotate_left
        · (intro W h; obtain ⟨a,b,c,d,e,f,g,h⟩ := h; go_simp; try with_reducible rfl)
        try simp only [List.getElem_toArray, List.getElem_cons_succ, List.getElem_cons_zero, Act.put, List.setIfInBounds_toArray, List.set_cons_zero, List.set_cons_succ]
        refine wpAnyH_take (i := 5) (v := ?_) rfl (by kernel_rfl) (by kernel_rfl) (by kernel_rfl) (fun _ _ _ h => h) (Or.inl ⟨by rfl, ?_⟩) hS ?_
        rotate_left
        · (intro W h; obtain ⟨a,b,c,d,e,f,g,h⟩ := h; go_simp; try with_reducible rfl)
        try simp only [List.getElem_toArray, List.getElem_cons_succ, List.getElem_cons_zero, Act.put, List.setIfInBounds_toArray, List.set_cons_zero, List.set_cons_succ]
        refine wpAnyH_take (i := 6) (v := ?_) rfl (by kernel_rfl) (by kernel_rfl) (by kernel_rfl) (fun _ _ _ h => h) (Or.inl ⟨by rfl, ?_⟩) hS ?_
        rotate_left
        · (intro W h; obtain ⟨a,b,c,d,e,f,g,h⟩ := h; go_simp; try with_reducible rfl)
        try simp only [List.getElem_toArray, List.getElem_cons_succ, List.getElem_cons_zero, Act.put, List.setIfInBounds_toArray, List.set_cons_zero, List.set_cons_succ]
        refine wpAnyH_take (i := 7) (v := ?_) rfl (by kernel_rfl) (by kernel_rfl) (by kernel_rfl) (fun _ _ _ h => h) (Or.inl ⟨by rfl, ?_⟩) hS ?_
        rotate_left
        · (intro W h; obtain ⟨a,b,c,d,e,f,g,h⟩ := h; go_simp; try with_reducible rfl)
        try simp only [List.getElem_toArray, List.getElem_cons_succ, List.getElem_cons_zero, Act.put, List.setIfInBounds_toArray, List.set_cons_zero, List.set_cons_succ]
        refine wpAnyH_take (i := 9) (v := ?_) rfl (by kernel_rfl) (by kernel_rfl) (by kernel_rfl) (fun _ _ _ h => h) (Or.inl ⟨by rfl, ?_⟩) hS ?_
        rotate_left
        · (intro W h; obtain ⟨a,b,c,d,e,f,g,h⟩ := h; go_simp; try with_reducible rfl)
        try simp only [List.getElem_toArray, List.getElem_cons_succ, List.getElem_cons_zero, Act.put, List.setIfInBounds_toArray, List.set_cons_zero, List.set_cons_succ]
        refine wpAnyH_take (i := 10) (v := ?_) rfl (by kernel_rfl) (by kernel_rfl) (by kernel_rfl) (fun _ _ _ h => h) (Or.inl ⟨by rfl, ?_⟩) hS ?_
        rotate_left
        · (intro W h; obtain ⟨a,b,c,d,e,f,g,h⟩ := h; go_simp; try with_reducible rfl)
        try simp only [List.getElem_toArray, List.getElem_cons_succ, List.getElem_cons_zero, Act.put, List.setIfInBounds_toArray, List.set_cons_zero, List.set_cons_succ]
        refine wpAnyH_ready (rs := [8]) (by kernel_rfl) (by simp) ?_
        refine .cons rfl (fun K hK => ?_) .nil
        go_simp
        refine (rgroups8_any HQ.out k (by omega) _ (HPA.out.later HBD.out)).mono ?_
        rintro e w7 ⟨he, hb⟩
        rw [← HGK.out] at he
        subst he
        have HB7 := Lib.hid (HBD.out.trans (hb.mono HBD.out.size))
        clear hb
        dsimp only
        refine hK.out _ _ (ROWS.out _ HB7.out) (fun hS => ?_)
        clear hK K
        try simp only [List.getElem_toArray, List.getElem_cons_succ, List.getElem_cons_zero, Act.put, List.setIfInBounds_toArray, List.set_cons_zero, List.set_cons_succ]
        refine wpAnyH_ready (rs := [11]) (by kernel_rfl) (by simp) ?_
        refine .cons rfl (fun K hK => ?_) .nil
        go_simp
        refine (every8_any HQ.out.m8 _ (HPA.out.later HB7.out)).mono ?_
        rintro e w8 ⟨he, hb⟩
        rw [← HEVS.out] at he
        subst he
        have HB8 := Lib.hid (HB7.out.trans (hb.mono HB7.out.size))
        clear hb
        dsimp only
        refine hK.out _ _ (ROWS.out _ HB8.out) (fun hS => ?_)
        clear hK K
        try simp only [List.getElem_toArray, List.getElem_cons_succ, List.getElem_cons_zero, Act.put, List.setIfInBounds_toArray, List.set_cons_zero, List.set_cons_succ]
        refine wpAnyH_ready (rs := [12]) (by kernel_rfl) (by simp) ?_
        refine .cons rfl (fun K hK => ?_) .nil
        go_simp
        refine (rgroups8_any HQ.out ev (by omega) _ (HPA.out.later HB8.out)).mono ?_
        rintro e w9 ⟨he, hb⟩
        rw [← HGE.out] at he
        subst he
        have HB9 := Lib.hid (HB8.out.trans (hb.mono HB8.out.size))
        clear hb
        dsimp only
        refine hK.out _ _ (ROWS.out _ HB9.out) (fun hS => ?_)
        clear hK K
        try simp only [List.getElem_toArray, List.getElem_cons_succ, List.getElem_cons_zero, Act.put, List.setIfInBounds_toArray, List.set_cons_zero, List.set_cons_succ]
        refine wpAnyH_take (i := 13) (v := ?_) rfl (by kernel_rfl) (by kernel_rfl) (by kernel_rfl) (fun _ _ _ h => h) (Or.inl ⟨by rfl, ?_⟩) hS ?_
        rotate_left
        · (intro W h; obtain ⟨a,b,c,d,e,f,g,h⟩ := h; go_simp; try with_reducible rfl)
        try simp only [List.getElem_toArray, List.getElem_cons_succ, List.getElem_cons_zero, Act.put, List.setIfInBounds_toArray, List.set_cons_zero, List.set_cons_succ]
        refine wpAnyH_take (i := 14) (v := ?_) rfl (by kernel_rfl) (by kernel_rfl) (by kernel_rfl) (fun _ _ _ h => h) (Or.inl ⟨by rfl, ?_⟩) hS ?_
        rotate_left
        · (intro W h; obtain ⟨a,b,c,d,e,f,g,h⟩ := h; go_simp; try with_reducible rfl)
        try simp only [List.getElem_toArray, List.getElem_cons_succ, List.getElem_cons_zero, Act.put, List.setIfInBounds_toArray, List.set_cons_zero, List.set_cons_succ]
        refine wpAnyH_done (by kernel_rfl) ?_ _
        clear hS
        go_wp2_with fail
        exact ⟨⟨k + 1, by omega, rfl, by rw [HNX.out]; rfl, HB9.out⟩, by simp [intOf]; omega⟩
      · rw [decide_eq_false h2] at hnx
        have HNX := Lib.hid hnx
        have h2e : (gk == ge) = false := by rw [beq_eq_false_iff_ne]; exact h2
        clear hnx
        go_wp2_with fail
        refine wp_region_held_drew (S := fun W' => W'.cell? ⟨w.heap.size, 0, none⟩ = some (.slice aob q.pr.bs.length capb) ∧ W'.cell? ⟨w.heap.size, 1, none⟩ = some (.int .i64 q.pr.zl) ∧ W'.cell? ⟨w.heap.size, 2, none⟩ = some (.int .i64 q.pr.zh) ∧ W'.cell? ⟨w.heap.size, 3, none⟩ = some (.int .i64 q.pr.rl) ∧ W'.cell? ⟨w.heap.size, 4, none⟩ = some (.int .i64 q.pr.rh) ∧ W'.cell? ⟨w.heap.size, 5, none⟩ = some (.slice aor q.pr.rs.length capr) ∧ W'.cell? ⟨w.heap.size, 6, none⟩ = some (.int .i64 q.wide) ∧ W'.cell? ⟨w.heap.size, 7, none⟩ = some (.slice aop q.prices.length capp)) (by kernel_rfl) (ROWS.out _ HB5.out.drew) fun hS => ?_
        have HBD := Lib.hid HB5.out.drew
        refine wpAnyH_take (i := 0) (v := ?_) rfl (by kernel_rfl) (by kernel_rfl) (by kernel_rfl) (fun _ _ _ h => h) (Or.inl ⟨by rfl, ?_⟩) hS ?_
        rotate_left
        · (intro W h; obtain ⟨a,b,c,d,e,f,g,h⟩ := h; go_simp; try with_reducible rfl)
        try simp only [List.getElem_toArray, List.getElem_cons_succ, List.getElem_cons_zero, Act.put, List.setIfInBounds_toArray, List.set_cons_zero, List.set_cons_succ]
        refine wpAnyH_take (i := 2) (v := ?_) rfl (by kernel_rfl) (by kernel_rfl) (by kernel_rfl) (fun _ _ _ h => h) (Or.inl ⟨by rfl, ?_⟩) hS ?_
        rotate_left
        · (intro W h; obtain ⟨a,b,c,d,e,f,g,h⟩ := h; go_simp; try with_reducible rfl)
        try simp only [List.getElem_toArray, List.getElem_cons_succ, List.getElem_cons_zero, Act.put, List.setIfInBounds_toArray, List.set_cons_zero, List.set_cons_succ]
        refine wpAnyH_ready (rs := [1]) (by kernel_rfl) (by simp) ?_
        refine .cons rfl (fun K hK => ?_) .nil
        go_simp
        refine (size8_any k (by omega) _).mono ?_
        rintro e wz ⟨rfl, rfl⟩
        try dsimp only
        refine hK.out _ _ hS (fun hS => ?_)
        clear hK K
        try simp only [List.getElem_toArray, List.getElem_cons_succ, List.getElem_cons_zero, Act.put, List.setIfInBounds_toArray, List.set_cons_zero, List.set_cons_succ]
        refine wpAnyH_ready (rs := [3]) (by kernel_rfl) (by simp) ?_
        refine .cons rfl (fun K hK => ?_) .nil
        go_simp
        refine (size8_any b (by omega) _).mono ?_
        rintro e wz ⟨rfl, rfl⟩
        try dsimp only
        refine hK.out _ _ hS (fun hS => ?_)
        clear hK K
        try simp only [List.getElem_toArray, List.getElem_cons_succ, List.getElem_cons_zero, Act.put, List.setIfInBounds_toArray, List.set_cons_zero, List.set_cons_succ]
        refine wpAnyH_take (i := 4) (v := ?_) rfl (by kernel_rfl) (by kernel_rfl) (by kernel_rfl) (fun _ _ _ h => h) (Or.inl ⟨by rfl, ?_⟩) hS ?_
        rotate_left
        · (intro W h; obtain ⟨a,b,c,d,e,f,g,h⟩ := h; go_simp; try with_reducible rfl)
        try simp only [List.getElem_toArray, List.getElem_cons_succ, List.getElem_cons_zero, Act.put, List.setIfInBounds_toArray, List.set_cons_zero, List.set_cons_succ]
        refine wpAnyH_take (i := 5) (v := ?_) rfl (by kernel_rfl) (by kernel_rfl) (by kernel_rfl) (fun _ _ _ h => h) (Or.inl ⟨by rfl, ?_⟩) hS ?_
        rotate_left
        · (intro W h; obtain ⟨a,b,c,d,e,f,g,h⟩ := h; go_simp; try with_reducible rfl)
        try simp only [List.getElem_toArray, List.getElem_cons_succ, List.getElem_cons_zero, Act.put, List.setIfInBounds_toArray, List.set_cons_zero, List.set_cons_succ]
        refine wpAnyH_take (i := 6) (v := ?_) rfl (by kernel_rfl) (by kernel_rfl) (by kernel_rfl) (fun _ _ _ h => h) (Or.inl ⟨by rfl, ?_⟩) hS ?_
        rotate_left
        · (intro W h; obtain ⟨a,b,c,d,e,f,g,h⟩ := h; go_simp; try with_reducible rfl)
        try simp only [List.getElem_toArray, List.getElem_cons_succ, List.getElem_cons_zero, Act.put, List.setIfInBounds_toArray, List.set_cons_zero, List.set_cons_succ]
        refine wpAnyH_take (i := 7) (v := ?_) rfl (by kernel_rfl) (by kernel_rfl) (by kernel_rfl) (fun _ _ _ h => h) (Or.inl ⟨by rfl, ?_⟩) hS ?_
        rotate_left
        · (intro W h; obtain ⟨a,b,c,d,e,f,g,h⟩ := h; go_simp; try with_reducible rfl)
        try simp only [List.getElem_toArray, List.getElem_cons_succ, List.getElem_cons_zero, Act.put, List.setIfInBounds_toArray, List.set_cons_zero, List.set_cons_succ]
        refine wpAnyH_take (i := 9) (v := ?_) rfl (by kernel_rfl) (by kernel_rfl) (by kernel_rfl) (fun _ _ _ h => h) (Or.inl ⟨by rfl, ?_⟩) hS ?_
        rotate_left
        · (intro W h; obtain ⟨a,b,c,d,e,f,g,h⟩ := h; go_simp; try with_reducible rfl)
        try simp only [List.getElem_toArray, List.getElem_cons_succ, List.getElem_cons_zero, Act.put, List.setIfInBounds_toArray, List.set_cons_zero, List.set_cons_succ]
        refine wpAnyH_take (i := 10) (v := ?_) rfl (by kernel_rfl) (by kernel_rfl) (by kernel_rfl) (fun _ _ _ h => h) (Or.inl ⟨by rfl, ?_⟩) hS ?_
        rotate_left
        · (intro W h; obtain ⟨a,b,c,d,e,f,g,h⟩ := h; go_simp; try with_reducible rfl)
        try simp only [List.getElem_toArray, List.getElem_cons_succ, List.getElem_cons_zero, Act.put, List.setIfInBounds_toArray, List.set_cons_zero, List.set_cons_succ]
        refine wpAnyH_ready (rs := [8]) (by kernel_rfl) (by simp) ?_
        refine .cons rfl (fun K hK => ?_) .nil
        go_simp
        refine (rgroups8_any HQ.out k (by omega) _ (HPA.out.later HBD.out)).mono ?_
        rintro e w7 ⟨he, hb⟩
        rw [← HGK.out] at he
        subst he
        have HB7 := Lib.hid (HBD.out.trans (hb.mono HBD.out.size))
        clear hb
        dsimp only
        refine hK.out _ _ (ROWS.out _ HB7.out) (fun hS => ?_)
        clear hK K
        try simp only [List.getElem_toArray, List.getElem_cons_succ, List.getElem_cons_zero, Act.put, List.setIfInBounds_toArray, List.set_cons_zero, List.set_cons_succ]
        refine wpAnyH_ready (rs := [11]) (by kernel_rfl) (by simp) ?_
        refine .cons rfl (fun K hK => ?_) .nil
        go_simp
        refine (every8_any HQ.out.m8 _ (HPA.out.later HB7.out)).mono ?_
        rintro e w8 ⟨he, hb⟩
        rw [← HEVS.out] at he
        subst he
        have HB8 := Lib.hid (HB7.out.trans (hb.mono HB7.out.size))
        clear hb
        dsimp only
        refine hK.out _ _ (ROWS.out _ HB8.out) (fun hS => ?_)
        clear hK K
        try simp only [List.getElem_toArray, List.getElem_cons_succ, List.getElem_cons_zero, Act.put, List.setIfInBounds_toArray, List.set_cons_zero, List.set_cons_succ]
        refine wpAnyH_ready (rs := [12]) (by kernel_rfl) (by simp) ?_
        refine .cons rfl (fun K hK => ?_) .nil
        go_simp
        refine (rgroups8_any HQ.out ev (by omega) _ (HPA.out.later HB8.out)).mono ?_
        rintro e w9 ⟨he, hb⟩
        rw [← HGE.out] at he
        subst he
        have HB9 := Lib.hid (HB8.out.trans (hb.mono HB8.out.size))
        clear hb
        dsimp only
        refine hK.out _ _ (ROWS.out _ HB9.out) (fun hS => ?_)
        clear hK K
        try simp only [List.getElem_toArray, List.getElem_cons_succ, List.getElem_cons_zero, Act.put, List.setIfInBounds_toArray, List.set_cons_zero, List.set_cons_succ]
        refine wpAnyH_take (i := 13) (v := ?_) rfl (by kernel_rfl) (by kernel_rfl) (by kernel_rfl) (fun _ _ _ h => h) (Or.inl ⟨by rfl, ?_⟩) hS ?_
        rotate_left
        · (intro W h; obtain ⟨a,b,c,d,e,f,g,h⟩ := h; go_simp; try with_reducible rfl)
        try simp only [List.getElem_toArray, List.getElem_cons_succ, List.getElem_cons_zero, Act.put, List.setIfInBounds_toArray, List.set_cons_zero, List.set_cons_succ]
        refine wpAnyH_take (i := 14) (v := ?_) rfl (by kernel_rfl) (by kernel_rfl) (by kernel_rfl) (fun _ _ _ h => h) (Or.inl ⟨by rfl, ?_⟩) hS ?_
        rotate_left
        · (intro W h; obtain ⟨a,b,c,d,e,f,g,h⟩ := h; go_simp; try with_reducible rfl)
        try simp only [List.getElem_toArray, List.getElem_cons_succ, List.getElem_cons_zero, Act.put, List.setIfInBounds_toArray, List.set_cons_zero, List.set_cons_succ]
        refine wpAnyH_done (by kernel_rfl) ?_ _
        clear hS
        go_wp2_with fail
        exact ⟨⟨k + 1, by omega, rfl, by rw [HNX.out]; rfl, HB9.out⟩, by simp [intOf]; omega⟩
    · have h1i : ¬ (ones k : Int) < (ones b : Int) := by omega
      have h1d : decide (ones k < ones b) = false := decide_eq_false h1
      have h1j : decide ((ones k : Int) < (ones b : Int)) = false := decide_eq_false h1i
      rw [h1d, Bool.false_and] at hnx
      have HNX := Lib.hid hnx
      clear hnx
      go_wp2_with fail
      refine wp_region_held_drew (S := fun W' => W'.cell? ⟨w.heap.size, 0, none⟩ = some (.slice aob q.pr.bs.length capb) ∧ W'.cell? ⟨w.heap.size, 1, none⟩ = some (.int .i64 q.pr.zl) ∧ W'.cell? ⟨w.heap.size, 2, none⟩ = some (.int .i64 q.pr.zh) ∧ W'.cell? ⟨w.heap.size, 3, none⟩ = some (.int .i64 q.pr.rl) ∧ W'.cell? ⟨w.heap.size, 4, none⟩ = some (.int .i64 q.pr.rh) ∧ W'.cell? ⟨w.heap.size, 5, none⟩ = some (.slice aor q.pr.rs.length capr) ∧ W'.cell? ⟨w.heap.size, 6, none⟩ = some (.int .i64 q.wide) ∧ W'.cell? ⟨w.heap.size, 7, none⟩ = some (.slice aop q.prices.length capp)) (by kernel_rfl) (ROWS.out _ HB5.out.drew) fun hS => ?_
      have HBD := Lib.hid HB5.out.drew
      refine wpAnyH_take (i := 0) (v := ?_) rfl (by kernel_rfl) (by kernel_rfl) (by kernel_rfl) (fun _ _ _ h => h) (Or.inl ⟨by rfl, ?_⟩) hS ?_
      rotate_left
      · (intro W h; obtain ⟨a,b,c,d,e,f,g,h⟩ := h; go_simp; try with_reducible rfl)
      try simp only [List.getElem_toArray, List.getElem_cons_succ, List.getElem_cons_zero, Act.put, List.setIfInBounds_toArray, List.set_cons_zero, List.set_cons_succ]
      refine wpAnyH_take (i := 2) (v := ?_) rfl (by kernel_rfl) (by kernel_rfl) (by kernel_rfl) (fun _ _ _ h => h) (Or.inl ⟨by rfl, ?_⟩) hS ?_
      rotate_left
      · (intro W h; obtain ⟨a,b,c,d,e,f,g,h⟩ := h; go_simp; try with_reducible rfl)
      try simp only [List.getElem_toArray, List.getElem_cons_succ, List.getElem_cons_zero, Act.put, List.setIfInBounds_toArray, List.set_cons_zero, List.set_cons_succ]
      refine wpAnyH_ready (rs := [1]) (by kernel_rfl) (by simp) ?_
      refine .cons rfl (fun K hK => ?_) .nil
      go_simp
      refine (size8_any k (by omega) _).mono ?_
      rintro e wz ⟨rfl, rfl⟩
      try dsimp only
      refine hK.out _ _ hS (fun hS => ?_)
      clear hK K
      try simp only [List.getElem_toArray, List.getElem_cons_succ, List.getElem_cons_zero, Act.put, List.setIfInBounds_toArray, List.set_cons_zero, List.set_cons_succ]
      refine wpAnyH_ready (rs := [3]) (by kernel_rfl) (by simp) ?_
      refine .cons rfl (fun K hK => ?_) .nil
      go_simp
      refine (size8_any b (by omega) _).mono ?_
      rintro e wz ⟨rfl, rfl⟩
      try dsimp only
      refine hK.out _ _ hS (fun hS => ?_)
      clear hK K
      try simp only [List.getElem_toArray, List.getElem_cons_succ, List.getElem_cons_zero, Act.put, List.setIfInBounds_toArray, List.set_cons_zero, List.set_cons_succ]
      refine wpAnyH_take (i := 4) (v := ?_) rfl (by kernel_rfl) (by kernel_rfl) (by kernel_rfl) (fun _ _ _ h => h) (Or.inl ⟨by rfl, ?_⟩) hS ?_
      rotate_left
      · (intro W h; obtain ⟨a,b,c,d,e,f,g,h⟩ := h; go_simp; try with_reducible rfl)
      try simp only [List.getElem_toArray, List.getElem_cons_succ, List.getElem_cons_zero, Act.put, List.setIfInBounds_toArray, List.set_cons_zero, List.set_cons_succ]
      refine wpAnyH_take (i := 5) (v := ?_) rfl (by kernel_rfl) (by kernel_rfl) (by kernel_rfl) (fun _ _ _ h => h) (Or.inl ⟨by rfl, ?_⟩) hS ?_
      rotate_left
      · (intro W h; obtain ⟨a,b,c,d,e,f,g,h⟩ := h; go_simp; try with_reducible rfl)
      try simp only [List.getElem_toArray, List.getElem_cons_succ, List.getElem_cons_zero, Act.put, List.setIfInBounds_toArray, List.set_cons_zero, List.set_cons_succ]
      refine wpAnyH_take (i := 6) (v := undef) rfl (by kernel_rfl) (by kernel_rfl) (by kernel_rfl) (fun _ _ _ h => h) (.inr ⟨rfl, rfl⟩) hS ?_
      try simp only [List.getElem_toArray, List.getElem_cons_succ, List.getElem_cons_zero, Act.put, List.setIfInBounds_toArray, List.set_cons_zero, List.set_cons_succ]
      refine wpAnyH_take (i := 7) (v := undef) rfl (by kernel_rfl) (by kernel_rfl) (by kernel_rfl) (fun _ _ _ h => h) (.inr ⟨rfl, rfl⟩) hS ?_
      try simp only [List.getElem_toArray, List.getElem_cons_succ, List.getElem_cons_zero, Act.put, List.setIfInBounds_toArray, List.set_cons_zero, List.set_cons_succ]
      refine wpAnyH_take (i := 8) (v := undef) rfl (by kernel_rfl) (by kernel_rfl) (by kernel_rfl) (fun _ _ _ h => h) (.inr ⟨rfl, rfl⟩) hS ?_
      try simp only [List.getElem_toArray, List.getElem_cons_succ, List.getElem_cons_zero, Act.put, List.setIfInBounds_toArray, List.set_cons_zero, List.set_cons_succ]
      refine wpAnyH_take (i := 9) (v := undef) rfl (by kernel_rfl) (by kernel_rfl) (by kernel_rfl) (fun _ _ _ h => h) (.inr ⟨rfl, rfl⟩) hS ?_
      try simp only [List.getElem_toArray, List.getElem_cons_succ, List.getElem_cons_zero, Act.put, List.setIfInBounds_toArray, List.set_cons_zero, List.set_cons_succ]
      refine wpAnyH_take (i := 10) (v := undef) rfl (by kernel_rfl) (by kernel_rfl) (by kernel_rfl) (fun _ _ _ h => h) (.inr ⟨rfl, rfl⟩) hS ?_
      try simp only [List.getElem_toArray, List.getElem_cons_succ, List.getElem_cons_zero, Act.put, List.setIfInBounds_toArray, List.set_cons_zero, List.set_cons_succ]
      refine wpAnyH_take (i := 11) (v := undef) rfl (by kernel_rfl) (by kernel_rfl) (by kernel_rfl) (fun _ _ _ h => h) (.inr ⟨rfl, rfl⟩) hS ?_
      try simp only [List.getElem_toArray, List.getElem_cons_succ, List.getElem_cons_zero, Act.put, List.setIfInBounds_toArray, List.set_cons_zero, List.set_cons_succ]
      refine wpAnyH_take (i := 12) (v := undef) rfl (by kernel_rfl) (by kernel_rfl) (by kernel_rfl) (fun _ _ _ h => h) (.inr ⟨rfl, rfl⟩) hS ?_
      try simp only [List.getElem_toArray, List.getElem_cons_succ, List.getElem_cons_zero, Act.put, List.setIfInBounds_toArray, List.set_cons_zero, List.set_cons_succ]
      refine wpAnyH_take (i := 13) (v := undef) rfl (by kernel_rfl) (by kernel_rfl) (by kernel_rfl) (fun _ _ _ h => h) (.inr ⟨rfl, rfl⟩) hS ?_
      try simp only [List.getElem_toArray, List.getElem_cons_succ, List.getElem_cons_zero, Act.put, List.setIfInBounds_toArray, List.set_cons_zero, List.set_cons_succ]
      refine wpAnyH_take (i := 14) (v := ?_) rfl (by kernel_rfl) (by kernel_rfl) (by kernel_rfl) (fun _ _ _ h => h) (Or.inl ⟨by rfl, ?_⟩) hS ?_
      rotate_left
      · (intro W h; obtain ⟨a,b,c,d,e,f,g,h⟩ := h; go_simp; try with_reducible rfl)
      try simp only [List.getElem_toArray, List.getElem_cons_succ, List.getElem_cons_zero, Act.put, List.setIfInBounds_toArray, List.set_cons_zero, List.set_cons_succ]
      refine wpAnyH_done (by kernel_rfl) ?_ _
      clear hS
      go_wp2_with fail
      exact ⟨⟨k + 1, by omega, rfl, by rw [HNX.out]; rfl, HBD.out⟩, by simp [intOf]; omega⟩
end Go.Proofs.YtabbmihakoeegaaGreat

/- The reference: Order. -/
namespace Go.Proofs.YtabbmihakoeegaaGreat
set_option linter.unusedVariables false
set_option linter.unusedSimpArgs false
open Go.RowKit Go.Shelf
attribute [local go_sem] Oper.semAt_some

theorem nextP_next (q : PlanD) (s k : Nat) : nextP q s (k + 1) = nextStep q s (nextP q s k) k := by unfold nextP; rw [List.range_succ, List.foldl_append]; rfl
theorem nextP_form (q : PlanD) (s k : Nat) : (nextP q s k).1 = -1 ∨ ∃ m : Nat, m < k ∧ (nextP q s k).1 = m ∧ (nextP q s k).2 = totalV q.pr (s + 2 ^ m) ∧ s.testBit m = false := by
  rcases nextP_inv q s k with ⟨h, _⟩ | ⟨m, h1, h2, h3, _⟩
  · exact .inl h
  · exact .inr ⟨m, h1, by rw [h2], by rw [h2], h3⟩
set_option maxRecDepth 100000 in
set_option maxHeartbeats 8000000 in
theorem rorder_any {q : PlanD} (hl : validP q = true → Light q) {bs rs ps : Value} (w : World) (hpa : PlanAt w q bs rs ps) :
    Calls Tryz.prog 21 #[.agg (planRow q bs rs ps)] w (OrderR q w) := by
  have HL := Lib.hid hl
  clear hl
  obtain ⟨aob, capb, hbv, _⟩ := id hpa.p.b
  obtain ⟨aor, capr, hrv, _⟩ := id hpa.p.r
  obtain ⟨aop, capp, hpv, _⟩ := id hpa.n
  subst hbv hrv hpv
  obtain ⟨W0, hW0⟩ : ∃ W0, W0 = w.alloc (.cells (planRow q (.slice aob q.pr.bs.length capb) (.slice aor q.pr.rs.length capr) (.slice aop q.prices.length capp)) 30 (0, 0)) := ⟨_, rfl⟩
  have hb0 : Below w.heap.size w W0 := by rw [hW0]; exact (Below.refl _ _).alloc (Nat.le_refl _) _
  have hr1 : W0.heap[w.heap.size]? = some (.cells (planRow q (.slice aob q.pr.bs.length capb) (.slice aor q.pr.rs.length capr) (.slice aop q.prices.length capp)) 30 (0, 0)) := by rw [hW0]; exact heap_alloc_at _ _ _ rfl
  have hsw : W0.heap.size = w.heap.size + 1 := by rw [hW0]; simp
  have HB0 := Lib.hid hb0
  have HR1 := Lib.hid hr1
  have HPA := Lib.hid (hpa.later hb0)
  have rows : ∀ W', Below W0.heap.size W0 W' → (W'.cell? ⟨w.heap.size, 0, none⟩ = some (.slice aob q.pr.bs.length capb) ∧ W'.cell? ⟨w.heap.size, 1, none⟩ = some (.int .i64 q.pr.zl) ∧ W'.cell? ⟨w.heap.size, 2, none⟩ = some (.int .i64 q.pr.zh) ∧
        W'.cell? ⟨w.heap.size, 3, none⟩ = some (.int .i64 q.pr.rl) ∧ W'.cell? ⟨w.heap.size, 4, none⟩ = some (.int .i64 q.pr.rh) ∧ W'.cell? ⟨w.heap.size, 5, none⟩ = some (.slice aor q.pr.rs.length capr) ∧ W'.cell? ⟨w.heap.size, 6, none⟩ = some (.int .i64 q.wide) ∧ W'.cell? ⟨w.heap.size, 7, none⟩ = some (.slice aop q.prices.length capp)) := fun W' hb => by
    have q1 := (hb.block w.heap.size (by omega)).trans hr1
    unfold planRow at q1
    refine ⟨?_, ?_, ?_, ?_, ?_, ?_, ?_, ?_⟩ <;> (rw [cell_of_row _ _ _ _ _ _ q1]; rfl)
  have ROWS := Lib.hid rows
  clear rows hb0 hr1 hpa
  unfold planRow at hW0 ⊢
  obtain ⟨c0, c1, c2, c3, c4, c5, c6, c7⟩ := ROWS.out W0 (Below.refl _ _)
  have HB1 : Hid (Below W0.heap.size W0 W0) := Lib.hid (Below.refl _ _)
  go_enter Tryz.func21, Tryz.ntmps21
  go_wp2_with fail
  rw [← hW0]
  clear hW0
  refine (rtold8_any HL.out _ (HPA.out.later HB1.out)).mono ?_
  rintro e w2 ⟨rfl, hb⟩
  have HB2 := Lib.hid (HB1.out.trans (hb.mono HB1.out.size))
  clear hb
  try dsimp only
  clear c0 c1 c2 c3 c4 c5 c6 c7
  obtain ⟨er, her⟩ : ∃ x, x = errE q := ⟨_, rfl⟩
  rw [← her]
  by_cases hz : er = 0
  case neg =>
    have HV := Lib.hid (order_err her.symm hz)
    have hz1 : (er != 0) = true := by simpa using hz
    have hz2 : (er == 0) = false := by rw [beq_eq_false_iff_ne]; exact hz
    clear her
    go_wp2_with fail
    refine bodyPost_ret (v := .tuple #[.slice none 0 0, .int .i64 er]) (by simp [results, Tryz.results21, go_sem]) rfl ⟨.slice none 0 0, by rw [HV.out], ?_, HB0.out.trans (HB2.out.mono HB0.out.size)⟩
    rw [HV.out]
    exact ⟨none, 0, rfl, Nat.le_refl _, by unfold maxLen; omega, fun i hi => absurd hi (Nat.not_lt_zero _)⟩
  case pos =>
  subst hz
  obtain ⟨hv, ht, hen⟩ := errE_zero her.symm
  have hq := OkQ.of hv
  have h256 := hq.p256
  have hm8 := hq.m8
  have HVAL := Lib.hid (order_ok her.symm)
  have hinv := order_inv hq hen
  obtain ⟨L, hL⟩ : ∃ L, L = orderL q q.prices.length 0 := ⟨_, rfl⟩
  rw [← hL] at hinv HVAL
  have hL8 : L.length ≤ 8 := by
    have h1 := (hinv L.length (Nat.le_refl _)).left
    omega
  have HI := Lib.hid hinv
  have HSS : Hid (∀ k, setO q (k + 1) = setO q k + 2 ^ (nextV q (setO q k)).toNat) := Lib.hid fun _ => rfl
  have HNV : Hid (∀ s, nextV q s = (nextP q s q.prices.length).1) := Lib.hid fun _ => rfl
  have HLAT : Hid (∀ k, k < L.length → L[k]? = some (nextV q (setO q k))) := Lib.hid fun k hk => by
    have h1 := (orderL_at q q.prices.length 0).2.1 k (by rw [hL] at hk; exact hk)
    rw [Nat.zero_add] at h1
    rw [hL]
    exact h1.1
  have HLL := Lib.hid (HL.out hv)
  have HT := Lib.hid ht
  have HQ := Lib.hid hq
  clear her hv ht hen hq hL hinv
  go_wp2_with fail
  have hz2s := HB2.out.size
  go_loopw [5, 6] (fun ov sv wr => ∃ k : Nat, k ≤ L.length ∧ sv = .int .i64 (setO q k : Nat) ∧ wr.ownsRow W0.heap.size 3 1 ov k ((L.take k).map (Value.int .i64)) ∧ Below W0.heap.size W0 wr) (fun _ sv _ => 8 - ones (intOf sv).toNat)
  case atStart => exact ⟨0, Nat.zero_le _, rfl, World.ownsRow_nil _ _ _ _, HB2.out⟩
  case round =>
    obtain ⟨k, hk, rfl, hown, hb⟩ := hrel
    rename World => wo
    have HO := Lib.hid hown
    have HB := Lib.hid hb
    have hzr := hb.size
    clear hown hb
    replace ROWS := Lib.hid (fun W (h : Below wo.heap.size wo W) => ROWS.out W (HB.out.trans (h.mono HB.out.size)))
    replace HPA := Lib.hid (HPA.out.later HB.out)
    replace HB0 := Lib.hid (HB0.out.trans (HB.out.mono HB0.out.size))
    have HBw : Hid (Below wo.heap.size wo wo) := Lib.hid (Below.refl _ _)
    have hik := HI.out k hk
    have hsl := hik.lt
    obtain ⟨c0, c1, c2, c3, c4, c5, c6, c7⟩ := ROWS.out wo HBw.out
    by_cases hlt : k < L.length
    case neg =>
      obtain rfl : k = L.length := by omega
      have HYES := Lib.hid (hik.yes rfl)
      have hnum := nums_of_own (by rfl) (show wo.ownsRow W0.heap.size 3 1 u5 L.length (L.map (Value.int .i64)) by have := HO.out; rw [List.take_length] at this; exact this)
      have HNUM := Lib.hid hnum
      clear hik hnum
      go_wp2_with fail
      refine (renough_any HQ.out HT.out HLL.out (setO q L.length) hsl _ (HPA.out.later HBw.out)).mono ?_
      rintro e w5 ⟨he, hb⟩
      rw [HYES.out] at he
      try dsimp only at he
      subst he
      have HB5 := Lib.hid (HBw.out.trans (hb.mono HBw.out.size))
      clear hb
      try dsimp only
      clear c0 c1 c2 c3 c4 c5 c6 c7
      obtain ⟨c0, c1, c2, c3, c4, c5, c6, c7⟩ := ROWS.out w5 HB5.out
      go_wp2_with fail
      refine bodyPost_ret (v := .tuple #[u5, .int .i64 0]) (by simp [results, Tryz.results21, go_sem]) rfl ⟨u5, by rw [HVAL.out], ?_, HB0.out.trans (HB5.out.mono HB0.out.size)⟩
      rw [HVAL.out]
      exact (HNUM.out.later HB5.out.size (fun k h1 h2 => HB5.out.block k h1)).mono (fun k h => by omega)
    case pos =>
      have HNO := Lib.hid (hik.no hlt)
      have hone := hik.size
      obtain ⟨n, hn1, hn2, hn3, hn4, hn5⟩ := hik.next hlt
      have hat := HLAT.out k hlt
      have hnv : nextV q (setO q k) = (n : Int) := by rw [hat] at hn1; exact Option.some.inj hn1
      have hone2 := (HI.out (k + 1) (by omega)).size
      have hLk : L[k] = (n : Int) := by rw [List.getElem?_eq_getElem hlt] at hn1; exact Option.some.inj hn1
      have HTK := Lib.hid (show L.take (k + 1) = L.take k ++ [(n : Int)] by rw [List.take_succ_eq_append_getElem hlt, hLk])
      obtain ⟨s, hs⟩ : ∃ s, s = setO q k := ⟨_, rfl⟩
      rw [← hs] at hsl hn3 hn4 hone hnv HNO
      rw [← hs]
      have hadd := or_add ⟨s, by omega⟩ ⟨n, by omega⟩ hn3
      dsimp only at hadd
      rw [hadd] at hn4
      have hsn : s + 2 ^ n < 2 ^ q.prices.length := by rw [← hadd]; exact or_lt hsl hn2
      rw [hn4] at hone2
      have HSN := Lib.hid hn4
      have HNV2 := Lib.hid ((HNV.out s).symm.trans hnv)
      have HONE := Lib.hid hone
      have HONE2 := Lib.hid hone2
      clear hik hn1 hn3 hn4 hn5 hat hnv hs hadd hLk hone hone2
      go_wp2_with fail
      refine (renough_any HQ.out HT.out HLL.out s hsl _ (HPA.out.later HBw.out)).mono ?_
      rintro e w5 ⟨he, hb⟩
      rw [HNO.out] at he
      try dsimp only at he
      subst he
      have HB5 := Lib.hid (HBw.out.trans (hb.mono HBw.out.size))
      clear hb
      try dsimp only
      clear c0 c1 c2 c3 c4 c5 c6 c7
      obtain ⟨c0, c1, c2, c3, c4, c5, c6, c7⟩ := ROWS.out w5 HB5.out
      go_wp2_with fail
      clear c0 c1 c2 c3 c4 c5 c6 c7
      go_loopw [7, 8] (fun nv iv wr => ∃ j : Nat, j ≤ q.prices.length ∧ iv = .int .i64 j ∧ nv = .int .i64 (nextP q s j).1 ∧ Below wo.heap.size wo wr) (fun _ iv _ => q.prices.length - (intOf iv).toNat)
      case atStart => exact ⟨0, Nat.zero_le _, rfl, rfl, HB5.out⟩
      case round =>
        obtain ⟨j, hj, rfl, rfl, hb⟩ := hrel
        have HBj := Lib.hid hb
        have hzj := hb.size
        clear hb
        obtain ⟨c0, c1, c2, c3, c4, c5, c6, c7⟩ := ROWS.out wr HBj.out
        by_cases hjl : j < q.prices.length
        case neg =>
          obtain rfl : j = q.prices.length := by omega
          rw [HNV2.out]
          have HOj := Lib.hid (own_below HO.out HBj.out)
          obtain ⟨pw, hpw⟩ : ∃ x, x = 2 ^ n := ⟨_, rfl⟩
          have HPW := Lib.hid hpw
          rw [← hpw] at hsn HSN HONE2
          have hws : IntKind.i64.wrap ((s : Int) + (pw : Int)) = ((s + pw : Nat) : Int) := by rw [IntWalk.i64_in _ (by omega)]; omega
          clear hpw c0 c1 c2 c3 c4 c5 c6
          go_wp2_with (first | (refine wpList_append_here rfl (.tmp 49) (.tmp 51) 28 rfl W0.heap.size 3 1 8 (.int .i64 0) underInts infoInt rfl (by decide) _ k _ rfl (HOj.out.alloc _) wr.heap.size 1 #[.int .i64 n] 3 (0, 0) rfl (heap_alloc_at _ _ _ rfl) rfl (by simp [Value.oneCell']) (by omega) (by decide) (by simp; omega) ?_; intro v1 W7 hown7 hg7 hat7; have HO7 := Lib.hid hown7; have HG7 := Lib.hid hg7; clear hown7 hg7 hat7))
          have hb7 : Below W0.heap.size wr W7 := ((Below.refl _ _).alloc (by omega) (.cells #[.int .i64 n] 3)).trans ((Below.refl _ _).grown HG7.out (by simp; omega) (own_base (HOj.out.alloc (.cells #[.int .i64 n] 3))))
          have HB7 := Lib.hid hb7
          clear hb7 c7
          refine (power8_any n (by omega) _).mono ?_
          rintro e wz ⟨rfl, rfl⟩
          rw [← HPW.out]
          dsimp only
          go_wp2_with fail
          have hmeas : 8 - ones (intOf (Value.int .i64 ((s : Int) + (pw : Int)))).toNat < 8 - ones (intOf (Value.int .i64 (s : Int))).toNat := by
            have h1 := HONE.out
            have h2 := HONE2.out
            have h3 : ((s : Int) + (pw : Int)).toNat = s + pw := by omega
            simp only [intOf, h3, Int.toNat_natCast]
            omega
          exact ⟨⟨k + 1, by omega, by rw [HSN.out, Int.natCast_add], by rw [HTK.out, List.map_append]; exact HO7.out, HB.out.trans ((HBj.out.mono hzr).trans HB7.out)⟩, hmeas⟩
        case pos =>
        have hji : (j : Int) < (q.prices.length : Int) := by omega
        have hwi : IntKind.i64.wrap ((j : Int) + 1) = ((j + 1 : Nat) : Int) := by rw [IntWalk.i64_in _ (by omega)]; omega
        have hnx := nextP_next q s j
        have hform := nextP_form q s j
        obtain ⟨a, ha⟩ : ∃ a, a = nextP q s j := ⟨_, rfl⟩
        rw [← ha] at hnx hform
        rw [← ha]
        obtain ⟨a1, a2⟩ := a
        dsimp only at hform
        dsimp only
        unfold nextStep at hnx
        dsimp only at hnx
        clear ha
        cases hbit : s.testBit j with
        | true =>
          rw [if_pos hbit] at hnx
          have HNX := Lib.hid hnx
          have HBIT := Lib.hid hbit
          clear hnx hform hbit
          go_wp2_with fail
          clear c0 c1 c2 c3 c4 c5 c6 c7
          refine wp_region_held_drew (S := fun W' => W'.cell? ⟨w.heap.size, 0, none⟩ = some (.slice aob q.pr.bs.length capb) ∧ W'.cell? ⟨w.heap.size, 1, none⟩ = some (.int .i64 q.pr.zl) ∧ W'.cell? ⟨w.heap.size, 2, none⟩ = some (.int .i64 q.pr.zh) ∧ W'.cell? ⟨w.heap.size, 3, none⟩ = some (.int .i64 q.pr.rl) ∧ W'.cell? ⟨w.heap.size, 4, none⟩ = some (.int .i64 q.pr.rh) ∧ W'.cell? ⟨w.heap.size, 5, none⟩ = some (.slice aor q.pr.rs.length capr) ∧ W'.cell? ⟨w.heap.size, 6, none⟩ = some (.int .i64 q.wide) ∧ W'.cell? ⟨w.heap.size, 7, none⟩ = some (.slice aop q.prices.length capp)) (by kernel_rfl) (ROWS.out _ HBj.out.drew) fun hS => ?_
          have HBD := Lib.hid HBj.out.drew
          refine wpAnyH_take (i := 0) (v := ?_) rfl (by kernel_rfl) (by kernel_rfl) (by kernel_rfl) (fun _ _ _ h => h) (Or.inl ⟨by rfl, ?_⟩) hS ?_
          rotate_left
          · (intro W h; obtain ⟨a,b,c,d,e,f,g,h⟩ := h; go_simp; try with_reducible rfl)
          try simp only [List.getElem_toArray, List.getElem_cons_succ, List.getElem_cons_zero, Act.put, List.setIfInBounds_toArray, List.set_cons_zero, List.set_cons_succ]
          refine wpAnyH_take (i := 1) (v := ?_) rfl (by kernel_rfl) (by kernel_rfl) (by kernel_rfl) (fun _ _ _ h => h) (Or.inl ⟨by rfl, ?_⟩) hS ?_
          rotate_left
          · (intro W h; obtain ⟨a,b,c,d,e,f,g,h⟩ := h; go_simp; try with_reducible rfl)
          try simp only [List.getElem_toArray, List.getElem_cons_succ, List.getElem_cons_zero, Act.put, List.setIfInBounds_toArray, List.set_cons_zero, List.set_cons_succ]
          refine wpAnyH_ready (rs := [2]) (by kernel_rfl) (by simp) ?_
          refine .cons rfl (fun K hK => ?_) .nil
          go_simp
          refine (has8_any s j (by omega) (by omega) _).mono ?_
          rintro e wz ⟨he, rfl⟩
          rw [HBIT.out] at he
          subst he
          dsimp only
          refine hK.out _ _ hS (fun hS => ?_)
          clear hK K
          try simp only [List.getElem_toArray, List.getElem_cons_succ, List.getElem_cons_zero, Act.put, List.setIfInBounds_toArray, List.set_cons_zero, List.set_cons_succ]
          refine wpAnyH_take (i := 3) (v := ?_) rfl (by kernel_rfl) (by kernel_rfl) (by kernel_rfl) (fun _ _ _ h => h) (Or.inl ⟨by rfl, ?_⟩) hS ?_
          rotate_left
          · (intro W h; obtain ⟨a,b,c,d,e,f,g,h⟩ := h; go_simp; try with_reducible rfl)
          try simp only [List.getElem_toArray, List.getElem_cons_succ, List.getElem_cons_zero, Act.put, List.setIfInBounds_toArray, List.set_cons_zero, List.set_cons_succ]
          refine wpAnyH_take (i := 4) (v := ?_) rfl (by kernel_rfl) (by kernel_rfl) (by kernel_rfl) (fun _ _ _ h => h) (Or.inl ⟨by rfl, ?_⟩) hS ?_
          rotate_left
          · (intro W h; obtain ⟨a,b,c,d,e,f,g,h⟩ := h; go_simp; try with_reducible rfl)
          try simp only [List.getElem_toArray, List.getElem_cons_succ, List.getElem_cons_zero, Act.put, List.setIfInBounds_toArray, List.set_cons_zero, List.set_cons_succ]
          refine wpAnyH_take (i := 5) (v := undef) rfl (by kernel_rfl) (by kernel_rfl) (by kernel_rfl) (fun _ _ _ h => h) (.inr ⟨rfl, rfl⟩) hS ?_
          try simp only [List.getElem_toArray, List.getElem_cons_succ, List.getElem_cons_zero, Act.put, List.setIfInBounds_toArray, List.set_cons_zero, List.set_cons_succ]
          refine wpAnyH_take (i := 6) (v := undef) rfl (by kernel_rfl) (by kernel_rfl) (by kernel_rfl) (fun _ _ _ h => h) (.inr ⟨rfl, rfl⟩) hS ?_
          try simp only [List.getElem_toArray, List.getElem_cons_succ, List.getElem_cons_zero, Act.put, List.setIfInBounds_toArray, List.set_cons_zero, List.set_cons_succ]
          refine wpAnyH_take (i := 7) (v := undef) rfl (by kernel_rfl) (by kernel_rfl) (by kernel_rfl) (fun _ _ _ h => h) (.inr ⟨rfl, rfl⟩) hS ?_
          try simp only [List.getElem_toArray, List.getElem_cons_succ, List.getElem_cons_zero, Act.put, List.setIfInBounds_toArray, List.set_cons_zero, List.set_cons_succ]
          refine wpAnyH_take (i := 8) (v := undef) rfl (by kernel_rfl) (by kernel_rfl) (by kernel_rfl) (fun _ _ _ h => h) (.inr ⟨rfl, rfl⟩) hS ?_
          try simp only [List.getElem_toArray, List.getElem_cons_succ, List.getElem_cons_zero, Act.put, List.setIfInBounds_toArray, List.set_cons_zero, List.set_cons_succ]
          refine wpAnyH_take (i := 9) (v := undef) rfl (by kernel_rfl) (by kernel_rfl) (by kernel_rfl) (fun _ _ _ h => h) (.inr ⟨rfl, rfl⟩) hS ?_
          try simp only [List.getElem_toArray, List.getElem_cons_succ, List.getElem_cons_zero, Act.put, List.setIfInBounds_toArray, List.set_cons_zero, List.set_cons_succ]
          refine wpAnyH_take (i := 10) (v := undef) rfl (by kernel_rfl) (by kernel_rfl) (by kernel_rfl) (fun _ _ _ h => h) (.inr ⟨rfl, rfl⟩) hS ?_
          try simp only [List.getElem_toArray, List.getElem_cons_succ, List.getElem_cons_zero, Act.put, List.setIfInBounds_toArray, List.set_cons_zero, List.set_cons_succ]
          refine wpAnyH_take (i := 11) (v := undef) rfl (by kernel_rfl) (by kernel_rfl) (by kernel_rfl) (fun _ _ _ h => h) (.inr ⟨rfl, rfl⟩) hS ?_
          try simp only [List.getElem_toArray, List.getElem_cons_succ, List.getElem_cons_zero, Act.put, List.setIfInBounds_toArray, List.set_cons_zero, List.set_cons_succ]
          refine wpAnyH_take (i := 12) (v := undef) rfl (by kernel_rfl) (by kernel_rfl) (by kernel_rfl) (fun _ _ _ h => h) (.inr ⟨rfl, rfl⟩) hS ?_
          try simp only [List.getElem_toArray, List.getElem_cons_succ, List.getElem_cons_zero, Act.put, List.setIfInBounds_toArray, List.set_cons_zero, List.set_cons_succ]
          refine wpAnyH_take (i := 13) (v := undef) rfl (by kernel_rfl) (by kernel_rfl) (by kernel_rfl) (fun _ _ _ h => h) (.inr ⟨rfl, rfl⟩) hS ?_
          try simp only [List.getElem_toArray, List.getElem_cons_succ, List.getElem_cons_zero, Act.put, List.setIfInBounds_toArray, List.set_cons_zero, List.set_cons_succ]
          refine wpAnyH_take (i := 14) (v := undef) rfl (by kernel_rfl) (by kernel_rfl) (by kernel_rfl) (fun _ _ _ h => h) (.inr ⟨rfl, rfl⟩) hS ?_
          try simp only [List.getElem_toArray, List.getElem_cons_succ, List.getElem_cons_zero, Act.put, List.setIfInBounds_toArray, List.set_cons_zero, List.set_cons_succ]
          refine wpAnyH_take (i := 15) (v := undef) rfl (by kernel_rfl) (by kernel_rfl) (by kernel_rfl) (fun _ _ _ h => h) (.inr ⟨rfl, rfl⟩) hS ?_
          try simp only [List.getElem_toArray, List.getElem_cons_succ, List.getElem_cons_zero, Act.put, List.setIfInBounds_toArray, List.set_cons_zero, List.set_cons_succ]
          refine wpAnyH_take (i := 16) (v := undef) rfl (by kernel_rfl) (by kernel_rfl) (by kernel_rfl) (fun _ _ _ h => h) (.inr ⟨rfl, rfl⟩) hS ?_
          try simp only [List.getElem_toArray, List.getElem_cons_succ, List.getElem_cons_zero, Act.put, List.setIfInBounds_toArray, List.set_cons_zero, List.set_cons_succ]
          refine wpAnyH_take (i := 17) (v := undef) rfl (by kernel_rfl) (by kernel_rfl) (by kernel_rfl) (fun _ _ _ h => h) (.inr ⟨rfl, rfl⟩) hS ?_
          try simp only [List.getElem_toArray, List.getElem_cons_succ, List.getElem_cons_zero, Act.put, List.setIfInBounds_toArray, List.set_cons_zero, List.set_cons_succ]
          refine wpAnyH_take (i := 18) (v := undef) rfl (by kernel_rfl) (by kernel_rfl) (by kernel_rfl) (fun _ _ _ h => h) (.inr ⟨rfl, rfl⟩) hS ?_
          try simp only [List.getElem_toArray, List.getElem_cons_succ, List.getElem_cons_zero, Act.put, List.setIfInBounds_toArray, List.set_cons_zero, List.set_cons_succ]
          refine wpAnyH_take (i := 19) (v := undef) rfl (by kernel_rfl) (by kernel_rfl) (by kernel_rfl) (fun _ _ _ h => h) (.inr ⟨rfl, rfl⟩) hS ?_
          try simp only [List.getElem_toArray, List.getElem_cons_succ, List.getElem_cons_zero, Act.put, List.setIfInBounds_toArray, List.set_cons_zero, List.set_cons_succ]
          refine wpAnyH_take (i := 20) (v := undef) rfl (by kernel_rfl) (by kernel_rfl) (by kernel_rfl) (fun _ _ _ h => h) (.inr ⟨rfl, rfl⟩) hS ?_
          try simp only [List.getElem_toArray, List.getElem_cons_succ, List.getElem_cons_zero, Act.put, List.setIfInBounds_toArray, List.set_cons_zero, List.set_cons_succ]
          refine wpAnyH_take (i := 21) (v := undef) rfl (by kernel_rfl) (by kernel_rfl) (by kernel_rfl) (fun _ _ _ h => h) (.inr ⟨rfl, rfl⟩) hS ?_
          try simp only [List.getElem_toArray, List.getElem_cons_succ, List.getElem_cons_zero, Act.put, List.setIfInBounds_toArray, List.set_cons_zero, List.set_cons_succ]
          refine wpAnyH_take (i := 22) (v := ?_) rfl (by kernel_rfl) (by kernel_rfl) (by kernel_rfl) (fun _ _ _ h => h) (Or.inl ⟨by rfl, ?_⟩) hS ?_
          rotate_left
          · (intro W h; obtain ⟨a,b,c,d,e,f,g,h⟩ := h; go_simp; try with_reducible rfl)
          try simp only [List.getElem_toArray, List.getElem_cons_succ, List.getElem_cons_zero, Act.put, List.setIfInBounds_toArray, List.set_cons_zero, List.set_cons_succ]
          refine wpAnyH_done (by kernel_rfl) ?_ _
          clear hS
          go_wp2_with fail
          exact ⟨⟨j + 1, by omega, rfl, by first | (rw [HNX.out]; rfl) | rw [HNX.out], HBD.out⟩, by simp [intOf]; omega⟩
        | false =>
          rw [if_neg (by rw [hbit]; decide)] at hnx
          rcases hform with hf | ⟨m, hm1, hm2, hm3, hm4⟩
          · rw [if_pos (.inl (by omega))] at hnx
            subst hf
            have HNX := Lib.hid hnx
            have HBIT := Lib.hid hbit
            clear hnx hbit
            go_wp2_with fail
            clear c0 c1 c2 c3 c4 c5 c6 c7
            refine wp_region_held_drew (S := fun W' => W'.cell? ⟨w.heap.size, 0, none⟩ = some (.slice aob q.pr.bs.length capb) ∧ W'.cell? ⟨w.heap.size, 1, none⟩ = some (.int .i64 q.pr.zl) ∧ W'.cell? ⟨w.heap.size, 2, none⟩ = some (.int .i64 q.pr.zh) ∧ W'.cell? ⟨w.heap.size, 3, none⟩ = some (.int .i64 q.pr.rl) ∧ W'.cell? ⟨w.heap.size, 4, none⟩ = some (.int .i64 q.pr.rh) ∧ W'.cell? ⟨w.heap.size, 5, none⟩ = some (.slice aor q.pr.rs.length capr) ∧ W'.cell? ⟨w.heap.size, 6, none⟩ = some (.int .i64 q.wide) ∧ W'.cell? ⟨w.heap.size, 7, none⟩ = some (.slice aop q.prices.length capp)) (by kernel_rfl) (ROWS.out _ HBj.out.drew) fun hS => ?_
            have HBD := Lib.hid HBj.out.drew
            refine wpAnyH_take (i := 0) (v := ?_) rfl (by kernel_rfl) (by kernel_rfl) (by kernel_rfl) (fun _ _ _ h => h) (Or.inl ⟨by rfl, ?_⟩) hS ?_
            rotate_left
            · (intro W h; obtain ⟨a,b,c,d,e,f,g,h⟩ := h; go_simp; try with_reducible rfl)
            try simp only [List.getElem_toArray, List.getElem_cons_succ, List.getElem_cons_zero, Act.put, List.setIfInBounds_toArray, List.set_cons_zero, List.set_cons_succ]
            refine wpAnyH_take (i := 1) (v := ?_) rfl (by kernel_rfl) (by kernel_rfl) (by kernel_rfl) (fun _ _ _ h => h) (Or.inl ⟨by rfl, ?_⟩) hS ?_
            rotate_left
            · (intro W h; obtain ⟨a,b,c,d,e,f,g,h⟩ := h; go_simp; try with_reducible rfl)
            try simp only [List.getElem_toArray, List.getElem_cons_succ, List.getElem_cons_zero, Act.put, List.setIfInBounds_toArray, List.set_cons_zero, List.set_cons_succ]
            refine wpAnyH_ready (rs := [2]) (by kernel_rfl) (by simp) ?_
            refine .cons rfl (fun K hK => ?_) .nil
            go_simp
            refine (has8_any s j (by omega) (by omega) _).mono ?_
            rintro e wz ⟨he, rfl⟩
            rw [HBIT.out] at he
            subst he
            dsimp only
            refine hK.out _ _ hS (fun hS => ?_)
            clear hK K
            try simp only [List.getElem_toArray, List.getElem_cons_succ, List.getElem_cons_zero, Act.put, List.setIfInBounds_toArray, List.set_cons_zero, List.set_cons_succ]
            refine wpAnyH_take (i := 3) (v := ?_) rfl (by kernel_rfl) (by kernel_rfl) (by kernel_rfl) (fun _ _ _ h => h) (Or.inl ⟨by rfl, ?_⟩) hS ?_
            rotate_left
            · (intro W h; obtain ⟨a,b,c,d,e,f,g,h⟩ := h; go_simp; try with_reducible rfl)
            try simp only [List.getElem_toArray, List.getElem_cons_succ, List.getElem_cons_zero, Act.put, List.setIfInBounds_toArray, List.set_cons_zero, List.set_cons_succ]
            refine wpAnyH_take (i := 4) (v := ?_) rfl (by kernel_rfl) (by kernel_rfl) (by kernel_rfl) (fun _ _ _ h => h) (Or.inl ⟨by rfl, ?_⟩) hS ?_
            rotate_left
            · (intro W h; obtain ⟨a,b,c,d,e,f,g,h⟩ := h; go_simp; try with_reducible rfl)
            try simp only [List.getElem_toArray, List.getElem_cons_succ, List.getElem_cons_zero, Act.put, List.setIfInBounds_toArray, List.set_cons_zero, List.set_cons_succ]
            refine wpAnyH_take (i := 5) (v := ?_) rfl (by kernel_rfl) (by kernel_rfl) (by kernel_rfl) (fun _ _ _ h => h) (Or.inl ⟨by rfl, ?_⟩) hS ?_
            rotate_left
            · (intro W h; obtain ⟨a,b,c,d,e,f,g,h⟩ := h; go_simp; try with_reducible rfl)
            try simp only [List.getElem_toArray, List.getElem_cons_succ, List.getElem_cons_zero, Act.put, List.setIfInBounds_toArray, List.set_cons_zero, List.set_cons_succ]
            refine wpAnyH_take (i := 6) (v := ?_) rfl (by kernel_rfl) (by kernel_rfl) (by kernel_rfl) (fun _ _ _ h => h) (Or.inl ⟨by rfl, ?_⟩) hS ?_
            rotate_left
            · (intro W h; obtain ⟨a,b,c,d,e,f,g,h⟩ := h; go_simp; try with_reducible rfl)
            try simp only [List.getElem_toArray, List.getElem_cons_succ, List.getElem_cons_zero, Act.put, List.setIfInBounds_toArray, List.set_cons_zero, List.set_cons_succ]
            refine wpAnyH_take (i := 7) (v := ?_) rfl (by kernel_rfl) (by kernel_rfl) (by kernel_rfl) (fun _ _ _ h => h) (Or.inl ⟨by rfl, ?_⟩) hS ?_
            rotate_left
            · (intro W h; obtain ⟨a,b,c,d,e,f,g,h⟩ := h; go_simp; try with_reducible rfl)
            try simp only [List.getElem_toArray, List.getElem_cons_succ, List.getElem_cons_zero, Act.put, List.setIfInBounds_toArray, List.set_cons_zero, List.set_cons_succ]
            refine wpAnyH_take (i := 8) (v := undef) rfl (by kernel_rfl) (by kernel_rfl) (by kernel_rfl) (fun _ _ _ h => h) (.inr ⟨rfl, rfl⟩) hS ?_
            try simp only [List.getElem_toArray, List.getElem_cons_succ, List.getElem_cons_zero, Act.put, List.setIfInBounds_toArray, List.set_cons_zero, List.set_cons_succ]
            refine wpAnyH_take (i := 9) (v := undef) rfl (by kernel_rfl) (by kernel_rfl) (by kernel_rfl) (fun _ _ _ h => h) (.inr ⟨rfl, rfl⟩) hS ?_
            try simp only [List.getElem_toArray, List.getElem_cons_succ, List.getElem_cons_zero, Act.put, List.setIfInBounds_toArray, List.set_cons_zero, List.set_cons_succ]
            refine wpAnyH_take (i := 10) (v := undef) rfl (by kernel_rfl) (by kernel_rfl) (by kernel_rfl) (fun _ _ _ h => h) (.inr ⟨rfl, rfl⟩) hS ?_
            try simp only [List.getElem_toArray, List.getElem_cons_succ, List.getElem_cons_zero, Act.put, List.setIfInBounds_toArray, List.set_cons_zero, List.set_cons_succ]
            refine wpAnyH_take (i := 11) (v := undef) rfl (by kernel_rfl) (by kernel_rfl) (by kernel_rfl) (fun _ _ _ h => h) (.inr ⟨rfl, rfl⟩) hS ?_
            try simp only [List.getElem_toArray, List.getElem_cons_succ, List.getElem_cons_zero, Act.put, List.setIfInBounds_toArray, List.set_cons_zero, List.set_cons_succ]
            refine wpAnyH_take (i := 12) (v := undef) rfl (by kernel_rfl) (by kernel_rfl) (by kernel_rfl) (fun _ _ _ h => h) (.inr ⟨rfl, rfl⟩) hS ?_
            try simp only [List.getElem_toArray, List.getElem_cons_succ, List.getElem_cons_zero, Act.put, List.setIfInBounds_toArray, List.set_cons_zero, List.set_cons_succ]
            refine wpAnyH_take (i := 13) (v := undef) rfl (by kernel_rfl) (by kernel_rfl) (by kernel_rfl) (fun _ _ _ h => h) (.inr ⟨rfl, rfl⟩) hS ?_
            try simp only [List.getElem_toArray, List.getElem_cons_succ, List.getElem_cons_zero, Act.put, List.setIfInBounds_toArray, List.set_cons_zero, List.set_cons_succ]
            refine wpAnyH_take (i := 14) (v := undef) rfl (by kernel_rfl) (by kernel_rfl) (by kernel_rfl) (fun _ _ _ h => h) (.inr ⟨rfl, rfl⟩) hS ?_
            try simp only [List.getElem_toArray, List.getElem_cons_succ, List.getElem_cons_zero, Act.put, List.setIfInBounds_toArray, List.set_cons_zero, List.set_cons_succ]
            refine wpAnyH_take (i := 15) (v := undef) rfl (by kernel_rfl) (by kernel_rfl) (by kernel_rfl) (fun _ _ _ h => h) (.inr ⟨rfl, rfl⟩) hS ?_
            try simp only [List.getElem_toArray, List.getElem_cons_succ, List.getElem_cons_zero, Act.put, List.setIfInBounds_toArray, List.set_cons_zero, List.set_cons_succ]
            refine wpAnyH_take (i := 16) (v := undef) rfl (by kernel_rfl) (by kernel_rfl) (by kernel_rfl) (fun _ _ _ h => h) (.inr ⟨rfl, rfl⟩) hS ?_
            try simp only [List.getElem_toArray, List.getElem_cons_succ, List.getElem_cons_zero, Act.put, List.setIfInBounds_toArray, List.set_cons_zero, List.set_cons_succ]
            refine wpAnyH_take (i := 17) (v := undef) rfl (by kernel_rfl) (by kernel_rfl) (by kernel_rfl) (fun _ _ _ h => h) (.inr ⟨rfl, rfl⟩) hS ?_
            try simp only [List.getElem_toArray, List.getElem_cons_succ, List.getElem_cons_zero, Act.put, List.setIfInBounds_toArray, List.set_cons_zero, List.set_cons_succ]
            refine wpAnyH_take (i := 18) (v := undef) rfl (by kernel_rfl) (by kernel_rfl) (by kernel_rfl) (fun _ _ _ h => h) (.inr ⟨rfl, rfl⟩) hS ?_
            try simp only [List.getElem_toArray, List.getElem_cons_succ, List.getElem_cons_zero, Act.put, List.setIfInBounds_toArray, List.set_cons_zero, List.set_cons_succ]
            refine wpAnyH_take (i := 19) (v := undef) rfl (by kernel_rfl) (by kernel_rfl) (by kernel_rfl) (fun _ _ _ h => h) (.inr ⟨rfl, rfl⟩) hS ?_
            try simp only [List.getElem_toArray, List.getElem_cons_succ, List.getElem_cons_zero, Act.put, List.setIfInBounds_toArray, List.set_cons_zero, List.set_cons_succ]
            refine wpAnyH_take (i := 20) (v := undef) rfl (by kernel_rfl) (by kernel_rfl) (by kernel_rfl) (fun _ _ _ h => h) (.inr ⟨rfl, rfl⟩) hS ?_
            try simp only [List.getElem_toArray, List.getElem_cons_succ, List.getElem_cons_zero, Act.put, List.setIfInBounds_toArray, List.set_cons_zero, List.set_cons_succ]
            refine wpAnyH_take (i := 21) (v := ?_) rfl (by kernel_rfl) (by kernel_rfl) (by kernel_rfl) (fun _ _ _ h => h) (Or.inl ⟨by rfl, ?_⟩) hS ?_
            rotate_left
            · (intro W h; obtain ⟨a,b,c,d,e,f,g,h⟩ := h; go_simp; try with_reducible rfl)
            try simp only [List.getElem_toArray, List.getElem_cons_succ, List.getElem_cons_zero, Act.put, List.setIfInBounds_toArray, List.set_cons_zero, List.set_cons_succ]
            refine wpAnyH_take (i := 22) (v := ?_) rfl (by kernel_rfl) (by kernel_rfl) (by kernel_rfl) (fun _ _ _ h => h) (Or.inl ⟨by rfl, ?_⟩) hS ?_
            rotate_left
            · (intro W h; obtain ⟨a,b,c,d,e,f,g,h⟩ := h; go_simp; try with_reducible rfl)
            try simp only [List.getElem_toArray, List.getElem_cons_succ, List.getElem_cons_zero, Act.put, List.setIfInBounds_toArray, List.set_cons_zero, List.set_cons_succ]
            refine wpAnyH_done (by kernel_rfl) ?_ _
            clear hS
            go_wp2_with fail
            exact ⟨⟨j + 1, by omega, rfl, by first | (rw [HNX.out]; rfl) | rw [HNX.out], HBD.out⟩, by simp [intOf]; omega⟩
          · have hml : m < q.prices.length := by omega
            have e1 := or_add ⟨s, by omega⟩ ⟨j, by omega⟩ hbit
            have e2 := or_add ⟨s, by omega⟩ ⟨m, by omega⟩ hm4
            dsimp only at e1 e2
            have hs1 : s + 2 ^ j < 2 ^ q.prices.length := by rw [← e1]; exact or_lt hsl hjl
            have hs2 : s + 2 ^ m < 2 ^ q.prices.length := by rw [← e2]; exact or_lt hsl hml
            obtain ⟨p1, hp1⟩ : ∃ x, x = 2 ^ j := ⟨_, rfl⟩
            obtain ⟨p2, hp2⟩ : ∃ x, x = 2 ^ m := ⟨_, rfl⟩
            rw [← hp1] at hs1 hnx
            rw [← hp2] at hs2 hm3
            obtain ⟨t1, ht1⟩ : ∃ x, x = totalV q.pr (s + p1) := ⟨_, rfl⟩
            obtain ⟨t2, ht2⟩ : ∃ x, x = totalV q.pr (s + p2) := ⟨_, rfl⟩
            rw [← ht1] at hnx
            rw [← ht2] at hm3
            subst hm2 hm3
            have HT1 := Lib.hid ht1
            have HT2 := Lib.hid ht2
            have HP1 := Lib.hid hp1
            have HP2 := Lib.hid hp2
            have hw1 : IntKind.i64.wrap ((s : Int) + (p1 : Int)) = ((s + p1 : Nat) : Int) := by rw [IntWalk.i64_in _ (by omega)]; omega
            have hw2 : IntKind.i64.wrap ((s : Int) + (p2 : Int)) = ((s + p2 : Nat) : Int) := by rw [IntWalk.i64_in _ (by omega)]; omega
            have hmn : decide ((m : Int) < 0) = false := decide_eq_false (by omega)
            have hmn2 : ¬ (m : Int) < 0 := by omega
            have HBIT := Lib.hid hbit
            clear hbit hm4 e1 e2 ht1 ht2 hp1 hp2
            go_wp2_with fail
            clear c0 c1 c2 c3 c4 c5 c6 c7
            refine wp_region_held_drew (S := fun W' => W'.cell? ⟨w.heap.size, 0, none⟩ = some (.slice aob q.pr.bs.length capb) ∧ W'.cell? ⟨w.heap.size, 1, none⟩ = some (.int .i64 q.pr.zl) ∧ W'.cell? ⟨w.heap.size, 2, none⟩ = some (.int .i64 q.pr.zh) ∧ W'.cell? ⟨w.heap.size, 3, none⟩ = some (.int .i64 q.pr.rl) ∧ W'.cell? ⟨w.heap.size, 4, none⟩ = some (.int .i64 q.pr.rh) ∧ W'.cell? ⟨w.heap.size, 5, none⟩ = some (.slice aor q.pr.rs.length capr) ∧ W'.cell? ⟨w.heap.size, 6, none⟩ = some (.int .i64 q.wide) ∧ W'.cell? ⟨w.heap.size, 7, none⟩ = some (.slice aop q.prices.length capp)) (by kernel_rfl) (ROWS.out _ HBj.out.drew) fun hS => ?_
            have HBD := Lib.hid HBj.out.drew
            refine wpAnyH_take (i := 0) (v := ?_) rfl (by kernel_rfl) (by kernel_rfl) (by kernel_rfl) (fun _ _ _ h => h) (Or.inl ⟨by rfl, ?_⟩) hS ?_
            rotate_left
            · (intro W h; obtain ⟨a,b,c,d,e,f,g,h⟩ := h; go_simp; try with_reducible rfl)
            try simp only [List.getElem_toArray, List.getElem_cons_succ, List.getElem_cons_zero, Act.put, List.setIfInBounds_toArray, List.set_cons_zero, List.set_cons_succ]
            refine wpAnyH_take (i := 1) (v := ?_) rfl (by kernel_rfl) (by kernel_rfl) (by kernel_rfl) (fun _ _ _ h => h) (Or.inl ⟨by rfl, ?_⟩) hS ?_
            rotate_left
            · (intro W h; obtain ⟨a,b,c,d,e,f,g,h⟩ := h; go_simp; try with_reducible rfl)
            try simp only [List.getElem_toArray, List.getElem_cons_succ, List.getElem_cons_zero, Act.put, List.setIfInBounds_toArray, List.set_cons_zero, List.set_cons_succ]
            refine wpAnyH_ready (rs := [2]) (by kernel_rfl) (by simp) ?_
            refine .cons rfl (fun K hK => ?_) .nil
            go_simp
            refine (has8_any s j (by omega) (by omega) _).mono ?_
            rintro e wz ⟨he, rfl⟩
            rw [HBIT.out] at he
            subst he
            dsimp only
            refine hK.out _ _ hS (fun hS => ?_)
            clear hK K
            try simp only [List.getElem_toArray, List.getElem_cons_succ, List.getElem_cons_zero, Act.put, List.setIfInBounds_toArray, List.set_cons_zero, List.set_cons_succ]
            refine wpAnyH_take (i := 3) (v := ?_) rfl (by kernel_rfl) (by kernel_rfl) (by kernel_rfl) (fun _ _ _ h => h) (Or.inl ⟨by rfl, ?_⟩) hS ?_
            rotate_left
            · (intro W h; obtain ⟨a,b,c,d,e,f,g,h⟩ := h; go_simp; try with_reducible rfl)
            try simp only [List.getElem_toArray, List.getElem_cons_succ, List.getElem_cons_zero, Act.put, List.setIfInBounds_toArray, List.set_cons_zero, List.set_cons_succ]
            refine wpAnyH_take (i := 4) (v := ?_) rfl (by kernel_rfl) (by kernel_rfl) (by kernel_rfl) (fun _ _ _ h => h) (Or.inl ⟨by rfl, ?_⟩) hS ?_
            rotate_left
            · (intro W h; obtain ⟨a,b,c,d,e,f,g,h⟩ := h; go_simp; try with_reducible rfl)
            try simp only [List.getElem_toArray, List.getElem_cons_succ, List.getElem_cons_zero, Act.put, List.setIfInBounds_toArray, List.set_cons_zero, List.set_cons_succ]
            refine wpAnyH_take (i := 5) (v := ?_) rfl (by kernel_rfl) (by kernel_rfl) (by kernel_rfl) (fun _ _ _ h => h) (Or.inl ⟨by rfl, ?_⟩) hS ?_
            rotate_left
            · (intro W h; obtain ⟨a,b,c,d,e,f,g,h⟩ := h; go_simp; try with_reducible rfl)
            try simp only [List.getElem_toArray, List.getElem_cons_succ, List.getElem_cons_zero, Act.put, List.setIfInBounds_toArray, List.set_cons_zero, List.set_cons_succ]
            refine wpAnyH_take (i := 6) (v := ?_) rfl (by kernel_rfl) (by kernel_rfl) (by kernel_rfl) (fun _ _ _ h => h) (Or.inl ⟨by rfl, ?_⟩) hS ?_
            rotate_left
            · (intro W h; obtain ⟨a,b,c,d,e,f,g,h⟩ := h; go_simp; try with_reducible rfl)
            try simp only [List.getElem_toArray, List.getElem_cons_succ, List.getElem_cons_zero, Act.put, List.setIfInBounds_toArray, List.set_cons_zero, List.set_cons_succ]
            refine wpAnyH_take (i := 7) (v := ?_) rfl (by kernel_rfl) (by kernel_rfl) (by kernel_rfl) (fun _ _ _ h => h) (Or.inl ⟨by rfl, ?_⟩) hS ?_
            rotate_left
            · (intro W h; obtain ⟨a,b,c,d,e,f,g,h⟩ := h; go_simp; try with_reducible rfl)
            try simp only [List.getElem_toArray, List.getElem_cons_succ, List.getElem_cons_zero, Act.put, List.setIfInBounds_toArray, List.set_cons_zero, List.set_cons_succ]
            refine wpAnyH_take (i := 8) (v := ?_) rfl (by kernel_rfl) (by kernel_rfl) (by kernel_rfl) (fun _ _ _ h => h) (Or.inl ⟨by rfl, ?_⟩) hS ?_
            rotate_left
            · (intro W h; obtain ⟨a,b,c,d,e,f,g,h⟩ := h; go_simp; try with_reducible rfl)
            try simp only [List.getElem_toArray, List.getElem_cons_succ, List.getElem_cons_zero, Act.put, List.setIfInBounds_toArray, List.set_cons_zero, List.set_cons_succ]
            refine wpAnyH_take (i := 9) (v := ?_) rfl (by kernel_rfl) (by kernel_rfl) (by kernel_rfl) (fun _ _ _ h => h) (Or.inl ⟨by rfl, ?_⟩) hS ?_
            rotate_left
            · (intro W h; obtain ⟨a,b,c,d,e,f,g,h⟩ := h; go_simp; try with_reducible rfl)
            try simp only [List.getElem_toArray, List.getElem_cons_succ, List.getElem_cons_zero, Act.put, List.setIfInBounds_toArray, List.set_cons_zero, List.set_cons_succ]
            refine wpAnyH_take (i := 10) (v := ?_) rfl (by kernel_rfl) (by kernel_rfl) (by kernel_rfl) (fun _ _ _ h => h) (Or.inl ⟨by rfl, ?_⟩) hS ?_
            rotate_left
            · (intro W h; obtain ⟨a,b,c,d,e,f,g,h⟩ := h; go_simp; try with_reducible rfl)
            try simp only [List.getElem_toArray, List.getElem_cons_succ, List.getElem_cons_zero, Act.put, List.setIfInBounds_toArray, List.set_cons_zero, List.set_cons_succ]
            refine wpAnyH_take (i := 14) (v := ?_) rfl (by kernel_rfl) (by kernel_rfl) (by kernel_rfl) (fun _ _ _ h => h) (Or.inl ⟨by rfl, ?_⟩) hS ?_
            rotate_left
            · (intro W h; obtain ⟨a,b,c,d,e,f,g,h⟩ := h; go_simp; try with_reducible rfl)
            try simp only [List.getElem_toArray, List.getElem_cons_succ, List.getElem_cons_zero, Act.put, List.setIfInBounds_toArray, List.set_cons_zero, List.set_cons_succ]
            refine wpAnyH_take (i := 15) (v := ?_) rfl (by kernel_rfl) (by kernel_rfl) (by kernel_rfl) (fun _ _ _ h => h) (Or.inl ⟨by rfl, ?_⟩) hS ?_
            rotate_left
            · (intro W h; obtain ⟨a,b,c,d,e,f,g,h⟩ := h; go_simp; try with_reducible rfl)
            try simp only [List.getElem_toArray, List.getElem_cons_succ, List.getElem_cons_zero, Act.put, List.setIfInBounds_toArray, List.set_cons_zero, List.set_cons_succ]
            refine wpAnyH_take (i := 16) (v := ?_) rfl (by kernel_rfl) (by kernel_rfl) (by kernel_rfl) (fun _ _ _ h => h) (Or.inl ⟨by rfl, ?_⟩) hS ?_
            rotate_left
            · (intro W h; obtain ⟨a,b,c,d,e,f,g,h⟩ := h; go_simp; try with_reducible rfl)
            try simp only [List.getElem_toArray, List.getElem_cons_succ, List.getElem_cons_zero, Act.put, List.setIfInBounds_toArray, List.set_cons_zero, List.set_cons_succ]
            refine wpAnyH_ready (rs := [11]) (by kernel_rfl) (by simp) ?_
            refine .cons rfl (fun K hK => ?_) .nil
            go_simp
            refine (power8_any j (by omega) _).mono ?_
            rintro e wz ⟨rfl, rfl⟩
            rw [← HP1.out]
            dsimp only
            refine hK.out _ _ hS (fun hS => ?_)
            clear hK K
            try simp only [List.getElem_toArray, List.getElem_cons_succ, List.getElem_cons_zero, Act.put, List.setIfInBounds_toArray, List.set_cons_zero, List.set_cons_succ]
            refine wpAnyH_take (i := 12) (v := ?_) rfl (by kernel_rfl) (by kernel_rfl) (by kernel_rfl) (fun _ _ _ h => h) (Or.inl ⟨by rfl, ?_⟩) hS ?_
            rotate_left
            · (intro W h; obtain ⟨a,b,c,d,e,f,g,h⟩ := h; go_simp; try with_reducible rfl)
            try simp only [List.getElem_toArray, List.getElem_cons_succ, List.getElem_cons_zero, Act.put, List.setIfInBounds_toArray, List.set_cons_zero, List.set_cons_succ]
            refine wpAnyH_ready (rs := [13]) (by kernel_rfl) (by simp) ?_
            refine .cons rfl (fun K hK => ?_) .nil
            go_simp
            refine (rsum_any HQ.out HT.out HLL.out (s + p1) hs1 _ (HPA.out.later HBD.out)).mono ?_
            rintro e w7 ⟨he, hb⟩
            rw [← HT1.out] at he
            try dsimp only at he
            subst he
            have HB7 := Lib.hid (HBD.out.trans (hb.mono HBD.out.size))
            clear hb
            try dsimp only
            refine hK.out _ _ (ROWS.out _ HB7.out) (fun hS => ?_)
            clear hK K
            try simp only [List.getElem_toArray, List.getElem_cons_succ, List.getElem_cons_zero, Act.put, List.setIfInBounds_toArray, List.set_cons_zero, List.set_cons_succ]
            refine wpAnyH_ready (rs := [17]) (by kernel_rfl) (by simp) ?_
            refine .cons rfl (fun K hK => ?_) .nil
            go_simp
            refine (power8_any m (by omega) _).mono ?_
            rintro e wz ⟨rfl, rfl⟩
            rw [← HP2.out]
            dsimp only
            refine hK.out _ _ hS (fun hS => ?_)
            clear hK K
            try simp only [List.getElem_toArray, List.getElem_cons_succ, List.getElem_cons_zero, Act.put, List.setIfInBounds_toArray, List.set_cons_zero, List.set_cons_succ]
            refine wpAnyH_take (i := 18) (v := ?_) rfl (by kernel_rfl) (by kernel_rfl) (by kernel_rfl) (fun _ _ _ h => h) (Or.inl ⟨by rfl, ?_⟩) hS ?_
            rotate_left
            · (intro W h; obtain ⟨a,b,c,d,e,f,g,h⟩ := h; go_simp; try with_reducible rfl)
            try simp only [List.getElem_toArray, List.getElem_cons_succ, List.getElem_cons_zero, Act.put, List.setIfInBounds_toArray, List.set_cons_zero, List.set_cons_succ]
            refine wpAnyH_ready (rs := [19]) (by kernel_rfl) (by simp) ?_
            refine .cons rfl (fun K hK => ?_) .nil
            go_simp
            refine (rsum_any HQ.out HT.out HLL.out (s + p2) hs2 _ (HPA.out.later HB7.out)).mono ?_
            rintro e w8 ⟨he, hb⟩
            rw [← HT2.out] at he
            try dsimp only at he
            subst he
            have HB8 := Lib.hid (HB7.out.trans (hb.mono HB7.out.size))
            clear hb
            try dsimp only
            refine hK.out _ _ (ROWS.out _ HB8.out) (fun hS => ?_)
            clear hK K
            try simp only [List.getElem_toArray, List.getElem_cons_succ, List.getElem_cons_zero, Act.put, List.setIfInBounds_toArray, List.set_cons_zero, List.set_cons_succ]
            refine wpAnyH_take (i := 20) (v := ?_) rfl (by kernel_rfl) (by kernel_rfl) (by kernel_rfl) (fun _ _ _ h => h) (Or.inl ⟨by rfl, ?_⟩) hS ?_
            rotate_left
            · (intro W h; obtain ⟨a,b,c,d,e,f,g,h⟩ := h; go_simp; try with_reducible rfl)
            try simp only [List.getElem_toArray, List.getElem_cons_succ, List.getElem_cons_zero, Act.put, List.setIfInBounds_toArray, List.set_cons_zero, List.set_cons_succ]
            refine wpAnyH_take (i := 21) (v := ?_) rfl (by kernel_rfl) (by kernel_rfl) (by kernel_rfl) (fun _ _ _ h => h) (Or.inl ⟨by rfl, ?_⟩) hS ?_
            rotate_left
            · (intro W h; obtain ⟨a,b,c,d,e,f,g,h⟩ := h; go_simp; try with_reducible rfl)
            try simp only [List.getElem_toArray, List.getElem_cons_succ, List.getElem_cons_zero, Act.put, List.setIfInBounds_toArray, List.set_cons_zero, List.set_cons_succ]
            refine wpAnyH_take (i := 22) (v := ?_) rfl (by kernel_rfl) (by kernel_rfl) (by kernel_rfl) (fun _ _ _ h => h) (Or.inl ⟨by rfl, ?_⟩) hS ?_
            rotate_left
            · (intro W h; obtain ⟨a,b,c,d,e,f,g,h⟩ := h; go_simp; try with_reducible rfl)
            try simp only [List.getElem_toArray, List.getElem_cons_succ, List.getElem_cons_zero, Act.put, List.setIfInBounds_toArray, List.set_cons_zero, List.set_cons_succ]
            refine wpAnyH_done (by kernel_rfl) ?_ _
            clear hS
            by_cases hlt2 : t1 < a2
            · rw [if_pos (.inr hlt2)] at hnx
              have hltd : decide (t1 < a2) = true := decide_eq_true hlt2
              have HNX := Lib.hid hnx
              clear hnx
              go_wp2_with fail
              exact ⟨⟨j + 1, by omega, rfl, by first | (rw [HNX.out]; rfl) | rw [HNX.out], HB8.out⟩, by simp [intOf]; omega⟩
            · rw [if_neg (fun h => by rcases h with h | h <;> omega)] at hnx
              have hltd : decide (t1 < a2) = false := decide_eq_false hlt2
              have HNX := Lib.hid hnx
              clear hnx
              go_wp2_with fail
              exact ⟨⟨j + 1, by omega, rfl, by first | (rw [HNX.out]; rfl) | rw [HNX.out], HB8.out⟩, by simp [intOf]; omega⟩
end Go.Proofs.YtabbmihakoeegaaGreat

/- PlanOrders, walked. -/
namespace Go.Proofs.YtabbmihakoeegaaGreat
set_option linter.unusedVariables false
set_option linter.unusedSimpArgs false
open Go.RowKit Go.Shelf
attribute [local go_sem] Oper.semAt_some

theorem order_len {q : PlanD} : (orderV q).1.length ≤ 1000 := by
  unfold orderV
  split
  · exact Nat.zero_le _
  · rename_i h
    have h0 : errE q = 0 := by simpa using h
    obtain ⟨hv, _, _⟩ := errE_zero h0
    have h1 := (orderL_at q q.prices.length 0).1
    have h2 := (OkQ.of hv).m8
    have h3 : (orderL q q.prices.length (setO q 0)).length ≤ 8 := by omega
    exact Nat.le_trans h3 (by decide)
set_option maxRecDepth 100000 in
set_option maxHeartbeats 8000000 in
theorem ordersl_any (q : PlanD) (bs rs ps : Value) (w : World) (hpa : PlanAt w q bs rs ps) :
    Calls Tryz.prog 5 #[.agg (planRow q bs rs ps)] w fun e w' => e = .returned (.bool true) ∧ Below w.heap.size w w' := by
  obtain ⟨aob, capb, hbv, _⟩ := id hpa.p.b
  obtain ⟨aor, capr, hrv, _⟩ := id hpa.p.r
  obtain ⟨aop, capp, hpv, _⟩ := id hpa.n
  subst hbv hrv hpv
  obtain ⟨W0, hW0⟩ : ∃ W0, W0 = w.alloc (.cells (planRow q (.slice aob q.pr.bs.length capb) (.slice aor q.pr.rs.length capr) (.slice aop q.prices.length capp)) 30 (0, 0)) := ⟨_, rfl⟩
  have hb0 : Below w.heap.size w W0 := by rw [hW0]; exact (Below.refl _ _).alloc (Nat.le_refl _) _
  have hr1 : W0.heap[w.heap.size]? = some (.cells (planRow q (.slice aob q.pr.bs.length capb) (.slice aor q.pr.rs.length capr) (.slice aop q.prices.length capp)) 30 (0, 0)) := by rw [hW0]; exact heap_alloc_at _ _ _ rfl
  have hsw : W0.heap.size = w.heap.size + 1 := by rw [hW0]; simp
  have HB0 := Lib.hid hb0
  have HR1 := Lib.hid hr1
  have HPA := Lib.hid (hpa.later hb0)
  have rows : ∀ W', Below W0.heap.size W0 W' → (W'.cell? ⟨w.heap.size, 0, none⟩ = some (.slice aob q.pr.bs.length capb) ∧ W'.cell? ⟨w.heap.size, 1, none⟩ = some (.int .i64 q.pr.zl) ∧ W'.cell? ⟨w.heap.size, 2, none⟩ = some (.int .i64 q.pr.zh) ∧
        W'.cell? ⟨w.heap.size, 3, none⟩ = some (.int .i64 q.pr.rl) ∧ W'.cell? ⟨w.heap.size, 4, none⟩ = some (.int .i64 q.pr.rh) ∧ W'.cell? ⟨w.heap.size, 5, none⟩ = some (.slice aor q.pr.rs.length capr) ∧ W'.cell? ⟨w.heap.size, 6, none⟩ = some (.int .i64 q.wide) ∧ W'.cell? ⟨w.heap.size, 7, none⟩ = some (.slice aop q.prices.length capp)) := fun W' hb => by
    have q1 := (hb.block w.heap.size (by omega)).trans hr1
    unfold planRow at q1
    refine ⟨?_, ?_, ?_, ?_, ?_, ?_, ?_, ?_⟩ <;> (rw [cell_of_row _ _ _ _ _ _ q1]; rfl)
  have ROWS := Lib.hid rows
  clear rows hb0 hr1 hpa
  unfold planRow at hW0 ⊢
  obtain ⟨c0, c1, c2, c3, c4, c5, c6, c7⟩ := ROWS.out W0 (Below.refl _ _)
  have HB1 : Hid (Below W0.heap.size W0 W0) := Lib.hid (Below.refl _ _)
  go_enter Tryz.func5, Tryz.ntmps5
  go_wp2_with fail
  rw [← hW0]
  clear hW0
  refine (heavy8_any 400 W0 HPA.out).mono ?_
  rintro e w1 ⟨rfl, hb⟩
  have HB2 := Lib.hid (HB1.out.trans (hb.mono HB1.out.size))
  clear hb
  try dsimp only
  clear c0 c1 c2 c3 c4 c5 c6 c7
  obtain ⟨c0, c1, c2, c3, c4, c5, c6, c7⟩ := ROWS.out w1 HB2.out
  cases hh : heavyQ q 400 with
  | true =>
    go_wp2_with fail
    refine (awake_any _).mono ?_
    rintro e vz ⟨rfl, hb⟩
    have HBZ := Lib.hid (HB2.out.trans (hb.mono HB2.out.size))
    clear hb
    try dsimp only
    go_wp2
    go_ret
    exact ⟨rfl, HB0.out.trans (HBZ.out.mono HB0.out.size)⟩
  | false =>
  have HL : Hid (validP q = true → Light q) := Lib.hid (light_of (by decide) hh)
  have h60 := heavy_len hh
  clear hh
  have hol := @order_len q
  obtain ⟨⟨l, e1⟩, h1⟩ : ∃ v, orderV q = v := ⟨_, rfl⟩
  obtain ⟨⟨c, e2⟩, h2⟩ : ∃ v, closedV q = v := ⟨_, rfl⟩
  rw [h1] at hol
  have F1 := Lib.hid h1
  have F2 := Lib.hid h2
  clear h1 h2
  go_wp2_with fail
  refine (orderV_any (HPA.out.later HB2.out)).mono ?_
  rintro e w2 ⟨v, he, hn, hb⟩
  rw [F1.out] at he hn
  dsimp only at he hn hol
  subst he
  have HN := Lib.hid hn.low
  have HB3 := Lib.hid (HB2.out.trans (hb.mono HB2.out.size))
  clear hb hn
  try dsimp only
  clear c0 c1 c2 c3 c4 c5 c6 c7
  obtain ⟨c0, c1, c2, c3, c4, c5, c6, c7⟩ := ROWS.out w2 HB3.out
  go_wp2_with fail
  refine (rorder_any HL.out _ (HPA.out.later HB3.out)).mono ?_
  rintro e w3 ⟨v2, he, hn, hb⟩
  rw [F1.out] at he hn
  dsimp only at he hn
  subst he
  have HN2 := Lib.hid hn.low
  have HN1 := Lib.hid (HN.out.later hb.size (fun k h1 _ => hb.block k h1)).low
  have HB4 := Lib.hid (HB3.out.trans (hb.mono HB3.out.size))
  clear hb hn HN
  try dsimp only
  clear c0 c1 c2 c3 c4 c5 c6 c7
  obtain ⟨c0, c1, c2, c3, c4, c5, c6, c7⟩ := ROWS.out w3 HB4.out
  go_wp2_with fail
  refine (closedV_any (HPA.out.later HB4.out)).mono ?_
  rintro e w4 ⟨he, hb⟩
  rw [F2.out] at he
  dsimp only at he
  subst he
  have HN3 := Lib.hid (HN2.out.later hb.size (fun k h1 _ => hb.block k h1)).low
  have HN4 := Lib.hid (HN1.out.later hb.size (fun k h1 _ => hb.block k h1)).low
  have HB5 := Lib.hid (HB4.out.trans (hb.mono HB4.out.size))
  clear hb HN1 HN2
  try dsimp only
  clear c0 c1 c2 c3 c4 c5 c6 c7
  obtain ⟨c0, c1, c2, c3, c4, c5, c6, c7⟩ := ROWS.out w4 HB5.out
  go_wp2_with fail
  refine (rclosed_any _ (HPA.out.later HB5.out)).mono ?_
  rintro e w5 ⟨he, hb⟩
  rw [F2.out] at he
  dsimp only at he
  subst he
  have HN5 := Lib.hid (HN3.out.later hb.size (fun k h1 _ => hb.block k h1)).low
  have HN6 := Lib.hid (HN4.out.later hb.size (fun k h1 _ => hb.block k h1)).low
  have HB6 := Lib.hid (HB5.out.trans (hb.mono HB5.out.size))
  clear hb HN3 HN4
  try dsimp only
  clear c0 c1 c2 c3 c4 c5 c6 c7
  go_wp2_with fail
  refine (ints8_any l l hol _ _ _ _ _ HN6.out HN5.out).mono ?_
  rintro e w6 ⟨he, hb⟩
  rw [decide_eq_true (rfl : l = l)] at he
  subst he
  have HB7 := Lib.hid (HB6.out.trans (hb.mono HB6.out.size))
  clear hb
  try dsimp only
  go_wp2_with fail
  refine (awake_any _).mono ?_
  rintro e vz ⟨rfl, hb⟩
  have HBZ := Lib.hid (HB7.out.trans (hb.mono HB7.out.size))
  clear hb
  try dsimp only
  go_wp2
  go_ret
  exact ⟨rfl, HB0.out.trans (HBZ.out.mono HB0.out.size)⟩
end Go.Proofs.YtabbmihakoeegaaGreat

/- PlanOrders: whatever the plan: the law returns true. No conditions. -/
namespace Go.Proofs.YtabbmihakoeegaaGreat
set_option linter.unusedVariables false
set_option linter.unusedSimpArgs false
open Go.ChangeShapes Go.WideShapes Go.ChangeAt Go.RowKit

set_option maxRecDepth 100000 in
theorem planOrders_lifted (os : Os) (started : os.Started) (H : Type) (enc : TypeId × Value → H) :
    ReturnsInHanded {} Tryz.checked os 5 .any (Rows.planOrdersSpec.pre6 enc Tryz.prog Tryz.f5 Rows.planOrdersRow.domain false) (Rows.planOrdersSpec.post enc Tryz.prog Tryz.f5 false true false false) := by
  refine returnsInHanded_of_change (C := Tryz.checked) own_knob started (by kernel_rfl) Tryz.func5
    (ChangeSpec.witness6 (enc := enc) (C := Tryz.checked) false ⟨#[], #[.agg #[.slice none 0 0, .int .i64 0, .int .i64 0, .int .i64 0, .int .i64 0, .slice none 0 0, .int .i64 0, .slice none 0 0]], []⟩ 8 (by kernel_rfl) (by kernel_rfl) (by kernel_rfl) (by kernel_rfl)) ?_
  intro W base args ds gs before hval0 hW hcnd _
  have hval : ∀ (j : Nat) t v, Tryz.f5.params[j]? = some t → args[j]? = some v → Value.okWide Tryz.prog W .any base t v := hval0
  have hW' := hW
  obtain ⟨p, q, hA0, hV, rfl, hfz, hnd⟩ := hW
  have hA : DataW.TrodAll enc Tryz.prog W 0 (fun _ => true) true Tryz.f5.params.toList args.toList ds p := hA0
  rw [Tryz.params5] at hA hval
  obtain ⟨rfl, rfl⟩ := trodVars_none hV
  clear hA0 hval0
  simp only [List.append_nil] at hW'
  have hst := hA
  obtain ⟨v0, d0, rfl, rfl, h0⟩ := trodAll_one hA
  obtain ⟨qd, bs, rs, pv, rfl, hpa⟩ := open_plan (hval 0 _ _ rfl rfl) h0
  refine (ordersl_any qd bs rs pv W hpa).mono fun e W' ⟨he, hb⟩ => ?_
  subst he
  exact ⟨_, rfl, lawEnd hW' rfl hst rfl (by decide +kernel) rfl rfl hb⟩
theorem planOrders_over : Rows.planOrdersRow.holds Tryz.pinned (OpenSpec.ofChange Rows.planOrdersSpec) :=
  OpenClaim.holds_of_wide 5 Tryz.f5 rfl rfl rfl rfl rfl rfl rfl ⟨rfl, rfl, rfl, rfl, rfl⟩ rfl rfl rfl rfl rfl (by kernel_rfl) Tryz.func5 (by kernel_rfl)
    (of_decide_eq_true (by kernel_rfl)) (by unfold Func.isWrapper; first | (rw [if_pos (by decide +kernel)]; kernel_rfl) | (rw [if_neg (by decide +kernel)]; exact ⟨rfl, rfl⟩))
    (fun os started H enc _ => planOrders_lifted os started H enc)
theorem plan_orders : Rows.PlanOrdersSaid := planOrders_over

end Go.Proofs.YtabbmihakoeegaaGreat
