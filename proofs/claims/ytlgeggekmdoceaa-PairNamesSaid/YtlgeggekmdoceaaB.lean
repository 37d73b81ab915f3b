/- Tables of package pair: what follows from a table; a reading put into one. -/
import Derived.Test.YtlgeggekmdoceaaA
namespace Go.Proofs.Ytlgeggekmdoceaa
set_option linter.unusedVariables false
set_option linter.unusedSimpArgs false
open Go.RowKit

attribute [local irreducible] tcells
set_option maxHeartbeats 1600000 in
set_option maxRecDepth 4000 in
theorem closed_any (t : Tab) (hB : ∀ k, k ≤ 216 → ∀ i j, i < 6 → j < 6 → -1000000000000 ≤ fwN t k i j ∧ fwN t k i j ≤ 1000000000000) (w : World) :
    Calls Try.prog 105 #[.agg (tcells t)] w fun e w' => e = .returned (.tuple #[.agg (tcells (fwN t 216)), .bool (diagOk (fwN t 216))]) ∧ Below w.heap.size w w' := by
  have HB := Lib.hid hB
  clear hB
  go_enter Try.func105, Try.ntmps105
  go_wp2
  go_loopw [8] (fun i wr => ∃ k : Nat, k ≤ 6 ∧ i = .int .i64 k ∧ CW w w.heap.size 84 (fwN t (36 * k)) wr) (fun i _ => 6 - (intOf i).toNat)
  case atStart => exact ⟨0, by omega, rfl, CW_start _ _ _ _ rfl⟩
  case round =>
    obtain ⟨by', hby, rfl, hcw⟩ := hrel
    by_cases hlt : by' < 6
    · go_wp2
      go_loopw [11] (fun i wr => ∃ k : Nat, k ≤ 6 ∧ i = .int .i64 k ∧ CW w w.heap.size 84 (fwN t (36 * by' + 6 * k)) wr) (fun i _ => 6 - (intOf i).toNat)
      case atStart => exact ⟨0, by omega, rfl, hcw⟩
      case round =>
        clear hcw
        obtain ⟨a', ha, rfl, hcw⟩ := hrel
        by_cases hlta : a' < 6
        · go_wp2
          go_loopw [14] (fun i wr => ∃ k : Nat, k ≤ 6 ∧ i = .int .i64 k ∧ CW w w.heap.size 84 (fwN t (36 * by' + 6 * a' + k)) wr) (fun i _ => 6 - (intOf i).toNat)
          case atStart => exact ⟨0, by omega, rfl, hcw⟩
          case round =>
            clear hcw
            obtain ⟨b', hb, rfl, hcw⟩ := hrel
            by_cases hltb : b' < 6
            · have HE : Hid (fwN t (36 * by' + 6 * a' + (b' + 1)) = upd (fwN t (36 * by' + 6 * a' + b')) a' b' (min (fwN t (36 * by' + 6 * a' + b') a' b') (fwN t (36 * by' + 6 * a' + b') a' by' + fwN t (36 * by' + 6 * a' + b') by' b'))) := by
                show _ = _
                have e1 : (36 * by' + 6 * a' + b') / 6 % 6 = a' := by omega
                have e2 : (36 * by' + 6 * a' + b') % 6 = b' := by omega
                have e3 : (36 * by' + 6 * a' + b') / 36 = by' := by omega
                rw [← Nat.add_assoc, fwN, stepN, e1, e2, e3]
              have hb1 := HB.out (36 * by' + 6 * a' + b') (by omega) a' by' hlta hlt
              have hb2 := HB.out (36 * by' + 6 * a' + b') (by omega) by' b' hlt hltb
              generalize hc : fwN t (36 * by' + 6 * a' + b') = c at *
              have HC := Lib.hid hc
              have HW := Lib.hid hcw
              obtain ⟨hb1, hb1'⟩ := hb1
              obtain ⟨hb2, hb2'⟩ := hb2
              have c1 := cell_tab hcw.1 a' b' hlta hltb
              have c2 := cell_tab hcw.1 a' by' hlta hlt
              have c3 := cell_tab hcw.1 by' b' hlt hltb
              have f1 := frozen_of_row wr w.heap.size (a' * 6 + b') _ _ hcw.1
              clear hc hcw
              have la : (a' : Int) < 6 := by omega
              have lb : (b' : Int) < 6 := by omega
              have ly : (by' : Int) < 6 := by omega
              go_wp2
              refine region_tail 21 (by kernel_rfl) (by kernel_rfl) ?_
              simp only [List.take_succ_cons, List.take_zero, List.drop_succ_cons, List.drop_zero]
              repeat still_step
              refine wpStill_nil ?_
              go_wp2
              all_goals
                go_roundw
                case measure => simp [intOf]; omega
                case rel =>
                  refine ⟨b' + 1, by omega, by go_num, ?_⟩
                  rw [HE.out]
                  first
                  | (rw [show min (c a' b') (c a' by' + c by' b') = c a' b' by omega]; exact (HW.out.set a' b' hlta hltb _).drew)
                  | (rw [show min (c a' b') (c a' by' + c by' b') = c a' by' + c by' b' by omega]; exact (HW.out.set a' b' hlta hltb _).drew)
            · obtain rfl : b' = 6 := by omega
              go_wp2
              go_roundw
              case measure => simp [intOf]; omega
              case rel => exact ⟨a' + 1, by omega, by go_num, hcw⟩
        · obtain rfl : a' = 6 := by omega
          go_wp2
          go_roundw
          case measure => simp [intOf]; omega
          case rel => exact ⟨by' + 1, by omega, by go_num, hcw⟩
    · obtain rfl : by' = 6 := by omega
      have hc0 : CW w w.heap.size 84 (fwN t 216) wr := hcw
      clear hcw HB
      obtain ⟨c, hc⟩ : ∃ c, fwN t 216 = c := ⟨_, rfl⟩
      rw [hc] at hc0
      have HQ := Lib.hid hc
      clear hc
      go_wp2
      go_loopw [41] (fun i wr => ∃ k : Nat, k ≤ 6 ∧ i = .int .i64 k ∧ (∀ j, j < k → 0 ≤ c j j) ∧ CW w w.heap.size 84 c wr) (fun i _ => 6 - (intOf i).toNat)
      case atStart => exact ⟨0, by omega, rfl, fun j h => absurd h (by omega), hc0⟩
      case round =>
        clear hc0
        obtain ⟨k, hk, rfl, hpos, hcw⟩ := hrel
        have HW := Lib.hid hcw
        have HP := Lib.hid hpos
        obtain ⟨hg, ⟨z, hz, hg2⟩, hbel⟩ := hcw
        by_cases hlt : k < 6
        · have c1 := cell_tab hg k k hlt hlt
          have lk : (k : Int) < 6 := by omega
          have HZ := Lib.hid hz
          have HG := Lib.hid hg
          have HG2 := Lib.hid hg2
          have HBl := Lib.hid hbel
          clear hpos hz hg hg2 hbel
          by_cases hneg : c k k < 0
          · have hd : decide (c k k < 0) = true := by simpa using hneg
            have HD : Hid (diagOk c = false) := by
              show _ = _
              rw [Bool.eq_false_iff]
              intro h
              have := (diagOk_iff c).1 h k hlt
              omega
            go_wp2_with (first | (refine wpList_load_row rfl 84 _ rfl w.heap.size rfl 84 (tcells c) (0, 0) _ HG.out underTab rfl (sizeTab c) ?_) | (refine wpList_store_row rfl 84 _ _ rfl (w.heap.size + 1) (tcells c) rfl rfl 84 z HG2.out (sizeTab c) (HZ.out.trans (tcells_size c).symm) (tcells_one c) ?_))
            refine bodyPost_ret (v := .tuple #[.agg (tcells c), .bool false]) (results_row_tmp (fn := Try.f105) (p := 2) (u := 3) rfl _ _ (w.heap.size + 1) 84 (tcells c) (0, 0) _ rfl (setRow_heap _ _ _ _ _ _ HG2.out) underTab rfl (sizeTab c)) rfl ⟨by rw [HQ.out, HD.out], ?_⟩
            exact below_setRow HBl.out (by omega) _
          · have hd : decide (c k k < 0) = false := by simpa using hneg
            go_wp2
            go_roundw
            case measure => simp [intOf]; omega
            case rel =>
              refine ⟨k + 1, by omega, by go_num, ?_, HW.out⟩
              intro j hj
              by_cases e : j = k
              · subst e; omega
              · exact HP.out j (by omega)
        · obtain rfl : k = 6 := by omega
          have HZ := Lib.hid hz
          have HG := Lib.hid hg
          have HG2 := Lib.hid hg2
          have HBl := Lib.hid hbel
          clear hpos hz hg hg2 hbel
          have HD : Hid (diagOk c = true) := by
            show _ = _
            rw [diagOk_iff]
            exact HP.out
          go_wp2_with (first | (refine wpList_load_row rfl 84 _ rfl w.heap.size rfl 84 (tcells c) (0, 0) _ HG.out underTab rfl (sizeTab c) ?_) | (refine wpList_store_row rfl 84 _ _ rfl (w.heap.size + 1) (tcells c) rfl rfl 84 z HG2.out (sizeTab c) (HZ.out.trans (tcells_size c).symm) (tcells_one c) ?_))
          refine bodyPost_ret (v := .tuple #[.agg (tcells c), .bool true]) (results_row_tmp (fn := Try.f105) (p := 2) (u := 3) rfl _ _ (w.heap.size + 1) 84 (tcells c) (0, 0) _ rfl (setRow_heap _ _ _ _ _ _ HG2.out) underTab rfl (sizeTab c)) rfl ⟨by rw [HQ.out, HD.out], ?_⟩
          exact below_setRow HBl.out (by omega) _


set_option maxHeartbeats 800000 in
set_option maxRecDepth 4000 in
theorem sput_any (a b : Nat) (lo hi m z r : Int) (t : Tab) (ha : a < 6) (hb : b < 6) (hlo : -1000000 ≤ lo ∧ lo ≤ 1000000) (hhi : -1000000 ≤ hi ∧ hi ≤ 1000000)
    (hz : -1000000 ≤ z ∧ z ≤ 1000000) (hr : -1000000 ≤ r * m ∧ r * m ≤ 1000000) (w : World) :
    Calls Try.prog 130 #[.agg #[.int .i64 a, .int .i64 b, .int .i64 lo, .int .i64 hi, .int .i64 m], .agg (tcells t), .agg #[.int .i64 z, .int .i64 r]] w
      fun e w' => e = .returned (.agg (tcells (putT t a b (lo - showsC z r m) (hi - showsC z r m)))) ∧ Below w.heap.size w w' := by
  obtain ⟨hlo1, hlo2⟩ := hlo
  obtain ⟨hhi1, hhi2⟩ := hhi
  have hs1 : -3000000 ≤ showsC z r m := by unfold showsC; omega
  have hs2 : showsC z r m ≤ 3000000 := by unfold showsC; omega
  have HZ := Lib.hid hz
  have HR := Lib.hid hr
  clear hz hr
  go_enter Try.func130, Try.ntmps130
  go_wp2_with fail
  refine (cshows_any z r m HZ.out HR.out _).mono ?_
  rintro e w1 ⟨rfl, hb1⟩
  have f0 := (hb1.cell (p := ⟨w.heap.size, 0, none⟩) (by simp <;> omega)).trans (b := _) (c := some (.int .i64 a)) (by simp [go_sem])
  have f1 := (hb1.cell (p := ⟨w.heap.size, 1, none⟩) (by simp <;> omega)).trans (c := some (.int .i64 b)) (by simp [go_sem])
  have f2 := (hb1.cell (p := ⟨w.heap.size, 2, none⟩) (by simp <;> omega)).trans (c := some (.int .i64 lo)) (by simp [go_sem])
  have f3 := (hb1.cell (p := ⟨w.heap.size, 3, none⟩) (by simp <;> omega)).trans (c := some (.int .i64 hi)) (by simp [go_sem])
  have g0 := (hb1.cell (p := ⟨w.heap.size + 1 + 1, 0, none⟩) (by simp <;> omega)).trans (c := some (.int .i64 z)) (by simp [go_sem])
  have g1 := (hb1.cell (p := ⟨w.heap.size + 1 + 1, 1, none⟩) (by simp <;> omega)).trans (c := some (.int .i64 r)) (by simp [go_sem])
  have ht := (hb1.block (w.heap.size + 1) (by simp <;> omega)).trans (c := some (.cells (tcells t) 84 (0, 0))) (by repeat (first | (refine heap_alloc_at _ _ _ ?_; (simp <;> omega); done) | (refine (hget_old _ _ _ ?_).trans ?_; · (simp <;> omega))))
  obtain ⟨q, hq36, hq⟩ : ∃ q : Array Value, q.size = 36 ∧ w1.heap[w.heap.size + 1 + 1 + 1]? = some (.cells q 84 (0, 0)) := ⟨#[Value.int IntKind.i64 0, Value.int IntKind.i64 0, Value.int IntKind.i64 0, Value.int IntKind.i64 0, Value.int IntKind.i64 0, Value.int IntKind.i64 0, Value.int IntKind.i64 0, Value.int IntKind.i64 0, Value.int IntKind.i64 0, Value.int IntKind.i64 0, Value.int IntKind.i64 0, Value.int IntKind.i64 0, Value.int IntKind.i64 0, Value.int IntKind.i64 0, Value.int IntKind.i64 0, Value.int IntKind.i64 0, Value.int IntKind.i64 0, Value.int IntKind.i64 0, Value.int IntKind.i64 0, Value.int IntKind.i64 0, Value.int IntKind.i64 0, Value.int IntKind.i64 0, Value.int IntKind.i64 0, Value.int IntKind.i64 0, Value.int IntKind.i64 0, Value.int IntKind.i64 0, Value.int IntKind.i64 0, Value.int IntKind.i64 0, Value.int IntKind.i64 0, Value.int IntKind.i64 0, Value.int IntKind.i64 0, Value.int IntKind.i64 0, Value.int IntKind.i64 0, Value.int IntKind.i64 0, Value.int IntKind.i64 0, Value.int IntKind.i64 0], by rfl, (hb1.block (w.heap.size + 1 + 1 + 1) (by simp <;> omega)).trans (by repeat (first | (refine heap_alloc_at _ _ _ ?_; (simp <;> omega); done) | (refine (hget_old _ _ _ ?_).trans ?_; · (simp <;> omega))))⟩
  have hbw : Below w.heap.size w w1 := ((((((Below.refl _ _).alloc (Nat.le_refl _) _).alloc (by simp) _).alloc (by simp <;> omega) _).alloc (by simp <;> omega) _)).trans (hb1.mono (by simp <;> omega))
  have hsz : w.heap.size + 4 ≤ w1.heap.size := by have := hb1.size; simp at this; omega
  have HQ := Lib.hid hq36
  have HT := Lib.hid ht
  have HQ1 := Lib.hid hq
  have HB := Lib.hid hb1
  have HBW := Lib.hid hbw
  clear hb1 hbw ht hq hq36
  go_wp2_with (first | (refine wpList_load_row rfl 84 _ rfl (w.heap.size + 1) rfl 84 (tcells t) (0, 0) _ HT.out underTab rfl (sizeTab _) ?_))
  refine (kput_any a b (lo - showsC z r m) (hi - showsC z r m) z r t ha hb (by constructor <;> omega) _).mono ?_
  rintro e w2 ⟨rfl, hb2⟩
  have HB2 := Lib.hid hb2
  clear hb2
  go_wp2_with (first | (refine wpList_store_row rfl 84 _ _ rfl (w.heap.size + 1 + 1 + 1) (tcells (putT t a b (lo - showsC z r m) (hi - showsC z r m))) rfl rfl 84 q ((HB2.out.block _ (by omega)).trans HQ1.out) (sizeTab _) (HQ.out.trans (tcells_size _).symm) (tcells_one _) ?_))
  refine bodyPost_ret (v := .agg (tcells (putT t a b (lo - showsC z r m) (hi - showsC z r m)))) (results_cell_row (fn := Try.f130) (p := 6) rfl _ _ (w.heap.size + 1 + 1 + 1) 84 (tcells (putT t a b (lo - showsC z r m) (hi - showsC z r m))) (0, 0) _ rfl (setRow_heap _ _ _ _ _ _ ((HB2.out.block _ (by omega)).trans HQ1.out)) underTab rfl (sizeTab _)) rfl ⟨rfl, ?_⟩
  exact below_setRow (HBW.out.trans (HB2.out.mono (by omega))) (by omega) _

end Go.Proofs.Ytlgeggekmdoceaa
