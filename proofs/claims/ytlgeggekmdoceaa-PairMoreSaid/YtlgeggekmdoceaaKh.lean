/- Texts Ra, Rb, Pp, Tb, Rc, Rd, Re, Rf, Rg, Rh, Ri in one file; each begins with a word on what it proves. -/
import Derived.Deep.Slices
import Derived.Lib.SmallJoins
import Derived.Maps.AppendAt
import Derived.Test.YtlgeggekmdoceaaKf
import Derived.Test.YtlgeggekmdoceaaKa

/- The reference's small functions. -/
namespace Go.Proofs.Ytlgeggekmdoceaa
set_option linter.unusedVariables false
set_option linter.unusedSimpArgs false
open Go.RowKit Go.Shelf
attribute [local go_sem] Oper.semAt_some

theorem rin_any (n a b : Int) (w : World) :
    Calls Try.prog 90 #[.int .i64 n, .int .i64 a, .int .i64 b] w fun e w' => e = .returned (.bool (inB n a b)) ∧ w = w' := by
  have H : Hid (inB n a b = (decide (a ≤ n) && decide (n ≤ b))) := by show _ = _; simp [inB]
  go_enter Try.func90, Try.ntmps90
  go_wp2
  all_goals go_ret
  all_goals exact ⟨by rw [H.out]; simp [*]; try omega, rfl⟩
theorem rspan_any (lo hi m : Int) (hm : -1000000 ≤ m ∧ m ≤ 1000000) (w : World) :
    Calls Try.prog 91 #[.agg #[.int .i64 lo, .int .i64 hi], .int .i64 m] w fun e w' => e = .returned (.bool (okSpan lo hi m)) ∧ Below w.heap.size w w' := by
  have H : Hid (okSpan lo hi m = (decide (-m ≤ lo) && decide (lo ≤ hi) && decide (hi ≤ m))) := by show _ = _; simp [okSpan, Bool.and_assoc]
  obtain ⟨hm1, hm2⟩ := hm
  go_enter Try.func91, Try.ntmps91
  go_wp2
  all_goals go_ret
  all_goals exact ⟨by rw [H.out]; simp [*]; try omega, (Below.refl _ _).alloc (Nat.le_refl _) _⟩
theorem rminute_any (n : Int) (w : World) :
    Calls Try.prog 64 #[.int .i64 n] w fun e w' => e = .returned (.bool (inB n 0 60)) ∧ w = w' := by
  go_enter Try.func64, Try.ntmps64
  go_wp2_with (go_at_call 90; refine (rin_any _ _ _ _).mono ?_; rintro e w' ⟨rfl, rfl⟩)
  go_ret
  exact ⟨rfl, rfl⟩
theorem rblock_any (p : PairD) (n cap : Nat) (ao : Option Addr) (rs : Value) (hn : n ≤ 1000) (x : Int) (w : World) :
    Calls Try.prog 53 #[.agg (pairRow p (.slice ao n cap) rs), .int .i64 x] w fun e w' => e = .returned (.bool (inB x 0 ((n : Int) - 1))) ∧ Below w.heap.size w w' := by
  unfold pairRow
  go_enter Try.func53, Try.ntmps53
  have hw : IntKind.i64.wrap ((n : Int) - 1) = (n : Int) - 1 := IntWalk.i64_in _ (by omega)
  go_wp2_with (go_at_call 90; refine (rin_any _ _ _ _).mono ?_; rintro e w' ⟨rfl, rfl⟩)
  go_ret
  exact ⟨rfl, (Below.refl _ _).alloc (Nat.le_refl _) _⟩
theorem pow_bound (n : Nat) (h : n ≤ 60) : (2 : Nat) ^ n ≤ 1152921504606846976 := Nat.le_trans (Nat.pow_le_pow_right (by decide) h) (by decide)
theorem power_any (n : Nat) (hn : n ≤ 60) (w : World) :
    Calls Try.prog 72 #[.int .i64 n] w fun e w' => e = .returned (.int .i64 ((2 ^ n : Nat) : Int)) ∧ w = w' := by
  go_enter Try.func72, Try.ntmps72
  go_wp2_with fail
  go_loopw [3, 4] (fun o i wr => ∃ (k : Nat), k ≤ n ∧ i = .int .i64 k ∧ o = .int .i64 ((2 ^ k : Nat) : Int) ∧ w = wr) (fun _ i _ => n - (intOf i).toNat)
  case atStart => exact ⟨0, by omega, rfl, rfl, rfl⟩
  case round =>
    obtain ⟨k, hk, rfl, rfl, rfl⟩ := hrel
    by_cases hlk : k < n
    · have hpk := pow_bound k (by omega)
      have HE := Lib.hid (Nat.pow_succ (n := 2) (m := k))
      obtain ⟨v, hv⟩ : ∃ v : Nat, v = 2 ^ k := ⟨_, rfl⟩
      rw [← hv] at hpk HE ⊢
      clear hv
      have hw : wrap64 (2 * (v : Int)) = 2 * (v : Int) := by unfold wrap64; omega
      go_wp2
      refine ⟨⟨k + 1, by omega, by go_num, ?_, by first | rfl | trivial⟩, by simp [intOf]; omega⟩
      rw [HE.out]
      congr 1
      omega
    · obtain rfl : k = n := by omega
      obtain ⟨v, hv⟩ : ∃ v : Nat, v = 2 ^ k := ⟨_, rfl⟩
      rw [← hv]
      have HV := Lib.hid hv
      clear hv
      go_wp2
      go_ret
      refine ⟨?_, rfl⟩
      rw [← HV.out]
      rfl
theorem has_bit : ∀ n : Fin 9, ∀ s : Fin 256, ((wrap64 ((s.val : Int) / ((2 ^ n.val : Nat) : Int))).tmod 2 == 1) = s.val.testBit n.val := by decide +kernel
theorem has_any (s n : Nat) (hs : s < 256) (hn : n ≤ 8) (w : World) :
    Calls Try.prog 111 #[.int .i64 s, .int .i64 n] w fun e w' => e = .returned (.bool (s.testBit n)) ∧ w = w' := by
  have hb := has_bit ⟨n, by omega⟩ ⟨s, hs⟩
  dsimp only at hb
  have hpos : (0 : Nat) < 2 ^ n := Nat.two_pow_pos n
  have hpb := pow_bound n (by omega)
  go_enter Try.func111, Try.ntmps111
  go_wp2_with fail
  refine (power_any n (by omega) w).mono ?_
  rintro e w' ⟨rfl, rfl⟩
  generalize hP : 2 ^ n = P at *
  have HB := Lib.hid hb
  clear hb hP
  go_wp2
  go_ret
  exact ⟨by rw [← HB.out]; rfl, rfl⟩
theorem long_any (p : PairD) (n cap m cap' : Nat) (ao ao' : Option Addr) (w : World) :
    Calls Try.prog 38 #[.agg (pairRow p (.slice ao n cap) (.slice ao' m cap'))] w fun e w' => e = .returned (.bool (decide (40 < max n m))) ∧ Below w.heap.size w w' := by
  unfold pairRow
  go_enter Try.func38, Try.ntmps38
  go_wp2
  all_goals go_ret
  all_goals refine ⟨congrArg (fun b => Ending.returned (Value.bool b)) ?_, (Below.refl _ _).alloc (Nat.le_refl _) _⟩
  all_goals rw [decide_eq_decide]
  all_goals omega

end Go.Proofs.Ytlgeggekmdoceaa

/- The reference's Pair: is a pair valid? -/
namespace Go.Proofs.Ytlgeggekmdoceaa
set_option linter.unusedVariables false
set_option linter.unusedSimpArgs false
open Go.RowKit Go.Shelf
attribute [local go_sem] Oper.semAt_some

def pairObj (p : PairD) (bs rs : Value) : Obj := .cells (pairRow p bs rs) 27 (0, 0)
set_option maxRecDepth 100000 in
set_option maxHeartbeats 8000000 in
theorem rpair_any {w : World} {p : PairD} {bs rs : Value} (h : PairAt w p bs rs) : Calls Try.prog 39 #[.agg (pairRow p bs rs)] w fun e w' => e = .returned (.bool (validB p)) ∧ Below w.heap.size w w' := by
  obtain ⟨⟨ao, cap, rfl, hc1, hc2, hel⟩, ⟨ao2, cap2, rfl, hc3, hc4, hel2⟩⟩ := h
  have HE1 := Lib.hid hel
  have HE2 := Lib.hid hel2
  clear hel hel2
  obtain ⟨W0, hW0⟩ : ∃ W0, W0 = w.alloc (.cells (pairRow p (.slice ao p.bs.length cap) (.slice ao2 p.rs.length cap2)) 27 (0, 0)) := ⟨_, rfl⟩
  have hb0 : Below w.heap.size w W0 := by rw [hW0]; exact (Below.refl _ _).alloc (Nat.le_refl _) _
  have hr0 : W0.heap[w.heap.size]? = some (pairObj p (.slice ao p.bs.length cap) (.slice ao2 p.rs.length cap2)) := by rw [hW0]; exact heap_alloc_at _ _ _ rfl
  have HB0 := Lib.hid hb0
  have HR0 := Lib.hid hr0
  unfold pairObj pairRow at hr0
  have c0 : W0.cell? ⟨w.heap.size, 0, none⟩ = some (.slice ao p.bs.length cap) := by rw [cell_of_row W0 _ _ _ _ _ hr0]; rfl
  have c1 : W0.cell? ⟨w.heap.size, 1, none⟩ = some (.int .i64 p.zl) := by rw [cell_of_row W0 _ _ _ _ _ hr0]; rfl
  have c2 : W0.cell? ⟨w.heap.size, 2, none⟩ = some (.int .i64 p.zh) := by rw [cell_of_row W0 _ _ _ _ _ hr0]; rfl
  have c3 : W0.cell? ⟨w.heap.size, 3, none⟩ = some (.int .i64 p.rl) := by rw [cell_of_row W0 _ _ _ _ _ hr0]; rfl
  have c4 : W0.cell? ⟨w.heap.size, 4, none⟩ = some (.int .i64 p.rh) := by rw [cell_of_row W0 _ _ _ _ _ hr0]; rfl
  have c5 : W0.cell? ⟨w.heap.size, 5, none⟩ = some (.slice ao2 p.rs.length cap2) := by rw [cell_of_row W0 _ _ _ _ _ hr0]; rfl
  clear hb0 hr0
  unfold pairRow at hW0 ⊢
  go_enter Try.func39, Try.ntmps39
  go_wp2_with fail
  rw [← hW0]
  clear hW0
  refine (rin_any _ _ _ _).mono ?_
  rintro e w' ⟨rfl, rfl⟩
  cases h1 : inB (↑p.bs.length) 1 5 with
  | false =>
    go_wp2
    go_ret
    refine ⟨?_, HB0.out⟩
    rw [show validB p = false from by simp [validB, okHead, h1]]
    rfl
  | true =>
  by_cases h2 : (p.rs.length : Int) ≤ 8
  case neg =>
    have hd : decide ((8 : Int) < p.rs.length) = true := by simp; omega
    have hq : decide ((p.rs.length : Int) ≤ 8) = false := by simpa using h2
    go_wp2
    go_ret
    refine ⟨?_, HB0.out⟩
    rw [show validB p = false from by simp [validB, okHead, hq]]
    rfl
  have hd2 : decide ((8 : Int) < p.rs.length) = false := by simp; omega
  have hhd : okHead p = true := by simp [okHead, h1]; omega
  have HHD := Lib.hid hhd
  go_wp2_with fail
  have hn5 : p.bs.length ≤ 5 := by simp [inB] at h1; omega
  have hm8 : p.rs.length ≤ 8 := by omega
  clear hd2 hhd h1 c0 c1 c2 c3 c4 c5
  go_loopw [3] (fun i wr => ∃ k : Nat, k ≤ p.bs.length ∧ i = .int .i64 k ∧ (p.bs.take k).all okSp = true ∧ wr.heap[w.heap.size]? = some (pairObj p (.slice ao p.bs.length cap) (.slice ao2 p.rs.length cap2)) ∧ Below w.heap.size w wr) (fun i _ => p.bs.length - (intOf i).toNat)
  case atStart => exact ⟨0, by omega, rfl, by simp, HR0.out, HB0.out⟩
  case round =>
    obtain ⟨k, hk, rfl, hall, hrow, hb⟩ := hrel
    have HRW := Lib.hid hrow
    have HB := Lib.hid hb
    have HALL := Lib.hid hall
    unfold pairObj pairRow at hrow
    have c0 : wr.cell? ⟨w.heap.size, 0, none⟩ = some (.slice ao p.bs.length cap) := by rw [cell_of_row wr _ _ _ _ _ hrow]; rfl
    have c1 : wr.cell? ⟨w.heap.size, 1, none⟩ = some (.int .i64 p.zl) := by rw [cell_of_row wr _ _ _ _ _ hrow]; rfl
    have c2 : wr.cell? ⟨w.heap.size, 2, none⟩ = some (.int .i64 p.zh) := by rw [cell_of_row wr _ _ _ _ _ hrow]; rfl
    have c3 : wr.cell? ⟨w.heap.size, 3, none⟩ = some (.int .i64 p.rl) := by rw [cell_of_row wr _ _ _ _ _ hrow]; rfl
    have c4 : wr.cell? ⟨w.heap.size, 4, none⟩ = some (.int .i64 p.rh) := by rw [cell_of_row wr _ _ _ _ _ hrow]; rfl
    have c5 : wr.cell? ⟨w.heap.size, 5, none⟩ = some (.slice ao2 p.rs.length cap2) := by rw [cell_of_row wr _ _ _ _ _ hrow]; rfl
    clear hrow hb hall
    by_cases hlk : k < p.bs.length
    · obtain ⟨b, off, rfl, hr, hbl, e1, e2⟩ := HE1.out k hlk
      have f1 := (HB.out.cell (p := ⟨b, off + k * 2, none⟩) hbl).trans e1
      have f2 := (HB.out.cell (p := ⟨b, off + k * 2 + 1, none⟩) hbl).trans e2
      clear e1 e2
      have HTA := Lib.hid (take_all p.bs okSp k hlk HALL.out)
      have HAF := Lib.hid (all_false p.bs okSp k hlk)
      generalize p.bs[k] = sp at *
      obtain ⟨slo, shi⟩ := sp
      go_wp2_with fail
      refine (rspan_any slo shi 20 (by omega) _).mono ?_
      rintro e w2 ⟨rfl, hb2⟩
      have hbel : Below w.heap.size w w2 := HB.out.trans (hb2.mono HB.out.size)
      have hrw2 := (hb2.block w.heap.size (lt_of_block HRW.out)).trans HRW.out
      have HBEL := Lib.hid hbel
      have HRW2 := Lib.hid hrw2
      clear hb2 hbel hrw2 c0 c1 c2 c3 c4 c5
      cases h3 : okSpan slo shi 20 with
      | false =>
        go_wp2
        go_ret
        refine ⟨?_, HBEL.out⟩
        rw [show validB p = false from by simp [validB, HAF.out (show okSp (slo, shi) = false from h3)]]
        rfl
      | true =>
        go_wp2
        exact ⟨⟨k + 1, by omega, by go_num, HTA.out.trans h3, HRW2.out, HBEL.out⟩, by simp [intOf]; omega⟩
    · obtain rfl : k = p.bs.length := by omega
      have hall := HALL.out
      rw [List.take_length] at hall
      have HAB := Lib.hid hall
      clear hall HALL
      go_wp2_with fail
      refine (rspan_any p.zl p.zh 10 (by omega) _).mono ?_
      rintro e w3 ⟨rfl, hb3⟩
      have HB3 := Lib.hid (HB.out.trans (hb3.mono HB.out.size))
      have hrw3 := (hb3.block w.heap.size (lt_of_block HRW.out)).trans HRW.out
      have HRW3 := Lib.hid hrw3
      clear hb3 c0 c1 c2 c3 c4 c5
      unfold pairObj pairRow at hrw3
      have c0 : w3.cell? ⟨w.heap.size, 0, none⟩ = some (.slice ao p.bs.length cap) := by rw [cell_of_row w3 _ _ _ _ _ hrw3]; rfl
      have c1 : w3.cell? ⟨w.heap.size, 1, none⟩ = some (.int .i64 p.zl) := by rw [cell_of_row w3 _ _ _ _ _ hrw3]; rfl
      have c2 : w3.cell? ⟨w.heap.size, 2, none⟩ = some (.int .i64 p.zh) := by rw [cell_of_row w3 _ _ _ _ _ hrw3]; rfl
      have c3 : w3.cell? ⟨w.heap.size, 3, none⟩ = some (.int .i64 p.rl) := by rw [cell_of_row w3 _ _ _ _ _ hrw3]; rfl
      have c4 : w3.cell? ⟨w.heap.size, 4, none⟩ = some (.int .i64 p.rh) := by rw [cell_of_row w3 _ _ _ _ _ hrw3]; rfl
      have c5 : w3.cell? ⟨w.heap.size, 5, none⟩ = some (.slice ao2 p.rs.length cap2) := by rw [cell_of_row w3 _ _ _ _ _ hrw3]; rfl
      clear hrw3
      cases h3 : okSpan p.zl p.zh 10 with
      | false =>
        go_wp2
        go_ret
        refine ⟨?_, HB3.out⟩
        rw [show validB p = false from by simp [validB, okZR, h3]]
        rfl
      | true =>
      go_wp2_with fail
      refine (rspan_any p.rl p.rh 5 (by omega) _).mono ?_
      rintro e w4 ⟨rfl, hb4⟩
      have HB4 := Lib.hid (HB3.out.trans (hb4.mono HB3.out.size))
      have hrw4 := (hb4.block w.heap.size (lt_of_block HRW3.out)).trans HRW3.out
      have HRW4 := Lib.hid hrw4
      clear hb4 c0 c1 c2 c3 c4 c5
      unfold pairObj pairRow at hrw4
      have c0 : w4.cell? ⟨w.heap.size, 0, none⟩ = some (.slice ao p.bs.length cap) := by rw [cell_of_row w4 _ _ _ _ _ hrw4]; rfl
      have c1 : w4.cell? ⟨w.heap.size, 1, none⟩ = some (.int .i64 p.zl) := by rw [cell_of_row w4 _ _ _ _ _ hrw4]; rfl
      have c2 : w4.cell? ⟨w.heap.size, 2, none⟩ = some (.int .i64 p.zh) := by rw [cell_of_row w4 _ _ _ _ _ hrw4]; rfl
      have c3 : w4.cell? ⟨w.heap.size, 3, none⟩ = some (.int .i64 p.rl) := by rw [cell_of_row w4 _ _ _ _ _ hrw4]; rfl
      have c4 : w4.cell? ⟨w.heap.size, 4, none⟩ = some (.int .i64 p.rh) := by rw [cell_of_row w4 _ _ _ _ _ hrw4]; rfl
      have c5 : w4.cell? ⟨w.heap.size, 5, none⟩ = some (.slice ao2 p.rs.length cap2) := by rw [cell_of_row w4 _ _ _ _ _ hrw4]; rfl
      clear hrw4
      cases h4 : okSpan p.rl p.rh 5 with
      | false =>
        go_wp2
        go_ret
        refine ⟨?_, HB4.out⟩
        rw [show validB p = false from by simp [validB, okZR, h3, h4]]
        rfl
      | true =>
      have hz := h3
      have hr := h4
      simp only [okSpan, decide_eq_true_eq] at hz hr
      obtain ⟨hz1, hz2, hz3⟩ := hz
      obtain ⟨hr1, hr2, hr3⟩ := hr
      have hwz : IntKind.i64.wrap (p.zh - p.zl) = p.zh - p.zl := IntWalk.i64_in _ (by omega)
      have hwr : IntKind.i64.wrap (p.rh - p.rl) = p.rh - p.rl := IntWalk.i64_in _ (by omega)
      by_cases h5 : p.zh - p.zl ≤ 4
      case neg =>
        have hd : decide ((4 : Int) < p.zh - p.zl) = true := by simp; omega
        have hq : decide (p.zh - p.zl ≤ 4) = false := by simpa using h5
        go_wp2
        go_ret
        refine ⟨?_, HB4.out⟩
        rw [show validB p = false from by simp [validB, okZR, hq]]
        rfl
      have hd5 : decide ((4 : Int) < p.zh - p.zl) = false := by simp; omega
      by_cases h6 : p.rh - p.rl ≤ 4
      case neg =>
        have hd : decide ((4 : Int) < p.rh - p.rl) = true := by simp; omega
        have hq : decide (p.rh - p.rl ≤ 4) = false := by simpa using h6
        go_wp2
        go_ret
        refine ⟨?_, HB4.out⟩
        rw [show validB p = false from by simp [validB, okZR, hq]]
        rfl
      have hd6 : decide ((4 : Int) < p.rh - p.rl) = false := by simp; omega
      have HZR : Hid (okZR p = true) := by show _ = _; simp [okZR, h3, h4, h5, h6]
      clear h3 h4 h5 h6
      go_wp2_with fail
      clear hd5 hd6 hwz hwr hz1 hz2 hz3 hr1 hr2 hr3 c0 c1 c2 c3 c4 c5
      go_loopw [4] (fun i wr => ∃ k : Nat, k ≤ p.rs.length ∧ i = .int .i64 k ∧ (p.rs.take k).all (okRd p.bs.length) = true ∧ wr.heap[w.heap.size]? = some (pairObj p (.slice ao p.bs.length cap) (.slice ao2 p.rs.length cap2)) ∧ Below w.heap.size w wr) (fun i _ => p.rs.length - (intOf i).toNat)
      case atStart => exact ⟨0, by omega, rfl, by simp, HRW4.out, HB4.out⟩
      case round =>
        obtain ⟨k, hk, rfl, hra, hrow, hb⟩ := hrel
        have HRW := Lib.hid hrow
        have HB := Lib.hid hb
        have HRA := Lib.hid hra
        have hlr := lt_of_block hrow
        unfold pairObj pairRow at hrow
        clear hb hra
        by_cases hlk : k < p.rs.length
        · skip
          have c0 : wr.cell? ⟨w.heap.size, 0, none⟩ = some (.slice ao p.bs.length cap) := by rw [cell_of_row wr _ _ _ _ _ hrow]; rfl
          have c1 : wr.cell? ⟨w.heap.size, 1, none⟩ = some (.int .i64 p.zl) := by rw [cell_of_row wr _ _ _ _ _ hrow]; rfl
          have c2 : wr.cell? ⟨w.heap.size, 2, none⟩ = some (.int .i64 p.zh) := by rw [cell_of_row wr _ _ _ _ _ hrow]; rfl
          have c3 : wr.cell? ⟨w.heap.size, 3, none⟩ = some (.int .i64 p.rl) := by rw [cell_of_row wr _ _ _ _ _ hrow]; rfl
          have c4 : wr.cell? ⟨w.heap.size, 4, none⟩ = some (.int .i64 p.rh) := by rw [cell_of_row wr _ _ _ _ _ hrow]; rfl
          have c5 : wr.cell? ⟨w.heap.size, 5, none⟩ = some (.slice ao2 p.rs.length cap2) := by rw [cell_of_row wr _ _ _ _ _ hrow]; rfl
          have hcs : ∀ o, (wr.alloc o).cell? ⟨w.heap.size, 0, none⟩ = some (.slice ao p.bs.length cap) ∧ (wr.alloc o).cell? ⟨w.heap.size, 1, none⟩ = some (.int .i64 p.zl) ∧ (wr.alloc o).cell? ⟨w.heap.size, 2, none⟩ = some (.int .i64 p.zh) ∧ (wr.alloc o).cell? ⟨w.heap.size, 3, none⟩ = some (.int .i64 p.rl) ∧ (wr.alloc o).cell? ⟨w.heap.size, 4, none⟩ = some (.int .i64 p.rh) ∧ (wr.alloc o).cell? ⟨w.heap.size, 5, none⟩ = some (.slice ao2 p.rs.length cap2) := by
            intro o
            have hr' := (hget_old wr o _ (by omega)).trans hrow
            refine ⟨?_, ?_, ?_, ?_, ?_, ?_⟩ <;> (rw [cell_of_row _ _ _ _ _ _ hr']; rfl)
          have d0 := fun o => (hcs o).1
          have d1 := fun o => (hcs o).2.1
          have d2 := fun o => (hcs o).2.2.1
          have d3 := fun o => (hcs o).2.2.2.1
          have d4 := fun o => (hcs o).2.2.2.2.1
          have d5 := fun o => (hcs o).2.2.2.2.2
          clear hrow hcs
          obtain ⟨b, off, rfl, hr, hbl, e1, e2, e3, e4, e5⟩ := HE2.out k hlk
          have f1 := (HB.out.cell (p := ⟨b, off + k * 5, none⟩) hbl).trans e1
          have f2 := (HB.out.cell (p := ⟨b, off + k * 5 + 1, none⟩) hbl).trans e2
          have f3 := (HB.out.cell (p := ⟨b, off + k * 5 + 2, none⟩) hbl).trans e3
          have f4 := (HB.out.cell (p := ⟨b, off + k * 5 + 3, none⟩) hbl).trans e4
          have f5 := (HB.out.cell (p := ⟨b, off + k * 5 + 4, none⟩) hbl).trans e5
          clear e1 e2 e3 e4 e5
          have HTA := Lib.hid (take_all p.rs (okRd p.bs.length) k hlk HRA.out)
          have HAF := Lib.hid (all_false p.rs (okRd p.bs.length) k hlk)
          generalize p.rs[k] = rd at *
          obtain ⟨ra, rb, rm, rlo, rhi⟩ := rd
          have HNO : Hid (okRd p.bs.length ⟨ra, rb, rm, rlo, rhi⟩ = false → validB p = false) := fun h => (by simp only [validB, HAF.out h, Bool.and_false])
          clear HAF
          have hszr := HB.out.size
          obtain ⟨w5, hW5⟩ : ∃ w5, w5 = wr.alloc (.cells #[.int .i64 ra, .int .i64 rb, .int .i64 rm, .int .i64 rlo, .int .i64 rhi] 44 (0, 0)) := ⟨_, rfl⟩
          have HB5 := Lib.hid (show Below w.heap.size w w5 by rw [hW5]; exact HB.out.alloc hszr _)
          have HR5 := Lib.hid (show w5.heap[w.heap.size]? = some (pairObj p (.slice ao p.bs.length cap) (.slice (some ⟨b, off, none⟩) p.rs.length cap2)) by rw [hW5]; exact (hget_old wr _ _ (by omega)).trans HRW.out)
          have HQ5 := Lib.hid (show w5.heap[wr.heap.size]? = some (.cells #[.int .i64 ra, .int .i64 rb, .int .i64 rm, .int .i64 rlo, .int .i64 rhi] 44 (0, 0)) by rw [hW5]; exact heap_alloc_at _ _ _ rfl)
          go_wp2_with fail
          rw [← hW5]
          clear hW5 d0 d1 d2 d3 d4 d5 f1 f2 f3 f4 f5
          have g0 := True.intro
          have g1 := True.intro
          have g2 := True.intro
          have g3 := True.intro
          have g4 := True.intro
          refine (rblock_any p p.bs.length cap ao _ (by omega) ra _).mono ?_
          rintro e w6 ⟨rfl, hbx⟩
          have HB6 := Lib.hid (HB5.out.trans (hbx.mono HB5.out.size))
          have hrq := (hbx.block w.heap.size (lt_of_block HR5.out)).trans HR5.out
          have hqq := (hbx.block wr.heap.size (lt_of_block HQ5.out)).trans HQ5.out
          have HR6 := Lib.hid hrq
          have HQ6 := Lib.hid hqq
          clear hbx c0 c1 c2 c3 c4 c5 g0 g1 g2 g3 g4
          unfold pairObj pairRow at hrq
          have c0 : w6.cell? ⟨w.heap.size, 0, none⟩ = some (.slice ao p.bs.length cap) := by rw [cell_of_row w6 _ _ _ _ _ hrq]; rfl
          have c1 : w6.cell? ⟨w.heap.size, 1, none⟩ = some (.int .i64 p.zl) := by rw [cell_of_row w6 _ _ _ _ _ hrq]; rfl
          have c2 : w6.cell? ⟨w.heap.size, 2, none⟩ = some (.int .i64 p.zh) := by rw [cell_of_row w6 _ _ _ _ _ hrq]; rfl
          have c3 : w6.cell? ⟨w.heap.size, 3, none⟩ = some (.int .i64 p.rl) := by rw [cell_of_row w6 _ _ _ _ _ hrq]; rfl
          have c4 : w6.cell? ⟨w.heap.size, 4, none⟩ = some (.int .i64 p.rh) := by rw [cell_of_row w6 _ _ _ _ _ hrq]; rfl
          have c5 : w6.cell? ⟨w.heap.size, 5, none⟩ = some (.slice (some ⟨b, off, none⟩) p.rs.length cap2) := by rw [cell_of_row w6 _ _ _ _ _ hrq]; rfl
          have g0 : w6.cell? ⟨wr.heap.size, 0, none⟩ = some (.int .i64 ra) := by rw [cell_of_row w6 _ _ _ _ _ hqq]; rfl
          have g1 : w6.cell? ⟨wr.heap.size, 1, none⟩ = some (.int .i64 rb) := by rw [cell_of_row w6 _ _ _ _ _ hqq]; rfl
          have g2 : w6.cell? ⟨wr.heap.size, 2, none⟩ = some (.int .i64 rm) := by rw [cell_of_row w6 _ _ _ _ _ hqq]; rfl
          have g3 : w6.cell? ⟨wr.heap.size, 3, none⟩ = some (.int .i64 rlo) := by rw [cell_of_row w6 _ _ _ _ _ hqq]; rfl
          have g4 : w6.cell? ⟨wr.heap.size, 4, none⟩ = some (.int .i64 rhi) := by rw [cell_of_row w6 _ _ _ _ _ hqq]; rfl
          clear hrq hqq
          cases k1 : inB ra 0 ((p.bs.length : Int) - 1) with
          | false =>
            go_wp2
            go_ret
            refine ⟨?_, HB6.out⟩
            rw [show validB p = false from HNO.out (by simp [okRd, k1])]
            rfl
          | true =>
          go_wp2_with fail
          refine (rblock_any p p.bs.length cap ao _ (by omega) rb _).mono ?_
          rintro e w7 ⟨rfl, hbx⟩
          have HB7 := Lib.hid (HB6.out.trans (hbx.mono HB6.out.size))
          have hrq := (hbx.block w.heap.size (lt_of_block HR6.out)).trans HR6.out
          have hqq := (hbx.block wr.heap.size (lt_of_block HQ6.out)).trans HQ6.out
          have HR7 := Lib.hid hrq
          have HQ7 := Lib.hid hqq
          clear hbx c0 c1 c2 c3 c4 c5 g0 g1 g2 g3 g4
          unfold pairObj pairRow at hrq
          have c0 : w7.cell? ⟨w.heap.size, 0, none⟩ = some (.slice ao p.bs.length cap) := by rw [cell_of_row w7 _ _ _ _ _ hrq]; rfl
          have c1 : w7.cell? ⟨w.heap.size, 1, none⟩ = some (.int .i64 p.zl) := by rw [cell_of_row w7 _ _ _ _ _ hrq]; rfl
          have c2 : w7.cell? ⟨w.heap.size, 2, none⟩ = some (.int .i64 p.zh) := by rw [cell_of_row w7 _ _ _ _ _ hrq]; rfl
          have c3 : w7.cell? ⟨w.heap.size, 3, none⟩ = some (.int .i64 p.rl) := by rw [cell_of_row w7 _ _ _ _ _ hrq]; rfl
          have c4 : w7.cell? ⟨w.heap.size, 4, none⟩ = some (.int .i64 p.rh) := by rw [cell_of_row w7 _ _ _ _ _ hrq]; rfl
          have c5 : w7.cell? ⟨w.heap.size, 5, none⟩ = some (.slice (some ⟨b, off, none⟩) p.rs.length cap2) := by rw [cell_of_row w7 _ _ _ _ _ hrq]; rfl
          have g0 : w7.cell? ⟨wr.heap.size, 0, none⟩ = some (.int .i64 ra) := by rw [cell_of_row w7 _ _ _ _ _ hqq]; rfl
          have g1 : w7.cell? ⟨wr.heap.size, 1, none⟩ = some (.int .i64 rb) := by rw [cell_of_row w7 _ _ _ _ _ hqq]; rfl
          have g2 : w7.cell? ⟨wr.heap.size, 2, none⟩ = some (.int .i64 rm) := by rw [cell_of_row w7 _ _ _ _ _ hqq]; rfl
          have g3 : w7.cell? ⟨wr.heap.size, 3, none⟩ = some (.int .i64 rlo) := by rw [cell_of_row w7 _ _ _ _ _ hqq]; rfl
          have g4 : w7.cell? ⟨wr.heap.size, 4, none⟩ = some (.int .i64 rhi) := by rw [cell_of_row w7 _ _ _ _ _ hqq]; rfl
          clear hrq hqq
          cases k2 : inB rb 0 ((p.bs.length : Int) - 1) with
          | false =>
            go_wp2
            go_ret
            refine ⟨?_, HB7.out⟩
            rw [show validB p = false from HNO.out (by simp [okRd, k2])]
            rfl
          | true =>
          by_cases k3 : ra = rb
          case pos =>
            have hd : (ra == rb) = true := by simpa using k3
            go_wp2
            go_ret
            refine ⟨?_, HB7.out⟩
            rw [show validB p = false from HNO.out (by simp [okRd, k3])]
            rfl
          have hd3 : (ra == rb) = false := by simpa using k3
          go_wp2_with fail
          refine (rminute_any rm w7).mono ?_
          rintro e w' ⟨rfl, rfl⟩
          cases k4 : inB rm 0 60 with
          | false =>
            go_wp2
            go_ret
            refine ⟨?_, HB7.out⟩
            rw [show validB p = false from HNO.out (by simp [okRd, k4])]
            rfl
          | true =>
          go_wp2_with fail
          refine (rspan_any rlo rhi 80 (by omega) w7).mono ?_
          rintro e w8 ⟨rfl, hbx⟩
          have HB8 := Lib.hid (HB7.out.trans (hbx.mono HB7.out.size))
          have hrq := (hbx.block w.heap.size (lt_of_block HR7.out)).trans HR7.out
          have hqq := (hbx.block wr.heap.size (lt_of_block HQ7.out)).trans HQ7.out
          have HR8 := Lib.hid hrq
          have HQ8 := Lib.hid hqq
          clear hbx c0 c1 c2 c3 c4 c5 g0 g1 g2 g3 g4
          unfold pairObj pairRow at hrq
          have c0 : w8.cell? ⟨w.heap.size, 0, none⟩ = some (.slice ao p.bs.length cap) := by rw [cell_of_row w8 _ _ _ _ _ hrq]; rfl
          have c1 : w8.cell? ⟨w.heap.size, 1, none⟩ = some (.int .i64 p.zl) := by rw [cell_of_row w8 _ _ _ _ _ hrq]; rfl
          have c2 : w8.cell? ⟨w.heap.size, 2, none⟩ = some (.int .i64 p.zh) := by rw [cell_of_row w8 _ _ _ _ _ hrq]; rfl
          have c3 : w8.cell? ⟨w.heap.size, 3, none⟩ = some (.int .i64 p.rl) := by rw [cell_of_row w8 _ _ _ _ _ hrq]; rfl
          have c4 : w8.cell? ⟨w.heap.size, 4, none⟩ = some (.int .i64 p.rh) := by rw [cell_of_row w8 _ _ _ _ _ hrq]; rfl
          have c5 : w8.cell? ⟨w.heap.size, 5, none⟩ = some (.slice (some ⟨b, off, none⟩) p.rs.length cap2) := by rw [cell_of_row w8 _ _ _ _ _ hrq]; rfl
          have g0 : w8.cell? ⟨wr.heap.size, 0, none⟩ = some (.int .i64 ra) := by rw [cell_of_row w8 _ _ _ _ _ hqq]; rfl
          have g1 : w8.cell? ⟨wr.heap.size, 1, none⟩ = some (.int .i64 rb) := by rw [cell_of_row w8 _ _ _ _ _ hqq]; rfl
          have g2 : w8.cell? ⟨wr.heap.size, 2, none⟩ = some (.int .i64 rm) := by rw [cell_of_row w8 _ _ _ _ _ hqq]; rfl
          have g3 : w8.cell? ⟨wr.heap.size, 3, none⟩ = some (.int .i64 rlo) := by rw [cell_of_row w8 _ _ _ _ _ hqq]; rfl
          have g4 : w8.cell? ⟨wr.heap.size, 4, none⟩ = some (.int .i64 rhi) := by rw [cell_of_row w8 _ _ _ _ _ hqq]; rfl
          clear hrq hqq
          cases k5 : okSpan rlo rhi 80 with
          | false =>
            go_wp2
            go_ret
            refine ⟨?_, HB8.out⟩
            rw [show validB p = false from HNO.out (by simp [okRd, k5])]
            rfl
          | true =>
          have hok : okRd p.bs.length ⟨ra, rb, rm, rlo, rhi⟩ = true := by simp [okRd, k1, k2, k3, k4, k5]
          have HOK := Lib.hid hok
          clear hok k1 k2 k3 k4 k5 hd3
          go_wp2
          exact ⟨⟨k + 1, by omega, by go_num, HTA.out.trans HOK.out, HR8.out, HB8.out⟩, by simp [intOf]; omega⟩
        · obtain rfl : k = p.rs.length := by omega
          have hrall := HRA.out
          rw [List.take_length] at hrall
          have hv : validB p = true := by simp only [validB, HHD.out, HAB.out, HZR.out, hrall, Bool.and_self]
          have HV := Lib.hid hv
          have c0 : wr.cell? ⟨w.heap.size, 0, none⟩ = some (.slice ao p.bs.length cap) := by rw [cell_of_row wr _ _ _ _ _ hrow]; rfl
          have c1 : wr.cell? ⟨w.heap.size, 1, none⟩ = some (.int .i64 p.zl) := by rw [cell_of_row wr _ _ _ _ _ hrow]; rfl
          have c2 : wr.cell? ⟨w.heap.size, 2, none⟩ = some (.int .i64 p.zh) := by rw [cell_of_row wr _ _ _ _ _ hrow]; rfl
          have c3 : wr.cell? ⟨w.heap.size, 3, none⟩ = some (.int .i64 p.rl) := by rw [cell_of_row wr _ _ _ _ _ hrow]; rfl
          have c4 : wr.cell? ⟨w.heap.size, 4, none⟩ = some (.int .i64 p.rh) := by rw [cell_of_row wr _ _ _ _ _ hrow]; rfl
          have c5 : wr.cell? ⟨w.heap.size, 5, none⟩ = some (.slice ao2 p.rs.length cap2) := by rw [cell_of_row wr _ _ _ _ _ hrow]; rfl
          clear hv hrall HRA hrow
          go_wp2
          go_ret
          refine ⟨?_, HB.out⟩
          rw [HV.out]
          rfl

end Go.Proofs.Ytlgeggekmdoceaa

/- A pair that comes in as an argument (plain). -/
namespace Go.Proofs.Ytlgeggekmdoceaa
set_option linter.unusedVariables false
set_option linter.unusedSimpArgs false
open Go.ChangeShapes Go.WideShapes Go.ChangeAt Go.RowKit Go.Deep

theorem choose_list {α : Type} {Q : Nat → α → Prop} : ∀ n : Nat, (∀ i, i < n → ∃ x, Q i x) → ∃ l : List α, l.length = n ∧ ∀ i (h : i < l.length), Q i l[i]
  | 0, _ => ⟨[], rfl, fun i h => absurd h (by simp)⟩
  | n + 1, h => by
    obtain ⟨l, hl, hq⟩ := choose_list n (fun i hi => h i (by omega))
    obtain ⟨x, hx⟩ := h n (by omega)
    refine ⟨l ++ [x], by simp [hl], fun i hi => ?_⟩
    by_cases hin : i < l.length
    · rw [List.getElem_append_left hin]; exact hq i hin
    · have : i = n := by simp at hi; omega
      subst this
      rw [List.getElem_append_right (by omega)]
      simpa [hl] using hx
theorem addr_of_cell {w : World} {a : Addr} {v : Value} (h : w.cell? a = some v) : a = ⟨a.block, a.off, none⟩ ∧ a.block < w.heap.size := by
  obtain ⟨b, o, s⟩ := a
  unfold World.cell? at h
  cases hh : w.heap[b]? with
  | none => rw [hh] at h; simp at h
  | some ob =>
    rw [hh] at h
    refine ⟨?_, (Array.getElem?_eq_some_iff.1 hh).1⟩
    cases s with
    | none => rfl
    | some s => cases ob <;> simp at h

section
variable {H : Type} {enc : TypeId × Value → H} {w : World} {base : Nat} {spare : Nat → Bool} {held : Bool}
theorem open_int2 {n : Nat} {t : TypeId} {v : Value} {x : DataW H × List MemPlace} (ht : Try.prog.underlying t = some (.int .i64)) (h : DataW.trod enc Try.prog w base spare held n t [v] = some x) : ∃ i, v = .int .i64 i := by
  obtain ⟨i, hi, _⟩ := DataW.trod_int ht h
  exact ⟨i, by simpa using hi⟩
theorem under3 : Try.prog.underlying 3 = some (.int .i64) := by kernel_rfl
theorem cells_int : Try.prog.cellsOf 3 = 1 := by kernel_rfl
theorem cells_span : Try.prog.cellsOf 24 = 2 := by kernel_rfl
theorem cells_read : Try.prog.cellsOf 44 = 5 := by kernel_rfl
theorem cells_spans : Try.prog.cellsOf 22 = 1 := by kernel_rfl
theorem cells_reads : Try.prog.cellsOf 25 = 1 := by kernel_rfl
theorem cells_pair : Try.prog.cellsOf 27 = 6 := by kernel_rfl
set_option maxRecDepth 100000 in
theorem open_spanV {n : Nat} {cs : List Value} {x : DataW H × List MemPlace} (h : DataW.trod enc Try.prog w base spare held n 24 cs = some x) : ∃ a b, cs = [.int .i64 a, .int .i64 b] := by
  obtain ⟨xs, m, _, _, hl, hx, hf⟩ := DataW.trod_struct Try.underlying24 h
  rw [cells_span] at hl
  match cs, hl with
  | [c0, c1], _ =>
    have h0 := hf 0 _ rfl
    have h1 := hf 1 _ rfl
    have hxl : xs.length = 2 := hx
    match xs, hxl with
    | [y0, y1], _ =>
      have e0 : DataW.trod enc Try.prog w base spare held m 3 [c0] = some y0 := by
        change DataW.trod enc Try.prog w base spare held m 3 (List.take (Try.prog.cellsOf 3) (List.drop 0 [c0, c1])) = some y0 at h0
        rw [cells_int] at h0
        exact h0
      have e1 : DataW.trod enc Try.prog w base spare held m 3 [c1] = some y1 := by
        change DataW.trod enc Try.prog w base spare held m 3 (List.take (Try.prog.cellsOf 3) (List.drop 1 [c0, c1])) = some y1 at h1
        rw [cells_int] at h1
        exact h1
      obtain ⟨a, rfl⟩ := open_int2 under3 e0
      obtain ⟨b, rfl⟩ := open_int2 under3 e1
      exact ⟨a, b, rfl⟩
set_option maxRecDepth 100000 in
theorem open_readV {n : Nat} {cs : List Value} {x : DataW H × List MemPlace} (h : DataW.trod enc Try.prog w base spare held n 44 cs = some x) : ∃ r : RdD, cs = rdC r := by
  obtain ⟨xs, m, _, _, hl, hx, hf⟩ := DataW.trod_struct Try.underlying44 h
  rw [cells_read] at hl
  match cs, hl with
  | [c0, c1, c2, c3, c4], _ =>
    have h0 := hf 0 _ rfl
    have h1 := hf 1 _ rfl
    have h2 := hf 2 _ rfl
    have h3 := hf 3 _ rfl
    have hxl : xs.length = 4 := hx
    match xs, hxl with
    | [y0, y1, y2, y3], _ =>
      have e0 : DataW.trod enc Try.prog w base spare held m 3 [c0] = some y0 := by
        change DataW.trod enc Try.prog w base spare held m 3 (List.take (Try.prog.cellsOf 3) (List.drop 0 [c0, c1, c2, c3, c4])) = some y0 at h0
        rw [cells_int] at h0
        exact h0
      have e1 : DataW.trod enc Try.prog w base spare held m 3 [c1] = some y1 := by
        change DataW.trod enc Try.prog w base spare held m 3 (List.take (Try.prog.cellsOf 3) (List.drop 1 [c0, c1, c2, c3, c4])) = some y1 at h1
        rw [cells_int] at h1
        exact h1
      have e2 : DataW.trod enc Try.prog w base spare held m 3 [c2] = some y2 := by
        change DataW.trod enc Try.prog w base spare held m 3 (List.take (Try.prog.cellsOf 3) (List.drop 2 [c0, c1, c2, c3, c4])) = some y2 at h2
        rw [cells_int] at h2
        exact h2
      have e3 : DataW.trod enc Try.prog w base spare held m 24 [c3, c4] = some y3 := by
        change DataW.trod enc Try.prog w base spare held m 24 (List.take (Try.prog.cellsOf 24) (List.drop 3 [c0, c1, c2, c3, c4])) = some y3 at h3
        rw [cells_span] at h3
        exact h3
      obtain ⟨a, rfl⟩ := open_int2 under3 e0
      obtain ⟨b, rfl⟩ := open_int2 under3 e1
      obtain ⟨c, rfl⟩ := open_int2 under3 e2
      obtain ⟨lo, hi, hs⟩ := open_spanV e3
      simp only [List.cons.injEq, and_true] at hs
      obtain ⟨rfl, rfl⟩ := hs
      exact ⟨⟨a, b, c, lo, hi⟩, rfl⟩
set_option maxRecDepth 100000 in
theorem open_spansV {n : Nat} {v : Value} {x : DataW H × List MemPlace} (h : DataW.trod enc Try.prog w base spare held n 22 [v] = some x) : ∃ l, SpansAt w v l (fun k => k < w.heap.size) := by
  rcases open_slice Try.underlying22 h with ⟨h1, _⟩ | ⟨a, len, cap, m, k, D, Pl, h1, _, h2, h3, h4, _, h5⟩
  · exact ⟨[], none, 0, by simpa using h1, by simp, by simp, fun i hi => absurd hi (by simp)⟩
  · have hv : v = .slice (some a) len cap := by simpa using h1
    have hlm : len ≤ m := by rw [h4]; split <;> omega
    by_cases h0 : len = 0
    · subst h0
      exact ⟨[], some a, cap, hv, by simp, h3, fun i hi => absurd hi (by simp)⟩
    have hcells : ∀ i, i < len → ∃ s : Int × Int, w.cell? (a.add (i * 2)) = some (.int .i64 s.1) ∧ w.cell? (a.add (i * 2 + 1)) = some (.int .i64 s.2) := fun i hi => by
      obtain ⟨cs', hc, ht⟩ := h5 i (by omega)
      rw [cells_span] at hc
      obtain ⟨lo, hi', rfl⟩ := open_spanV ht
      obtain ⟨_, _, hat⟩ := World.cells?_some hc
      have a0 := hat 0 (by omega)
      have a1 := hat 1 (by omega)
      rw [Go.Deep.add_add] at a0 a1
      exact ⟨(lo, hi'), a0, a1⟩
    obtain ⟨s0, hs0, _⟩ := hcells 0 (by omega)
    obtain ⟨hae, hab⟩ := addr_of_cell (a := a) hs0
    obtain ⟨l, hl, hq⟩ := choose_list (Q := fun i (s : Int × Int) => w.cell? ⟨a.block, a.off + i * 2, none⟩ = some (.int .i64 s.1) ∧ w.cell? ⟨a.block, a.off + i * 2 + 1, none⟩ = some (.int .i64 s.2)) len (fun i hi => by
      obtain ⟨s, e1, e2⟩ := hcells i hi
      rw [hae, Addr.add_mid] at e1 e2
      exact ⟨s, e1, by rw [Nat.add_assoc]; exact e2⟩)
    refine ⟨l, some a, cap, by rw [hv, hl], by omega, h3, fun i hi => ?_⟩
    obtain ⟨e3, e4⟩ := hq i hi
    exact ⟨a.block, a.off, by rw [← hae], hab, hab, e3, e4⟩
set_option maxRecDepth 100000 in
theorem open_readsV {n : Nat} {v : Value} {x : DataW H × List MemPlace} (h : DataW.trod enc Try.prog w base spare held n 25 [v] = some x) : ∃ l, ReadsAt w v l (fun k => k < w.heap.size) := by
  rcases open_slice Try.underlying25 h with ⟨h1, _⟩ | ⟨a, len, cap, m, k, D, Pl, h1, _, h2, h3, h4, _, h5⟩
  · exact ⟨[], none, 0, by simpa using h1, by simp, by simp, fun i hi => absurd hi (by simp)⟩
  · have hv : v = .slice (some a) len cap := by simpa using h1
    have hlm : len ≤ m := by rw [h4]; split <;> omega
    by_cases h0 : len = 0
    · subst h0
      exact ⟨[], some a, cap, hv, by simp, h3, fun i hi => absurd hi (by simp)⟩
    have hcells : ∀ i, i < len → ∃ r : RdD, ∀ q, q < 5 → w.cell? (a.add (i * 5 + q)) = (rdC r)[q]? := fun i hi => by
      obtain ⟨cs', hc, ht⟩ := h5 i (by omega)
      rw [cells_read] at hc
      obtain ⟨r, rfl⟩ := open_readV ht
      obtain ⟨_, _, hat⟩ := World.cells?_some hc
      refine ⟨r, fun q hq => ?_⟩
      have a0 := hat q hq
      rw [Go.Deep.add_add] at a0
      exact a0
    obtain ⟨s0, hs0⟩ := hcells 0 (by omega)
    obtain ⟨hae, hab⟩ := addr_of_cell (a := a) (hs0 0 (by omega))
    obtain ⟨l, hl, hq⟩ := choose_list (Q := fun i (s : RdD) => ∀ q, q < 5 → w.cell? ⟨a.block, a.off + (i * 5 + q), none⟩ = (rdC s)[q]?) len (fun i hi => by
      obtain ⟨s, e1⟩ := hcells i hi
      refine ⟨s, fun q hq => ?_⟩
      have := e1 q hq
      rw [hae, Addr.add_mid] at this
      exact this)
    refine ⟨l, some a, cap, by rw [hv, hl], by omega, h3, fun i hi => ?_⟩
    have e := hq i hi
    exact ⟨a.block, a.off, by rw [← hae], hab, hab, e 0 (by omega), e 1 (by omega), e 2 (by omega), e 3 (by omega), e 4 (by omega)⟩
set_option maxRecDepth 100000 in
theorem open_pair {r : Reach} {b0 : Nat} {v : Value} {d : DataW H} {ps : List MemPlace} (hv : Value.okWide Try.prog w r b0 27 v) (h : DataW.Trod enc Try.prog w base spare held 27 v d ps) : ∃ p bs rs, v = .agg (pairRow p bs rs) ∧ PairAt w p bs rs := by
  obtain ⟨cs, rfl, hsz⟩ := okWide_struct Try.underlying27 hv
  obtain ⟨l⟩ := cs
  obtain ⟨fuel, hf⟩ := h
  obtain ⟨xs, m, _, _, hl, hx, hg⟩ := DataW.trod_struct Try.underlying27 hf
  match l, hsz.trans cells_pair with
  | [c0, c1, c2, c3, c4, c5], _ =>
    have h0 := hg 0 _ rfl
    have h1 := hg 1 _ rfl
    have h2 := hg 2 _ rfl
    have h3 := hg 3 _ rfl
    have hxl : xs.length = 4 := hx
    match xs, hxl with
    | [y0, y1, y2, y3], _ =>
      have e0 : DataW.trod enc Try.prog w base spare held m 22 [c0] = some y0 := by
        change DataW.trod enc Try.prog w base spare held m 22 (List.take (Try.prog.cellsOf 22) (List.drop 0 [c0, c1, c2, c3, c4, c5])) = some y0 at h0
        rw [cells_spans] at h0
        exact h0
      have e1 : DataW.trod enc Try.prog w base spare held m 24 [c1, c2] = some y1 := by
        change DataW.trod enc Try.prog w base spare held m 24 (List.take (Try.prog.cellsOf 24) (List.drop 1 [c0, c1, c2, c3, c4, c5])) = some y1 at h1
        rw [cells_span] at h1
        exact h1
      have e2 : DataW.trod enc Try.prog w base spare held m 24 [c3, c4] = some y2 := by
        change DataW.trod enc Try.prog w base spare held m 24 (List.take (Try.prog.cellsOf 24) (List.drop 3 [c0, c1, c2, c3, c4, c5])) = some y2 at h2
        rw [cells_span] at h2
        exact h2
      have e3 : DataW.trod enc Try.prog w base spare held m 25 [c5] = some y3 := by
        change DataW.trod enc Try.prog w base spare held m 25 (List.take (Try.prog.cellsOf 25) (List.drop 5 [c0, c1, c2, c3, c4, c5])) = some y3 at h3
        rw [cells_reads] at h3
        exact h3
      obtain ⟨bl, hbl⟩ := open_spansV e0
      obtain ⟨rl, hrl⟩ := open_readsV e3
      obtain ⟨zl, zh, hz⟩ := open_spanV e1
      obtain ⟨ql, qh, hq⟩ := open_spanV e2
      simp only [List.cons.injEq, and_true] at hz hq
      obtain ⟨rfl, rfl⟩ := hz
      obtain ⟨rfl, rfl⟩ := hq
      exact ⟨⟨bl, zl, zh, ql, qh, rl⟩, c0, c5, rfl, ⟨hbl, hrl⟩⟩
end

end Go.Proofs.Ytlgeggekmdoceaa

/- Arguments that read as they did (plain). -/
namespace Go.Proofs.Ytlgeggekmdoceaa
set_option linter.unusedVariables false
set_option linter.unusedSimpArgs false
open Go.ChangeShapes Go.WideShapes Go.ChangeAt Go.RowKit

theorem laid_out : laidOutB Try.prog = true := by kernel_rfl
theorem trodAll_stays {H : Type} {enc : TypeId × Value → H} {P : Program} (hl : laidOutB P = true) {W W' : World} {sp : Nat → Bool} : ∀ {ts : List TypeId} {vs : List Value} {ds : List (DataW H)} {ps : List MemPlace},
    (∀ t ∈ ts, P.readableRec t = true ∧ t < P.types.size) → DataW.TrodAll enc P W 0 (fun _ => true) true ts vs ds ps → Below W.heap.size W W' → (∀ x ∈ ps, x.block < W.heap.size) → (∀ x ∈ ps, sp x.block = true) → DataW.TrodAll enc P W' 0 sp true ts vs ds ps
  | [], [], [], _, _, h, _, _, _ => h
  | t :: ts, _ :: _, _ :: _, _, hT, ⟨p, q, h1, h2, e⟩, hb, hlt, hs =>
    ⟨p, q, WideElems.Trod_stays hl (hT t List.mem_cons_self).1 (hT t List.mem_cons_self).2 h1 (fun x hx => hb.same (hlt x (by rw [e]; exact List.mem_append_left _ hx))) (fun x hx => hs x (by rw [e]; exact List.mem_append_left _ hx)),
      trodAll_stays hl (fun t' ht' => hT t' (List.mem_cons_of_mem _ ht')) h2 hb (fun x hx => hlt x (by rw [e]; exact List.mem_append_right _ hx)) (fun x hx => hs x (by rw [e]; exact List.mem_append_right _ hx)), e⟩
set_option maxRecDepth 100000 in
theorem lawEnd {H : Type} {enc : TypeId × Value → H} {f : Func} {s : ChangeSpec} {W W' : World} {args : Array Value} {ds : List (DataW H)} {p : List MemPlace} {ts : List TypeId}
    (hW : DataW.Whole enc Try.prog f.params.toList s.vars false W args.toList ds [] p) (hvs : s.vars = []) (hA : DataW.TrodAll enc Try.prog W 0 (fun _ => true) true ts args.toList ds p) (hts : f.params.toList = ts)
    (hT : ∀ t ∈ ts, Try.prog.readableRec t = true ∧ t < Try.prog.types.size)
    (hfn : s.fn H (ds ++ []) = { results := [.lit (.bool true)], args := ds }) (hr : f.resultTypes = #[4]) (hb : Below W.heap.size W W') :
    s.post enc Try.prog f false true false false W args (.bool true) W' := by
  refine post_of_below (pa := p) (pv := []) hW (fun b sp hd => ?_) (fun sp hsp => ?_) (fun sp _ => ?_) (List.append_nil p).symm hb (ok_one hr rfl (okWide_bool_mk Try.underlying4 _))
  · rw [hr, hfn]
    exact trodAll_cons_mk (shut_bool Try.underlying4 _) trodAll_mk0
  · rw [hfn, hts]
    exact trodAll_stays laid_out hT hA hb (fun x hx => by simpa using hW.lt x hx) hsp
  · rw [hfn, hvs]
    rfl

end Go.Proofs.Ytlgeggekmdoceaa

/- The reference: what is shown of equal blocks; is a reading right? -/
namespace Go.Proofs.Ytlgeggekmdoceaa
set_option linter.unusedVariables false
set_option linter.unusedSimpArgs false
open Go.RowKit Go.Shelf
attribute [local go_sem] Oper.semAt_some

theorem down_any (n : Int) (h1 : -1000000 ≤ n) (h2 : n ≤ 1000000) (w : World) :
    Calls Try.prog 98 #[.int .i64 n] w fun e w' => e = .returned (.int .i64 (n / 10)) ∧ w = w' := by
  have HT := Lib.hid (tdiv_facts n)
  have HT2 := Lib.hid (tdiv_facts (9 - n))
  by_cases h0 : 0 ≤ n
  · have hd : decide (0 ≤ n) = true := by simpa using h0
    have hw : wrap64 (n / 10) = n / 10 := by unfold wrap64; omega
    go_enter Try.func98, Try.ntmps98
    go_wp2
    go_ret
    exact ⟨rfl, rfl⟩
  · have hd : decide (0 ≤ n) = false := by simpa using h0
    have HE : Hid (n / 10 = -((9 - n) / 10)) := by show _ = _; omega
    go_enter Try.func98, Try.ntmps98
    go_wp2
    go_ret
    refine ⟨?_, rfl⟩
    rw [HE.out]
    rfl
def truthRow (v : Value) (c : Int × Int) : Array Value := #[v, .int .i64 c.1, .int .i64 c.2]
set_option maxRecDepth 100000 in
set_option maxHeartbeats 2000000 in
theorem equal_any (v : Value) (hv : v.oneCell' = true) (c : Int × Int) (m : Int) (hz : -1000 ≤ c.1 ∧ c.1 ≤ 1000) (hr : -1000 ≤ c.2 ∧ c.2 ≤ 1000) (hm : 0 ≤ m ∧ m ≤ 60) (w : World) :
    Calls Try.prog 65 #[.agg (truthRow v c), .int .i64 m] w fun e w' => e = .returned (.int .i64 (showsC c.1 c.2 m)) ∧ Below w.heap.size w w' := by
  obtain ⟨z, r⟩ := c
  dsimp only at *
  have hmb := mul_bounds r m hr.1 hr.2 hm.1 hm.2
  obtain ⟨W, hW⟩ : ∃ W, W = w.alloc (.cells (truthRow v (z, r)) 76) := ⟨_, rfl⟩
  have hrow : W.heap[w.heap.size]? = some (.cells #[v, .int .i64 z, .int .i64 r] 76 (0, 0)) := by rw [hW]; exact heap_alloc_at _ _ _ rfl
  have hbw : Below w.heap.size w W := by rw [hW]; exact (Below.refl _ _).alloc (Nat.le_refl _) _
  have c1 : W.cell? ⟨w.heap.size, 1, none⟩ = some (.int .i64 z) := by rw [cell_of_row W _ _ _ _ _ hrow]; rfl
  have c2 : W.cell? ⟨w.heap.size, 2, none⟩ = some (.int .i64 r) := by rw [cell_of_row W _ _ _ _ _ hrow]; rfl
  have HB := Lib.hid hbw
  have HS : Hid (showsC z r m = z + r * m / 10) := rfl
  clear hrow hbw
  unfold truthRow at hW ⊢
  go_enter Try.func65, Try.ntmps65
  go_wp2_with fail
  rw [← hW]
  clear hW
  have hmul : IntKind.i64.wrap (r * m) = r * m := IntWalk.i64_in _ (by omega)
  have hadd : IntKind.i64.wrap (z + r * m / 10) = z + r * m / 10 := IntWalk.i64_in _ (by omega)
  have s0 : W.drew.cell? ⟨w.heap.size, 1, none⟩ = some (.int .i64 z) ∧ W.drew.cell? ⟨w.heap.size, 2, none⟩ = some (.int .i64 r) := ⟨c1, c2⟩
  go_region_held3 (fun w' => w'.cell? ⟨w.heap.size, 1, none⟩ = some (.int .i64 z) ∧ w'.cell? ⟨w.heap.size, 2, none⟩ = some (.int .i64 r))
    (first | exact s0)
    (first | (go_at_call 98; refine (down_any (r * m) (by omega) (by omega) _).mono ?_; rintro e w2 ⟨rfl, rfl⟩))
  go_wp2
  go_ret
  exact ⟨by rw [HS.out]; rfl, HB.out.drew⟩
def atV (x : List Int) (i : Nat) : Int := x.getD i 0
set_option maxRecDepth 100000 in
set_option maxHeartbeats 2000000 in
theorem right1_any (x : List Int) (v : Value) (c : Int × Int) (r : RdD) (Rd : Nat → Prop) (w : World) (hv : ListAt w v (x.map (Value.int .i64)) Rd) (hz : -1000 ≤ c.1 ∧ c.1 ≤ 1000) (hr : -1000 ≤ c.2 ∧ c.2 ≤ 1000) (hm : 0 ≤ r.m ∧ r.m ≤ 60)
    (ha : 0 ≤ r.a ∧ r.a < x.length) (hb : 0 ≤ r.b ∧ r.b < x.length) (hx : ∀ y ∈ x, -1000 ≤ y ∧ y ≤ 1000) :
    Calls Try.prog 112 #[.agg (truthRow v c), readV r] w fun e w' => e = .returned (.bool (inB (atL x r.a - atL x r.b + showsC c.1 c.2 r.m) r.lo r.hi)) ∧ Below w.heap.size w w' := by
  obtain ⟨z, q⟩ := c
  obtain ⟨a, b, m, lo, hi⟩ := r
  dsimp only at *
  obtain ⟨ao, cap, rfl, hlen, hel⟩ := hv
  obtain ⟨na, rfl⟩ := Int.eq_ofNat_of_zero_le ha.1
  obtain ⟨nb, rfl⟩ := Int.eq_ofNat_of_zero_le hb.1
  obtain ⟨blk, off, rfl, _, hlt, hca⟩ := hel na (by simp; omega)
  obtain ⟨_, _, hbo, _, _, hcb⟩ := hel nb (by simp; omega)
  cases hbo
  rw [List.getElem_map] at hca hcb
  have hla : na < x.length := by omega
  have hlb : nb < x.length := by omega
  have exa : x[na] = atL x na := by simp [atL, List.getD_eq_getElem?_getD, hla]
  have exb : x[nb] = atL x nb := by simp [atL, List.getD_eq_getElem?_getD, hlb]
  have hba := hx _ (List.getElem_mem hla)
  have hbb := hx _ (List.getElem_mem hlb)
  rw [exa] at hca hba
  rw [exb] at hcb hbb
  rw [List.length_map] at hlen ⊢
  generalize atL x na = ya at *
  generalize atL x nb = yb at *
  obtain ⟨W, hW⟩ : ∃ W, W = (w.alloc (.cells #[.slice (some ⟨blk, off, none⟩) x.length cap, .int .i64 z, .int .i64 q] 76)).alloc (.cells #[.int .i64 na, .int .i64 nb, .int .i64 m, .int .i64 lo, .int .i64 hi] 44) := ⟨_, rfl⟩
  have r1 : W.heap[w.heap.size]? = some (.cells #[.slice (some ⟨blk, off, none⟩) x.length cap, .int .i64 z, .int .i64 q] 76 (0, 0)) := by rw [hW]; exact (by repeat (first | (refine heap_alloc_at _ _ _ ?_; (simp <;> omega); done) | (refine (hget_old _ _ _ ?_).trans ?_; · (simp <;> omega))))
  have r2 : W.heap[w.heap.size + 1]? = some (.cells #[.int .i64 na, .int .i64 nb, .int .i64 m, .int .i64 lo, .int .i64 hi] 44 (0, 0)) := by rw [hW]; exact (by repeat (first | (refine heap_alloc_at _ _ _ ?_; (simp <;> omega); done) | (refine (hget_old _ _ _ ?_).trans ?_; · (simp <;> omega))))
  have hbw : Below w.heap.size w W := by rw [hW]; exact ((Below.refl _ _).alloc (Nat.le_refl _) _).alloc (by simp) _
  have rows : ∀ W', Below W.heap.size W W' → (W'.cell? ⟨w.heap.size, 0, none⟩ = some (.slice (some ⟨blk, off, none⟩) x.length cap) ∧ W'.cell? ⟨w.heap.size, 1, none⟩ = some (.int .i64 z) ∧ W'.cell? ⟨w.heap.size, 2, none⟩ = some (.int .i64 q)) ∧
      (W'.cell? ⟨w.heap.size + 1, 0, none⟩ = some (.int .i64 na) ∧ W'.cell? ⟨w.heap.size + 1, 1, none⟩ = some (.int .i64 nb) ∧ W'.cell? ⟨w.heap.size + 1, 2, none⟩ = some (.int .i64 m) ∧ W'.cell? ⟨w.heap.size + 1, 3, none⟩ = some (.int .i64 lo) ∧ W'.cell? ⟨w.heap.size + 1, 4, none⟩ = some (.int .i64 hi)) ∧
      W'.cell? ⟨blk, off + na, none⟩ = some (.int .i64 ya) ∧ W'.cell? ⟨blk, off + nb, none⟩ = some (.int .i64 yb) := fun W' hb' => by
    have q1 := (hb'.block _ (lt_of_block r1)).trans r1
    have q2 := (hb'.block _ (lt_of_block r2)).trans r2
    refine ⟨⟨?_, ?_, ?_⟩, ⟨?_, ?_, ?_, ?_, ?_⟩, ?_, ?_⟩
    · rw [cell_of_row _ _ _ _ _ _ q1]; rfl
    · rw [cell_of_row _ _ _ _ _ _ q1]; rfl
    · rw [cell_of_row _ _ _ _ _ _ q1]; rfl
    · rw [cell_of_row _ _ _ _ _ _ q2]; rfl
    · rw [cell_of_row _ _ _ _ _ _ q2]; rfl
    · rw [cell_of_row _ _ _ _ _ _ q2]; rfl
    · rw [cell_of_row _ _ _ _ _ _ q2]; rfl
    · rw [cell_of_row _ _ _ _ _ _ q2]; rfl
    · exact ((hbw.trans (hb'.mono hbw.size)).cell (p := ⟨blk, off + na, none⟩) hlt).trans hca
    · exact ((hbw.trans (hb'.mono hbw.size)).cell (p := ⟨blk, off + nb, none⟩) hlt).trans hcb
  have HB := Lib.hid hbw
  have ROWS := Lib.hid rows
  have s0 := rows W (Below.refl _ _)
  obtain ⟨⟨a0, a1, a2⟩, ⟨a3, a4, a5, a6, a7⟩, a8, a9⟩ := s0
  clear rows hca hcb r1 r2 hbw exa exb hel
  have hd1 : decide ((na : Int) < x.length) = true := by simp; omega
  have hd2 : decide ((nb : Int) < x.length) = true := by simp; omega
  unfold truthRow readV at *
  dsimp only at *
  go_enter Try.func112, Try.ntmps112
  go_wp2_with fail
  rw [← hW]
  clear hW
  have hs1 : IntKind.i64.wrap (ya - yb) = ya - yb := IntWalk.i64_in _ (by omega)
  have hsb := mul_bounds q m hr.1 hr.2 hm.1 hm.2
  have hs2 : IntKind.i64.wrap (ya - yb + showsC z q m) = ya - yb + showsC z q m := IntWalk.i64_in _ (by unfold showsC; omega)
  go_region_held3 (fun W' => (W'.cell? ⟨w.heap.size, 0, none⟩ = some (.slice (some ⟨blk, off, none⟩) x.length cap) ∧ W'.cell? ⟨w.heap.size, 1, none⟩ = some (.int .i64 z) ∧ W'.cell? ⟨w.heap.size, 2, none⟩ = some (.int .i64 q)) ∧
      (W'.cell? ⟨w.heap.size + 1, 0, none⟩ = some (.int .i64 na) ∧ W'.cell? ⟨w.heap.size + 1, 1, none⟩ = some (.int .i64 nb) ∧ W'.cell? ⟨w.heap.size + 1, 2, none⟩ = some (.int .i64 m) ∧ W'.cell? ⟨w.heap.size + 1, 3, none⟩ = some (.int .i64 lo) ∧ W'.cell? ⟨w.heap.size + 1, 4, none⟩ = some (.int .i64 hi)) ∧
      W'.cell? ⟨blk, off + na, none⟩ = some (.int .i64 ya) ∧ W'.cell? ⟨blk, off + nb, none⟩ = some (.int .i64 yb))
    (first | exact ROWS.out _ ((Below.refl _ _).drew.trans hb2) | exact ROWS.out _ (Below.refl _ _).drew)
    (first | (go_at_call 65; refine (equal_any (.slice (some ⟨blk, off, none⟩) x.length cap) rfl (z, q) m hz hr hm _).mono ?_; rintro e w2 ⟨rfl, hb2⟩) | (go_at_call 90; refine (rin_any _ _ _ _).mono ?_; rintro e w3 ⟨rfl, rfl⟩))
  go_wp2
  go_ret
  exact ⟨rfl, HB.out.trans (((Below.refl _ _).drew.trans hb2).mono HB.out.size)⟩

end Go.Proofs.Ytlgeggekmdoceaa

/- The reference: are the readings of a set right? -/
namespace Go.Proofs.Ytlgeggekmdoceaa
set_option linter.unusedVariables false
set_option linter.unusedSimpArgs false
open Go.RowKit Go.Shelf
attribute [local go_sem] Oper.semAt_some

theorem rightK_next (p : PairD) (s : Nat) (c : Int × Int) (x : List Int) (k : Nat) : rightK p s c x (k + 1) = (rightK p s c x k && rightN p s c x k) := by simp [rightK, List.range_succ]
theorem rightK_all (p : PairD) (s : Nat) (c : Int × Int) (x : List Int) (k : Nat) (hk : k < p.rs.length) (h : rightN p s c x k = false) : rightL p s c x = false := by
  unfold rightL rightK
  rw [List.all_eq_false]
  exact ⟨k, List.mem_range.2 hk, by simp [h]⟩
theorem rightN_at (p : PairD) (s : Nat) (c : Int × Int) (x : List Int) (k : Nat) (hk : k < p.rs.length) : rightN p s c x k = (!(s.testBit k) || rightR c x p.rs[k]) := by
  unfold rightN
  rw [List.getElem?_eq_getElem hk]
theorem ListAt.later {W W' : World} {v : Value} {xs : List Value} {Rd : Nat → Prop} (h : ListAt W v xs Rd) (hb : Below W.heap.size W W') : ListAt W' v xs Rd := by
  obtain ⟨ao, cap, h1, h2, h3⟩ := h
  refine ⟨ao, cap, h1, h2, fun i hi => ?_⟩
  obtain ⟨b, off, e1, e2, e3, e4⟩ := h3 i hi
  exact ⟨b, off, e1, e2, Nat.lt_of_lt_of_le e3 hb.size, (hb.cell (p := ⟨b, off + i, none⟩) e3).trans e4⟩
set_option maxRecDepth 100000 in
set_option maxHeartbeats 8000000 in
theorem right_any (p : PairD) (hv : validB p = true) (bs rs v : Value) (x : List Int) (c : Int × Int) (s : Nat) (hs : s < 256) (Rd : Nat → Prop) (w : World) (hpa : PairAt w p bs rs) (hx : ListAt w v (x.map (Value.int .i64)) Rd)
    (hz : -1000 ≤ c.1 ∧ c.1 ≤ 1000) (hr : -1000 ≤ c.2 ∧ c.2 ≤ 1000) (hxs : ∀ y ∈ x, -1000 ≤ y ∧ y ≤ 1000) :
    Calls Try.prog 108 #[.agg (pairRow p bs rs), .agg (truthRow v c), .int .i64 s] w fun e w' => e = .returned (.bool (rightL p s c x)) ∧ Below w.heap.size w w' := by
  have hp := OkP.of p hv
  have hm8 := hp.m8
  obtain ⟨z, q⟩ := c
  dsimp only at hz hr
  obtain ⟨ao, cap, hbs, _⟩ := id hpa.b
  subst hbs
  obtain ⟨ao2, cap2, hrs, hc3, hc4, hel2⟩ := id hpa.r
  subst hrs
  obtain ⟨aox, capx, hve, hlen, _⟩ := id hx
  subst hve
  rw [List.length_map] at hlen hx
  rw [List.length_map]
  have HE2 := Lib.hid hel2
  have HX := Lib.hid hx
  clear hel2 hx
  obtain ⟨W0, hW0⟩ : ∃ W0, W0 = (w.alloc (.cells (pairRow p (.slice ao p.bs.length cap) (.slice ao2 p.rs.length cap2)) 27 (0, 0))).alloc (.cells (truthRow (.slice aox x.length capx) (z, q)) 76 (0, 0)) := ⟨_, rfl⟩
  have hb0 : Below w.heap.size w W0 := by rw [hW0]; exact ((Below.refl _ _).alloc (Nat.le_refl _) _).alloc (by simp) _
  have hr1 : W0.heap[w.heap.size]? = some (pairObj p (.slice ao p.bs.length cap) (.slice ao2 p.rs.length cap2)) := by rw [hW0]; exact (hget_old _ _ _ (by simp)).trans (heap_alloc_at _ _ _ rfl)
  have hr2 : W0.heap[w.heap.size + 1]? = some (.cells (truthRow (.slice aox x.length capx) (z, q)) 76 (0, 0)) := by rw [hW0]; exact heap_alloc_at _ _ _ (by simp)
  have hsw : W0.heap.size = w.heap.size + 2 := by rw [hW0]; simp
  have HB0 := Lib.hid hb0
  have HR1 := Lib.hid hr1
  have HR2 := Lib.hid hr2
  clear hb0 hr1 hr2
  unfold pairRow truthRow at hW0 ⊢
  go_enter Try.func108, Try.ntmps108
  go_wp2_with fail
  rw [← hW0]
  clear hW0
  go_loopw [7] (fun i wr => ∃ k : Nat, k ≤ p.rs.length ∧ i = .int .i64 k ∧ rightK p s (z, q) x k = true ∧ Below W0.heap.size W0 wr) (fun i _ => p.rs.length - (intOf i).toNat)
  case atStart => exact ⟨0, by omega, rfl, rfl, Below.refl _ _⟩
  case round =>
    obtain ⟨k, hk, rfl, hra, hb⟩ := hrel
    have HB := Lib.hid hb
    have HRA := Lib.hid hra
    have hrow1 := (hb.block _ (lt_of_block HR1.out)).trans HR1.out
    have hrow2 := (hb.block _ (lt_of_block HR2.out)).trans HR2.out
    have hl1 := lt_of_block hrow1
    have hl2 := lt_of_block hrow2
    unfold pairObj pairRow at hrow1
    unfold truthRow at hrow2
    have c5 : wr.cell? ⟨w.heap.size, 5, none⟩ = some (.slice ao2 p.rs.length cap2) := by rw [cell_of_row wr _ _ _ _ _ hrow1]; rfl
    by_cases hlk : k < p.rs.length
    · have g0 : ∀ o, (wr.alloc o).cell? ⟨w.heap.size + 1, 0, none⟩ = some (.slice aox x.length capx) := fun o => by rw [cell_of_row _ _ _ _ _ _ ((hget_old wr o _ (by omega)).trans hrow2)]; rfl
      have g1 : ∀ o, (wr.alloc o).cell? ⟨w.heap.size + 1, 1, none⟩ = some (.int .i64 z) := fun o => by rw [cell_of_row _ _ _ _ _ _ ((hget_old wr o _ (by omega)).trans hrow2)]; rfl
      have g2 : ∀ o, (wr.alloc o).cell? ⟨w.heap.size + 1, 2, none⟩ = some (.int .i64 q) := fun o => by rw [cell_of_row _ _ _ _ _ _ ((hget_old wr o _ (by omega)).trans hrow2)]; rfl
      obtain ⟨b, off, rfl, _, hbl, e1, e2, e3, e4, e5⟩ := HE2.out k hlk
      have hbw : Below w.heap.size w wr := HB0.out.trans (hb.mono (by omega))
      have f1 := (hbw.cell (p := ⟨b, off + k * 5, none⟩) hbl).trans e1
      have f2 := (hbw.cell (p := ⟨b, off + k * 5 + 1, none⟩) hbl).trans e2
      have f3 := (hbw.cell (p := ⟨b, off + k * 5 + 2, none⟩) hbl).trans e3
      have f4 := (hbw.cell (p := ⟨b, off + k * 5 + 3, none⟩) hbl).trans e4
      have f5 := (hbw.cell (p := ⟨b, off + k * 5 + 4, none⟩) hbl).trans e5
      have hrd := hp.rs _ (List.getElem_mem hlk)
      have HNX := Lib.hid (rightK_next p s (z, q) x k)
      have HNO := Lib.hid (rightK_all p s (z, q) x k hlk)
      have HAT := Lib.hid (rightN_at p s (z, q) x k hlk)
      have HXW := Lib.hid (fun o => HX.out.later (hbw.alloc hbw.size o))
      clear e1 e2 e3 e4 e5 hrow1 hrow2 hra hb hbw
      generalize p.rs[k] = rd at *
      obtain ⟨ra, rb, rm, rlo, rhi⟩ := rd
      dsimp only at hrd
      go_wp2_with fail
      refine (has_any s k hs (by omega) _).mono ?_
      rintro e w' ⟨rfl, rfl⟩
      have HB1 := Lib.hid (HB.out.alloc HB.out.size (.cells #[.int .i64 ra, .int .i64 rb, .int .i64 rm, .int .i64 rlo, .int .i64 rhi] 44))
      have hr1 : (wr.alloc (.cells #[.int .i64 ra, .int .i64 rb, .int .i64 rm, .int .i64 rlo, .int .i64 rhi] 44)).heap[wr.heap.size]? = some (.cells #[.int .i64 ra, .int .i64 rb, .int .i64 rm, .int .i64 rlo, .int .i64 rhi] 44 (0, 0)) := heap_alloc_at _ _ _ rfl
      have HXX := Lib.hid (HXW.out (.cells #[.int .i64 ra, .int .i64 rb, .int .i64 rm, .int .i64 rlo, .int .i64 rhi] 44))
      obtain ⟨W1, hW1⟩ : ∃ W1, W1 = wr.alloc (.cells #[.int .i64 ra, .int .i64 rb, .int .i64 rm, .int .i64 rlo, .int .i64 rhi] 44) := ⟨_, rfl⟩
      rw [← hW1] at HB1 hr1 HXX
      have g0 := g0 (.cells #[.int .i64 ra, .int .i64 rb, .int .i64 rm, .int .i64 rlo, .int .i64 rhi] 44)
      have g1 := g1 (.cells #[.int .i64 ra, .int .i64 rb, .int .i64 rm, .int .i64 rlo, .int .i64 rhi] 44)
      have g2 := g2 (.cells #[.int .i64 ra, .int .i64 rb, .int .i64 rm, .int .i64 rlo, .int .i64 rhi] 44)
      rw [← hW1] at g0 g1 g2
      rw [← hW1]
      have d0 : W1.cell? ⟨wr.heap.size, 0, none⟩ = some (.int .i64 ra) := by rw [cell_of_row _ _ _ _ _ _ hr1]; rfl
      have d1 : W1.cell? ⟨wr.heap.size, 1, none⟩ = some (.int .i64 rb) := by rw [cell_of_row _ _ _ _ _ _ hr1]; rfl
      have d2 : W1.cell? ⟨wr.heap.size, 2, none⟩ = some (.int .i64 rm) := by rw [cell_of_row _ _ _ _ _ _ hr1]; rfl
      have d3 : W1.cell? ⟨wr.heap.size, 3, none⟩ = some (.int .i64 rlo) := by rw [cell_of_row _ _ _ _ _ _ hr1]; rfl
      have d4 : W1.cell? ⟨wr.heap.size, 4, none⟩ = some (.int .i64 rhi) := by rw [cell_of_row _ _ _ _ _ _ hr1]; rfl
      clear hW1 hr1 f1 f2 f3 f4 f5 c5
      cases ht : s.testBit k with
      | false =>
        have HN : Hid (rightN p s (z, q) x k = true) := by
          have := HAT.out
          rw [ht] at this
          exact this
        clear ht
        go_wp2
        exact ⟨⟨k + 1, by omega, by go_num, by rw [HNX.out, HRA.out, HN.out]; rfl, HB1.out⟩, by simp [intOf]; omega⟩
      | true =>
        by_cases h1 : ra < x.length
        case neg =>
          have hd : decide (ra < (x.length : Int)) = false := by simpa using h1
          have HN : Hid (rightN p s (z, q) x k = true) := by
            show _ = _
            rw [HAT.out, ht]
            have : decide ((x.length : Int) ≤ ra) = true := by simp; omega
            simp [rightR, this]
          clear ht
          go_wp2
          exact ⟨⟨k + 1, by omega, by go_num, by rw [HNX.out, HRA.out, HN.out]; rfl, HB1.out⟩, by simp [intOf]; omega⟩
        have hd1 : decide (ra < (x.length : Int)) = true := by simpa using h1
        by_cases h2 : rb < x.length
        case neg =>
          have hd : decide (rb < (x.length : Int)) = false := by simpa using h2
          have HN : Hid (rightN p s (z, q) x k = true) := by
            show _ = _
            rw [HAT.out, ht]
            have : decide ((x.length : Int) ≤ rb) = true := by simp; omega
            simp [rightR, this]
          clear ht
          go_wp2
          exact ⟨⟨k + 1, by omega, by go_num, by rw [HNX.out, HRA.out, HN.out]; rfl, HB1.out⟩, by simp [intOf]; omega⟩
        have hd2 : decide (rb < (x.length : Int)) = true := by simpa using h2
        have HN : Hid (rightN p s (z, q) x k = inB (atL x ra - atL x rb + showsC z q rm) rlo rhi) := by
          show _ = _
          rw [HAT.out, ht]
          have e1 : decide ((x.length : Int) ≤ ra) = false := by simp; omega
          have e2 : decide ((x.length : Int) ≤ rb) = false := by simp; omega
          simp [rightR, e1, e2, inB]
        clear ht
        go_wp2_with fail
        have hxx := HXX.out
        rw [show x.length = (x.map (Value.int .i64)).length by simp] at hxx
        refine (right1_any x _ (z, q) ⟨ra, rb, rm, rlo, rhi⟩ Rd W1 HXX.out hz hr ⟨hrd.2.2.2.2.1, hrd.2.2.2.2.2.1⟩ ⟨hrd.1, h1⟩ ⟨hrd.2.2.1, h2⟩ hxs).mono ?_
        rintro e w4 ⟨rfl, hb4⟩
        have HB4 := Lib.hid (HB1.out.trans (hb4.mono HB1.out.size))
        dsimp only at HN ⊢
        clear hb4 hxx
        generalize inB (atL x ra - atL x rb + showsC z q rm) rlo rhi = res at HN ⊢
        cases res with
        | true =>
          go_wp2
          exact ⟨⟨k + 1, by omega, by go_num, by rw [HNX.out, HRA.out, HN.out]; rfl, HB4.out⟩, by simp [intOf]; omega⟩
        | false =>
          go_wp2
          go_ret
          refine ⟨?_, HB0.out.trans (HB4.out.mono (by omega))⟩
          rw [HNO.out HN.out]
          rfl
    · obtain rfl : k = p.rs.length := by omega
      clear hrow1 hrow2 hra hb
      go_wp2
      go_ret
      refine ⟨?_, HB0.out.trans (HB.out.mono (by omega))⟩
      rw [show rightL p s (z, q) x = true from HRA.out]
      rfl

end Go.Proofs.Ytlgeggekmdoceaa

/- The reference: lists of truths in memory; laws for appends. -/
namespace Go.Proofs.Ytlgeggekmdoceaa
set_option linter.unusedVariables false
set_option linter.unusedSimpArgs false
open Go.RowKit Go.Shelf
attribute [local go_sem] Oper.semAt_some

section
variable {P : Program} {w : World}
/-- An append at an operation, in a region too. -/
theorem wp_append_at {o : Oper} {a : Act} {K : Act → World → Prop} {Q : Exit → Act → World → Prop} (s x : Operand) (t : TypeId)
    (ho : o.op = .call { callee := .builtin .append, args := #[s, x], argTypes := #[t, t] })
    (base : Nat) (e : TypeId) (size bytes : Nat) (z : Value) (ht : P.underlying t = some (.slice e)) (hinfo : (P.info? e).map (fun i => (i.zero, i.size, i.bytes)) = some (some z, size, bytes)) (hzs : z.cells.size = size) (hsz : 0 < size)
    (v : Value) (n : Nat) (xs : List Value) (hs : a.eval s = v) (hown : w.ownsRow base e size v n xs)
    (ad : Addr) (m c : Nat) (news : List Value) (hx : a.eval x = .slice (some ad) m c) (hl : news.length = m * size) (hnews : ∀ j u, news[j]? = some u → w.cell? (ad.add j) = some u) (h1 : ∀ u ∈ news, u.oneCell' = true)
    (h63 : n + m ≤ 1000001) (hbytes : bytes ≤ 1000) (hbase : base ≤ w.heap.size)
    (h : ∀ v' w', w'.ownsRow base e size v' (n + m) (xs ++ news) → w.grownBy w' v.ownBlock → (v'.ownBlock = v.ownBlock ∨ v'.ownBlock = some w.heap.size) → K (a.put o.dst v') w') : o.wp P a w K Q := by
  obtain ⟨i, hi, hz, hsize, hby⟩ := info_parts hinfo
  have hb : (n + m) * bytes ≤ 140737488355328 := by
    have h2 : (n + m) * bytes ≤ 1000001 * 1000 := Nat.mul_le_mul h63 hbytes
    omega
  obtain ⟨v', w', hr, h2, h3, h4, h5⟩ := run_append_own_at (P := P) w base t o.type e i z size bytes ht hi hz hsize hby hzs hsz v n xs hown ad m c news hl hnews h1 (by unfold maxLen; omega) hb hbase
  unfold Oper.wp execOp
  simp only [ho, resolve, invoke, builtin, Sem.run_bind, Sem.run_pure, Result.andThen_ok, List.map_toArray, List.map_cons, List.map_nil, hs, hx, hr]
  exact h v' w' h2 h3 h5
end
theorem Keeps.of_grown {w w' : World} {row : Option Nat} (h : w.grownBy w' row) : Keeps (fun k => row = some k) w w' :=
  ⟨h.os, h.tape, h.output, h.size, fun k hk hn => h.block k hk (fun e => hn e.symm)⟩
/-- A block of ints. -/
def RdI (w : World) (b : Nat) : Prop := ∃ cs fr, w.heap[b]? = some (.cells cs 3 fr)
theorem ListAt.keeps {w w' : World} {M : Nat → Prop} {v : Value} {xs : List Value} (h : ListAt w v xs (RdI w)) (hk : Keeps M w w') (hM : ∀ k, M k → ¬ RdI w k) : ListAt w' v xs (RdI w') := by
  obtain ⟨ao, cap, h1, h2, h3⟩ := h
  refine ⟨ao, cap, h1, h2, fun i hi => ?_⟩
  obtain ⟨b, off, e1, e2, e3, e4⟩ := h3 i hi
  have hb := hk.block b e3 (fun hm => hM b hm e2)
  obtain ⟨cs, fr, hcs⟩ := e2
  exact ⟨b, off, e1, ⟨cs, fr, hb.trans hcs⟩, Nat.lt_of_lt_of_le e3 hk.size, (World.cell?_of_block (w := w) (a := ⟨b, off + i, none⟩) hb).trans e4⟩
abbrev TruT := Value × (List Int × (Int × Int))
def trC (t : TruT) : List Value := [t.1, .int .i64 t.2.2.1, .int .i64 t.2.2.2]
/-- A slice of truths in memory, of the call's own. -/
structure TruthsAt (w : World) (B : Nat) (vl : Value) (L : List (List Int × (Int × Int))) (TL : List TruT) : Prop where
  map : TL.map (·.2) = L
  own : w.ownsRow B 76 3 vl TL.length (TL.flatMap trC)
  at' : ∀ t ∈ TL, ListAt w t.1 (t.2.1.map (Value.int .i64)) (RdI w)
theorem own_not_int {w : World} {B : Nat} {vl : Value} {n : Nat} {xs : List Value} (h : w.ownsRow B 76 3 vl n xs) : ∀ k, vl.ownBlock = some k → ¬ RdI w k := by
  rintro k hk ⟨cs, fr, hcs⟩
  rcases h.2 with ⟨h1, _⟩ | ⟨g, cap, cur, h1, _, h3, _⟩
  · subst h1; simp [Value.ownBlock] at hk
  · subst h1
    simp only [Value.ownBlock, Option.some.injEq] at hk
    subst hk
    rw [h3] at hcs
    simp at hcs
theorem own_ge {w : World} {B : Nat} {e : TypeId} {size : Nat} {vl : Value} {n : Nat} {xs : List Value} (h : w.ownsRow B e size vl n xs) : ∀ k, vl.ownBlock = some k → B ≤ k ∧ k < w.heap.size := h.lt
theorem TruthsAt.later {w w' : World} {B : Nat} {vl : Value} {L : List (List Int × (Int × Int))} {TL : List TruT} (h : TruthsAt w B vl L TL) (hb : Below w.heap.size w w') : TruthsAt w' B vl L TL :=
  ⟨h.map, own_below h.own hb, fun t ht => (h.at' t ht).keeps (M := fun _ => False) ⟨hb.os, hb.tape, hb.output, hb.size, fun k hk _ => hb.block k hk⟩ (fun _ h => h.elim)⟩
theorem infoTruth : (Try.prog.info? 76).map (fun i => (i.zero, i.size, i.bytes)) = some (some (.agg #[.slice none 0 0, .int .i64 0, .int .i64 0]), 3, 40) := by kernel_rfl
theorem infoInt : (Try.prog.info? 3).map (fun i => (i.zero, i.size, i.bytes)) = some (some (.int .i64 0), 1, 8) := by kernel_rfl
theorem underTruths : Try.prog.underlying 72 = some (.slice 76) := by kernel_rfl
theorem underInts : Try.prog.underlying 50 = some (.slice 3) := by kernel_rfl
/-- A row of ints of the call's own, as a list. -/
theorem listAt_ints {w : World} {B n : Nat} {v : Value} {x : List Int} (h : w.ownsRow B 3 1 v n (x.map (Value.int .i64))) (hn : n ≤ 1000) : ListAt w v (x.map (Value.int .i64)) (RdI w) := by
  have hl := own_length h
  rcases h.2 with ⟨h2, h3⟩ | ⟨g, cap, cur, h2, h3, h4, h5, h6, h7, h8⟩
  · subst h3
    exact ⟨none, 0, by rw [h2, hl], by omega, fun i hi => by omega⟩
  · refine ⟨_, cap, by rw [h2, hl], by omega, fun i hi => ⟨g, 0, rfl, ⟨_, _, h4⟩, lt_of_block h4, ?_⟩⟩
    rw [Nat.zero_add, cell_of_row w g i cur _ (0, 0) h4]
    have : (x.map (Value.int .i64))[i]? = cur[i]? := by
      rw [← h8, List.getElem?_take, if_pos (by omega)]
      simp
    rw [← this]
    exact List.getElem?_eq_getElem hi

end Go.Proofs.Ytlgeggekmdoceaa

/- The reference: all truths that go on from some deviations. -/
namespace Go.Proofs.Ytlgeggekmdoceaa
set_option linter.unusedVariables false
set_option linter.unusedSimpArgs false
open Go.RowKit Go.Shelf
attribute [local go_sem] Oper.semAt_some

def roundsL (p : PairD) (s : Nat) (c : Int × Int) (n : Nat) (x : List Int) (lo : Int) (j : Nat) : List (List Int) := ((List.range j).map fun k : Nat => lo + (k : Int)).flatMap fun k => fromL p s c n (x ++ [k])
theorem roundsL_next (p : PairD) (s : Nat) (c : Int × Int) (n : Nat) (x : List Int) (lo : Int) (j : Nat) : roundsL p s c n x lo (j + 1) = roundsL p s c n x lo j ++ fromL p s c n (x ++ [lo + (j : Int)]) := by
  simp [roundsL, List.range_succ, List.flatMap_append]
theorem roundsL_le (p : PairD) (s : Nat) (c : Int × Int) (n : Nat) (x : List Int) (lo : Int) : ∀ (m j : Nat), j ≤ m → (roundsL p s c n x lo j).length ≤ (roundsL p s c n x lo m).length
  | 0, j, h => by
    have : j = 0 := by omega
    subst this
    exact Nat.le_refl _
  | m + 1, j, h => by
    by_cases hj : j = m + 1
    · subst hj; exact Nat.le_refl _
    · have := roundsL_le p s c n x lo m j (by omega)
      rw [roundsL_next, List.length_append]
      omega
theorem fromL_succ (p : PairD) (s : Nat) (c : Int × Int) (n : Nat) (x : List Int) (lo hi : Int) (hx : p.bs[x.length]? = some (lo, hi)) (h : rightL p s c x = true) : fromL p s c (n + 1) x = roundsL p s c n x lo (hi - lo + 1).toNat := by
  show (if rightL p s c x = true then _ else _) = _
  rw [if_pos h]
  have : p.bs.getD x.length (0, 0) = (lo, hi) := by rw [List.getD_eq_getElem?_getD, hx]; rfl
  rw [this]
  rfl
theorem fromL_no (p : PairD) (s : Nat) (c : Int × Int) (x : List Int) (h : rightL p s c x = false) : ∀ n, fromL p s c n x = []
  | 0 => by unfold fromL; rw [if_neg (by simp [h])]
  | n + 1 => by unfold fromL; rw [if_neg (by simp [h])]
theorem fromL_end (p : PairD) (s : Nat) (c : Int × Int) (x : List Int) (h : rightL p s c x = true) : fromL p s c 0 x = [x] := by
  unfold fromL; rw [if_pos h]
theorem SpansAt.keeps {w W : World} {v : Value} {l : List (Int × Int)} {B : Nat} {M : Nat → Prop} (h : SpansAt w v l (fun k => k < B)) (hk : Keeps M w W) (hM : ∀ k, M k → B ≤ k) : SpansAt W v l (fun k => k < B) :=
  h.later hk.size (fun k h1 h2 => hk.block k h1 (fun hm => by have := hM k hm; omega))
theorem ReadsAt.keeps {w W : World} {v : Value} {l : List RdD} {B : Nat} {M : Nat → Prop} (h : ReadsAt w v l (fun k => k < B)) (hk : Keeps M w W) (hM : ∀ k, M k → B ≤ k) : ReadsAt W v l (fun k => k < B) :=
  h.later hk.size (fun k h1 h2 => hk.block k h1 (fun hm => by have := hM k hm; omega))

theorem drew_heap (w : World) : w.drew.heap = w.heap := rfl
theorem keeps_of_below {M : Nat → Prop} {w w' : World} (h : Below w.heap.size w w') : Keeps M w w' := ⟨h.os, h.tape, h.output, h.size, fun k hk _ => h.block k hk⟩
theorem keeps_join {A B C : World} {M N : Nat → Prop} (h : Keeps M A B) (k : Keeps N B C) (hN : ∀ i, N i → M i ∨ A.heap.size ≤ i) : Keeps M A C :=
  ⟨k.os.trans h.os, k.tape.trans h.tape, k.output.trans h.output, Nat.le_trans h.size k.size, fun i hi hm => (k.block i (Nat.lt_of_lt_of_le hi h.size) (fun hn => (hN i hn).elim hm (fun hh => by omega))).trans (h.block i hi hm)⟩
theorem wp_append_nil {w : World} {o : Oper} {a : Act} {K : Act → World → Prop} {Q : Exit → Act → World → Prop} (s x : Operand) (t : TypeId)
    (ho : o.op = .call { callee := .builtin .append, args := #[s, x], argTypes := #[t, t] }) (e : TypeId) (size bytes : Nat) (z : Value) (ht : Try.prog.underlying t = some (.slice e)) (hinfo : (Try.prog.info? e).map (fun i => (i.zero, i.size, i.bytes)) = some (some z, size, bytes))
    (g : Nat) (hs : a.eval s = .slice (some ⟨g, 0, none⟩) 0 0) (m c : Nat) (hx : a.eval x = .slice none m c) (hm : m = 0) (hty : t = t) (h : K (a.put o.dst (.slice (some ⟨g, 0, none⟩) 0 0)) w) : o.wp Try.prog a w K Q := by
  subst hm
  obtain ⟨i, hi, hz, hsize, hby⟩ := info_parts hinfo
  unfold Oper.wp execOp
  simp only [ho, resolve, invoke, builtin, Sem.run_bind, Sem.run_pure, Result.andThen_ok, List.map_toArray, List.map_cons, List.map_nil, hs, hx]
  have hr : (Builtin.append_ #[t, t] o.type #[.slice (some ⟨g, 0, none⟩) 0 0, .slice none 0 c]).run Try.prog w = .ok (.slice (some ⟨g, 0, none⟩) 0 0) w := by
    simp [Builtin.append_, run_underlying ht, sizeOf, typeInfo, hi, Builtin.lenOf, Builtin.firstCells, loadCells, loadCellsFrom, storeCells]
  rw [hr]
  exact h
theorem own_empty {w : World} {base g : Nat} (h : w.heap[g]? = some (.cells #[] 3 (0, 0))) (hb : base ≤ g) : w.ownsRow base 3 1 (.slice (some ⟨g, 0, none⟩) 0 0) 0 [] :=
  ⟨rfl, .inr ⟨g, 0, #[], rfl, hb, h, Nat.le_refl _, by simp, rfl, rfl⟩⟩
theorem lt_of_cell {w : World} {a : Addr} {v : Value} (h : w.cell? a = some v) : a.block < w.heap.size := by
  unfold World.cell? at h
  cases hh : w.heap[a.block]? with
  | none => rw [hh] at h; simp at h
  | some o => exact (Array.getElem?_eq_some_iff.1 hh).1
theorem ones_ints (x : List Int) : ∀ u ∈ x.map (Value.int .i64), u.oneCell' = true := by
  intro u hu
  obtain ⟨y, _, rfl⟩ := List.mem_map.1 hu
  rfl
theorem listAt_news {W : World} {a : Addr} {n cap : Nat} {xs : List Value} {Rd : Nat → Prop} (h : ListAt W (.slice (some a) n cap) xs Rd) : ∀ j u, xs[j]? = some u → W.cell? (a.add j) = some u := by
  obtain ⟨ao, cap', h1, h2, h3⟩ := h
  intro j u hu
  obtain ⟨hj, rfl⟩ := List.getElem?_eq_some_iff.1 hu
  obtain ⟨b, off, e1, _, _, e4⟩ := h3 j hj
  simp only [Value.slice.injEq] at h1
  rw [← h1.1] at e1
  cases e1
  rw [Addr.add_mid]
  exact e4
theorem listAt_none {W : World} {n cap : Nat} {xs : List Value} {Rd : Nat → Prop} (h : ListAt W (.slice none n cap) xs Rd) : xs = [] := by
  obtain ⟨ao, cap', h1, h2, h3⟩ := h
  cases xs with
  | nil => rfl
  | cons a l =>
    obtain ⟨b, off, e1, _⟩ := h3 0 (by simp)
    simp only [Value.slice.injEq] at h1
    rw [← h1.1] at e1
    cases e1
set_option maxRecDepth 100000 in
set_option maxHeartbeats 8000000 in
theorem from_any (p : PairD) (hv : validB p = true) (bs rs : Value) (s : Nat) (hs : s < 256) (c : Int × Int) (hz : -1000 ≤ c.1 ∧ c.1 ≤ 1000) (hr : -1000 ≤ c.2 ∧ c.2 ≤ 1000) (B : Nat) :
    ∀ (n : Nat) (x : List Int) (v vl : Value) (L : List (List Int × (Int × Int))) (TL : List TruT) (w : World), x.length + n = p.bs.length → (∀ y ∈ x, -1000 ≤ y ∧ y ≤ 1000) → SpansAt w bs p.bs (fun k => k < B) → ReadsAt w rs p.rs (fun k => k < B) → B ≤ w.heap.size →
      ListAt w v (x.map (Value.int .i64)) (RdI w) → TruthsAt w B vl L TL → L.length + (fromL p s c n x).length ≤ 1000000 →
      Calls Try.prog 102 #[.agg (pairRow p bs rs), .int .i64 s, .agg (truthRow v c), vl] w fun e w' => (∃ vl' TL', e = .returned vl' ∧ TruthsAt w' B vl' (L ++ (fromL p s c n x).map fun y => (y, c)) TL' ∧
        ∀ k, vl'.ownBlock = some k → vl.ownBlock = some k ∨ w.heap.size ≤ k) ∧ Keeps (fun k => vl.ownBlock = some k) w w' := by
  have hp := OkP.of p hv
  have hn5 := hp.n5
  have egf := enters_of Try.func102 (by kernel_rfl) rfl
  obtain ⟨z, q⟩ := c
  dsimp only at hz hr
  intro n
  induction n with
  | zero =>
    intro x v vl L TL w hxn hxs hbs hrs hB hx ht hcount
    have hpa : PairAt w p bs rs := ⟨hbs.low, hrs.low⟩
    obtain ⟨ao, cap, hbse, _⟩ := id hbs
    subst hbse
    obtain ⟨ao2, cap2, hrse, _⟩ := id hrs
    subst hrse
    obtain ⟨aox, capx, hve, hlen, _⟩ := id hx
    subst hve
    rw [List.length_map] at hx hlen ⊢
    obtain ⟨W0, hW0⟩ : ∃ W0, W0 = (w.alloc (.cells (pairRow p (.slice ao p.bs.length cap) (.slice ao2 p.rs.length cap2)) 27 (0, 0))).alloc (.cells (truthRow (.slice aox x.length capx) (z, q)) 76 (0, 0)) := ⟨_, rfl⟩
    have hb0 : Below w.heap.size w W0 := by rw [hW0]; exact ((Below.refl _ _).alloc (Nat.le_refl _) _).alloc (by simp) _
    have hr1 : W0.heap[w.heap.size]? = some (pairObj p (.slice ao p.bs.length cap) (.slice ao2 p.rs.length cap2)) := by rw [hW0]; exact (hget_old _ _ _ (by simp)).trans (heap_alloc_at _ _ _ rfl)
    have hr2 : W0.heap[w.heap.size + 1]? = some (.cells (truthRow (.slice aox x.length capx) (z, q)) 76 (0, 0)) := by rw [hW0]; exact heap_alloc_at _ _ _ (by simp)
    have hsw : W0.heap.size = w.heap.size + 2 := by rw [hW0]; simp
    have HB0 := Lib.hid hb0
    have HX0 := Lib.hid (hx.keeps (M := fun _ => False) ⟨hb0.os, hb0.tape, hb0.output, hb0.size, fun k hk _ => hb0.block k hk⟩ (fun _ h => h.elim))
    have HT0 := Lib.hid (ht.later hb0)
    have HPA0 := Lib.hid (hpa.later hb0)
    have HR1 := Lib.hid hr1
    have HR2 := Lib.hid hr2
    have HC := Lib.hid hcount
    have hrow1 := hr1
    have hrow2 := hr2
    unfold pairObj pairRow at hrow1
    unfold truthRow at hrow2
    have c0 : W0.cell? ⟨w.heap.size, 0, none⟩ = some (.slice ao p.bs.length cap) := by rw [cell_of_row W0 _ _ _ _ _ hrow1]; rfl
    have c1 : W0.cell? ⟨w.heap.size, 1, none⟩ = some (.int .i64 p.zl) := by rw [cell_of_row W0 _ _ _ _ _ hrow1]; rfl
    have c2 : W0.cell? ⟨w.heap.size, 2, none⟩ = some (.int .i64 p.zh) := by rw [cell_of_row W0 _ _ _ _ _ hrow1]; rfl
    have c3 : W0.cell? ⟨w.heap.size, 3, none⟩ = some (.int .i64 p.rl) := by rw [cell_of_row W0 _ _ _ _ _ hrow1]; rfl
    have c4 : W0.cell? ⟨w.heap.size, 4, none⟩ = some (.int .i64 p.rh) := by rw [cell_of_row W0 _ _ _ _ _ hrow1]; rfl
    have c5 : W0.cell? ⟨w.heap.size, 5, none⟩ = some (.slice ao2 p.rs.length cap2) := by rw [cell_of_row W0 _ _ _ _ _ hrow1]; rfl
    have d0 : W0.cell? ⟨w.heap.size + 1, 0, none⟩ = some (.slice aox x.length capx) := by rw [cell_of_row W0 _ _ _ _ _ hrow2]; rfl
    have d1 : W0.cell? ⟨w.heap.size + 1, 1, none⟩ = some (.int .i64 z) := by rw [cell_of_row W0 _ _ _ _ _ hrow2]; rfl
    have d2 : W0.cell? ⟨w.heap.size + 1, 2, none⟩ = some (.int .i64 q) := by rw [cell_of_row W0 _ _ _ _ _ hrow2]; rfl
    clear hb0 hr1 hr2 hrow1 hrow2 hx ht hbs hrs hpa hcount
    unfold pairRow truthRow at hW0 ⊢
    go_enter Try.func102, Try.ntmps102
    go_wp2_with fail
    rw [← hW0]
    clear hW0
    refine (right_any p hv _ _ _ x (z, q) s hs (RdI W0) W0 (by exact HPA0.out) (by have := HX0.out; simpa using this) hz hr hxs).mono ?_
    rintro e w2 ⟨rfl, hb2⟩
    have HB2 := Lib.hid (HB0.out.trans (hb2.mono (by omega)))
    have HT2 := Lib.hid (HT0.out.later hb2)
    have HX2 := Lib.hid (HX0.out.keeps (M := fun _ => False) (keeps_of_below hb2) (fun _ h => h.elim))
    have hrow1 := (hb2.block _ (by omega)).trans HR1.out
    have hrow2 := (hb2.block _ (by omega)).trans HR2.out
    unfold pairObj pairRow at hrow1
    unfold truthRow at hrow2
    clear hb2 c0 c1 c2 c3 c4 c5 d0 d1 d2
    have c0 : w2.cell? ⟨w.heap.size, 0, none⟩ = some (.slice ao p.bs.length cap) := by rw [cell_of_row w2 _ _ _ _ _ hrow1]; rfl
    have d0 : w2.cell? ⟨w.heap.size + 1, 0, none⟩ = some (.slice aox x.length capx) := by rw [cell_of_row w2 _ _ _ _ _ hrow2]; rfl
    have d1 : w2.cell? ⟨w.heap.size + 1, 1, none⟩ = some (.int .i64 z) := by rw [cell_of_row w2 _ _ _ _ _ hrow2]; rfl
    have d2 : w2.cell? ⟨w.heap.size + 1, 2, none⟩ = some (.int .i64 q) := by rw [cell_of_row w2 _ _ _ _ _ hrow2]; rfl
    clear hrow1 hrow2
    cases hrl : rightL p s (z, q) x with
    | false =>
      have HE := Lib.hid (fromL_no p s (z, q) x hrl 0)
      clear hrl
      go_wp2
      go_ret
      refine ⟨⟨vl, TL, rfl, ?_, fun k hk => .inl hk⟩, keeps_of_below HB2.out⟩
      rw [HE.out, List.map_nil, List.append_nil]
      exact HT2.out
    | true =>
      have HE := Lib.hid (fromL_end p s (z, q) x hrl)
      clear hrl
      have hd : ((x.length : Int) == (p.bs.length : Int)) = true := by simp; omega
      have hTLn : TL.length ≤ 1000000 := by
        have h1 := HC.out
        have h2 := HT2.out.map
        have : TL.length = L.length := by rw [← h2]; simp
        omega
      obtain ⟨i0, hi0, hz0, hz1, hz2⟩ := info_parts infoTruth
      have hsw2 := HB2.out.size
      go_wp2_with (at_builtin; refine wpList_append_own_at (w := _) rfl _ _ 72 rfl B 76 i0 _ 3 40 underTruths hi0 hz0 hz1 hz2 rfl (by decide) vl TL.length _ rfl (HT2.out.own.alloc _) ⟨w2.heap.size, 0, none⟩ 1 1 [.slice aox x.length capx, .int .i64 z, .int .i64 q] rfl rfl (news_block (cs := #[.slice aox x.length capx, .int .i64 z, .int .i64 q]) (heap_alloc_at _ _ _ rfl)) (by simp [Value.oneCell']) (by unfold maxLen; omega) (by omega) (by simp; omega) ?_; intro v' w3 hown' hgrow' hnil' hat'; have HO3 := Lib.hid hown'; have HG3 := Lib.hid hgrow'; have HA3 := Lib.hid hat'; clear hown' hgrow' hnil' hat')
      go_ret
      have hkk : Keeps (fun k => vl.ownBlock = some k) w2 w3 := (Keeps.alloc _ _ _).trans (Keeps.of_grown HG3.out)
      have h1 : TruthsAt w3 B v' (L ++ (fromL p s (z, q) 0 x).map fun y => (y, (z, q))) (TL ++ [(.slice aox x.length capx, (x, (z, q)))]) := by
        refine ⟨by rw [HE.out, List.map_append, HT2.out.map]; rfl, ?_, fun t htm => ?_⟩
        · rw [List.length_append, List.flatMap_append]
          exact HO3.out
        · rcases List.mem_append.1 htm with h | h
          · exact (HT2.out.at' t h).keeps hkk (fun k hk => own_not_int HT2.out.own k hk)
          · rw [List.mem_singleton.1 h]
            have := HX2.out.keeps hkk (fun k hk => own_not_int HT2.out.own k hk)
            exact this
      have h2 : ∀ k, v'.ownBlock = some k → vl.ownBlock = some k ∨ w.heap.size ≤ k := fun k hk => by
        rcases HA3.out with h | h
        · exact .inl (h ▸ hk)
        · rw [h] at hk
          simp at hk
          exact .inr (by omega)
      refine ⟨?_, (keeps_of_below HB2.out).trans hkk⟩
      first | exact ⟨v', _, rfl, h1, h2⟩ | exact ⟨v', rfl, ⟨_, h1⟩, h2⟩
  | succ n ih =>
    intro x v vl L TL w hxn hxs hbs hrs hB hx ht hcount
    have hpa : PairAt w p bs rs := ⟨hbs.low, hrs.low⟩
    have hxl : x.length < p.bs.length := by omega
    obtain ⟨ao, cap, hbse, hcb1, hcb2, hel⟩ := id hbs
    subst hbse
    obtain ⟨ao2, cap2, hrse, _, _, _⟩ := id hrs
    subst hrse
    obtain ⟨aox, capx, hve, hlen, _⟩ := id hx
    subst hve
    rw [List.length_map] at hx hlen ⊢
    obtain ⟨blk, off, rfl, hblk, hbls, e1, e2⟩ := hel x.length hxl
    have hsp := hp.bs _ (List.getElem_mem hxl)
    have HGE : Hid (p.bs[x.length]? = some (p.bs[x.length].1, p.bs[x.length].2)) := List.getElem?_eq_getElem hxl
    obtain ⟨lo, hlo⟩ : ∃ lo, lo = p.bs[x.length].1 := ⟨_, rfl⟩
    obtain ⟨hi, hhi⟩ : ∃ hi, hi = p.bs[x.length].2 := ⟨_, rfl⟩
    rw [← hlo] at e1 HGE hsp
    rw [← hhi] at e2 HGE hsp
    clear hlo hhi hel
    obtain ⟨W0, hW0⟩ : ∃ W0, W0 = (w.alloc (.cells (pairRow p (.slice (some ⟨blk, off, none⟩) p.bs.length cap) (.slice ao2 p.rs.length cap2)) 27 (0, 0))).alloc (.cells (truthRow (.slice aox x.length capx) (z, q)) 76 (0, 0)) := ⟨_, rfl⟩
    have hb0 : Below w.heap.size w W0 := by rw [hW0]; exact ((Below.refl _ _).alloc (Nat.le_refl _) _).alloc (by simp) _
    have hr1 : W0.heap[w.heap.size]? = some (pairObj p (.slice (some ⟨blk, off, none⟩) p.bs.length cap) (.slice ao2 p.rs.length cap2)) := by rw [hW0]; exact (hget_old _ _ _ (by simp)).trans (heap_alloc_at _ _ _ rfl)
    have hr2 : W0.heap[w.heap.size + 1]? = some (.cells (truthRow (.slice aox x.length capx) (z, q)) 76 (0, 0)) := by rw [hW0]; exact heap_alloc_at _ _ _ (by simp)
    have hsw : W0.heap.size = w.heap.size + 2 := by rw [hW0]; simp
    have HB0 := Lib.hid hb0
    have HR1 := Lib.hid hr1
    have HR2 := Lib.hid hr2
    have HX0 := Lib.hid (hx.keeps (M := fun _ => False) ⟨hb0.os, hb0.tape, hb0.output, hb0.size, fun k hk _ => hb0.block k hk⟩ (fun _ h => h.elim))
    have HT0 := Lib.hid (ht.later hb0)
    have HBS0 := Lib.hid (hbs.later hb0.size (fun k hk _ => hb0.block k hk))
    have HRS0 := Lib.hid (hrs.later hb0.size (fun k hk _ => hb0.block k hk))
    have HPA0 := Lib.hid (hpa.later hb0)
    have HT := Lib.hid ht
    have IH := Lib.hid ih
    have HC := Lib.hid hcount
    have HOWN := Lib.hid (own_ge ht.own)
    have f1 := (hb0.cell (p := ⟨blk, off + x.length * 2, none⟩) hbls).trans e1
    have f2 := (hb0.cell (p := ⟨blk, off + x.length * 2 + 1, none⟩) hbls).trans e2
    have hrow1 := hr1
    have hrow2 := hr2
    unfold pairObj pairRow at hrow1
    unfold truthRow at hrow2
    have rows : ∀ W', Keeps (fun k => vl.ownBlock = some k) W0 W' → ((W'.cell? ⟨w.heap.size, 0, none⟩ = some (.slice (some ⟨blk, off, none⟩) p.bs.length cap) ∧ W'.cell? ⟨w.heap.size, 1, none⟩ = some (.int .i64 p.zl) ∧ W'.cell? ⟨w.heap.size, 2, none⟩ = some (.int .i64 p.zh) ∧
        W'.cell? ⟨w.heap.size, 3, none⟩ = some (.int .i64 p.rl) ∧ W'.cell? ⟨w.heap.size, 4, none⟩ = some (.int .i64 p.rh) ∧ W'.cell? ⟨w.heap.size, 5, none⟩ = some (.slice ao2 p.rs.length cap2)) ∧
        (W'.cell? ⟨w.heap.size + 1, 0, none⟩ = some (.slice aox x.length capx) ∧ W'.cell? ⟨w.heap.size + 1, 1, none⟩ = some (.int .i64 z) ∧ W'.cell? ⟨w.heap.size + 1, 2, none⟩ = some (.int .i64 q)) ∧
        W'.cell? ⟨blk, off + x.length * 2, none⟩ = some (.int .i64 lo) ∧ W'.cell? ⟨blk, off + x.length * 2 + 1, none⟩ = some (.int .i64 hi)) := fun W' hk => by
      have q1 := (hk.block w.heap.size (by omega) (fun h => by have := HOWN.out _ h; omega)).trans hrow1
      have q2 := (hk.block (w.heap.size + 1) (by omega) (fun h => by have := HOWN.out _ h; omega)).trans hrow2
      have q3 := hk.block blk (by omega) (fun h => by have := HOWN.out _ h; omega)
      refine ⟨⟨?_, ?_, ?_, ?_, ?_, ?_⟩, ⟨?_, ?_, ?_⟩, ?_, ?_⟩
      · rw [cell_of_row _ _ _ _ _ _ q1]; rfl
      · rw [cell_of_row _ _ _ _ _ _ q1]; rfl
      · rw [cell_of_row _ _ _ _ _ _ q1]; rfl
      · rw [cell_of_row _ _ _ _ _ _ q1]; rfl
      · rw [cell_of_row _ _ _ _ _ _ q1]; rfl
      · rw [cell_of_row _ _ _ _ _ _ q1]; rfl
      · rw [cell_of_row _ _ _ _ _ _ q2]; rfl
      · rw [cell_of_row _ _ _ _ _ _ q2]; rfl
      · rw [cell_of_row _ _ _ _ _ _ q2]; rfl
      · exact (World.cell?_of_block (w := W0) (a := ⟨blk, off + x.length * 2, none⟩) q3).trans f1
      · exact (World.cell?_of_block (w := W0) (a := ⟨blk, off + x.length * 2 + 1, none⟩) q3).trans f2
    have ROWS := Lib.hid rows
    obtain ⟨⟨c0, c1, c2, c3, c4, c5⟩, ⟨d0, d1, d2⟩, f3, f4⟩ := rows W0 (Keeps.refl _ _)
    clear rows hb0 hr1 hr2 hrow1 hrow2 ih hx ht hbs hrs hpa hcount e1 e2 f1 f2
    unfold pairRow truthRow at hW0 ⊢
    go_enter Try.func102, Try.ntmps102
    go_wp2_with fail
    rw [← hW0]
    clear hW0
    refine (right_any p hv _ _ _ x (z, q) s hs (RdI W0) W0 (by exact HPA0.out) (by have := HX0.out; simpa using this) hz hr hxs).mono ?_
    rintro e w2 ⟨rfl, hb2⟩
    have HK2 : Hid (Keeps (fun k => vl.ownBlock = some k) W0 w2) := ⟨hb2.os, hb2.tape, hb2.output, hb2.size, fun k hk _ => hb2.block k hk⟩
    have HB2 := Lib.hid (HB0.out.trans (hb2.mono (by omega)))
    have HT2 := Lib.hid (HT0.out.later hb2)
    clear hb2 c0 c1 c2 c3 c4 c5 d0 d1 d2 f3 f4
    cases hrl : rightL p s (z, q) x with
    | false =>
      have HE := Lib.hid (fromL_no p s (z, q) x hrl (n + 1))
      clear hrl
      go_wp2
      go_ret
      refine ⟨⟨vl, TL, rfl, ?_, fun k hk => .inl hk⟩, ⟨HB2.out.os, HB2.out.tape, HB2.out.output, HB2.out.size, fun k hk _ => HB2.out.block k hk⟩⟩
      rw [HE.out, List.map_nil, List.append_nil]
      exact HT2.out
    | true =>
      have HE := Lib.hid (fromL_succ p s (z, q) n x lo hi HGE.out hrl)
      clear hrl
      obtain ⟨⟨c0, c1, c2, c3, c4, c5⟩, ⟨d0, d1, d2⟩, f3, f4⟩ := ROWS.out w2 HK2.out
      have hd : ((x.length : Int) == (p.bs.length : Int)) = false := by simp; omega
      have hd2 : decide ((x.length : Int) < (p.bs.length : Int)) = true := by simp; omega
      go_wp2_with fail
      clear c0 c1 c2 c3 c4 c5 d0 d1 d2 f3 f4
      go_loopw [3, 10] (fun o kk wr => ∃ (j : Nat) (TLj : List TruT), (j : Int) ≤ hi - lo + 1 ∧ kk = .int .i64 (lo + j) ∧ TruthsAt wr B o (L ++ (roundsL p s (z, q) n x lo j).map fun y => (y, (z, q))) TLj ∧ Keeps (fun k => vl.ownBlock = some k) W0 wr ∧ (∀ k, o.ownBlock = some k → vl.ownBlock = some k ∨ W0.heap.size ≤ k)) (fun _ kk _ => (hi + 1 - intOf kk).toNat)
      case atStart => exact ⟨0, TL, by omega, by simp, by simpa [roundsL] using HT2.out, HK2.out, fun k hk => .inl hk⟩
      case round =>
        obtain ⟨j, TLj, hj, rfl, htj, hkj, hoj⟩ := hrel
        have HTJ := Lib.hid htj
        have HKJ := Lib.hid hkj
        have HOJ := Lib.hid hoj
        obtain ⟨⟨c0, c1, c2, c3, c4, c5⟩, ⟨d0, d1, d2⟩, f3, f4⟩ := ROWS.out wr hkj
        have hsz := hkj.size
        have hwk : IntKind.i64.wrap (lo + (j : Int) + 1) = lo + ((j + 1 : Nat) : Int) := by rw [IntWalk.i64_in _ (by omega)]; omega
        clear htj hkj hoj
        by_cases hlk : lo + (j : Int) ≤ hi
        case neg =>
          have hjc : j = (hi - lo + 1).toNat := by omega
          have HJC := Lib.hid hjc
          have hdl : decide (lo + (j : Int) ≤ hi) = false := by simpa using hlk
          clear hjc hwk
          go_wp2
          go_ret
          have h1 : TruthsAt wr B u3 (L ++ (fromL p s (z, q) (n + 1) x).map fun y => (y, (z, q))) TLj := by rw [HE.out, ← HJC.out]; exact HTJ.out
          have h2 : ∀ k, u3.ownBlock = some k → vl.ownBlock = some k ∨ w.heap.size ≤ k := fun k hk => by
            rcases HOJ.out k hk with h | h
            · exact .inl h
            · exact .inr (by omega)
          have hkb : Keeps (fun k => vl.ownBlock = some k) w W0 := ⟨HB0.out.os, HB0.out.tape, HB0.out.output, HB0.out.size, fun k hk _ => HB0.out.block k hk⟩
          refine ⟨?_, hkb.trans HKJ.out⟩
          first | exact ⟨u3, rfl, ⟨TLj, h1⟩, h2⟩ | exact ⟨u3, TLj, rfl, h1, h2⟩ | exact ⟨_, TLj, rfl, h1, h2⟩ | exact ⟨TLj, h1, h2⟩ | exact ⟨⟨TLj, h1⟩, h2⟩
        have hdl : decide (lo + (j : Int) ≤ hi) = true := by simpa using hlk
        have hkD : Keeps (fun k => vl.ownBlock = some k) W0 wr.drew := HKJ.out.trans (Keeps.drew _ _)
        have hou : ∀ k, u3.ownBlock = some k → B ≤ k ∧ k < wr.heap.size := own_ge HTJ.out.own
        have rowsB : ∀ W', Keeps (fun k => u3.ownBlock = some k) wr.drew W' → Keeps (fun k => u3.ownBlock = some k) wr.drew W' ∧ (W'.cell? ⟨w.heap.size, 0, none⟩ = some (.slice (some ⟨blk, off, none⟩) p.bs.length cap) ∧ W'.cell? ⟨w.heap.size, 1, none⟩ = some (.int .i64 p.zl) ∧ W'.cell? ⟨w.heap.size, 2, none⟩ = some (.int .i64 p.zh) ∧
            W'.cell? ⟨w.heap.size, 3, none⟩ = some (.int .i64 p.rl) ∧ W'.cell? ⟨w.heap.size, 4, none⟩ = some (.int .i64 p.rh) ∧ W'.cell? ⟨w.heap.size, 5, none⟩ = some (.slice ao2 p.rs.length cap2)) ∧
            (W'.cell? ⟨w.heap.size + 1, 0, none⟩ = some (.slice aox x.length capx) ∧ W'.cell? ⟨w.heap.size + 1, 1, none⟩ = some (.int .i64 z) ∧ W'.cell? ⟨w.heap.size + 1, 2, none⟩ = some (.int .i64 q)) := fun W' hb => by
          have hk1 : Keeps (fun k => vl.ownBlock = some k ∨ W0.heap.size ≤ k) wr.drew W' := hb.mono fun k _ h => HOJ.out k h
          have hk2 := (hkD.mono (Mut' := fun k => vl.ownBlock = some k ∨ W0.heap.size ≤ k) fun k _ h => .inl h).trans hk1
          have := ROWS.out W' (hk2.mono fun k hk h => h.elim id (fun h => by omega))
          exact ⟨hb, this.1, this.2.1⟩
        have RB := Lib.hid rowsB
        have HKD := Lib.hid hkD
        have hxD : ListAt wr.drew (.slice aox x.length capx) (x.map (Value.int .i64)) (RdI wr.drew) := HX0.out.keeps hkD (fun k hk => own_not_int HT0.out.own k hk)
        have HXD := Lib.hid hxD
        have HNXT := Lib.hid (roundsL_next p s (z, q) n x lo j)
        have HLE := Lib.hid (roundsL_le p s (z, q) n x lo (hi - lo + 1).toNat (j + 1) (by omega))
        have hall : ∀ W', Below wr.heap.size wr.drew W' → SpansAt W' (.slice (some ⟨blk, off, none⟩) p.bs.length cap) p.bs (fun k => k < B) ∧ ReadsAt W' (.slice ao2 p.rs.length cap2) p.rs (fun k => k < B) ∧ TruthsAt W' B u3 (L ++ (roundsL p s (z, q) n x lo j).map fun y => (y, (z, q))) TLj := fun W' hb =>
          ⟨((HBS0.out.keeps hkD (fun k h => (HOWN.out k h).1)).later hb.size (fun k hk _ => hb.block k hk)), ((HRS0.out.keeps hkD (fun k h => (HOWN.out k h).1)).later hb.size (fun k hk _ => hb.block k hk)),
            (HTJ.out.later (w' := wr.drew) ⟨rfl, rfl, rfl, Nat.le_refl _, fun _ _ => rfl⟩).later hb⟩
        have HALL := Lib.hid hall
        have HXB : Hid (∀ y ∈ x ++ [lo + (j : Int)], -1000 ≤ y ∧ y ≤ 1000) := fun y hy => by
          rcases List.mem_append.1 hy with hy | hy
          · exact hxs y hy
          · rw [List.mem_singleton.1 hy]; omega
        clear rowsB hkD hall
        go_wp2_with fail
        clear c0 c1 c2 c3 c4 c5 d0 d1 d2 f3 f4
        cases aox with
        | none =>
          have hxe : x = [] := by simpa using listAt_none hxD
          clear hxD
          have HXL : Hid (x.length = 0) := by show _ = _; rw [hxe]; rfl
          have HXE := Lib.hid hxe
          clear hxe
          go_region_held3 (fun W' => Keeps (fun k => u3.ownBlock = some k) wr.drew W' ∧ (W'.cell? ⟨w.heap.size, 0, none⟩ = some (.slice (some ⟨blk, off, none⟩) p.bs.length cap) ∧ W'.cell? ⟨w.heap.size, 1, none⟩ = some (.int .i64 p.zl) ∧ W'.cell? ⟨w.heap.size, 2, none⟩ = some (.int .i64 p.zh) ∧
              W'.cell? ⟨w.heap.size, 3, none⟩ = some (.int .i64 p.rl) ∧ W'.cell? ⟨w.heap.size, 4, none⟩ = some (.int .i64 p.rh) ∧ W'.cell? ⟨w.heap.size, 5, none⟩ = some (.slice ao2 p.rs.length cap2)) ∧
              (W'.cell? ⟨w.heap.size + 1, 0, none⟩ = some (.slice none x.length capx) ∧ W'.cell? ⟨w.heap.size + 1, 1, none⟩ = some (.int .i64 z) ∧ W'.cell? ⟨w.heap.size + 1, 2, none⟩ = some (.int .i64 q)))
            ((refine RB.out _ ?_; first | exact hk3 | (refine keeps_of_below ?_; (repeat (first | exact hb2 | exact hb1 | exact ⟨rfl, rfl, rfl, Nat.le_refl _, fun _ _ => rfl⟩ | (refine Below.drew ?_) | (refine Below.alloc ?_ (by first | omega | (simp [drew_heap] <;> omega)) _))))))
            (first
              | ((rw [if_pos (by rfl)]; refine wp_append_nil (.tmp 47) (.tmp 49) 50 rfl 3 1 8 (.int .i64 0) underInts infoInt _ rfl x.length capx rfl HXL.out rfl ?_))
              | ((rw [if_pos (by rfl)]; refine wp_append_at (.tmp 50) (.tmp 52) 50 rfl wr.heap.size 3 1 8 (.int .i64 0) underInts infoInt rfl (by decide) _ 0 [] rfl (own_empty (by (try simp only [drew_heap]); first | exact heap_alloc_at _ _ _ rfl | exact heap_alloc_at _ _ _ (by simp) | exact (hget_old _ _ _ (by simp)).trans (heap_alloc_at _ _ _ rfl) | exact (hget_old _ _ _ (by simp)).trans (heap_alloc_at _ _ _ (by simp))) (by simp <;> omega)) _ 1 1 [.int .i64 (lo + (j : Int))] rfl rfl (news_block (cs := #[.int .i64 (lo + (j : Int))]) (t := 3) (fr := (0, 0)) (by first | exact (by (try simp only [drew_heap]); first | exact heap_alloc_at _ _ _ rfl | exact heap_alloc_at _ _ _ (by simp) | exact (hget_old _ _ _ (by simp)).trans (heap_alloc_at _ _ _ rfl) | exact (hget_old _ _ _ (by simp)).trans (heap_alloc_at _ _ _ (by simp))) | exact (hk1 _ (by first | omega | (simp [drew_heap] <;> omega)) (fun e => by have hq := Option.some.inj (show some _ = some _ from e); simp [drew_heap] at hq; try omega)).trans (by (try simp only [drew_heap]); first | exact heap_alloc_at _ _ _ rfl | exact heap_alloc_at _ _ _ (by simp) | exact (hget_old _ _ _ (by simp)).trans (heap_alloc_at _ _ _ rfl) | exact (hget_old _ _ _ (by simp)).trans (heap_alloc_at _ _ _ (by simp))))) (by simp [Value.oneCell']) (by omega) (by decide) (by first | omega | (simp [drew_heap] <;> omega)) ?_; intro v2 w2 hown2 hg2 hat2; obtain ⟨g2, cp2, rfl⟩ := own_pos hown2; have hown3 : w2.ownsRow wr.heap.size 3 1 (.slice (some ⟨g2, 0, none⟩) 1 cp2) 1 ((x ++ [lo + (j : Int)]).map (Value.int .i64)) := (by have e := HXE.out; rw [e]; simpa using hown2); have hb2 : Below wr.heap.size wr.drew w2 := Below.grown (by (repeat (first | exact hb2 | exact hb1 | exact ⟨rfl, rfl, rfl, Nat.le_refl _, fun _ _ => rfl⟩ | (refine Below.drew ?_) | (refine Below.alloc ?_ (by first | omega | (simp [drew_heap] <;> omega)) _)))) hg2 (by first | omega | (simp [drew_heap] <;> omega)) (fun kk hkk => by have hkq := Option.some.inj (show some _ = some kk from hkk); simp [drew_heap] at hkq; omega); have s2 : wr.heap.size ≤ w2.heap.size := hb2.size))
              | ((go_at_call 102; refine (IH.out (x ++ [lo + (j : Int)]) _ u3 (L ++ (roundsL p s (z, q) n x lo j).map fun y => (y, (z, q))) TLj w2 (by simp; omega) HXB.out (HALL.out w2 hb2).1 (HALL.out w2 hb2).2.1 (by omega) (listAt_ints hown3 (by omega)) (HALL.out w2 hb2).2.2 (by have e1 := HNXT.out; have e2 := HLE.out; have e3 := HC.out; rw [HE.out] at e3; rw [e1, List.length_append] at e2; rw [List.length_append, List.length_map]; omega)).mono ?_; rintro e w3 ⟨⟨vl3, TL3, rfl, ht3, ho3⟩, hkk3⟩; have hk3 : Keeps (fun k => u3.ownBlock = some k) wr.drew w3 := (keeps_of_below hb2).trans hkk3))
              | (fail))
          all_goals go_wp2
          all_goals refine ⟨⟨j + 1, TL3, by omega, rfl, ?_, ?_, fun k hk => ?_⟩, ?_⟩
          all_goals first
            | (rw [HNXT.out, List.map_append, ← List.append_assoc]; exact ht3)
            | exact keeps_join HKD.out hk3 HOJ.out
            | (simp [intOf]; omega)
            | exact (ho3 k hk).elim (HOJ.out k) (fun h => .inr (by omega))
            | skip
        | some ax =>
        have HNW := Lib.hid (listAt_news hxD)
        clear hxD
        go_region_held3 (fun W' => Keeps (fun k => u3.ownBlock = some k) wr.drew W' ∧ (W'.cell? ⟨w.heap.size, 0, none⟩ = some (.slice (some ⟨blk, off, none⟩) p.bs.length cap) ∧ W'.cell? ⟨w.heap.size, 1, none⟩ = some (.int .i64 p.zl) ∧ W'.cell? ⟨w.heap.size, 2, none⟩ = some (.int .i64 p.zh) ∧
            W'.cell? ⟨w.heap.size, 3, none⟩ = some (.int .i64 p.rl) ∧ W'.cell? ⟨w.heap.size, 4, none⟩ = some (.int .i64 p.rh) ∧ W'.cell? ⟨w.heap.size, 5, none⟩ = some (.slice ao2 p.rs.length cap2)) ∧
            (W'.cell? ⟨w.heap.size + 1, 0, none⟩ = some (.slice (some ax) x.length capx) ∧ W'.cell? ⟨w.heap.size + 1, 1, none⟩ = some (.int .i64 z) ∧ W'.cell? ⟨w.heap.size + 1, 2, none⟩ = some (.int .i64 q)))
          ((refine RB.out _ ?_; first | exact hk3 | (refine keeps_of_below ?_; (repeat (first | exact hb2 | exact hb1 | exact ⟨rfl, rfl, rfl, Nat.le_refl _, fun _ _ => rfl⟩ | (refine Below.drew ?_) | (refine Below.alloc ?_ (by first | omega | (simp [drew_heap] <;> omega)) _))))))
          (first
            | ((rw [if_pos (by rfl)]; refine wp_append_at (.tmp 47) (.tmp 49) 50 rfl wr.heap.size 3 1 8 (.int .i64 0) underInts infoInt rfl (by decide) _ 0 [] rfl (own_empty (by (try simp only [drew_heap]); first | exact heap_alloc_at _ _ _ rfl | exact heap_alloc_at _ _ _ (by simp) | exact (hget_old _ _ _ (by simp)).trans (heap_alloc_at _ _ _ rfl) | exact (hget_old _ _ _ (by simp)).trans (heap_alloc_at _ _ _ (by simp))) (by simp <;> omega)) ax x.length capx (x.map (Value.int .i64)) rfl (by simp) (fun jj u hu => ((show Below wr.heap.size wr.drew _ by (repeat (first | exact hb2 | exact hb1 | exact ⟨rfl, rfl, rfl, Nat.le_refl _, fun _ _ => rfl⟩ | (refine Below.drew ?_) | (refine Below.alloc ?_ (by first | omega | (simp [drew_heap] <;> omega)) _)))).cell (lt_of_cell (HNW.out jj u hu))).trans (HNW.out jj u hu)) (ones_ints x) (by omega) (by decide) (by first | omega | (simp [drew_heap] <;> omega)) ?_; intro v1 w1 hown1 hg1 hat1; have hb1 : Below wr.heap.size wr.drew w1 := Below.grown (by (repeat (first | exact hb2 | exact hb1 | exact ⟨rfl, rfl, rfl, Nat.le_refl _, fun _ _ => rfl⟩ | (refine Below.drew ?_) | (refine Below.alloc ?_ (by first | omega | (simp [drew_heap] <;> omega)) _)))) hg1 (by first | omega | (simp [drew_heap] <;> omega)) (fun kk hkk => by have hkq := Option.some.inj (show some _ = some kk from hkk); simp [drew_heap] at hkq; omega); have s1 : wr.heap.size ≤ w1.heap.size := hb1.size; have hk1 := hg1.block))
            | ((rw [if_pos (by rfl)]; refine wp_append_at (.tmp 50) (.tmp 52) 50 rfl wr.heap.size 3 1 8 (.int .i64 0) underInts infoInt rfl (by decide) v1 (0 + x.length) _ rfl (by first | exact hown1 | exact hown1.alloc _) _ 1 1 [.int .i64 (lo + (j : Int))] rfl rfl (news_block (cs := #[.int .i64 (lo + (j : Int))]) (t := 3) (fr := (0, 0)) (by first | exact (by (try simp only [drew_heap]); first | exact heap_alloc_at _ _ _ rfl | exact heap_alloc_at _ _ _ (by simp) | exact (hget_old _ _ _ (by simp)).trans (heap_alloc_at _ _ _ rfl) | exact (hget_old _ _ _ (by simp)).trans (heap_alloc_at _ _ _ (by simp))) | exact (hk1 _ (by first | omega | (simp [drew_heap] <;> omega)) (fun e => by have hq := Option.some.inj (show some _ = some _ from e); simp [drew_heap] at hq; try omega)).trans (by (try simp only [drew_heap]); first | exact heap_alloc_at _ _ _ rfl | exact heap_alloc_at _ _ _ (by simp) | exact (hget_old _ _ _ (by simp)).trans (heap_alloc_at _ _ _ rfl) | exact (hget_old _ _ _ (by simp)).trans (heap_alloc_at _ _ _ (by simp))))) (by simp [Value.oneCell']) (by omega) (by decide) (by first | omega | (simp [drew_heap] <;> omega)) ?_; intro v2 w2 hown2 hg2 hat2; obtain ⟨g2, cp2, rfl⟩ := own_pos hown2; have hown3 : w2.ownsRow wr.heap.size 3 1 (.slice (some ⟨g2, 0, none⟩) (x.length + 1) cp2) (x.length + 1) ((x ++ [lo + (j : Int)]).map (Value.int .i64)) := (by simpa using hown2); have hb2 : Below wr.heap.size wr.drew w2 := Below.grown (by (repeat (first | exact hb2 | exact hb1 | exact ⟨rfl, rfl, rfl, Nat.le_refl _, fun _ _ => rfl⟩ | (refine Below.drew ?_) | (refine Below.alloc ?_ (by first | omega | (simp [drew_heap] <;> omega)) _)))) hg2 (by first | omega | (simp [drew_heap] <;> omega)) (fun kk hkk => (own_ge hown1 kk hkk).1); have s2 : wr.heap.size ≤ w2.heap.size := hb2.size))
            | ((go_at_call 102; refine (IH.out (x ++ [lo + (j : Int)]) _ u3 (L ++ (roundsL p s (z, q) n x lo j).map fun y => (y, (z, q))) TLj w2 (by simp; omega) HXB.out (HALL.out w2 hb2).1 (HALL.out w2 hb2).2.1 (by omega) (listAt_ints hown3 (by omega)) (HALL.out w2 hb2).2.2 (by have e1 := HNXT.out; have e2 := HLE.out; have e3 := HC.out; rw [HE.out] at e3; rw [e1, List.length_append] at e2; rw [List.length_append, List.length_map]; omega)).mono ?_; rintro e w3 ⟨⟨vl3, TL3, rfl, ht3, ho3⟩, hkk3⟩; have hk3 : Keeps (fun k => u3.ownBlock = some k) wr.drew w3 := (keeps_of_below hb2).trans hkk3))
            | (fail))
        all_goals go_wp2
        all_goals refine ⟨⟨j + 1, TL3, by omega, rfl, ?_, ?_, fun k hk => ?_⟩, ?_⟩
        all_goals first
          | (rw [HNXT.out, List.map_append, ← List.append_assoc]; exact ht3)
          | exact keeps_join HKD.out hk3 HOJ.out
          | (simp [intOf]; omega)
          | exact (ho3 k hk).elim (HOJ.out k) (fun h => .inr (by omega))
          | skip

end Go.Proofs.Ytlgeggekmdoceaa

/- The reference: all truths; the errors. -/
namespace Go.Proofs.Ytlgeggekmdoceaa
set_option linter.unusedVariables false
set_option linter.unusedSimpArgs false
open Go.RowKit Go.Shelf
attribute [local go_sem] Oper.semAt_some

theorem own_lower {w : World} {base base' : Nat} {e : TypeId} {size : Nat} {v : Value} {n : Nat} {xs : List Value} (h : w.ownsRow base e size v n xs) (hb : base' ≤ base) : w.ownsRow base' e size v n xs :=
  ⟨h.1, h.2.imp id fun ⟨g, cap, cur, h1, h2, r⟩ => ⟨g, cap, cur, h1, Nat.le_trans hb h2, r⟩⟩
def roundT (p : PairD) (s : Nat) (z : Int) (j : Nat) : List (List Int × (Int × Int)) := ((List.range j).map fun k : Nat => p.rl + (k : Int)).flatMap fun r => (fromL p s (z, r) p.bs.length []).map fun y => (y, (z, r))
def zerosT (p : PairD) (s : Nat) (i : Nat) : List (List Int × (Int × Int)) := ((List.range i).map fun k : Nat => p.zl + (k : Int)).flatMap fun z => roundT p s z (wideN p.rl p.rh)
theorem roundT_next (p : PairD) (s : Nat) (z : Int) (j : Nat) : roundT p s z (j + 1) = roundT p s z j ++ (fromL p s (z, p.rl + (j : Int)) p.bs.length []).map fun y => (y, (z, p.rl + (j : Int))) := by
  simp [roundT, List.range_succ, List.flatMap_append]
theorem zerosT_next (p : PairD) (s : Nat) (i : Nat) : zerosT p s (i + 1) = zerosT p s i ++ roundT p s (p.zl + (i : Int)) (wideN p.rl p.rh) := by
  simp [zerosT, List.range_succ, List.flatMap_append]
theorem flatMap_range_mul {α : Type} (f : Nat → Nat → List α) (m : Nat) (hm : 0 < m) : ∀ n, (List.range (n * m)).flatMap (fun k => f (k / m) (k % m)) = (List.range n).flatMap fun i => (List.range m).flatMap fun j => f i j
  | 0 => by simp
  | n + 1 => by
    rw [List.range_succ, List.flatMap_append, ← flatMap_range_mul f m hm n, Nat.add_mul, Nat.one_mul, List.range_add, List.flatMap_append]
    congr 1
    rw [List.flatMap_map]
    simp only [List.flatMap_cons, List.flatMap_nil, List.append_nil]
    have key : ∀ k ∈ List.range m, f ((n * m + k) / m) ((n * m + k) % m) = f n k := fun k hk => by
      have hk' : k < m := List.mem_range.1 hk
      have h1 : (n * m + k) / m = n := by rw [Nat.mul_comm, Nat.mul_add_div hm, Nat.div_eq_of_lt hk', Nat.add_zero]
      have h2 : (n * m + k) % m = k := by rw [Nat.mul_comm, Nat.mul_add_mod, Nat.mod_eq_of_lt hk']
      rw [h1, h2]
    have go : ∀ l : List Nat, (∀ k ∈ l, f ((n * m + k) / m) ((n * m + k) % m) = f n k) → l.flatMap (fun k => f ((n * m + k) / m) ((n * m + k) % m)) = l.flatMap fun j => f n j := by
      intro l
      induction l with
      | nil => intro _; rfl
      | cons a l ih => intro h; rw [List.flatMap_cons, List.flatMap_cons, h a List.mem_cons_self, ih (fun k hk => h k (List.mem_cons_of_mem _ hk))]
    exact go _ key
theorem truthsL_zeros (p : PairD) (hp : OkP p) (s : Nat) : truthsL p s = zerosT p s (wideN p.zl p.zh) := by
  have hr := hp.rr
  have hm : 0 < wideN p.rl p.rh := by unfold wideN; omega
  unfold truthsL comps zerosT roundT
  rw [List.flatMap_map, List.flatMap_map, flatMap_range_mul (fun i j => (fromL p s (p.zl + (i : Int), p.rl + (j : Int)) p.bs.length []).map fun x => (x, (p.zl + (i : Int), p.rl + (j : Int)))) _ hm]
  simp only [List.flatMap_map]
theorem zerosT_le (p : PairD) (s : Nat) : ∀ (m j : Nat), j ≤ m → (zerosT p s j).length ≤ (zerosT p s m).length
  | 0, j, h => by
    have : j = 0 := by omega
    subst this
    exact Nat.le_refl _
  | m + 1, j, h => by
    by_cases hj : j = m + 1
    · subst hj; exact Nat.le_refl _
    · have := zerosT_le p s m j (by omega)
      rw [zerosT_next, List.length_append]
      omega
theorem roundT_le (p : PairD) (s : Nat) (z : Int) : ∀ (m j : Nat), j ≤ m → (roundT p s z j).length ≤ (roundT p s z m).length
  | 0, j, h => by
    have : j = 0 := by omega
    subst this
    exact Nat.le_refl _
  | m + 1, j, h => by
    by_cases hj : j = m + 1
    · subst hj; exact Nat.le_refl _
    · have := roundT_le p s z m j (by omega)
      rw [roundT_next, List.length_append]
      omega

set_option maxRecDepth 100000 in
set_option maxHeartbeats 8000000 in
theorem truths_any (p : PairD) (hv : validB p = true) (bs rs : Value) (s : Nat) (hs : s < 256) (hcnt : (truthsL p s).length ≤ 1000000) (w : World) (hpa : PairAt w p bs rs) :
    Calls Try.prog 84 #[.agg (pairRow p bs rs), .int .i64 s] w fun e w' => (∃ vl TL, e = .returned vl ∧ TruthsAt w' w.heap.size vl (truthsL p s) TL) ∧ Below w.heap.size w w' := by
  have hp := OkP.of p hv
  have hzz := hp.zz
  have hrr := hp.rr
  rw [truthsL_zeros p hp s] at hcnt ⊢
  obtain ⟨ao, cap, hbse, _⟩ := id hpa.b
  subst hbse
  obtain ⟨ao2, cap2, hrse, _⟩ := id hpa.r
  subst hrse
  obtain ⟨W0, hW0⟩ : ∃ W0, W0 = w.alloc (.cells (pairRow p (.slice ao p.bs.length cap) (.slice ao2 p.rs.length cap2)) 27 (0, 0)) := ⟨_, rfl⟩
  have hb0 : Below w.heap.size w W0 := by rw [hW0]; exact (Below.refl _ _).alloc (Nat.le_refl _) _
  have hr1 : W0.heap[w.heap.size]? = some (pairObj p (.slice ao p.bs.length cap) (.slice ao2 p.rs.length cap2)) := by rw [hW0]; exact heap_alloc_at _ _ _ rfl
  have hsw : W0.heap.size = w.heap.size + 1 := by rw [hW0]; simp
  have HB0 := Lib.hid hb0
  have HR1 := Lib.hid hr1
  have HC := Lib.hid hcnt
  have HBS := Lib.hid (hpa.b.later hb0.size (fun k hk _ => hb0.block k hk))
  have HRS := Lib.hid (hpa.r.later hb0.size (fun k hk _ => hb0.block k hk))
  have rows : ∀ W', Below W0.heap.size W0 W' → (W'.cell? ⟨w.heap.size, 0, none⟩ = some (.slice ao p.bs.length cap) ∧ W'.cell? ⟨w.heap.size, 1, none⟩ = some (.int .i64 p.zl) ∧ W'.cell? ⟨w.heap.size, 2, none⟩ = some (.int .i64 p.zh) ∧
        W'.cell? ⟨w.heap.size, 3, none⟩ = some (.int .i64 p.rl) ∧ W'.cell? ⟨w.heap.size, 4, none⟩ = some (.int .i64 p.rh) ∧ W'.cell? ⟨w.heap.size, 5, none⟩ = some (.slice ao2 p.rs.length cap2)) := fun W' hb => by
    have q1 := (hb.block w.heap.size (by omega)).trans hr1
    unfold pairObj pairRow at q1
    refine ⟨?_, ?_, ?_, ?_, ?_, ?_⟩ <;> (rw [cell_of_row _ _ _ _ _ _ q1]; rfl)
  have ROWS := Lib.hid rows
  obtain ⟨c0, c1, c2, c3, c4, c5⟩ := rows W0 (Below.refl _ _)
  clear rows hb0 hr1 hpa hcnt
  unfold pairRow at hW0 ⊢
  go_enter Try.func84, Try.ntmps84
  go_wp2_with fail
  rw [← hW0]
  clear hW0 c0 c1 c2 c3 c4 c5
  go_loopw [5, 6] (fun o zz wr => ∃ (i : Nat) (TLj : List TruT), (i : Int) ≤ p.zh - p.zl + 1 ∧ zz = .int .i64 (p.zl + i) ∧ TruthsAt wr W0.heap.size o (zerosT p s i) TLj ∧ Below W0.heap.size W0 wr) (fun _ zz _ => (p.zh + 1 - intOf zz).toNat)
  case atStart => exact ⟨0, [], by omega, by simp, ⟨rfl, World.ownsRow_nil _ _ _ _, by simp⟩, Below.refl _ _⟩
  case round =>
    obtain ⟨i, TLj, hi, rfl, htj, hbj⟩ := hrel
    have HTJ := Lib.hid htj
    have HBJ := Lib.hid hbj
    obtain ⟨c0, c1, c2, c3, c4, c5⟩ := ROWS.out wr hbj
    have hwz : IntKind.i64.wrap (p.zl + (i : Int) + 1) = p.zl + ((i + 1 : Nat) : Int) := by rw [IntWalk.i64_in _ (by omega)]; omega
    clear htj hbj
    by_cases hlz : p.zl + (i : Int) ≤ p.zh
    case neg =>
      have hic : i = wideN p.zl p.zh := by unfold wideN; omega
      have HIC := Lib.hid hic
      have hd : decide (p.zl + (i : Int) ≤ p.zh) = false := by simpa using hlz
      clear hic hwz
      go_wp2
      go_ret
      have h1 : TruthsAt wr w.heap.size u5 (zerosT p s (wideN p.zl p.zh)) TLj := by
        rw [← HIC.out]
        exact ⟨HTJ.out.map, own_lower HTJ.out.own (by omega), HTJ.out.at'⟩
      refine ⟨?_, HB0.out.trans (HBJ.out.mono (by omega))⟩
      first | exact ⟨u5, TLj, rfl, h1⟩ | exact ⟨_, ⟨TLj, rfl, h1⟩⟩ | exact ⟨u5, rfl, TLj, h1⟩
    have hd : decide (p.zl + (i : Int) ≤ p.zh) = true := by simpa using hlz
    have hsz := HBJ.out.size
    go_wp2_with fail
    clear c0 c1 c2 c3 c4 c5
    obtain ⟨wa, rfl⟩ : ∃ wa, wa = wr := ⟨_, rfl⟩
    go_loopw [5, 7] (fun o rr wq => ∃ (j : Nat) (TLq : List TruT), (j : Int) ≤ p.rh - p.rl + 1 ∧ rr = .int .i64 (p.rl + j) ∧ TruthsAt wq W0.heap.size o (zerosT p s i ++ roundT p s (p.zl + i) j) TLq ∧ Below W0.heap.size W0 wq) (fun _ rr _ => (p.rh + 1 - intOf rr).toNat)
    case atStart => exact ⟨0, TLj, by omega, by simp, by simpa [roundT] using HTJ.out, HBJ.out⟩
    case round =>
      obtain ⟨j, TLq, hj, rfl, htq, hbq⟩ := hrel
      have HTQ := Lib.hid htq
      have HBQ := Lib.hid hbq
      obtain ⟨c0, c1, c2, c3, c4, c5⟩ := ROWS.out wr hbq
      have hwr : IntKind.i64.wrap (p.rl + (j : Int) + 1) = p.rl + ((j + 1 : Nat) : Int) := by rw [IntWalk.i64_in _ (by omega)]; omega
      have HNZ := Lib.hid (zerosT_next p s i)
      have HNR := Lib.hid (roundT_next p s (p.zl + i) j)
      clear htq hbq
      by_cases hlr : p.rl + (j : Int) ≤ p.rh
      case neg =>
        have hjc : j = wideN p.rl p.rh := by unfold wideN; omega
        have HJC := Lib.hid hjc
        have hd2 : decide (p.rl + (j : Int) ≤ p.rh) = false := by simpa using hlr
        clear hjc hwr
        go_wp2
        exact ⟨⟨i + 1, TLq, by omega, rfl, by rw [HNZ.out, ← HJC.out]; exact HTQ.out, HBQ.out⟩, by simp [intOf]; omega⟩
      have hd2 : decide (p.rl + (j : Int) ≤ p.rh) = true := by simpa using hlr
      have hszq := HBQ.out.size
      have hcount : (zerosT p s i ++ roundT p s (p.zl + i) j).length + (fromL p s (p.zl + (i : Int), p.rl + (j : Int)) p.bs.length []).length ≤ 1000000 := by
        have h1 := HC.out
        have h2 := zerosT_le p s (wideN p.zl p.zh) (i + 1) (by unfold wideN; omega)
        have h3 := roundT_le p s (p.zl + i) (wideN p.rl p.rh) (j + 1) (by unfold wideN; omega)
        rw [HNZ.out, List.length_append] at h2
        rw [HNR.out, List.length_append, List.length_map] at h3
        rw [List.length_append]
        omega
      have HCT := Lib.hid hcount
      clear hcount
      go_wp2_with fail
      refine (from_any p hv _ _ s hs (p.zl + (i : Int), p.rl + (j : Int)) (by dsimp only; omega) (by dsimp only; omega) W0.heap.size p.bs.length [] (.slice none 0 0) u5 _ TLq wr (by simp) (by simp) ((HBS.out.later HBQ.out.size (fun k hk _ => HBQ.out.block k hk)).mono (fun k hk => by omega)) ((HRS.out.later HBQ.out.size (fun k hk _ => HBQ.out.block k hk)).mono (fun k hk => by omega)) (by omega) ⟨none, 0, rfl, by simp, fun i hi => absurd hi (by simp)⟩ HTQ.out HCT.out).mono ?_
      rintro e w3 ⟨⟨vl3, TL3, rfl, ht3, ho3⟩, hk3⟩
      have HT3 := Lib.hid ht3
      have HB3 := Lib.hid (HBQ.out.trans (hk3.below (by omega) (fun k hk h => by have := own_ge HTQ.out.own k h; omega)))
      clear ht3 ho3 hk3 c0 c1 c2 c3 c4 c5
      go_wp2
      exact ⟨⟨j + 1, TL3, by omega, rfl, by rw [HNR.out, ← List.append_assoc]; exact HT3.out, HB3.out⟩, by simp [intOf]; omega⟩

end Go.Proofs.Ytlgeggekmdoceaa

/- The reference: all truths of a pair, or why there are none. -/
namespace Go.Proofs.Ytlgeggekmdoceaa
set_option linter.unusedVariables false
set_option linter.unusedSimpArgs false
open Go.RowKit Go.Shelf
attribute [local go_sem] Oper.semAt_some

theorem revery_any (p : PairD) (n cap : Nat) (ao : Option Addr) (bs : Value) (hn : n ≤ 8) (w : World) :
    Calls Try.prog 83 #[.agg (pairRow p bs (.slice ao n cap))] w fun e w' => e = .returned (.int .i64 ((2 ^ n - 1 : Nat) : Int)) ∧ Below w.heap.size w w' := by
  have hpb := pow_bound n (by omega)
  have hpos : 1 ≤ 2 ^ n := Nat.one_le_two_pow
  have HE : Hid (((2 ^ n - 1 : Nat) : Int) = ((2 ^ n : Nat) : Int) - 1) := by show _ = _; omega
  unfold pairRow
  go_enter Try.func83, Try.ntmps83
  go_wp2_with fail
  refine (power_any n (by omega) _).mono ?_
  rintro e w' ⟨rfl, rfl⟩
  obtain ⟨P, hP⟩ : ∃ P, P = 2 ^ n := ⟨_, rfl⟩
  rw [← hP] at hpb hpos ⊢
  have HP := Lib.hid hP
  clear hP
  have hw : wrap64 ((P : Int) - 1) = (P : Int) - 1 := by unfold wrap64; omega
  go_wp2
  go_ret
  exact ⟨by rw [HE.out, ← HP.out]; rfl, (Below.refl _ _).alloc (Nat.le_refl _) _⟩
set_option maxRecDepth 100000 in
set_option maxHeartbeats 2000000 in
theorem alltruths_any (p : PairD) (hv : validB p = true) (bs rs : Value) (hcnt : (truA p).length ≤ 1000000) (w : World) (hpa : PairAt w p bs rs) :
    Calls Try.prog 87 #[.agg (pairRow p bs rs)] w fun e w' => (∃ vl TL, e = .returned vl ∧ TruthsAt w' w.heap.size vl (truA p) TL) ∧ Below w.heap.size w w' := by
  have hp := OkP.of p hv
  obtain ⟨ao, cap, hbse, _⟩ := id hpa.b
  subst hbse
  obtain ⟨ao2, cap2, hrse, _⟩ := id hpa.r
  subst hrse
  obtain ⟨W0, hW0⟩ : ∃ W0, W0 = w.alloc (.cells (pairRow p (.slice ao p.bs.length cap) (.slice ao2 p.rs.length cap2)) 27 (0, 0)) := ⟨_, rfl⟩
  have hb0 : Below w.heap.size w W0 := by rw [hW0]; exact (Below.refl _ _).alloc (Nat.le_refl _) _
  have hr1 : W0.heap[w.heap.size]? = some (pairObj p (.slice ao p.bs.length cap) (.slice ao2 p.rs.length cap2)) := by rw [hW0]; exact heap_alloc_at _ _ _ rfl
  have hsw : W0.heap.size = w.heap.size + 1 := by rw [hW0]; simp
  have HB0 := Lib.hid hb0
  have HPA := Lib.hid (hpa.later hb0)
  have HC := Lib.hid hcnt
  have rows : ∀ W', Below W0.heap.size W0 W' → (W'.cell? ⟨w.heap.size, 0, none⟩ = some (.slice ao p.bs.length cap) ∧ W'.cell? ⟨w.heap.size, 1, none⟩ = some (.int .i64 p.zl) ∧ W'.cell? ⟨w.heap.size, 2, none⟩ = some (.int .i64 p.zh) ∧
        W'.cell? ⟨w.heap.size, 3, none⟩ = some (.int .i64 p.rl) ∧ W'.cell? ⟨w.heap.size, 4, none⟩ = some (.int .i64 p.rh) ∧ W'.cell? ⟨w.heap.size, 5, none⟩ = some (.slice ao2 p.rs.length cap2)) := fun W' hb => by
    have q1 := (hb.block w.heap.size (by omega)).trans hr1
    unfold pairObj pairRow at q1
    refine ⟨?_, ?_, ?_, ?_, ?_, ?_⟩ <;> (rw [cell_of_row _ _ _ _ _ _ q1]; rfl)
  have ROWS := Lib.hid rows
  clear rows hb0 hr1 hpa hcnt
  unfold pairRow at hW0 ⊢
  go_enter Try.func87, Try.ntmps87
  go_wp2_with fail
  rw [← hW0]
  clear hW0
  go_region_held3 (fun W' => W'.cell? ⟨w.heap.size, 0, none⟩ = some (.slice ao p.bs.length cap) ∧ W'.cell? ⟨w.heap.size, 1, none⟩ = some (.int .i64 p.zl) ∧ W'.cell? ⟨w.heap.size, 2, none⟩ = some (.int .i64 p.zh) ∧
        W'.cell? ⟨w.heap.size, 3, none⟩ = some (.int .i64 p.rl) ∧ W'.cell? ⟨w.heap.size, 4, none⟩ = some (.int .i64 p.rh) ∧ W'.cell? ⟨w.heap.size, 5, none⟩ = some (.slice ao2 p.rs.length cap2))
    (first | exact ROWS.out _ hb3 | exact ROWS.out _ hb2 | exact ROWS.out _ (Below.refl _ _).drew)
    (first
      | ((go_at_call 83; refine (revery_any p p.rs.length cap2 ao2 _ hp.m8 _).mono ?_; rintro e w2 ⟨rfl, hb2'⟩; have hb2 : Below W0.heap.size W0 w2 := (Below.refl _ _).drew.trans hb2'))
      | ((go_at_call 84; refine (truths_any p hv _ _ (allR p) (allR_lt p hp.m8) HC.out w2 (HPA.out.later hb2)).mono ?_; rintro e w3 ⟨⟨vl, TL, rfl, ht⟩, hb3'⟩; have hb3 : Below W0.heap.size W0 w3 := hb2.trans (hb3'.mono hb2.size))))
  have HT := Lib.hid ht
  have HB3 := Lib.hid (HB0.out.trans (hb3.mono (by omega)))
  have hge : w.heap.size ≤ w2.heap.size := by have := hb2.size; omega
  clear ht hb3 hb3' hb2 hb2'
  go_wp2
  go_ret
  have h1 : TruthsAt w3 w.heap.size vl (truA p) TL := ⟨HT.out.map, own_lower HT.out.own hge, HT.out.at'⟩
  refine ⟨?_, HB3.out⟩
  first | exact ⟨vl, TL, rfl, h1⟩ | exact ⟨vl, rfl, TL, h1⟩
def checkV (p : PairD) (ok : Bool) : Int := if validB p = false then 1 else if ok = false then 2 else 0
set_option maxRecDepth 100000 in
theorem check_any (p : PairD) (bs rs : Value) (ok : Bool) (w : World) (hpa : PairAt w p bs rs) :
    Calls Try.prog 77 #[.agg (pairRow p bs rs), .bool ok] w fun e w' => e = .returned (.int .i64 (checkV p ok)) ∧ Below w.heap.size w w' := by
  obtain ⟨ao, cap, hbse, _⟩ := id hpa.b
  subst hbse
  obtain ⟨ao2, cap2, hrse, _⟩ := id hpa.r
  subst hrse
  have HPA := Lib.hid hpa
  have HA : Hid (∀ o, Below w.heap.size w (w.alloc o)) := fun o => (Below.refl _ _).alloc (Nat.le_refl _) _
  clear hpa
  have hcv : ∀ v, validB p = v → checkV p ok = if v = false then 1 else if ok = false then 2 else 0 := fun v h => by unfold checkV; rw [h]
  have HCV := Lib.hid hcv
  clear hcv
  unfold pairRow
  go_enter Try.func77, Try.ntmps77
  go_wp2_with fail
  refine (rpair_any (HPA.out.later (HA.out _))).mono ?_
  rintro e w2 ⟨rfl, hb2⟩
  have HB := Lib.hid ((HA.out _).trans (hb2.mono (by simp)))
  clear hb2
  cases hv : validB p with
  | false =>
    have e1 := HCV.out _ hv
    have E1 := Lib.hid e1
    clear e1 hv
    go_wp2
    go_ret
    exact ⟨by rw [E1.out]; rfl, HB.out⟩
  | true =>
    have e1 := HCV.out _ hv
    have E1 := Lib.hid e1
    clear e1 hv
    cases ok with
    | false =>
      go_wp2
      go_ret
      exact ⟨by rw [E1.out]; rfl, HB.out⟩
    | true =>
      go_wp2
      go_ret
      exact ⟨by rw [E1.out]; rfl, HB.out⟩
/-- What told returns: all truths, or the error. -/
def ToldR (w : World) (B : Nat) (p : PairD) (ok : Bool) (vl : Value) (er : Int) : Prop :=
  (checkV p ok ≠ 0 ∧ vl = .slice none 0 0 ∧ er = checkV p ok) ∨ (checkV p ok = 0 ∧ truA p = [] ∧ vl = .slice none 0 0 ∧ er = 10) ∨ (checkV p ok = 0 ∧ truA p ≠ [] ∧ er = 0 ∧ ∃ TL, TruthsAt w B vl (truA p) TL)
theorem truths_form {w : World} {B : Nat} {vl : Value} {L : List (List Int × (Int × Int))} {TL : List TruT} (h : TruthsAt w B vl L TL) : ∃ ao cap, vl = .slice ao L.length cap := by
  have hl : TL.length = L.length := by rw [← h.map]; simp
  rcases own_cases h.own with ⟨h1, h2⟩ | ⟨g, cap, h1, _⟩
  · exact ⟨none, 0, by rw [h1, ← hl, h2]⟩
  · exact ⟨_, cap, by rw [h1, hl]⟩
set_option maxRecDepth 100000 in
set_option maxHeartbeats 2000000 in
theorem rtold_any (p : PairD) (bs rs : Value) (ok : Bool) (hcnt : validB p = true → (truA p).length ≤ 1000000) (w : World) (hpa : PairAt w p bs rs) :
    Calls Try.prog 52 #[.agg (pairRow p bs rs), .bool ok] w fun e w' => (∃ vl er, e = .returned (.tuple #[vl, .int .i64 er]) ∧ ToldR w' w.heap.size p ok vl er) ∧ Below w.heap.size w w' := by
  obtain ⟨ao, cap, hbse, _⟩ := id hpa.b
  subst hbse
  obtain ⟨ao2, cap2, hrse, _⟩ := id hpa.r
  subst hrse
  obtain ⟨W0, hW0⟩ : ∃ W0, W0 = w.alloc (.cells (pairRow p (.slice ao p.bs.length cap) (.slice ao2 p.rs.length cap2)) 27 (0, 0)) := ⟨_, rfl⟩
  have hb0 : Below w.heap.size w W0 := by rw [hW0]; exact (Below.refl _ _).alloc (Nat.le_refl _) _
  have hr1 : W0.heap[w.heap.size]? = some (pairObj p (.slice ao p.bs.length cap) (.slice ao2 p.rs.length cap2)) := by rw [hW0]; exact heap_alloc_at _ _ _ rfl
  have hsw : W0.heap.size = w.heap.size + 1 := by rw [hW0]; simp
  have HB0 := Lib.hid hb0
  have HPA := Lib.hid (hpa.later hb0)
  have HC := Lib.hid hcnt
  have rows : ∀ W', Below W0.heap.size W0 W' → (W'.cell? ⟨w.heap.size, 0, none⟩ = some (.slice ao p.bs.length cap) ∧ W'.cell? ⟨w.heap.size, 1, none⟩ = some (.int .i64 p.zl) ∧ W'.cell? ⟨w.heap.size, 2, none⟩ = some (.int .i64 p.zh) ∧
        W'.cell? ⟨w.heap.size, 3, none⟩ = some (.int .i64 p.rl) ∧ W'.cell? ⟨w.heap.size, 4, none⟩ = some (.int .i64 p.rh) ∧ W'.cell? ⟨w.heap.size, 5, none⟩ = some (.slice ao2 p.rs.length cap2)) := fun W' hb => by
    have q1 := (hb.block w.heap.size (by omega)).trans hr1
    unfold pairObj pairRow at q1
    refine ⟨?_, ?_, ?_, ?_, ?_, ?_⟩ <;> (rw [cell_of_row _ _ _ _ _ _ q1]; rfl)
  have ROWS := Lib.hid rows
  obtain ⟨c0, c1, c2, c3, c4, c5⟩ := rows W0 (Below.refl _ _)
  clear rows hb0 hr1 hpa hcnt
  unfold pairRow at hW0 ⊢
  go_enter Try.func52, Try.ntmps52
  go_wp2_with fail
  rw [← hW0]
  clear hW0
  refine (check_any p _ _ ok W0 (by exact HPA.out)).mono ?_
  rintro e w2 ⟨rfl, hb2⟩
  have HB2 := Lib.hid (HB0.out.trans (hb2.mono (by omega)))
  have HPA2 := Lib.hid (HPA.out.later hb2)
  have hge2 : w.heap.size ≤ w2.heap.size := by have := hb2.size; omega
  clear c0 c1 c2 c3 c4 c5
  obtain ⟨c0, c1, c2, c3, c4, c5⟩ := ROWS.out w2 hb2
  clear hb2
  by_cases hck : checkV p ok = 0
  case neg =>
    have hd : (checkV p ok != 0) = true := by simpa using hck
    go_wp2
    exact bodyPost_ret (v := .tuple #[.slice none 0 0, .int .i64 (checkV p ok)]) (by simp [results, Try.results52, go_sem]) rfl ⟨⟨_, _, rfl, .inl ⟨hck, rfl, rfl⟩⟩, HB2.out⟩
  have hd : (checkV p ok != 0) = false := by simpa using hck
  have hv : validB p = true := by
    cases hv : validB p with
    | true => rfl
    | false => unfold checkV at hck; rw [hv] at hck; simp at hck
  have HCK := Lib.hid hck
  clear hck
  go_wp2_with fail
  refine (alltruths_any p hv _ _ (HC.out hv) w2 (by exact HPA2.out)).mono ?_
  rintro e w3 ⟨⟨vl, TL, rfl, ht⟩, hb3⟩
  obtain ⟨aot, capt, rfl⟩ := truths_form ht
  have HT := Lib.hid ht
  have HB3 := Lib.hid (HB2.out.trans (hb3.mono hge2))
  clear ht hb3 c0 c1 c2 c3 c4 c5 hd
  by_cases hne : truA p = []
  · have hd : (((truA p).length : Int) == 0) = true := by rw [hne]; rfl
    go_wp2
    exact bodyPost_ret (v := .tuple #[.slice none 0 0, .int .i64 10]) (by simp [results, Try.results52, go_sem]) rfl ⟨⟨_, _, rfl, .inr (.inl ⟨HCK.out, hne, rfl, rfl⟩)⟩, HB3.out⟩
  · have hd : (((truA p).length : Int) == 0) = false := by
      have := List.length_pos_iff.2 hne
      simp; omega
    have HNE := Lib.hid hne
    clear hne
    go_wp2
    exact bodyPost_ret (v := .tuple #[.slice aot (truA p).length capt, .int .i64 0]) (by simp [results, Try.results52, go_sem]) rfl ⟨⟨_, _, rfl, .inr (.inr ⟨HCK.out, HNE.out, rfl, TL, ⟨HT.out.map, own_lower HT.out.own hge2, HT.out.at'⟩⟩)⟩, HB3.out⟩

end Go.Proofs.Ytlgeggekmdoceaa

/- The reference: the span of some numbers. -/
namespace Go.Proofs.Ytlgeggekmdoceaa
set_option linter.unusedVariables false
set_option linter.unusedSimpArgs false
open Go.RowKit Go.Shelf
attribute [local go_sem] Oper.semAt_some

def dupI (x : Int) : Int × Int := (x, x)
def hullK (x0 : Int) (xs : List Int) : Int × Int := xs.foldl (fun s x => (min s.1 x, max s.2 x)) (x0, x0)
theorem hullK_next (x0 : Int) (xs : List Int) (i : Nat) (h : i < xs.length) : hullK x0 (xs.take (i + 1)) = (min (hullK x0 (xs.take i)).1 xs[i], max (hullK x0 (xs.take i)).2 xs[i]) := by
  unfold hullK
  rw [List.take_succ_eq_append_getElem h, List.foldl_append]
  rfl
theorem hullK_all (x0 : Int) (l : List Int) : hullK x0 (x0 :: l) = hullOf ((x0 :: l).map dupI) := by
  have key : ∀ (l : List Int) (s : Int × Int), l.foldl (fun s x => (min s.1 x, max s.2 x)) s = (l.map dupI).foldl (fun s x => (min s.1 x.1, max s.2 x.2)) s := by
    intro l
    induction l with
    | nil => intro _; rfl
    | cons a l ih => intro s; rw [List.map_cons, List.foldl_cons, List.foldl_cons, ih]; rfl
  show (x0 :: l).foldl _ (x0, x0) = (l.map dupI).foldl _ (dupI x0)
  rw [List.foldl_cons, key]
  congr 1
  simp [dupI]
/-- A row of ints, of any length, that is read. -/
def IntsAt (w : World) (v : Value) (xs : List Int) : Prop := ∃ g cap, v = .slice (some ⟨g, 0, none⟩) xs.length cap ∧ g < w.heap.size ∧ ∀ i (h : i < xs.length), w.cell? ⟨g, i, none⟩ = some (.int .i64 xs[i])
theorem IntsAt.later {w W : World} {v : Value} {xs : List Int} (h : IntsAt w v xs) (hb : Below w.heap.size w W) : IntsAt W v xs := by
  obtain ⟨g, cap, h1, h2, h3⟩ := h
  exact ⟨g, cap, h1, Nat.lt_of_lt_of_le h2 hb.size, fun i hi => (hb.cell (p := ⟨g, i, none⟩) h2).trans (h3 i hi)⟩
theorem intsAt_own {w : World} {B : Nat} {v : Value} {xs : List Int} (hne : xs ≠ []) (h : w.ownsRow B 3 1 v xs.length (xs.map (Value.int .i64))) : IntsAt w v xs := by
  rcases own_cases h with ⟨_, h2⟩ | ⟨g, cap, h1, h2, h3, h4, h5, h6⟩
  · exact absurd (List.length_eq_zero_iff.1 h2) hne
  · refine ⟨g, cap, h1, h3, fun i hi => ?_⟩
    rw [h6 i (by omega)]
    simp [hi]

def spanCs (s : Int × Int) : Array Value := #[.int .i64 s.1, .int .i64 s.2]
theorem infoSpan (s : Int × Int) : (Try.prog.info? 24).map (·.size) = some (spanCs s).size := by rw [show (spanCs s).size = 2 from rfl]; kernel_rfl
theorem spanCs_one (s : Int × Int) : (spanCs s).all (·.oneCell') = true := by simp [spanCs, Value.oneCell']
theorem underSpan : Try.prog.underlying 24 = some (.struct (Try.prog.fieldsOf 24)) := by kernel_rfl
set_option maxRecDepth 100000 in
set_option maxHeartbeats 4000000 in
theorem rhull_any (x0 : Int) (xs : List Int) (hx : xs.head? = some x0) (hn : xs.length ≤ 1000000) (v : Value) (w : World) (hv : IntsAt w v xs) :
    Calls Try.prog 54 #[v] w fun e w' => e = .returned (spanV (hullOf (xs.map dupI))) ∧ Below w.heap.size w w' := by
  obtain ⟨g, cap, rfl, hg, hel⟩ := hv
  have hpos : 0 < xs.length := by cases xs with | nil => simp at hx | cons a l => simp
  have hx0 : xs[0] = x0 := by cases xs with | nil => simp at hx | cons a l => simpa using hx
  have HALL : Hid (hullK x0 xs = hullOf (xs.map dupI)) := by
    cases xs with
    | nil => simp at hx
    | cons a l => simp at hx; subst hx; exact hullK_all a l
  have hc0 := hel 0 hpos
  rw [hx0] at hc0
  have HEL := Lib.hid hel
  clear hel hx hx0
  obtain ⟨W, hW⟩ : ∃ W, W = w.alloc (.cells #[.int .i64 0, .int .i64 0] 24) := ⟨_, rfl⟩
  have hbw : Below w.heap.size w W := by rw [hW]; exact (Below.refl _ _).alloc (Nat.le_refl _) _
  have hsw : W.heap.size = w.heap.size + 1 := by rw [hW]; simp
  have hz : W.heap[w.heap.size]? = some (.cells #[.int .i64 0, .int .i64 0] 24 (0, 0)) := by rw [hW]; exact heap_alloc_at _ _ _ rfl
  have HBW := Lib.hid hbw
  have HZ := Lib.hid hz
  have hd : decide ((0 : Int) < xs.length) = true := by simp; omega
  have hs0 : ∀ W', Below W.heap.size W W' → W'.cell? ⟨g, 0, none⟩ = some (.int .i64 x0) := fun W' hb => ((hbw.trans (hb.mono (by omega))).cell (p := ⟨g, 0, none⟩) hg).trans hc0
  have HS0 := Lib.hid hs0
  clear hs0 hbw hz hc0
  go_enter Try.func54, Try.ntmps54
  go_wp2_with fail
  rw [← hW]
  clear hW
  go_region_held3 (fun W' => W'.cell? ⟨g, 0, none⟩ = some (.int .i64 x0))
    (first | exact HS0.out _ (Below.refl _ _).drew | exact HS0.out _ ((Below.refl _ _).alloc (Nat.le_refl _) _).drew | exact HS0.out _ ((Below.refl _ _).drew.alloc (Nat.le_refl _) _) | exact HS0.out _ (((((Below.refl _ _).alloc (Nat.le_refl _) _).setCell (by simp) _).setCell (by simp) _).drew))
    (first | (fail))
  clear hd
  have hsz1 : (W.alloc (.cells #[.int .i64 x0, .int .i64 x0] 24)).drew.heap.size = w.heap.size + 1 + 1 := by simp; omega
  have hb1 : Below w.heap.size w (W.alloc (.cells #[.int .i64 x0, .int .i64 x0] 24)).drew := (HBW.out.alloc (by omega) _).drew
  have hz1 : (W.alloc (.cells #[.int .i64 x0, .int .i64 x0] 24)).drew.heap[w.heap.size]? = some (.cells #[.int .i64 0, .int .i64 0] 24 (0, 0)) := (Below.heap_alloc _ _ _ (by omega)).trans HZ.out
  have hr1 : (W.alloc (.cells #[.int .i64 x0, .int .i64 x0] 24)).drew.heap[w.heap.size + 1]? = some (.cells (spanCs (hullK x0 (xs.take 0))) 24 (0, 0)) := heap_alloc_at _ _ _ (by omega)
  obtain ⟨W1, hW1⟩ : ∃ W1, W1 = (W.alloc (.cells #[.int .i64 x0, .int .i64 x0] 24)).drew := ⟨_, rfl⟩
  rw [← hW1] at hsz1 hb1 hz1 hr1
  have HB1 := Lib.hid hb1
  have HZ1 := Lib.hid hz1
  have HR1 := Lib.hid hr1
  clear hb1 hz1 hr1
  go_wp2_with fail
  rw [← hW1]
  clear hW1
  go_loopw [4] (fun i wr => ∃ k : Nat, k ≤ xs.length ∧ i = .int .i64 k ∧ wr.heap[w.heap.size + 1]? = some (.cells (spanCs (hullK x0 (xs.take k))) 24 (0, 0)) ∧ Below w.heap.size w wr ∧ wr.heap[w.heap.size]? = some (.cells #[.int .i64 0, .int .i64 0] 24 (0, 0))) (fun i _ => xs.length - (intOf i).toNat)
  case atStart => exact ⟨0, by omega, rfl, HR1.out, HB1.out, HZ1.out⟩
  case round =>
    obtain ⟨k, hk, rfl, hrk, hbk, hzk⟩ := hrel
    have HRK := Lib.hid hrk
    have HBK := Lib.hid hbk
    have HZK := Lib.hid hzk
    clear hrk hbk hzk
    have d0 : wr.cell? ⟨w.heap.size + 1, 0, none⟩ = some (.int .i64 (hullK x0 (xs.take k)).1) := by rw [cell_of_row _ _ _ _ _ _ HRK.out]; rfl
    have d1 : wr.cell? ⟨w.heap.size + 1, 1, none⟩ = some (.int .i64 (hullK x0 (xs.take k)).2) := by rw [cell_of_row _ _ _ _ _ _ HRK.out]; rfl
    by_cases hlt : k < xs.length
    case neg =>
      have hdk : decide ((k : Int) < (xs.length : Int)) = false := by simp; omega
      have hall : hullK x0 (xs.take k) = hullOf (xs.map dupI) := by rw [← HALL.out, List.take_of_length_le (by omega)]
      have HL := Lib.hid hall
      clear hall
      clear d0 d1
      go_wp2_with (first | (refine wpList_load_row rfl 24 _ rfl (w.heap.size + 1) rfl 24 (spanCs (hullK x0 (xs.take k))) (0, 0) _ HRK.out underSpan rfl (infoSpan _) ?_) | (refine wpList_store_row rfl 24 _ _ rfl w.heap.size (spanCs (hullK x0 (xs.take k))) rfl rfl 24 _ HZK.out (infoSpan _) rfl (spanCs_one _) ?_))
      refine bodyPost_ret (v := .agg (spanCs (hullK x0 (xs.take k)))) (results_cell_row (fn := Try.f54) (p := 2) rfl _ _ w.heap.size 24 (spanCs (hullK x0 (xs.take k))) (0, 0) _ rfl (setRow_heap _ _ _ _ _ _ HZK.out) underSpan rfl (infoSpan _)) rfl ⟨?_, below_setRow HBK.out (Nat.le_refl _) _⟩
      rw [HL.out]
      rfl
    have hdk : decide ((k : Int) < (xs.length : Int)) = true := by simp; omega
    have e1 := (HBK.out.cell (p := ⟨g, k, none⟩) hg).trans (HEL.out k hlt)
    have hnx := hullK_next x0 xs k hlt
    have HNX := Lib.hid hnx
    clear hnx
    have hwk : IntKind.i64.wrap ((k : Int) + 1) = ((k + 1 : Nat) : Int) := by rw [IntWalk.i64_in _ (by omega)]; omega
    go_wp2_with fail
    refine region_fix 15 (fun W' => W' = wr.drew) (by kernel_rfl) (by kernel_rfl) rfl ?_
    simp only [List.take_succ_cons, List.take_zero, List.drop_succ_cons, List.drop_zero]
    iterate 15
      refine WF_step ?_ (fun W' hC => ?_) rfl ?_
      rotate_left
      · subst hC
        go_simp
        exact fix_value (P := Try.prog) rfl
      simp only [Act.put, List.setIfInBounds_toArray, List.set_cons_zero, List.set_cons_succ]
    refine WF_nil ?_
    rintro W' rfl
    have hmn : (if xs[k] < (hullK x0 (xs.take k)).1 then xs[k] else (hullK x0 (xs.take k)).1) = (hullK x0 (xs.take (k + 1))).1 := by rw [HNX.out]; dsimp only; omega
    have hmx : (if (hullK x0 (xs.take k)).2 < xs[k] then xs[k] else (hullK x0 (xs.take k)).2) = (hullK x0 (xs.take (k + 1))).2 := by rw [HNX.out]; dsimp only; omega
    rw [hmn, hmx]
    clear hmn hmx d0 d1 e1
    refine wpList_store_row rfl 24 _ _ rfl (w.heap.size + 1) (spanCs (hullK x0 (xs.take (k + 1)))) rfl rfl 24 _ HRK.out (infoSpan _) rfl (spanCs_one _) ?_
    go_wp2
    refine ⟨⟨k + 1, by omega, rfl, setRow_heap _ _ _ _ _ _ HRK.out, below_setRow HBK.out.drew (by omega) _, ?_⟩, by simp [intOf]; omega⟩
    exact (setRow_other _ _ _ _ (by omega)).trans HZK.out

end Go.Proofs.Ytlgeggekmdoceaa
