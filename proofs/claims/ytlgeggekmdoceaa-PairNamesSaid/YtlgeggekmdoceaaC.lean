/- The comparators of a pair, one after the other. -/
import Derived.Test.YtlgeggekmdoceaaA
import Derived.Test.YtlgeggekmdoceaaI
import Derived.OwnWalkIn
import Derived.TacticsInMore
import Derived.LoopNIn
import Derived.LoopIn
namespace Go.Proofs.Ytlgeggekmdoceaa
set_option linter.unusedVariables false
set_option linter.unusedSimpArgs false
open Go.RowKit
attribute [local go_sem] Oper.semAt_some

/-- Elements of a list by number: what has come, what comes, what is left. -/
theorem split_at {α : Type} (l : List α) (k : Nat) (h : k < l.length) : l = l.take k ++ l[k] :: l.drop (k + 1) := by
  rw [List.getElem_cons_drop, List.take_append_drop]
theorem take_next {α : Type} (l : List α) (k : Nat) (h : k < l.length) : l.take (k + 1) = l.take k ++ [l[k]] := by
  rw [List.take_succ_eq_append_getElem h]

def wideN (lo hi : Int) : Nat := (hi - lo + 1).toNat
/-- The comparators: of each zero all rates. -/
def comps (zl zh rl rh : Int) : List (Int × Int) := (List.range (wideN zl zh * wideN rl rh)).map fun k => (zl + ((k / wideN rl rh : Nat) : Int), rl + ((k % wideN rl rh : Nat) : Int))
theorem comps_length (zl zh rl rh : Int) : (comps zl zh rl rh).length = wideN zl zh * wideN rl rh := by simp [comps]
theorem comps_at (zl zh rl rh : Int) (i j : Nat) (hi : i < wideN zl zh) (hj : j < wideN rl rh) (h : i * wideN rl rh + j < (comps zl zh rl rh).length) :
    (comps zl zh rl rh)[i * wideN rl rh + j] = (zl + (i : Int), rl + (j : Int)) := by
  have hm : 0 < wideN rl rh := by omega
  have h1 : (i * wideN rl rh + j) / wideN rl rh = i := by rw [Nat.mul_comm, Nat.mul_add_div hm, Nat.div_eq_of_lt hj, Nat.add_zero]
  have h2 : (i * wideN rl rh + j) % wideN rl rh = j := by rw [Nat.mul_comm, Nat.mul_add_mod, Nat.mod_eq_of_lt hj]
  simp only [comps, List.getElem_map, List.getElem_range, h1, h2]
theorem row_lt (i j n m : Nat) (hi : i < n) (hj : j < m) : i * m + j < n * m := by
  have : (i + 1) * m ≤ n * m := Nat.mul_le_mul_right m hi
  rw [Nat.add_mul] at this
  omega

theorem comps_mem {zl zh rl rh z r : Int} (h : ((z, r) : Int × Int) ∈ comps zl zh rl rh) : zl ≤ z ∧ z ≤ zh ∧ rl ≤ r ∧ r ≤ rh := by
  unfold comps at h
  obtain ⟨k, hk, he⟩ := List.mem_map.1 h
  simp only [Prod.mk.injEq] at he
  obtain ⟨rfl, rfl⟩ := he
  have hk' : k < wideN zl zh * wideN rl rh := by simpa using hk
  have hpos : 0 < wideN rl rh := by
    rcases Nat.eq_zero_or_pos (wideN rl rh) with h0 | h0
    · rw [h0] at hk'; simp at hk'
    · exact h0
  have h1 : k / wideN rl rh < wideN zl zh := Nat.div_lt_of_lt_mul (by rw [Nat.mul_comm]; exact hk')
  have h2 : k % wideN rl rh < wideN rl rh := Nat.mod_lt _ hpos
  generalize k / wideN rl rh = i at *
  generalize k % wideN rl rh = j at *
  unfold wideN at *
  omega
theorem mul_bounds (r m : Int) (h1 : -1000 ≤ r) (h2 : r ≤ 1000) (h3 : 0 ≤ m) (h4 : m ≤ 60) : -1000000 ≤ r * m ∧ r * m ≤ 1000000 := by
  have a1 : r * m ≤ 1000 * m := Int.mul_le_mul_of_nonneg_right h2 h3
  have a2 : -1000 * m ≤ r * m := Int.mul_le_mul_of_nonneg_right h1 h3
  omega

/-- A pair's bench in memory: its blocks' and readings' slices, zero and rate, and what is told. -/
def benchObj (bs rs : Value) (zl zh rl rh : Int) (m : Value) : Obj := .cells #[bs, .int .i64 zl, .int .i64 zh, .int .i64 rl, .int .i64 rh, rs, m] 99 (0, 0)
def boxPtr (bp : Nat) : Obj := .cells #[.pointer (some ⟨bp, 0, none⟩)] 68 (0, 0)

set_option maxRecDepth 100000 in
set_option maxHeartbeats 2000000 in
theorem comparators_seq (b1 bp : Nat) (bs rs mv : Value) (zl zh rl rh : Int) (hz : zl ≤ zh) (hr : rl ≤ rh) (hz1 : -1000000 ≤ zl) (hz2 : zh ≤ 1000000) (hr1 : -1000000 ≤ rl) (hr2 : rh ≤ 1000000) (W : World)
    (hb1 : W.heap[b1]? = some (boxPtr bp)) (hbp : W.heap[bp]? = some (benchObj bs rs zl zh rl rh mv)) :
    SeqAt Try.prog 109 #[.pointer (some ⟨b1, 0, none⟩)] (fun c : Int × Int => #[.agg #[.int .i64 c.1, .int .i64 c.2]]) (comps zl zh rl rh) (fun k => k = b1 ∨ k = bp) W := by
  intro l Mut J Jx hM hJ hJx hY h0
  have HM := Lib.hid hM
  have HJ := Lib.hid hJ
  have HJx := Lib.hid hJx
  have HY := Lib.hid hY
  clear hM hJ hJx hY
  have hlt1 := lt_of_block hb1
  have hlt2 := lt_of_block hbp
  refine callsIn_wide.1 (callsIn_of_wp (F := Fence.wide) (n := 0) Try.func109 rfl trivial ?_ rfl)
  simp only [Try.ntmps109, List.size_toArray, List.length_cons, List.length_nil, Nat.reduceAdd, Nat.reduceSub, Array.replicate_succ, Array.replicate_zero, List.push_toArray, List.append_toArray, List.nil_append, List.cons_append]
  have c0 : W.cell? ⟨b1, 0, none⟩ = some (.pointer (some ⟨bp, 0, none⟩)) := by rw [cell_of_row W b1 _ _ _ _ hb1]; rfl
  have c1 : W.cell? ⟨bp, 1, none⟩ = some (.int .i64 zl) := by rw [cell_of_row W bp _ _ _ _ hbp]; rfl
  have hcz : (zl : Int) + (wideN zl zh : Int) = zh + 1 := by unfold wideN; omega
  have hcr : (rl : Int) + (wideN rl rh : Int) = rh + 1 := by unfold wideN; omega
  have HCZ := Lib.hid hcz
  have HCR := Lib.hid hcr
  have hpz : 0 < wideN zl zh := by omega
  have hpr : 0 < wideN rl rh := by omega
  have hlen := comps_length zl zh rl rh
  have HL := Lib.hid hlen
  clear hcz hcr hlen
  have HB1 := Lib.hid hb1
  have HBP := Lib.hid hbp
  clear hb1 hbp
  have facts : ∀ wr, Keeps Mut W wr → wr.cell? ⟨b1, 0, none⟩ = some (.pointer (some ⟨bp, 0, none⟩)) ∧ wr.cell? ⟨bp, 1, none⟩ = some (.int .i64 zl) ∧ wr.cell? ⟨bp, 2, none⟩ = some (.int .i64 zh) ∧ wr.cell? ⟨bp, 3, none⟩ = some (.int .i64 rl) ∧ wr.cell? ⟨bp, 4, none⟩ = some (.int .i64 rh) := by
    intro wr hk
    have k1 := (hk.block b1 hlt1 (fun h => (HM.out _ h).2 (.inl rfl))).trans HB1.out
    have k2 := (hk.block bp hlt2 (fun h => (HM.out _ h).2 (.inr rfl))).trans HBP.out
    exact ⟨by rw [cell_of_row wr b1 _ _ _ _ k1]; rfl, by rw [cell_of_row wr bp _ _ _ _ k2]; rfl, by rw [cell_of_row wr bp _ _ _ _ k2]; rfl, by rw [cell_of_row wr bp _ _ _ _ k2]; rfl, by rw [cell_of_row wr bp _ _ _ _ k2]; rfl⟩
  have HF := Lib.hid facts
  clear facts
  gi_wp2
  refine wpIn_wide.2 (wp_scope_straight ((wpIn_wide (n := 0)).1 (wpIn_seq (wpIn_label ?_))))
  simp only [Exit.then]
  gi_wp2
  gi_loopw [3] (fun z wr => ∃ (i : Nat) (G : Nat → Prop), i ≤ wideN zl zh ∧ z = .int .i64 (zl + i) ∧ J ((comps zl zh rl rh).take (i * wideN rl rh)) G wr ∧ Keeps Mut W wr) (fun z _ => (zh + 1 - intOf z).toNat)
  case atStart => exact ⟨0, fun _ => False, Nat.zero_le _, by simp, by simpa using h0, Keeps.refl _ _⟩
  case round =>
    obtain ⟨i, G, hi, rfl, hj, hk⟩ := hrel
    have HK := Lib.hid hk
    have HJJ := Lib.hid hj
    obtain ⟨f0, f1, f2, f3, f4⟩ := HF.out wr hk
    clear hj hk
    by_cases hlt : i < wideN zl zh
    · have t1 : zl + (i : Int) ≤ zh := by have := HCZ.out; omega
      gi_wp2
      gi_loopw [4] (fun r wr => ∃ (j : Nat) (G : Nat → Prop), j ≤ wideN rl rh ∧ r = .int .i64 (rl + j) ∧ J ((comps zl zh rl rh).take (i * wideN rl rh + j)) G wr ∧ Keeps Mut W wr) (fun r _ => (rh + 1 - intOf r).toNat)
      case atStart => exact ⟨0, G, Nat.zero_le _, by simp, HJJ.out, HK.out⟩
      case round =>
        clear f0 f1 f2 f3 f4
        obtain ⟨j, G2, hj2, rfl, hj, hk⟩ := hrel
        obtain ⟨f0, f1, f2, f3, f4⟩ := HF.out wr hk
        have HK2 := Lib.hid hk
        have HJ2 := Lib.hid hj
        clear hj hk
        by_cases hltj : j < wideN rl rh
        · have t2 : rl + (j : Int) ≤ rh := by have := HCR.out; omega
          have hin : i * wideN rl rh + j < (comps zl zh rl rh).length := by rw [HL.out]; exact row_lt i j _ _ hlt hltj
          have hat := comps_at zl zh rl rh i j hlt hltj hin
          have hsp := split_at (comps zl zh rl rh) (i * wideN rl rh + j) hin
          have hnx := take_next (comps zl zh rl rh) (i * wideN rl rh + j) hin
          rw [hat] at hsp hnx
          obtain ⟨fn, tmps, assign, body, hy, hR⟩ := HY.out _ _ _ G2 wr hsp HJ2.out HK2.out.size
          rw [← hnx] at hR
          have HSP := Lib.hid hsp
          clear hat hsp
          have HN := Lib.hid hnx
          have HIN := Lib.hid hin
          clear hnx hin
          gi_wp2
          refine ⟨rfl, hR.mono ?_⟩
          rintro e W3 ⟨hk3, ⟨rfl, hj3⟩ | ⟨rfl, hj3⟩⟩
          · gi_wp2
            go_roundw
            case rel => exact ⟨j + 1, _, by omega, by go_num, hj3, HK2.out.trans hk3⟩
            case measure => simp [intOf]; omega
          · gi_wp2
            simp only [Exit.noGoto]
            first | go_end0 | skip
            exact ⟨⟨_, rfl⟩, HK2.out.trans hk3, _, .inr ⟨_, _, _, HSP.out, by rw [← HN.out]; exact hj3⟩⟩
        · obtain rfl : j = wideN rl rh := by omega
          have t2 : ¬ rl + (wideN rl rh : Int) ≤ rh := by have := HCR.out; omega
          gi_wp2
          go_roundw
          case rel =>
            refine ⟨i + 1, G2, by omega, by go_num, ?_, HK2.out⟩
            have := HJ2.out
            rwa [← Nat.succ_mul] at this
          case measure => simp [intOf]; omega
    · obtain rfl : i = wideN zl zh := by omega
      have t1 : ¬ zl + (wideN zl zh : Int) ≤ zh := by have := HCZ.out; omega
      have hall : J (comps zl zh rl rh) G wr := by have := HJJ.out; rwa [← HL.out, List.take_length] at this
      have HA := Lib.hid hall
      clear hall
      gi_wp2
      go_end0
      exact ⟨⟨_, rfl⟩, HK.out, G, .inl HA.out⟩

set_option maxHeartbeats 400000 in
/-- 'comparators' returns the function value that yields them: over a box of its own, which holds the bench. -/
theorem comparators_any (bp : Nat) (w : World) :
    Calls Try.prog 104 #[.pointer (some ⟨bp, 0, none⟩)] w fun e w' => e = .returned (.func (.func 109) #[] #[.pointer (some ⟨w.heap.size, 0, none⟩)]) ∧ w.alloc (boxPtr bp) = w' := by
  have hmf : ∀ (fn : Fn) (first cap : Array Value) (w : World), (Instr.makeFunc fn first cap).run Try.prog w = .ok (.func fn first cap) w := fun _ _ _ _ => rfl
  go_enter Try.func104, Try.ntmps104
  go_wp2
  go_ret
  exact ⟨rfl, rfl⟩

end Go.Proofs.Ytlgeggekmdoceaa
