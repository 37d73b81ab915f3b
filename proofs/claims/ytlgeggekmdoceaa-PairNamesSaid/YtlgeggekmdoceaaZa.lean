/- A pair with some of its readings alone. -/
import Derived.Test.YtlgeggekmdoceaaZ
namespace Go.Proofs.Ytlgeggekmdoceaa
set_option linter.unusedVariables false
set_option linter.unusedSimpArgs false
open Go.RowKit Go.Shelf
attribute [local go_sem] Oper.semAt_some

theorem bit_test0 (s k : Nat) (hs : s < 256) : (bits BinOp.and IntKind.u64 ((s : Int) / 2 ^ k) 1 == 0) = !s.testBit k := by
  have h1 : ((s : Int) / 2 ^ k) = ((s / 2 ^ k : Nat) : Int) := by simp
  have h2 : s / 2 ^ k ≤ s := Nat.div_le_self _ _
  rw [h1, Nat.testBit_eq_decide_div_mod_eq]
  generalize s / 2 ^ k = q at *
  rw [and_one_u64 _ (by omega) (by omega)]
  rw [Bool.eq_iff_iff]
  simp
  omega
def encRd (r : RdD) : Value := .agg #[.int .i64 r.a, .int .i64 r.b, .int .i64 r.m, .int .i64 r.lo, .int .i64 r.hi]
set_option maxRecDepth 100000 in
set_option maxHeartbeats 1000000 in
theorem only1_any (r : RdD) (s : Nat) (hs : s < 256) (n : Nat) (hn : n < 8) (pn ps : Nat) (hne : pn ≠ ps) (w : World) (hpn : w.heap[pn]? = some (.cells #[.int .i64 ((n : Int) - 1)] 3 (0, 0))) (hps : w.heap[ps]? = some (.cells #[.int .u64 s] 89 (0, 0))) :
    Calls Try.prog 107 (#[encRd r] ++ #[.pointer (some ⟨pn, 0, none⟩), .pointer (some ⟨ps, 0, none⟩)]) w
      fun e w' => e = .returned (.bool (!s.testBit n)) ∧ Keeps (fun k => k = pn) w w' ∧ w'.heap[pn]? = some (.cells #[.int .i64 n] 3 (0, 0)) := by
  obtain ⟨ra, rb, rm, rlo, rhi⟩ := r
  unfold encRd
  have hl1 := lt_of_block hpn
  have hl2 := lt_of_block hps
  have d0 : ∀ o, (w.alloc o).cell? ⟨pn, 0, none⟩ = some (.int .i64 ((n : Int) - 1)) := fun o => by rw [cell_of_row _ _ _ _ _ _ ((hget_old _ _ _ (by omega)).trans hpn)]; rfl
  have d1 : ∀ o, (w.alloc o).cell? ⟨ps, 0, none⟩ = some (.int .u64 s) := fun o => by rw [cell_of_row _ _ _ _ _ _ ((hget_old _ _ _ (by omega)).trans hps)]; rfl
  have d2 : ∀ o k, (w.alloc o).frozen? ⟨pn, k, none⟩ = false := fun o k => frozen_of_row _ _ _ _ _ ((hget_old _ _ _ (by omega)).trans hpn)
  have hwr : IntKind.i64.wrap ((n : Int) - 1 + 1) = (n : Int) := by rw [IntWalk.i64_in _ (by omega)]; omega
  have k1 : (w.setCell ⟨pn, 0, none⟩ (.int .i64 n)).heap[pn]? = some (.cells #[.int .i64 n] 3 (0, 0)) := by simp [World.setCell, Array.getElem?_modify, hpn]
  have k2 : (w.setCell ⟨pn, 0, none⟩ (.int .i64 n)).heap[ps]? = some (.cells #[.int .u64 s] 89 (0, 0)) := (Below.heap_setCell _ _ _ _ (fun h => hne h.symm)).trans hps
  have d3 : ∀ o, ((w.setCell ⟨pn, 0, none⟩ (.int .i64 n)).alloc o).cell? ⟨pn, 0, none⟩ = some (.int .i64 n) := fun o => by rw [cell_of_row _ _ _ _ _ _ ((hget_old _ _ _ (by simp; omega)).trans k1)]; rfl
  have d4 : ∀ o, ((w.setCell ⟨pn, 0, none⟩ (.int .i64 n)).alloc o).cell? ⟨ps, 0, none⟩ = some (.int .u64 s) := fun o => by rw [cell_of_row _ _ _ _ _ _ ((hget_old _ _ _ (by simp; omega)).trans k2)]; rfl
  have hbt := bit_test0 s n hs
  have K1 := Lib.hid k1
  clear k1 k2
  have hne2 : ps ≠ pn := fun h => hne h.symm
  go_enter Try.func107, Try.ntmps107
  go_wp2
  go_ret
  exact ⟨rfl, (Keeps.setCell (Mut := fun k => k = pn) _ _ _ rfl).trans (Keeps.alloc _ _ _), (hget_old _ _ _ (by simp; omega)).trans K1.out⟩

end Go.Proofs.Ytlgeggekmdoceaa
