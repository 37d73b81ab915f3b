/- Of a pair: all readings; the tables; what is told. -/
import Derived.Test.YtlgeggekmdoceaaE
import Derived.Test.YtlgeggekmdoceaaL
namespace Go.Proofs.Ytlgeggekmdoceaa
set_option linter.unusedVariables false
set_option linter.unusedSimpArgs false
open Go.RowKit Go.Shelf

theorem u64_pow (n : Nat) (hn : n ≤ 8) : IntKind.u64.wrap (IntKind.u64.wrap (2 ^ n) - 1) = ((2 ^ n - 1 : Nat) : Int) := by
  have h : ∀ m, m < 9 → IntKind.u64.wrap (IntKind.u64.wrap (2 ^ m) - 1) = ((2 ^ m - 1 : Nat) : Int) := by decide
  exact h n (by omega)

set_option maxHeartbeats 400000 in
theorem every_any (bp n cap : Nat) (ao : Option Addr) (bs mv : Value) (zl zh rl rh : Int) (hn : n ≤ 8) (w : World) (hbp : w.heap[bp]? = some (benchObj bs (.slice ao n cap) zl zh rl rh mv)) :
    Calls Try.prog 69 #[.pointer (some ⟨bp, 0, none⟩)] w fun e w' => e = .returned (.int .u64 ((2 ^ n - 1 : Nat) : Int)) ∧ w = w' := by
  have c5 : w.cell? ⟨bp, 5, none⟩ = some (.slice ao n cap) := by rw [cell_of_row w bp _ _ _ _ hbp]; rfl
  clear hbp
  go_enter Try.func69, Try.ntmps69
  go_wp2
  go_ret
  exact ⟨by rw [← u64_pow n hn]; rfl, rfl⟩

theorem tables_any (bp n cap : Nat) (ao : Option Addr) (w : World) :
    Calls Try.prog 94 #[.pointer (some ⟨bp, 0, none⟩), .slice ao n cap] w fun e w' => e = .returned (.func (.func 103) #[] #[.pointer (some ⟨w.heap.size, 0, none⟩), .pointer (some ⟨w.heap.size + 1, 0, none⟩)]) ∧ (w.alloc (boxPtr bp)).alloc (.cells #[.slice ao n cap] 87 (0, 0)) = w' := by
  have hmf : ∀ (fn : Fn) (first cap : Array Value) (w : World), (Instr.makeFunc fn first cap).run Try.prog w = .ok (.func fn first cap) w := fun _ _ _ _ => rfl
  go_enter Try.func94, Try.ntmps94
  go_wp2
  go_ret
  exact ⟨rfl, rfl⟩

theorem isBlock_any (bp n cap : Nat) (ao : Option Addr) (rs mv : Value) (zl zh rl rh k : Int) (hn : n ≤ 1000) (w : World) (hbp : w.heap[bp]? = some (benchObj (.slice ao n cap) rs zl zh rl rh mv)) :
    Calls Try.prog 49 #[.pointer (some ⟨bp, 0, none⟩), .int .i64 k] w fun e w' => e = .returned (.bool (inB k 0 ((n : Int) - 1))) ∧ w = w' := by
  have c5 : w.cell? ⟨bp, 0, none⟩ = some (.slice ao n cap) := by rw [cell_of_row w bp _ _ _ _ hbp]; rfl
  clear hbp
  go_enter Try.func49, Try.ntmps49
  go_wp2_with (go_at_call 92; refine (within_any _ _ _ _).mono ?_; rintro e w' ⟨rfl, rfl⟩)
  go_ret
  exact ⟨rfl, rfl⟩

end Go.Proofs.Ytlgeggekmdoceaa
