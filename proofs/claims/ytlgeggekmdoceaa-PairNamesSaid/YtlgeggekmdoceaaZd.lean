/- slices.DeleteFunc, by the closure of only. -/
import Derived.Test.YtlgeggekmdoceaaZc
namespace Go.Proofs.Ytlgeggekmdoceaa
set_option linter.unusedVariables false
set_option linter.unusedSimpArgs false
open Go.RowKit Go.Shelf
attribute [local go_sem] Oper.semAt_some

def rdC (r : RdD) : List Value := [.int .i64 r.a, .int .i64 r.b, .int .i64 r.m, .int .i64 r.lo, .int .i64 r.hi]
/-- Element i of a row of readings. -/
def RdIn (cur : Array Value) (i : Nat) (r : RdD) : Prop := ∀ q, q < 5 → cur[i * 5 + q]? = (rdC r)[q]?
theorem RdIn.other {cur cur' : Array Value} {o : Nat} {cs : List Value} {i : Nat} {r : RdD} (h : RdIn cur i r) (hs : Seg cur cur' o cs) (hd : i * 5 + 5 ≤ o ∨ o + cs.length ≤ i * 5) : RdIn cur' i r := by
  intro q hq
  rw [hs.other _ (by omega)]
  exact h q hq
theorem RdIn.own {cur cur' : Array Value} {i : Nat} {r : RdD} (hs : Seg cur cur' (i * 5) (rdC r)) : RdIn cur' i r := fun q hq => hs.own q (by simpa [rdC] using hq)
/-- Those of the first j readings that are in a set. -/
def keptL (l : List RdD) (s j : Nat) : List RdD := (List.range j).filterMap fun i => if s.testBit i then l[i]? else none
theorem keptL_yes (l : List RdD) (s j : Nat) (hj : j < l.length) (h : s.testBit j = true) : keptL l s (j + 1) = keptL l s j ++ [l[j]] := by
  unfold keptL
  rw [List.range_succ, List.filterMap_append]
  simp [h, List.getElem?_eq_getElem hj]
theorem keptL_no (l : List RdD) (s j : Nat) (h : s.testBit j = false) : keptL l s (j + 1) = keptL l s j := by
  unfold keptL
  rw [List.range_succ, List.filterMap_append]
  simp [h]
theorem keptL_le (l : List RdD) (s : Nat) : ∀ j, (keptL l s j).length ≤ j
  | 0 => by simp [keptL]
  | j + 1 => by
    have := keptL_le l s j
    unfold keptL at *
    rw [List.range_succ, List.filterMap_append, List.length_append]
    have h2 : (List.filterMap (fun i => if s.testBit i = true then l[i]? else none) [j]).length ≤ 1 := List.length_filterMap_le _ _
    omega
theorem keptL_all (l : List RdD) (s k : Nat) (hk : k ≤ l.length) (h : ∀ j, j < k → s.testBit j = true) : keptL l s k = l.take k := by
  induction k with
  | zero => simp [keptL]
  | succ k ih =>
    rw [keptL_yes l s k (by omega) (h k (by omega)), ih (by omega) (fun j hj => h j (by omega)), List.take_succ_eq_append_getElem (by omega)]

end Go.Proofs.Ytlgeggekmdoceaa
