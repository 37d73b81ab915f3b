/- What is told of a pair. -/
import Derived.Test.YtlgeggekmdoceaaH
import Derived.Laws.StructEq
namespace Go.Proofs.Ytlgeggekmdoceaa
set_option linter.unusedVariables false
set_option linter.unusedSimpArgs false
open Go.RowKit Go.Shelf
attribute [local go_sem] Oper.semAt_some

def encC (c : Int × Int) : Value := .agg #[.int .i64 c.1, .int .i64 c.2]
theorem under_comp : Try.prog.underlying 81 = some (.struct (Try.prog.fieldsOf 81)) := by kernel_rfl
theorem under_int : Try.prog.underlying 3 = some (.int .i64) := by kernel_rfl
theorem under_map : Try.prog.underlying 97 = some (.map 81 84) := by kernel_rfl

theorem eqComp (c d : Int × Int) (w : World) : (Op.equal 81 (encC c) (encC d)).run Try.prog w = .ok (c == d) w := by
  unfold encC Op.equal Op.maxDepth
  rw [run_equalIn_agg w 9999 81 _ _ under_comp (by kernel_rfl)]
  simp [go_sem, Op.eqFields]
  obtain ⟨a, b⟩ := c
  obtain ⟨a', b'⟩ := d
  by_cases h1 : a = a' <;> by_cases h2 : b = b' <;> simp [h1, h2]
theorem checkComp (c : Int × Int) (e : Bool) (w : World) : (Instr.checkKey e 10000 81 (encC c)).run Try.prog w = .ok () w := by
  kernel_rfl

/-- The map's entries, in the order in which they came. -/
def entsOf (xs : List ((Int × Int) × Tab)) : Array MapEntry := (xs.mapIdx fun i x => { key := encC x.1, val := .agg (tcells x.2), born := i }).toArray
theorem findAsk_none (c : Int × Int) (w : World) : ∀ (l : List MapEntry) (i : Nat), (∀ e ∈ l, ∃ d, e.key = encC d ∧ c ≠ d) → (Instr.findAsking 81 (encC c) l i).run Try.prog w = .ok none w
  | [], i, _ => by simp [Instr.findAsking]
  | e :: l, i, h => by
    obtain ⟨d, hd, hne⟩ := h e List.mem_cons_self
    have hf : (c == d) = false := by simpa using hne
    simp only [Instr.findAsking, Sem.run_bind, hd, eqComp, hf, Result.andThen_ok, Bool.false_eq_true, if_false]
    exact findAsk_none c w l (i + 1) (fun e he => h e (List.mem_cons_of_mem _ he))
theorem find_none (c : Int × Int) (w : World) (l : List MapEntry) (h : ∀ e ∈ l, ∃ d, e.key = encC d ∧ c ≠ d) : (Instr.findKey 81 (encC c) l).run Try.prog w = .ok none w := by
  unfold Instr.findKey
  simp only [Sem.run_bind, run_underlying under_comp, Result.andThen_ok]
  cases l with
  | nil => simp [Instr.findNow]
  | cons e l =>
    obtain ⟨d, hd, hne⟩ := h e List.mem_cons_self
    have : Instr.findNow (.struct (Try.prog.fieldsOf 81)) (encC c) (e :: l) 0 = none := by
      simp [Instr.findNow, Instr.sameNow]
    rw [this]
    exact findAsk_none c w (e :: l) 0 h
/-- A new key is put into a map. -/
theorem update_new (mb : Nat) (es : Array MapEntry) (clock : Nat) (c : Int × Int) (v : Value) (w : World) (hm : w.heap[mb]? = some (.map es clock)) (h : ∀ e ∈ es.toList, ∃ d, e.key = encC d ∧ c ≠ d) :
    (Instr.mapUpdate 97 (.map (some mb)) (encC c) v).run Try.prog w = .ok () (w.putObj mb (.map (es.push { key := encC c, val := v, born := clock }) (clock + 1))) := by
  have hg : (getObj mb).run Try.prog w = .ok (.map es clock) w := by simp [getObj, Sem.run, hm]
  unfold Instr.mapUpdate
  simp only [Sem.run_bind, run_underlying under_map, Result.andThen_ok, hg, checkComp, find_none c w es.toList h]
  simp [setObj, Sem.run, hm, World.putObj]
theorem entsOf_next (xs : List ((Int × Int) × Tab)) (x : (Int × Int) × Tab) : entsOf (xs ++ [x]) = (entsOf xs).push { key := encC x.1, val := .agg (tcells x.2), born := xs.length } := by
  simp [entsOf, List.mapIdx_append]
theorem entsOf_keys (xs : List ((Int × Int) × Tab)) (c : Int × Int) (h : ∀ x ∈ xs, c ≠ x.1) : ∀ e ∈ (entsOf xs).toList, ∃ d, e.key = encC d ∧ c ≠ d := by
  intro e he
  simp only [entsOf, List.mem_mapIdx] at he
  obtain ⟨i, hi, rfl⟩ := he
  exact ⟨_, rfl, h _ (List.getElem_mem hi)⟩

end Go.Proofs.Ytlgeggekmdoceaa
