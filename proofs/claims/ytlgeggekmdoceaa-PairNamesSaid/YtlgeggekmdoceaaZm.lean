/- A set of numbers as a map; join, the closure of Groups. -/
import Derived.Test.YtlgeggekmdoceaaZi
namespace Go.Proofs.Ytlgeggekmdoceaa
set_option linter.unusedVariables false
set_option linter.unusedSimpArgs false
open Go.RowKit Go.Shelf
attribute [local go_sem] Oper.semAt_some

/-! ### a set of numbers as a map to bools -/
def entI (i : Nat) (x : Int) : MapEntry := { key := .int .i64 x, val := .bool true, born := i }
def setM (L : List Int) : Obj := .map (L.mapIdx entI).toArray L.length
theorem under_mib : Try.prog.underlying 59 = some (.map 3 4) := by kernel_rfl
theorem find_set (x : Int) : ∀ (l : List MapEntry) (i : Nat), (∀ e ∈ l, ∃ y, e.key = .int .i64 y ∧ e.val = .bool true) →
    ((∃ e ∈ l, e.key = .int .i64 x) ∧ ∃ j, Instr.findNow (.int .i64) (.int .i64 x) l i = some (some (j, .bool true))) ∨ ((∀ e ∈ l, e.key ≠ .int .i64 x) ∧ Instr.findNow (.int .i64) (.int .i64 x) l i = some none)
  | [], i, _ => .inr ⟨fun _ he => absurd he (by simp), rfl⟩
  | e :: l, i, h => by
    obtain ⟨y, hy, hv⟩ := h e List.mem_cons_self
    unfold Instr.findNow
    rw [hy]
    by_cases hxy : x = y
    · subst hxy
      refine .inl ⟨⟨e, List.mem_cons_self, hy⟩, i, ?_⟩
      simp [Instr.sameNow, hv]
    · have hs : Instr.sameNow (.int .i64) (.int .i64 x) (.int .i64 y) = some false := by simp [Instr.sameNow, hxy]
      rw [hs]
      rcases find_set x l (i + 1) (fun e he => h e (List.mem_cons_of_mem _ he)) with ⟨⟨e', he', hk⟩, j, hj⟩ | ⟨h1, h2⟩
      · exact .inl ⟨⟨e', List.mem_cons_of_mem _ he', hk⟩, j, hj⟩
      · refine .inr ⟨fun e' he' => ?_, h2⟩
        rcases List.mem_cons.1 he' with rfl | he'
        · rw [hy]; intro hh; cases hh; exact hxy rfl
        · exact h1 e' he'
theorem ents_ok (L : List Int) : ∀ e ∈ (L.mapIdx entI).toArray.toList, ∃ y, e.key = .int .i64 y ∧ e.val = .bool true := by
  intro e he
  simp only [List.mem_mapIdx] at he
  obtain ⟨i, hi, rfl⟩ := he
  exact ⟨_, rfl, rfl⟩
theorem ents_mem (L : List Int) (x : Int) : (∃ e ∈ (L.mapIdx entI).toArray.toList, e.key = .int .i64 x) ↔ x ∈ L := by
  constructor
  · rintro ⟨e, he, hk⟩
    simp only [List.mem_mapIdx] at he
    obtain ⟨i, hi, rfl⟩ := he
    simp only [entI, Value.int.injEq, true_and] at hk
    subst hk
    exact List.getElem_mem hi
  · intro h
    obtain ⟨i, hi, rfl⟩ := List.getElem_of_mem h
    exact ⟨entI i L[i], by simp only [List.mem_mapIdx]; exact ⟨i, hi, rfl⟩, rfl⟩
theorem find_in (L : List Int) (x : Int) (w : World) (h : x ∈ L) : ∃ j, (Instr.findKey 3 (.int .i64 x) (L.mapIdx entI).toArray.toList).run Try.prog w = .ok (some (j, .bool true)) w := by
  rcases find_set x (L.mapIdx entI).toArray.toList 0 (ents_ok L) with ⟨h1, j, hj⟩ | ⟨h1, _⟩
  · refine ⟨j, ?_⟩
    unfold Instr.findKey
    simp only [Sem.run_bind, run_underlying under_int, Result.andThen_ok, hj]
    rfl
  · obtain ⟨e, he, hk⟩ := (ents_mem L x).2 h
    exact absurd hk (h1 e he)
theorem find_out (L : List Int) (x : Int) (w : World) (h : x ∉ L) : (Instr.findKey 3 (.int .i64 x) (L.mapIdx entI).toArray.toList).run Try.prog w = .ok none w := by
  rcases find_set x (L.mapIdx entI).toArray.toList 0 (ents_ok L) with ⟨h1, _⟩ | ⟨_, h2⟩
  · exact absurd ((ents_mem L x).1 h1) h
  · unfold Instr.findKey
    simp only [Sem.run_bind, run_underlying under_int, Result.andThen_ok, h2]
    rfl
theorem check_int (e : Bool) (x : Int) (w : World) : (Instr.checkKey e 10000 3 (.int .i64 x)).run Try.prog w = .ok () w := by kernel_rfl
theorem zero_bool (w : World) : (zeroValue 4).run Try.prog w = .ok (.bool false) w := by kernel_rfl
theorem lookup_set (mb : Nat) (L : List Int) (x : Int) (w : World) (hm : w.heap[mb]? = some (setM L)) : (Instr.lookup 59 (.map (some mb)) (.int .i64 x) false).run Try.prog w = .ok (.bool (decide (x ∈ L))) w := by
  have hg : (getObj mb).run Try.prog w = .ok (setM L) w := by simp [getObj, Sem.run, hm, setM]
  unfold Instr.lookup
  by_cases h : x ∈ L
  · obtain ⟨j, hj⟩ := find_in L x w h
    simp only [Sem.run_bind, run_underlying under_mib, Result.andThen_ok, hg, setM, Sem.run_pure, check_int, hj, h, decide_true]
    rfl
  · simp only [Sem.run_bind, run_underlying under_mib, Result.andThen_ok, hg, setM, Sem.run_pure, check_int, find_out L x w h, h, decide_false, zero_bool]
    rfl
theorem update_set (mb : Nat) (L : List Int) (x : Int) (w : World) (hm : w.heap[mb]? = some (setM L)) (h : x ∉ L) : (Instr.mapUpdate 59 (.map (some mb)) (.int .i64 x) (.bool true)).run Try.prog w = .ok () (w.putObj mb (setM (L ++ [x]))) := by
  have hg : (getObj mb).run Try.prog w = .ok (setM L) w := by simp [getObj, Sem.run, hm, setM]
  have he : setM (L ++ [x]) = .map ((L.mapIdx entI).toArray.push { key := .int .i64 x, val := .bool true, born := L.length }) (L.length + 1) := by
    simp [setM, List.mapIdx_append, entI]
  rw [he]
  unfold Instr.mapUpdate
  simp only [Sem.run_bind, run_underlying under_mib, Result.andThen_ok, hg, setM, check_int, find_out L x w h]
  simp [setObj, Sem.run, hm, setM, World.putObj]

/-! ### blocks that hang together -/
def Adj (p : PairD) (x y : Int) : Prop := ∃ r ∈ p.rs, (r.a = x ∧ r.b = y) ∨ (r.b = x ∧ r.a = y)
inductive Conn (p : PairD) : Int → Int → Prop
  | refl (x : Int) : Conn p x x
  | step {x y z : Int} : Conn p x y → Adj p y z → Conn p x z
theorem Conn.trans {p : PairD} {x y z : Int} (h : Conn p x y) (k : Conn p y z) : Conn p x z := by
  induction k with
  | refl => exact h
  | step _ ha ih => exact .step ih ha
theorem Adj.symm {p : PairD} {x y : Int} (h : Adj p x y) : Adj p y x := by
  obtain ⟨r, hr, h | h⟩ := h
  · exact ⟨r, hr, .inr ⟨h.2, h.1⟩⟩
  · exact ⟨r, hr, .inl ⟨h.2, h.1⟩⟩
theorem Conn.symm {p : PairD} {x y : Int} (h : Conn p x y) : Conn p y x := by
  induction h with
  | refl => exact .refl _
  | step _ ha ih => exact (Conn.step (.refl _) ha.symm).trans ih
theorem Conn.closed {p : PairD} {x y : Int} (h : Conn p x y) {S : Int → Prop} (hx : S x) (hS : ∀ u v, S u → Adj p u v → S v) : S y := by
  induction h with
  | refl => exact hx
  | step _ ha ih => exact hS _ _ ih ha
/-- What join does to the set of all that were seen. -/
structure JoinRel (p : PairD) (x : Int) (L L' : List Int) : Prop where
  sub : ∀ y ∈ L, y ∈ L'
  nodup : L'.Nodup
  range : ∀ y ∈ L', 0 ≤ y ∧ y < p.bs.length
  own : x ∈ L'
  conn : ∀ y ∈ L', y ∈ L ∨ Conn p x y
  adj : ∀ y ∈ L', y ∉ L → ∀ z, Adj p y z → z ∈ L'
  len : L.length ≤ L'.length
theorem nodup_len (n : Nat) : ∀ (L : List Int), L.Nodup → (∀ y ∈ L, 0 ≤ y ∧ y < n) → L.length ≤ n := by
  induction n with
  | zero =>
    intro L _ h
    cases L with
    | nil => simp
    | cons a l => have := h a List.mem_cons_self; omega
  | succ n ih =>
    intro L hd h
    have h1 := ih (L.erase (n : Int)) (hd.erase _) (fun y hy => by
      have h2 := (hd.mem_erase_iff).1 hy
      have h3 := h y h2.2
      have h4 := h2.1
      omega)
    have h2 := List.length_erase (a := (n : Int)) (l := L)
    split at h2 <;> omega

end Go.Proofs.Ytlgeggekmdoceaa
