/- Texts Bz, Bzc, Bzd, Bze, Bzf, Bzg in one file; each begins with a word on what it proves. -/
import Derived.Test.YtagjepclobobjaaVd
import Derived.Test.YtagjepclobobjaaVf

/- Package lot: a stop is caught. -/
namespace Go.Proofs.Ytagjepclobobjaa
set_option linter.unusedVariables false
set_option linter.unusedSimpArgs false
open Go.RowKit Go.Shelf
attribute [local go_sem] Oper.semAt_some

def lstopV (n : Int) : Value := .iface 139 (.agg #[.int .i64 n])
theorem lstopped_nil (ep : Nat) (w : World) :
    Calls Try.prog 32 #[.nilIface, .pointer (some ⟨ep, 0, none⟩)] w fun e w' => e = .returned (.tuple #[]) ∧ w = w' := by
  go_enter Try.func32, Try.ntmps32
  go_wp2
  exact bodyPost_ret (v := .tuple #[]) (by simp [results, Try.results32, go_sem]) rfl ⟨rfl, rfl⟩
set_option maxRecDepth 100000 in
theorem lstopped_stop (n : Int) (ep : Nat) (x : Int) (w : World) (hep : w.heap[ep]? = some (.cells #[.int .i64 x] 24 (0, 0))) :
    Calls Try.prog 32 #[lstopV n, .pointer (some ⟨ep, 0, none⟩)] w fun e w' => e = .returned (.tuple #[]) ∧ Keeps (fun k => k = ep) w w' ∧ w'.heap[ep]? = some (.cells #[.int .i64 n] 24 (0, 0)) := by
  unfold lstopV
  have hlt := lt_of_block hep
  have c0 : ∀ o, (w.alloc o).cell? ⟨ep, 0, none⟩ = some (.int .i64 x) := fun o => by rw [cell_of_row _ _ _ _ _ _ ((hget_old _ _ _ (by omega)).trans hep)]; rfl
  have c1 : ∀ o k, (w.alloc o).frozen? ⟨ep, k, none⟩ = false := fun o k => frozen_of_row _ _ _ _ _ ((hget_old _ _ _ (by omega)).trans hep)
  have c2 : (w.setCell ⟨ep, 0, none⟩ (.int .i64 n)).heap[ep]? = some (.cells #[.int .i64 n] 24 (0, 0)) := by
    simp [World.setCell, Array.getElem?_modify, hep]
  have hta : (Instr.typeAssert (.iface 139 (.agg #[.int .i64 n])) 20 139 true).run Try.prog w = .ok (.tuple #[.agg #[.int .i64 n], .bool true]) w := by kernel_rfl
  have C2 := Lib.hid c2
  clear c2
  go_enter Try.func32, Try.ntmps32
  go_wp2
  go_end0
  refine ⟨rfl, (Keeps.setCell (Mut := fun k => k = ep) _ _ _ rfl).trans (Keeps.alloc _ _ _), (hget_old _ _ _ (by simp; omega)).trans C2.out⟩
theorem catch_idle_lSells (ep : Nat) (w : World) :
    CallsD Try.prog 31 #[.pointer (some ⟨ep, 0, none⟩)] .returning w fun e u' w' => e = .returned (.tuple #[]) ∧ u' = .returning ∧ w' = w := by
  refine callsD_of_wpS Try.func31 rfl fun c₀ cs hu => ?_
  apply wpS_region
  have hm : c₀ = { c₀ with mode := .returning } := by cases c₀; simp_all
  simp [wpOpsS, go_sem, recoverD, hu, Try.ntmps31, Oper.upon]
  refine (lstopped_nil ep w).mono ?_
  rintro e w' ⟨rfl, rfl⟩
  simp only [bodyPostS]
  exact ⟨trivial, .returning, by rw [← hm], .tuple #[], by simp [results, Try.results31, go_sem], by first | exact ⟨rfl, rfl, rfl⟩ | exact ⟨trivial, rfl, rfl⟩ | simp⟩
theorem catch_stop_lSells (n : Int) (ep : Nat) (x : Int) (w : World) (hep : w.heap[ep]? = some (.cells #[.int .i64 x] 24 (0, 0))) :
    CallsD Try.prog 31 #[.pointer (some ⟨ep, 0, none⟩)] (.panicking [{ v := lstopV n, recovered := false }]) w fun e u' w' => e = .returned (.tuple #[]) ∧ u' = .panicking [{ v := lstopV n, recovered := true }] ∧ Keeps (fun k => k = ep) w w' ∧ w'.heap[ep]? = some (.cells #[.int .i64 n] 24 (0, 0)) := by
  refine callsD_of_wpS Try.func31 rfl fun c₀ cs hu => ?_
  apply wpS_region
  simp [wpOpsS, go_sem, recoverD, hu, Try.ntmps31, Oper.upon]
  refine (lstopped_stop n ep x w hep).mono ?_
  rintro e w' ⟨rfl, h1, h2⟩
  simp only [bodyPostS]
  exact ⟨trivial, _, rfl, .tuple #[], by simp [results, Try.results31, go_sem], by first | exact ⟨rfl, rfl, h1, h2⟩ | exact ⟨trivial, rfl, h1, h2⟩ | (simp; exact ⟨h1, h2⟩)⟩
theorem leaf_stop_lSells {fn : Func} (n : Int) {R : Ending → World → Prop} (E : Nat) (x : Int) (tmps : Array Value) (w5 : World) (he : w5.heap[E]? = some (.cells #[.int .i64 x] 24 (0, 0)))
    (hR : ∀ W', Keeps (fun k => k = E) w5 W' → W'.heap[E]? = some (.cells #[.int .i64 n] 24 (0, 0)) → ∃ v, (results fn tmps).run Try.prog W' = .ok v W' ∧ R (.returned v) W') :
    Leaves Try.prog fn tmps R [{ target := .fn (.func 31) #[.pointer (some ⟨E, 0, none⟩)], args := #[] }] (.panicking [{ v := lstopV n, recovered := false }]) w5 := by
  refine leaves_cons (f := 31) (args := #[.pointer (some ⟨E, 0, none⟩)]) (by simp) (by simp [go_sem, invoke]) ?_
  refine (catch_stop_lSells n E x w5 he).mono ?_
  rintro e u' w' ⟨rfl, rfl, hk, he'⟩
  exact hR _ hk he'
theorem leaf_ret_lSells {fn : Func} {R : Ending → World → Prop} (E : Nat) (tmps : Array Value) (w5 : World) (hR : ∃ v, (results fn tmps).run Try.prog w5 = .ok v w5 ∧ R (.returned v) w5) :
    Leaves Try.prog fn tmps R [{ target := .fn (.func 31) #[.pointer (some ⟨E, 0, none⟩)], args := #[] }] .returning w5 := by
  refine leaves_cons (f := 31) (args := #[.pointer (some ⟨E, 0, none⟩)]) (by simp) (by simp [go_sem, invoke]) ?_
  refine (catch_idle_lSells E w5).mono ?_
  rintro e u' w' ⟨rfl, rfl, rfl⟩
  exact hR
theorem catch_idle_lWorth (ep : Nat) (w : World) :
    CallsD Try.prog 41 #[.pointer (some ⟨ep, 0, none⟩)] .returning w fun e u' w' => e = .returned (.tuple #[]) ∧ u' = .returning ∧ w' = w := by
  refine callsD_of_wpS Try.func41 rfl fun c₀ cs hu => ?_
  apply wpS_region
  have hm : c₀ = { c₀ with mode := .returning } := by cases c₀; simp_all
  simp [wpOpsS, go_sem, recoverD, hu, Try.ntmps41, Oper.upon]
  refine (lstopped_nil ep w).mono ?_
  rintro e w' ⟨rfl, rfl⟩
  simp only [bodyPostS]
  exact ⟨trivial, .returning, by rw [← hm], .tuple #[], by simp [results, Try.results41, go_sem], by first | exact ⟨rfl, rfl, rfl⟩ | exact ⟨trivial, rfl, rfl⟩ | simp⟩
theorem catch_stop_lWorth (n : Int) (ep : Nat) (x : Int) (w : World) (hep : w.heap[ep]? = some (.cells #[.int .i64 x] 24 (0, 0))) :
    CallsD Try.prog 41 #[.pointer (some ⟨ep, 0, none⟩)] (.panicking [{ v := lstopV n, recovered := false }]) w fun e u' w' => e = .returned (.tuple #[]) ∧ u' = .panicking [{ v := lstopV n, recovered := true }] ∧ Keeps (fun k => k = ep) w w' ∧ w'.heap[ep]? = some (.cells #[.int .i64 n] 24 (0, 0)) := by
  refine callsD_of_wpS Try.func41 rfl fun c₀ cs hu => ?_
  apply wpS_region
  simp [wpOpsS, go_sem, recoverD, hu, Try.ntmps41, Oper.upon]
  refine (lstopped_stop n ep x w hep).mono ?_
  rintro e w' ⟨rfl, h1, h2⟩
  simp only [bodyPostS]
  exact ⟨trivial, _, rfl, .tuple #[], by simp [results, Try.results41, go_sem], by first | exact ⟨rfl, rfl, h1, h2⟩ | exact ⟨trivial, rfl, h1, h2⟩ | (simp; exact ⟨h1, h2⟩)⟩
theorem leaf_stop_lWorth {fn : Func} (n : Int) {R : Ending → World → Prop} (E : Nat) (x : Int) (tmps : Array Value) (w5 : World) (he : w5.heap[E]? = some (.cells #[.int .i64 x] 24 (0, 0)))
    (hR : ∀ W', Keeps (fun k => k = E) w5 W' → W'.heap[E]? = some (.cells #[.int .i64 n] 24 (0, 0)) → ∃ v, (results fn tmps).run Try.prog W' = .ok v W' ∧ R (.returned v) W') :
    Leaves Try.prog fn tmps R [{ target := .fn (.func 41) #[.pointer (some ⟨E, 0, none⟩)], args := #[] }] (.panicking [{ v := lstopV n, recovered := false }]) w5 := by
  refine leaves_cons (f := 41) (args := #[.pointer (some ⟨E, 0, none⟩)]) (by simp) (by simp [go_sem, invoke]) ?_
  refine (catch_stop_lWorth n E x w5 he).mono ?_
  rintro e u' w' ⟨rfl, rfl, hk, he'⟩
  exact hR _ hk he'
theorem leaf_ret_lWorth {fn : Func} {R : Ending → World → Prop} (E : Nat) (tmps : Array Value) (w5 : World) (hR : ∃ v, (results fn tmps).run Try.prog w5 = .ok v w5 ∧ R (.returned v) w5) :
    Leaves Try.prog fn tmps R [{ target := .fn (.func 41) #[.pointer (some ⟨E, 0, none⟩)], args := #[] }] .returning w5 := by
  refine leaves_cons (f := 41) (args := #[.pointer (some ⟨E, 0, none⟩)]) (by simp) (by simp [go_sem, invoke]) ?_
  refine (catch_idle_lWorth E w5).mono ?_
  rintro e u' w' ⟨rfl, rfl, rfl⟩
  exact hR
theorem catch_idle_lValue (ep : Nat) (w : World) :
    CallsD Try.prog 49 #[.pointer (some ⟨ep, 0, none⟩)] .returning w fun e u' w' => e = .returned (.tuple #[]) ∧ u' = .returning ∧ w' = w := by
  refine callsD_of_wpS Try.func49 rfl fun c₀ cs hu => ?_
  apply wpS_region
  have hm : c₀ = { c₀ with mode := .returning } := by cases c₀; simp_all
  simp [wpOpsS, go_sem, recoverD, hu, Try.ntmps49, Oper.upon]
  refine (lstopped_nil ep w).mono ?_
  rintro e w' ⟨rfl, rfl⟩
  simp only [bodyPostS]
  exact ⟨trivial, .returning, by rw [← hm], .tuple #[], by simp [results, Try.results49, go_sem], by first | exact ⟨rfl, rfl, rfl⟩ | exact ⟨trivial, rfl, rfl⟩ | simp⟩
theorem catch_stop_lValue (n : Int) (ep : Nat) (x : Int) (w : World) (hep : w.heap[ep]? = some (.cells #[.int .i64 x] 24 (0, 0))) :
    CallsD Try.prog 49 #[.pointer (some ⟨ep, 0, none⟩)] (.panicking [{ v := lstopV n, recovered := false }]) w fun e u' w' => e = .returned (.tuple #[]) ∧ u' = .panicking [{ v := lstopV n, recovered := true }] ∧ Keeps (fun k => k = ep) w w' ∧ w'.heap[ep]? = some (.cells #[.int .i64 n] 24 (0, 0)) := by
  refine callsD_of_wpS Try.func49 rfl fun c₀ cs hu => ?_
  apply wpS_region
  simp [wpOpsS, go_sem, recoverD, hu, Try.ntmps49, Oper.upon]
  refine (lstopped_stop n ep x w hep).mono ?_
  rintro e w' ⟨rfl, h1, h2⟩
  simp only [bodyPostS]
  exact ⟨trivial, _, rfl, .tuple #[], by simp [results, Try.results49, go_sem], by first | exact ⟨rfl, rfl, h1, h2⟩ | exact ⟨trivial, rfl, h1, h2⟩ | (simp; exact ⟨h1, h2⟩)⟩
theorem leaf_stop_lValue {fn : Func} (n : Int) {R : Ending → World → Prop} (E : Nat) (x : Int) (tmps : Array Value) (w5 : World) (he : w5.heap[E]? = some (.cells #[.int .i64 x] 24 (0, 0)))
    (hR : ∀ W', Keeps (fun k => k = E) w5 W' → W'.heap[E]? = some (.cells #[.int .i64 n] 24 (0, 0)) → ∃ v, (results fn tmps).run Try.prog W' = .ok v W' ∧ R (.returned v) W') :
    Leaves Try.prog fn tmps R [{ target := .fn (.func 49) #[.pointer (some ⟨E, 0, none⟩)], args := #[] }] (.panicking [{ v := lstopV n, recovered := false }]) w5 := by
  refine leaves_cons (f := 49) (args := #[.pointer (some ⟨E, 0, none⟩)]) (by simp) (by simp [go_sem, invoke]) ?_
  refine (catch_stop_lValue n E x w5 he).mono ?_
  rintro e u' w' ⟨rfl, rfl, hk, he'⟩
  exact hR _ hk he'
theorem leaf_ret_lValue {fn : Func} {R : Ending → World → Prop} (E : Nat) (tmps : Array Value) (w5 : World) (hR : ∃ v, (results fn tmps).run Try.prog w5 = .ok v w5 ∧ R (.returned v) w5) :
    Leaves Try.prog fn tmps R [{ target := .fn (.func 49) #[.pointer (some ⟨E, 0, none⟩)], args := #[] }] .returning w5 := by
  refine leaves_cons (f := 49) (args := #[.pointer (some ⟨E, 0, none⟩)]) (by simp) (by simp [go_sem, invoke]) ?_
  refine (catch_idle_lValue E w5).mono ?_
  rintro e u' w' ⟨rfl, rfl, rfl⟩
  exact hR
theorem catch_idle_lBest (ep : Nat) (w : World) :
    CallsD Try.prog 36 #[.pointer (some ⟨ep, 0, none⟩)] .returning w fun e u' w' => e = .returned (.tuple #[]) ∧ u' = .returning ∧ w' = w := by
  refine callsD_of_wpS Try.func36 rfl fun c₀ cs hu => ?_
  apply wpS_region
  have hm : c₀ = { c₀ with mode := .returning } := by cases c₀; simp_all
  simp [wpOpsS, go_sem, recoverD, hu, Try.ntmps36, Oper.upon]
  refine (lstopped_nil ep w).mono ?_
  rintro e w' ⟨rfl, rfl⟩
  simp only [bodyPostS]
  exact ⟨trivial, .returning, by rw [← hm], .tuple #[], by simp [results, Try.results36, go_sem], by first | exact ⟨rfl, rfl, rfl⟩ | exact ⟨trivial, rfl, rfl⟩ | simp⟩
theorem catch_stop_lBest (n : Int) (ep : Nat) (x : Int) (w : World) (hep : w.heap[ep]? = some (.cells #[.int .i64 x] 24 (0, 0))) :
    CallsD Try.prog 36 #[.pointer (some ⟨ep, 0, none⟩)] (.panicking [{ v := lstopV n, recovered := false }]) w fun e u' w' => e = .returned (.tuple #[]) ∧ u' = .panicking [{ v := lstopV n, recovered := true }] ∧ Keeps (fun k => k = ep) w w' ∧ w'.heap[ep]? = some (.cells #[.int .i64 n] 24 (0, 0)) := by
  refine callsD_of_wpS Try.func36 rfl fun c₀ cs hu => ?_
  apply wpS_region
  simp [wpOpsS, go_sem, recoverD, hu, Try.ntmps36, Oper.upon]
  refine (lstopped_stop n ep x w hep).mono ?_
  rintro e w' ⟨rfl, h1, h2⟩
  simp only [bodyPostS]
  exact ⟨trivial, _, rfl, .tuple #[], by simp [results, Try.results36, go_sem], by first | exact ⟨rfl, rfl, h1, h2⟩ | exact ⟨trivial, rfl, h1, h2⟩ | (simp; exact ⟨h1, h2⟩)⟩
theorem leaf_stop_lBest {fn : Func} (n : Int) {R : Ending → World → Prop} (E : Nat) (x : Int) (tmps : Array Value) (w5 : World) (he : w5.heap[E]? = some (.cells #[.int .i64 x] 24 (0, 0)))
    (hR : ∀ W', Keeps (fun k => k = E) w5 W' → W'.heap[E]? = some (.cells #[.int .i64 n] 24 (0, 0)) → ∃ v, (results fn tmps).run Try.prog W' = .ok v W' ∧ R (.returned v) W') :
    Leaves Try.prog fn tmps R [{ target := .fn (.func 36) #[.pointer (some ⟨E, 0, none⟩)], args := #[] }] (.panicking [{ v := lstopV n, recovered := false }]) w5 := by
  refine leaves_cons (f := 36) (args := #[.pointer (some ⟨E, 0, none⟩)]) (by simp) (by simp [go_sem, invoke]) ?_
  refine (catch_stop_lBest n E x w5 he).mono ?_
  rintro e u' w' ⟨rfl, rfl, hk, he'⟩
  exact hR _ hk he'
theorem leaf_ret_lBest {fn : Func} {R : Ending → World → Prop} (E : Nat) (tmps : Array Value) (w5 : World) (hR : ∃ v, (results fn tmps).run Try.prog w5 = .ok v w5 ∧ R (.returned v) w5) :
    Leaves Try.prog fn tmps R [{ target := .fn (.func 36) #[.pointer (some ⟨E, 0, none⟩)], args := #[] }] .returning w5 := by
  refine leaves_cons (f := 36) (args := #[.pointer (some ⟨E, 0, none⟩)]) (by simp) (by simp [go_sem, invoke]) ?_
  refine (catch_idle_lBest E w5).mono ?_
  rintro e u' w' ⟨rfl, rfl, rfl⟩
  exact hR
theorem catch_idle_lScrap (ep : Nat) (w : World) :
    CallsD Try.prog 52 #[.pointer (some ⟨ep, 0, none⟩)] .returning w fun e u' w' => e = .returned (.tuple #[]) ∧ u' = .returning ∧ w' = w := by
  refine callsD_of_wpS Try.func52 rfl fun c₀ cs hu => ?_
  apply wpS_region
  have hm : c₀ = { c₀ with mode := .returning } := by cases c₀; simp_all
  simp [wpOpsS, go_sem, recoverD, hu, Try.ntmps52, Oper.upon]
  refine (lstopped_nil ep w).mono ?_
  rintro e w' ⟨rfl, rfl⟩
  simp only [bodyPostS]
  exact ⟨trivial, .returning, by rw [← hm], .tuple #[], by simp [results, Try.results52, go_sem], by first | exact ⟨rfl, rfl, rfl⟩ | exact ⟨trivial, rfl, rfl⟩ | simp⟩
theorem catch_stop_lScrap (n : Int) (ep : Nat) (x : Int) (w : World) (hep : w.heap[ep]? = some (.cells #[.int .i64 x] 24 (0, 0))) :
    CallsD Try.prog 52 #[.pointer (some ⟨ep, 0, none⟩)] (.panicking [{ v := lstopV n, recovered := false }]) w fun e u' w' => e = .returned (.tuple #[]) ∧ u' = .panicking [{ v := lstopV n, recovered := true }] ∧ Keeps (fun k => k = ep) w w' ∧ w'.heap[ep]? = some (.cells #[.int .i64 n] 24 (0, 0)) := by
  refine callsD_of_wpS Try.func52 rfl fun c₀ cs hu => ?_
  apply wpS_region
  simp [wpOpsS, go_sem, recoverD, hu, Try.ntmps52, Oper.upon]
  refine (lstopped_stop n ep x w hep).mono ?_
  rintro e w' ⟨rfl, h1, h2⟩
  simp only [bodyPostS]
  exact ⟨trivial, _, rfl, .tuple #[], by simp [results, Try.results52, go_sem], by first | exact ⟨rfl, rfl, h1, h2⟩ | exact ⟨trivial, rfl, h1, h2⟩ | (simp; exact ⟨h1, h2⟩)⟩
theorem leaf_stop_lScrap {fn : Func} (n : Int) {R : Ending → World → Prop} (E : Nat) (x : Int) (tmps : Array Value) (w5 : World) (he : w5.heap[E]? = some (.cells #[.int .i64 x] 24 (0, 0)))
    (hR : ∀ W', Keeps (fun k => k = E) w5 W' → W'.heap[E]? = some (.cells #[.int .i64 n] 24 (0, 0)) → ∃ v, (results fn tmps).run Try.prog W' = .ok v W' ∧ R (.returned v) W') :
    Leaves Try.prog fn tmps R [{ target := .fn (.func 52) #[.pointer (some ⟨E, 0, none⟩)], args := #[] }] (.panicking [{ v := lstopV n, recovered := false }]) w5 := by
  refine leaves_cons (f := 52) (args := #[.pointer (some ⟨E, 0, none⟩)]) (by simp) (by simp [go_sem, invoke]) ?_
  refine (catch_stop_lScrap n E x w5 he).mono ?_
  rintro e u' w' ⟨rfl, rfl, hk, he'⟩
  exact hR _ hk he'
theorem leaf_ret_lScrap {fn : Func} {R : Ending → World → Prop} (E : Nat) (tmps : Array Value) (w5 : World) (hR : ∃ v, (results fn tmps).run Try.prog w5 = .ok v w5 ∧ R (.returned v) w5) :
    Leaves Try.prog fn tmps R [{ target := .fn (.func 52) #[.pointer (some ⟨E, 0, none⟩)], args := #[] }] .returning w5 := by
  refine leaves_cons (f := 52) (args := #[.pointer (some ⟨E, 0, none⟩)]) (by simp) (by simp [go_sem, invoke]) ?_
  refine (catch_idle_lScrap E w5).mono ?_
  rintro e u' w' ⟨rfl, rfl, rfl⟩
  exact hR
theorem catch_idle_lDeliver (ep : Nat) (w : World) :
    CallsD Try.prog 70 #[.pointer (some ⟨ep, 0, none⟩)] .returning w fun e u' w' => e = .returned (.tuple #[]) ∧ u' = .returning ∧ w' = w := by
  refine callsD_of_wpS Try.func70 rfl fun c₀ cs hu => ?_
  apply wpS_region
  have hm : c₀ = { c₀ with mode := .returning } := by cases c₀; simp_all
  simp [wpOpsS, go_sem, recoverD, hu, Try.ntmps70, Oper.upon]
  refine (lstopped_nil ep w).mono ?_
  rintro e w' ⟨rfl, rfl⟩
  simp only [bodyPostS]
  exact ⟨trivial, .returning, by rw [← hm], .tuple #[], by simp [results, Try.results70, go_sem], by first | exact ⟨rfl, rfl, rfl⟩ | exact ⟨trivial, rfl, rfl⟩ | simp⟩
theorem catch_stop_lDeliver (n : Int) (ep : Nat) (x : Int) (w : World) (hep : w.heap[ep]? = some (.cells #[.int .i64 x] 24 (0, 0))) :
    CallsD Try.prog 70 #[.pointer (some ⟨ep, 0, none⟩)] (.panicking [{ v := lstopV n, recovered := false }]) w fun e u' w' => e = .returned (.tuple #[]) ∧ u' = .panicking [{ v := lstopV n, recovered := true }] ∧ Keeps (fun k => k = ep) w w' ∧ w'.heap[ep]? = some (.cells #[.int .i64 n] 24 (0, 0)) := by
  refine callsD_of_wpS Try.func70 rfl fun c₀ cs hu => ?_
  apply wpS_region
  simp [wpOpsS, go_sem, recoverD, hu, Try.ntmps70, Oper.upon]
  refine (lstopped_stop n ep x w hep).mono ?_
  rintro e w' ⟨rfl, h1, h2⟩
  simp only [bodyPostS]
  exact ⟨trivial, _, rfl, .tuple #[], by simp [results, Try.results70, go_sem], by first | exact ⟨rfl, rfl, h1, h2⟩ | exact ⟨trivial, rfl, h1, h2⟩ | (simp; exact ⟨h1, h2⟩)⟩
theorem leaf_stop_lDeliver {fn : Func} (n : Int) {R : Ending → World → Prop} (E : Nat) (x : Int) (tmps : Array Value) (w5 : World) (he : w5.heap[E]? = some (.cells #[.int .i64 x] 24 (0, 0)))
    (hR : ∀ W', Keeps (fun k => k = E) w5 W' → W'.heap[E]? = some (.cells #[.int .i64 n] 24 (0, 0)) → ∃ v, (results fn tmps).run Try.prog W' = .ok v W' ∧ R (.returned v) W') :
    Leaves Try.prog fn tmps R [{ target := .fn (.func 70) #[.pointer (some ⟨E, 0, none⟩)], args := #[] }] (.panicking [{ v := lstopV n, recovered := false }]) w5 := by
  refine leaves_cons (f := 70) (args := #[.pointer (some ⟨E, 0, none⟩)]) (by simp) (by simp [go_sem, invoke]) ?_
  refine (catch_stop_lDeliver n E x w5 he).mono ?_
  rintro e u' w' ⟨rfl, rfl, hk, he'⟩
  exact hR _ hk he'
theorem leaf_ret_lDeliver {fn : Func} {R : Ending → World → Prop} (E : Nat) (tmps : Array Value) (w5 : World) (hR : ∃ v, (results fn tmps).run Try.prog w5 = .ok v w5 ∧ R (.returned v) w5) :
    Leaves Try.prog fn tmps R [{ target := .fn (.func 70) #[.pointer (some ⟨E, 0, none⟩)], args := #[] }] .returning w5 := by
  refine leaves_cons (f := 70) (args := #[.pointer (some ⟨E, 0, none⟩)]) (by simp) (by simp [go_sem, invoke]) ?_
  refine (catch_idle_lDeliver E w5).mono ?_
  rintro e u' w' ⟨rfl, rfl, rfl⟩
  exact hR
theorem catch_idle_lCheck (ep : Nat) (w : World) :
    CallsD Try.prog 43 #[.pointer (some ⟨ep, 0, none⟩)] .returning w fun e u' w' => e = .returned (.tuple #[]) ∧ u' = .returning ∧ w' = w := by
  refine callsD_of_wpS Try.func43 rfl fun c₀ cs hu => ?_
  apply wpS_region
  have hm : c₀ = { c₀ with mode := .returning } := by cases c₀; simp_all
  simp [wpOpsS, go_sem, recoverD, hu, Try.ntmps43, Oper.upon]
  refine (lstopped_nil ep w).mono ?_
  rintro e w' ⟨rfl, rfl⟩
  simp only [bodyPostS]
  exact ⟨trivial, .returning, by rw [← hm], .tuple #[], by simp [results, Try.results43, go_sem], by first | exact ⟨rfl, rfl, rfl⟩ | exact ⟨trivial, rfl, rfl⟩ | simp⟩
theorem catch_stop_lCheck (n : Int) (ep : Nat) (x : Int) (w : World) (hep : w.heap[ep]? = some (.cells #[.int .i64 x] 24 (0, 0))) :
    CallsD Try.prog 43 #[.pointer (some ⟨ep, 0, none⟩)] (.panicking [{ v := lstopV n, recovered := false }]) w fun e u' w' => e = .returned (.tuple #[]) ∧ u' = .panicking [{ v := lstopV n, recovered := true }] ∧ Keeps (fun k => k = ep) w w' ∧ w'.heap[ep]? = some (.cells #[.int .i64 n] 24 (0, 0)) := by
  refine callsD_of_wpS Try.func43 rfl fun c₀ cs hu => ?_
  apply wpS_region
  simp [wpOpsS, go_sem, recoverD, hu, Try.ntmps43, Oper.upon]
  refine (lstopped_stop n ep x w hep).mono ?_
  rintro e w' ⟨rfl, h1, h2⟩
  simp only [bodyPostS]
  exact ⟨trivial, _, rfl, .tuple #[], by simp [results, Try.results43, go_sem], by first | exact ⟨rfl, rfl, h1, h2⟩ | exact ⟨trivial, rfl, h1, h2⟩ | (simp; exact ⟨h1, h2⟩)⟩
theorem leaf_stop_lCheck {fn : Func} (n : Int) {R : Ending → World → Prop} (E : Nat) (x : Int) (tmps : Array Value) (w5 : World) (he : w5.heap[E]? = some (.cells #[.int .i64 x] 24 (0, 0)))
    (hR : ∀ W', Keeps (fun k => k = E) w5 W' → W'.heap[E]? = some (.cells #[.int .i64 n] 24 (0, 0)) → ∃ v, (results fn tmps).run Try.prog W' = .ok v W' ∧ R (.returned v) W') :
    Leaves Try.prog fn tmps R [{ target := .fn (.func 43) #[.pointer (some ⟨E, 0, none⟩)], args := #[] }] (.panicking [{ v := lstopV n, recovered := false }]) w5 := by
  refine leaves_cons (f := 43) (args := #[.pointer (some ⟨E, 0, none⟩)]) (by simp) (by simp [go_sem, invoke]) ?_
  refine (catch_stop_lCheck n E x w5 he).mono ?_
  rintro e u' w' ⟨rfl, rfl, hk, he'⟩
  exact hR _ hk he'
theorem leaf_ret_lCheck {fn : Func} {R : Ending → World → Prop} (E : Nat) (tmps : Array Value) (w5 : World) (hR : ∃ v, (results fn tmps).run Try.prog w5 = .ok v w5 ∧ R (.returned v) w5) :
    Leaves Try.prog fn tmps R [{ target := .fn (.func 43) #[.pointer (some ⟨E, 0, none⟩)], args := #[] }] .returning w5 := by
  refine leaves_cons (f := 43) (args := #[.pointer (some ⟨E, 0, none⟩)]) (by simp) (by simp [go_sem, invoke]) ?_
  refine (catch_idle_lCheck E w5).mono ?_
  rintro e u' w' ⟨rfl, rfl, rfl⟩
  exact hR
theorem catch_idle_lSum (ep : Nat) (w : World) :
    CallsD Try.prog 48 #[.pointer (some ⟨ep, 0, none⟩)] .returning w fun e u' w' => e = .returned (.tuple #[]) ∧ u' = .returning ∧ w' = w := by
  refine callsD_of_wpS Try.func48 rfl fun c₀ cs hu => ?_
  apply wpS_region
  have hm : c₀ = { c₀ with mode := .returning } := by cases c₀; simp_all
  simp [wpOpsS, go_sem, recoverD, hu, Try.ntmps48, Oper.upon]
  refine (lstopped_nil ep w).mono ?_
  rintro e w' ⟨rfl, rfl⟩
  simp only [bodyPostS]
  exact ⟨trivial, .returning, by rw [← hm], .tuple #[], by simp [results, Try.results48, go_sem], by first | exact ⟨rfl, rfl, rfl⟩ | exact ⟨trivial, rfl, rfl⟩ | simp⟩
theorem catch_stop_lSum (n : Int) (ep : Nat) (x : Int) (w : World) (hep : w.heap[ep]? = some (.cells #[.int .i64 x] 24 (0, 0))) :
    CallsD Try.prog 48 #[.pointer (some ⟨ep, 0, none⟩)] (.panicking [{ v := lstopV n, recovered := false }]) w fun e u' w' => e = .returned (.tuple #[]) ∧ u' = .panicking [{ v := lstopV n, recovered := true }] ∧ Keeps (fun k => k = ep) w w' ∧ w'.heap[ep]? = some (.cells #[.int .i64 n] 24 (0, 0)) := by
  refine callsD_of_wpS Try.func48 rfl fun c₀ cs hu => ?_
  apply wpS_region
  simp [wpOpsS, go_sem, recoverD, hu, Try.ntmps48, Oper.upon]
  refine (lstopped_stop n ep x w hep).mono ?_
  rintro e w' ⟨rfl, h1, h2⟩
  simp only [bodyPostS]
  exact ⟨trivial, _, rfl, .tuple #[], by simp [results, Try.results48, go_sem], by first | exact ⟨rfl, rfl, h1, h2⟩ | exact ⟨trivial, rfl, h1, h2⟩ | (simp; exact ⟨h1, h2⟩)⟩
theorem leaf_stop_lSum {fn : Func} (n : Int) {R : Ending → World → Prop} (E : Nat) (x : Int) (tmps : Array Value) (w5 : World) (he : w5.heap[E]? = some (.cells #[.int .i64 x] 24 (0, 0)))
    (hR : ∀ W', Keeps (fun k => k = E) w5 W' → W'.heap[E]? = some (.cells #[.int .i64 n] 24 (0, 0)) → ∃ v, (results fn tmps).run Try.prog W' = .ok v W' ∧ R (.returned v) W') :
    Leaves Try.prog fn tmps R [{ target := .fn (.func 48) #[.pointer (some ⟨E, 0, none⟩)], args := #[] }] (.panicking [{ v := lstopV n, recovered := false }]) w5 := by
  refine leaves_cons (f := 48) (args := #[.pointer (some ⟨E, 0, none⟩)]) (by simp) (by simp [go_sem, invoke]) ?_
  refine (catch_stop_lSum n E x w5 he).mono ?_
  rintro e u' w' ⟨rfl, rfl, hk, he'⟩
  exact hR _ hk he'
theorem leaf_ret_lSum {fn : Func} {R : Ending → World → Prop} (E : Nat) (tmps : Array Value) (w5 : World) (hR : ∃ v, (results fn tmps).run Try.prog w5 = .ok v w5 ∧ R (.returned v) w5) :
    Leaves Try.prog fn tmps R [{ target := .fn (.func 48) #[.pointer (some ⟨E, 0, none⟩)], args := #[] }] .returning w5 := by
  refine leaves_cons (f := 48) (args := #[.pointer (some ⟨E, 0, none⟩)]) (by simp) (by simp [go_sem, invoke]) ?_
  refine (catch_idle_lSum E w5).mono ?_
  rintro e u' w' ⟨rfl, rfl, rfl⟩
  exact hR
theorem lwithin_any (n a b : Int) (w : World) :
    Calls Try.prog 75 #[.int .i64 n, .int .i64 a, .int .i64 b] w fun e w' => e = .returned (.bool (inN n a b)) ∧ w = w' := by
  have H : Hid (inN n a b = (decide (a ≤ n) && decide (n ≤ b))) := by show _ = _; simp [inN]
  go_enter Try.func75, Try.ntmps75
  go_wp2
  all_goals go_ret
  all_goals exact ⟨by rw [H.out]; simp [*]; try omega, rfl⟩
theorem lmust_ok (n : Int) (w : World) :
    Calls Try.prog 47 #[.bool true, .int .i64 n] w fun e w' => e = .returned (.tuple #[]) ∧ w = w' := by
  go_enter Try.func47, Try.ntmps47
  go_wp2
  go_end0
  exact ⟨rfl, rfl⟩
theorem lmust_no (n : Int) (w : World) :
    Calls Try.prog 47 #[.bool false, .int .i64 n] w fun e w' => e = .panicked [{ v := lstopV n, recovered := false }] ∧ w = w' := by
  go_enter Try.func47, Try.ntmps47
  go_wp2
  exact ⟨rfl, rfl, rfl⟩
theorem lalways_any (v : Value) (w : World) :
    Calls Try.prog 45 #[v] w fun e w' => e = .returned (.bool true) ∧ w = w' := by
  go_enter Try.func45, Try.ntmps45
  go_wp2
  go_ret
  exact ⟨rfl, rfl⟩
end Go.Proofs.Ytagjepclobobjaa

/- Package lot: a lot in memory; its small functions. -/
namespace Go.Proofs.Ytagjepclobobjaa
set_option linter.unusedVariables false
set_option linter.unusedSimpArgs false
open Go.RowKit Go.Shelf
attribute [local go_sem] Oper.semAt_some

def BlocksAt (W : World) (v : Value) (l : List (List (Int × Int))) (Rd : Nat → Prop) : Prop :=
  ∃ ao cap, v = .slice ao l.length cap ∧ l.length ≤ cap ∧ cap ≤ maxLen ∧ ∀ i (h : i < l.length), l[i].length = 5 ∧ ∃ b off, ao = some ⟨b, off, none⟩ ∧ Rd b ∧ b < W.heap.size ∧ ∀ k, k < 10 → W.cell? ⟨b, off + i * 10 + k, none⟩ = (ptsC l[i])[k]?
theorem BlocksAt.later {w W : World} {v : Value} {l : List (List (Int × Int))} {Rd : Nat → Prop} (h : BlocksAt w v l Rd) (hs : w.heap.size ≤ W.heap.size) (hk : ∀ k, k < w.heap.size → Rd k → W.heap[k]? = w.heap[k]?) : BlocksAt W v l Rd := by
  obtain ⟨ao, cap, h1, h2, h3, h4⟩ := h
  refine ⟨ao, cap, h1, h2, h3, fun i hi => ?_⟩
  obtain ⟨h5, b, off, e1, e2, e3, e4⟩ := h4 i hi
  exact ⟨h5, b, off, e1, e2, Nat.lt_of_lt_of_le e3 hs, fun k hk9 => (World.cell?_of_block (w := w) (a := ⟨b, off + i * 10 + k, none⟩) (hk b e3 e2)).trans (e4 k hk9)⟩
theorem BlocksAt.low {W : World} {v : Value} {l : List (List (Int × Int))} {Rd : Nat → Prop} (h : BlocksAt W v l Rd) : BlocksAt W v l (fun k => k < W.heap.size) := by
  obtain ⟨ao, cap, h1, h2, h3, h4⟩ := h
  exact ⟨ao, cap, h1, h2, h3, fun i hi => by obtain ⟨h5, b, off, e1, e2, e3⟩ := h4 i hi; exact ⟨h5, b, off, e1, e3.1, e3⟩⟩
/-- Entries in memory: block, grade, pence. -/
def EntsAt (W : World) (v : Value) (l : List EntD) (Rd : Nat → Prop) : Prop :=
  ∃ ao cap, v = .slice ao l.length cap ∧ l.length ≤ cap ∧ cap ≤ maxLen ∧ ∀ i (h : i < l.length), ∃ b off, ao = some ⟨b, off, none⟩ ∧ Rd b ∧ b < W.heap.size ∧
    W.cell? ⟨b, off + i * 3, none⟩ = some (.int .i64 l[i].1) ∧ W.cell? ⟨b, off + i * 3 + 1, none⟩ = some (.int .i64 l[i].2.1) ∧ W.cell? ⟨b, off + i * 3 + 2, none⟩ = some (.int .i64 l[i].2.2)
theorem EntsAt.later {w W : World} {v : Value} {l : List EntD} {Rd : Nat → Prop} (h : EntsAt w v l Rd) (hs : w.heap.size ≤ W.heap.size) (hk : ∀ k, k < w.heap.size → Rd k → W.heap[k]? = w.heap[k]?) : EntsAt W v l Rd := by
  obtain ⟨ao, cap, h1, h2, h3, h4⟩ := h
  refine ⟨ao, cap, h1, h2, h3, fun i hi => ?_⟩
  obtain ⟨b, off, e1, e2, e3, e4, e5, e6⟩ := h4 i hi
  have hb := hk b e3 e2
  exact ⟨b, off, e1, e2, Nat.lt_of_lt_of_le e3 hs, (World.cell?_of_block (w := w) (a := ⟨b, off + i * 3, none⟩) hb).trans e4, (World.cell?_of_block (w := w) (a := ⟨b, off + i * 3 + 1, none⟩) hb).trans e5, (World.cell?_of_block (w := w) (a := ⟨b, off + i * 3 + 2, none⟩) hb).trans e6⟩
theorem EntsAt.low {W : World} {v : Value} {l : List EntD} {Rd : Nat → Prop} (h : EntsAt W v l Rd) : EntsAt W v l (fun k => k < W.heap.size) := by
  obtain ⟨ao, cap, h1, h2, h3, h4⟩ := h
  exact ⟨ao, cap, h1, h2, h3, fun i hi => by obtain ⟨b, off, e1, e2, e3⟩ := h4 i hi; exact ⟨b, off, e1, e3.1, e3⟩⟩
theorem EntsAt.nil (W : World) (Rd : Nat → Prop) : EntsAt W (.slice none 0 0) [] Rd := ⟨none, 0, rfl, Nat.le_refl _, by decide, fun i h => by simp at h⟩
/-- The parts of a lot in memory. -/
structure PartsL where
  lims : Value
  blks : Value
  pays : Value
  ords : Value
structure LotAt (l : LotD) (p : PartsL) (Rd : Nat → Prop) (W : World) : Prop where
  lim : SpansAt W p.lims l.lim Rd
  blk : BlocksAt W p.blks l.blocks Rd
  pay : NumsAt W p.pays l.pays Rd
  ord : SpansAt W p.ords l.orders Rd
theorem LotAt.later {l : LotD} {p : PartsL} {w W : World} {Rd : Nat → Prop} (h : LotAt l p Rd w) (hs : w.heap.size ≤ W.heap.size) (hk : ∀ k, k < w.heap.size → Rd k → W.heap[k]? = w.heap[k]?) : LotAt l p Rd W :=
  ⟨h.lim.later hs hk, h.blk.later hs hk, h.pay.later hs hk, h.ord.later hs hk⟩
theorem nums_lowL {W : World} {v : Value} {l : List Int} {Rd : Nat → Prop} (h : NumsAt W v l Rd) : NumsAt W v l (fun k => k < W.heap.size) := by
  obtain ⟨ao, cap, h1, h2, h3, h4⟩ := h
  exact ⟨ao, cap, h1, h2, h3, fun i hi => by obtain ⟨b, off, e1, e2, e3⟩ := h4 i hi; exact ⟨b, off, e1, e3.1, e3⟩⟩
theorem LotAt.low {l : LotD} {p : PartsL} {W : World} {Rd : Nat → Prop} (h : LotAt l p Rd W) : LotAt l p (fun k => k < W.heap.size) W := ⟨h.lim.low, h.blk.low, nums_lowL h.pay, h.ord.low⟩
def lotC (l : LotD) (p : PartsL) : List Value := [p.lims, .int .i64 l.step, p.blks, p.pays, .int .i64 l.lap, p.ords]
def lotV (l : LotD) (p : PartsL) : Value := .agg (lotC l p).toArray
def lotO (l : LotD) (p : PartsL) : Obj := .cells (lotC l p).toArray 32 (0, 0)
/-- A lot that is looked at. -/
def shopO (l : LotD) (p : PartsL) (mk ml : Nat) (sv : Value) : Obj := .cells (lotC l p ++ [.map (some mk), .map (some ml), sv]).toArray 103 (0, 0)
theorem shop_cells {l : LotD} {p : PartsL} {mk ml sp : Nat} {sv : Value} {W : World} (h : W.heap[sp]? = some (shopO l p mk ml sv)) :
    W.cell? ⟨sp, 0, none⟩ = some p.lims ∧ W.cell? ⟨sp, 1, none⟩ = some (.int .i64 l.step) ∧ W.cell? ⟨sp, 2, none⟩ = some p.blks ∧ W.cell? ⟨sp, 3, none⟩ = some p.pays ∧ W.cell? ⟨sp, 4, none⟩ = some (.int .i64 l.lap) ∧ W.cell? ⟨sp, 5, none⟩ = some p.ords ∧
    W.cell? ⟨sp, 6, none⟩ = some (.map (some mk)) ∧ W.cell? ⟨sp, 7, none⟩ = some (.map (some ml)) ∧ W.cell? ⟨sp, 8, none⟩ = some sv := by
  unfold shopO at h
  refine ⟨?_, ?_, ?_, ?_, ?_, ?_, ?_, ?_, ?_⟩ <;> (rw [cell_of_row _ _ _ _ _ _ h]; rfl)
theorem lisBlock_any (l : LotD) (p : PartsL) (mk ml sp : Nat) (sv : Value) (n : Int) (w : World) (h : w.heap[sp]? = some (shopO l p mk ml sv)) (Rd : Nat → Prop) (hb : BlocksAt w p.blks l.blocks Rd) (h9 : l.blocks.length ≤ 1000) :
    Calls Try.prog 73 #[.pointer (some ⟨sp, 0, none⟩), .int .i64 n] w fun e w' => e = .returned (.bool (inN n 0 ((l.blocks.length : Int) - 1))) ∧ w = w' := by
  obtain ⟨_, _, c2, _⟩ := shop_cells h
  obtain ⟨ao, cap, hv, _⟩ := hb
  rw [hv] at c2
  obtain ⟨nb, hnb⟩ : ∃ k, k = l.blocks.length := ⟨_, rfl⟩
  rw [← hnb] at c2 h9 ⊢
  clear h hv hnb
  go_enter Try.func73, Try.ntmps73
  go_wp2_with fail
  refine (lwithin_any n 0 ((nb : Int) - 1) _).mono ?_
  rintro e w1 ⟨rfl, rfl⟩
  dsimp only
  go_wp2_with fail
  go_ret
  exact ⟨rfl, rfl⟩
theorem lisGrade_any (l : LotD) (p : PartsL) (mk ml sp : Nat) (sv : Value) (n : Int) (w : World) (h : w.heap[sp]? = some (shopO l p mk ml sv)) (Rd : Nat → Prop) (hb : SpansAt w p.lims l.lim Rd) (h9 : l.lim.length ≤ 1000) :
    Calls Try.prog 77 #[.pointer (some ⟨sp, 0, none⟩), .int .i64 n] w fun e w' => e = .returned (.bool (inN n 0 ((l.lim.length : Int) - 1))) ∧ w = w' := by
  obtain ⟨c2, _⟩ := shop_cells h
  obtain ⟨ao, cap, hv, _⟩ := hb
  rw [hv] at c2
  obtain ⟨nb, hnb⟩ : ∃ k, k = l.lim.length := ⟨_, rfl⟩
  rw [← hnb] at c2 h9 ⊢
  clear h hv hnb
  go_enter Try.func77, Try.ntmps77
  go_wp2_with fail
  refine (lwithin_any n 0 ((nb : Int) - 1) _).mono ?_
  rintro e w1 ⟨rfl, rfl⟩
  dsimp only
  go_wp2_with fail
  go_ret
  exact ⟨rfl, rfl⟩
theorem lone1_any (l : LotD) (p : PartsL) (mk ml sp b1 : Nat) (sv : Value) (n : Int) (w : World) (h : w.heap[sp]? = some (shopO l p mk ml sv)) (Rd : Nat → Prop) (hb : BlocksAt w p.blks l.blocks Rd) (h9 : l.blocks.length ≤ 1000) (hb1 : w.heap[b1]? = some (.cells #[.int .i64 n] 3 (0, 0))) :
    Calls Try.prog 72 #[.pointer (some ⟨sp, 0, none⟩), .pointer (some ⟨b1, 0, none⟩)] w fun e w' => e = .returned (.bool (inN n 0 ((l.blocks.length : Int) - 1))) ∧ w = w' := by
  have c0 : w.cell? ⟨b1, 0, none⟩ = some (.int .i64 n) := by rw [cell_of_row _ _ _ _ _ _ hb1]; rfl
  have H := Lib.hid h
  have HB := Lib.hid hb
  clear h hb hb1
  go_enter Try.func72, Try.ntmps72
  go_wp2_with fail
  refine (lisBlock_any l p mk ml sp sv n w H.out Rd HB.out h9).mono ?_
  rintro e w1 ⟨rfl, rfl⟩
  dsimp only
  go_wp2_with fail
  go_ret
  exact ⟨rfl, rfl⟩
theorem zeroGrade : (Try.prog.info? 53).map (fun i => (i.zero, i.size)) = some (some (.agg #[.slice none 0 0, .int .i64 0, .int .i64 0, .int .i64 0, .int .i64 0, .int .i64 0, .int .i64 0, .int .i64 0, .int .i64 0, .int .i64 0, .int .i64 0, .int .i64 0]), 12) := by kernel_rfl
set_option maxRecDepth 100000 in
set_option maxHeartbeats 4000000 in
theorem lgrade_any (l : LotD) (p : PartsL) (mk ml sp : Nat) (sv : Value) (b : Nat) (hb : b < l.blocks.length) (w : World) (h : w.heap[sp]? = some (shopO l p mk ml sv)) (Rd : Nat → Prop) (hL : LotAt l p Rd w) (h9 : l.blocks.length ≤ 1000) :
    Calls Try.prog 74 #[.pointer (some ⟨sp, 0, none⟩), .int .i64 (b : Int)] w fun e w' => e = .returned (gradeV p.lims (l.blocks.getD b []) l.step) ∧ Below w.heap.size w w' := by
  obtain ⟨c0, c1, c2, _⟩ := shop_cells h
  have hlt := lt_of_block h
  obtain ⟨ao, cap, hv, _, _, hel⟩ := hL.blk
  obtain ⟨h5, bb, off, rfl, _, hbl, hce⟩ := hel b hb
  rw [hv] at c2
  have hgd : l.blocks.getD b [] = l.blocks[b] := by rw [List.getD_eq_getElem?_getD, List.getElem?_eq_getElem hb]; rfl
  rw [hgd]
  obtain ⟨pl, hpl⟩ : ∃ x, x = l.blocks[b] := ⟨_, rfl⟩
  rw [← hpl] at h5 hce ⊢
  obtain ⟨⟨a0, z0⟩, ⟨a1, z1⟩, ⟨a2, z2⟩, ⟨a3, z3⟩, ⟨a4, z4⟩, rfl⟩ := list5' h5
  have k0 : w.cell? ⟨bb, off + b * 10, none⟩ = some (.int .i64 a0) := hce 0 (by decide)
  have k1 : w.cell? ⟨bb, off + b * 10 + 1, none⟩ = some (.int .i64 z0) := hce 1 (by decide)
  have k2 : w.cell? ⟨bb, off + b * 10 + 2, none⟩ = some (.int .i64 a1) := hce 2 (by decide)
  have k3 : w.cell? ⟨bb, off + b * 10 + 3, none⟩ = some (.int .i64 z1) := hce 3 (by decide)
  have k4 : w.cell? ⟨bb, off + b * 10 + 4, none⟩ = some (.int .i64 a2) := hce 4 (by decide)
  have k5 : w.cell? ⟨bb, off + b * 10 + 5, none⟩ = some (.int .i64 z2) := hce 5 (by decide)
  have k6 : w.cell? ⟨bb, off + b * 10 + 6, none⟩ = some (.int .i64 a3) := hce 6 (by decide)
  have k7 : w.cell? ⟨bb, off + b * 10 + 7, none⟩ = some (.int .i64 z3) := hce 7 (by decide)
  have k8 : w.cell? ⟨bb, off + b * 10 + 8, none⟩ = some (.int .i64 a4) := hce 8 (by decide)
  have k9 : w.cell? ⟨bb, off + b * 10 + 9, none⟩ = some (.int .i64 z4) := hce 9 (by decide)
  obtain ⟨nb, hnb⟩ : ∃ k, k = l.blocks.length := ⟨_, rfl⟩
  rw [← hnb] at c2 h9 hb
  obtain ⟨aol, capl, hlv, _⟩ := hL.lim
  obtain ⟨nl, hnl⟩ : ∃ k, k = l.lim.length := ⟨_, rfl⟩
  rw [← hnl] at hlv
  obtain ⟨st, hst⟩ : ∃ k, k = l.step := ⟨_, rfl⟩
  rw [hlv] at c0 ⊢
  rw [← hst] at c1 ⊢
  clear h hv hnb hce hel hgd hpl h5 hL hlv hnl hst
  go_enter Try.func74, Try.ntmps74
  go_upto_region 1 with fail
  have hold : ∀ (a : Addr) (v : Value), w.cell? a = some v → ∀ W1 : World, W1.heap[a.block]? = w.heap[a.block]? → W1.cell? a = some v := fun a v h W1 he => (World.cell?_of_block he).trans h
  obtain ⟨W1, hW1⟩ : ∃ W1, W1 = w.alloc (.cells #[.slice none 0 0, .int .i64 0, .int .i64 0, .int .i64 0, .int .i64 0, .int .i64 0, .int .i64 0, .int .i64 0, .int .i64 0, .int .i64 0, .int .i64 0, .int .i64 0] 53) := ⟨_, rfl⟩
  rw [← hW1]
  have hr1 : W1.heap[w.heap.size]? = some (.cells #[.slice none 0 0, .int .i64 0, .int .i64 0, .int .i64 0, .int .i64 0, .int .i64 0, .int .i64 0, .int .i64 0, .int .i64 0, .int .i64 0, .int .i64 0, .int .i64 0] 53 (0, 0)) := by rw [hW1]; exact heap_alloc_at _ _ _ rfl
  have hb1 : Below w.heap.size w W1 := by rw [hW1]; exact below_allocG _ _
  have hs1 := hb1.block sp hlt
  have hs2 := hb1.block bb hbl
  replace c0 := hold _ _ c0 W1 hs1
  replace c1 := hold _ _ c1 W1 hs1
  replace c2 := hold _ _ c2 W1 hs1
  replace k0 := hold _ _ k0 W1 hs2
  replace k1 := hold _ _ k1 W1 hs2
  replace k2 := hold _ _ k2 W1 hs2
  replace k3 := hold _ _ k3 W1 hs2
  replace k4 := hold _ _ k4 W1 hs2
  replace k5 := hold _ _ k5 W1 hs2
  replace k6 := hold _ _ k6 W1 hs2
  replace k7 := hold _ _ k7 W1 hs2
  replace k8 := hold _ _ k8 W1 hs2
  replace k9 := hold _ _ k9 W1 hs2
  have HR := Lib.hid hr1
  have HB := Lib.hid hb1
  clear hold hs1 hs2 hr1 hb1 hW1
  refine region_fix 19 (fun W' => W' = W1.drew) (by kernel_rfl) (by kernel_rfl) rfl ?_
  simp only [List.take_succ_cons, List.take_zero, List.drop_succ_cons, List.drop_zero]
  iterate 19
    refine WF_step ?_ (fun W' hC => ?_) rfl ?_
    rotate_left
    · subst hC
      go_simp
      exact fix_value (P := Try.prog) rfl
    simp only [Act.put, List.setIfInBounds_toArray, List.set_cons_zero, List.set_cons_succ]
  refine WF_nil ?_
  rintro W' rfl
  refine wpList_store_row rfl 53 _ _ rfl w.heap.size #[.slice aol nl capl, .int .i64 a0, .int .i64 z0, .int .i64 a1, .int .i64 z1, .int .i64 a2, .int .i64 z2, .int .i64 a3, .int .i64 z3, .int .i64 a4, .int .i64 z4, .int .i64 st] rfl rfl 53 _ HR.out sizeGrade0 rfl (by simp [Value.oneCell']) ?_
  obtain ⟨cells, hcells⟩ : ∃ c : Array Value, c = #[.slice aol nl capl, .int .i64 a0, .int .i64 z0, .int .i64 a1, .int .i64 z1, .int .i64 a2, .int .i64 z2, .int .i64 a3, .int .i64 z3, .int .i64 a4, .int .i64 z4, .int .i64 st] := ⟨_, rfl⟩
  rw [← hcells]
  obtain ⟨W5, hW5⟩ : ∃ W5, W5 = W1.drew.setRow w.heap.size cells := ⟨_, rfl⟩
  have hr5 : W5.heap[w.heap.size]? = some (.cells cells 53 (0, 0)) := by rw [hW5]; exact setRow_heap _ _ _ _ _ _ (show W1.drew.heap[w.heap.size]? = _ from HR.out)
  have hb5 : Below w.heap.size w W5 := by rw [hW5]; exact below_setRow (HB.out.trans (Below.refl _ _).drew) (Nat.le_refl _) _
  rw [← hW5]
  have HB5 := Lib.hid hb5
  have HR5 := Lib.hid hr5
  clear hW5 hb5 hr5
  go_wp2
  refine bodyPost_ret (v := .agg cells) (results_cell_row (fn := Try.f74) (p := 4) rfl _ _ w.heap.size 53 cells (0, 0) _ rfl HR5.out underGrade rfl (by rw [hcells]; exact sizeGrade0)) rfl ⟨by rw [hcells]; rfl, HB5.out⟩
end Go.Proofs.Ytagjepclobobjaa

/- Package lot: a lot is opened: the end, where each block's grades are asked for. -/
namespace Go.Proofs.Ytagjepclobobjaa
set_option linter.unusedVariables false
set_option linter.unusedSimpArgs false
open Go.RowKit Go.Shelf
attribute [local go_sem] Oper.semAt_some

def encA (k : Int × Int) : Value := pairV k.1 k.2
/-- What is kept of asks is right. -/
def KnownL (m : Nat) (f : Nat → Nat → Bool) (W : World) : Prop := ∃ L clock h, W.heap[m]? = some (mapK encA L clock) ∧ TabK L clock h ∧ ∀ k v, h k = some v → v = .bool (f k.1.toNat k.2.toNat)
theorem KnownL.of {m : Nat} {f : Nat → Nat → Bool} {w W : World} (h : KnownL m f w) (he : W.heap[m]? = w.heap[m]?) : KnownL m f W := by
  obtain ⟨L, clock, g, h1, h2⟩ := h
  exact ⟨L, clock, g, he.trans h1, h2⟩
theorem KnownL.lt {m : Nat} {f : Nat → Nat → Bool} {w : World} (h : KnownL m f w) : m < w.heap.size := by
  obtain ⟨L, clock, g, h1, _⟩ := h
  exact (Array.getElem?_eq_some_iff.1 h1).1
theorem KnownL.empty {m : Nat} {f : Nat → Nat → Bool} {w : World} (h : w.heap[m]? = some (.map #[] 0)) : KnownL m f w := ⟨[], 0, fun _ => none, h, TabK.nil, fun k v h => (by cases h)⟩
def setsInts (l : LotD) (n : Nat) : List Int := (List.range n).map fun b => ((setsL l b : Nat) : Int)
structure ShopS (l : LotD) (p : PartsL) (B sp mk ml : Nat) (sv : Value) (W : World) : Prop where
  obj : W.heap[sp]? = some (shopO l p mk ml sv)
  lot : LotAt l p (fun k => k < B) W
  known : KnownL mk (sureL l) W
  laps : KnownL ml (lapsL l) W
  sets : NumsAt W sv (setsInts l l.blocks.length) (fun k => B ≤ k ∧ k ≠ sp ∧ k ≠ mk ∧ k ≠ ml)
  bs : B ≤ sp
  bk : B ≤ mk
  bl : B ≤ ml
  n1 : sp ≠ mk
  n2 : sp ≠ ml
  n3 : mk ≠ ml
/-- What opening comes to. -/
def LopenR (l : LotD) (p : PartsL) (es : List EntD) (v : Bool) (w : World) (e : Ending) (w' : World) : Prop :=
  Below w.heap.size w w' ∧ ((errL l es v = 0 ∧ ∃ sp mk ml sv, e = .returned (.pointer (some ⟨sp, 0, none⟩)) ∧ ShopS l p w.heap.size sp mk ml sv w') ∨ (errL l es v ≠ 0 ∧ e = .panicked [{ v := lstopV (errL l es v), recovered := false }]))
noncomputable def moreL (n : Nat) : Code := dropC n (Try.f44.body.getD .skip)
theorem validL_parts {l : LotD} (h : validL l = true) : l.blocks.length ≤ 6 ∧ l.orders.length ≤ 4 ∧ (0 ≤ l.lap ∧ l.lap ≤ 50) ∧ l.pays.length = l.lim.length ∧ validG ⟨l.lim, zeroPts, l.step⟩ = true ∧ (∀ q ∈ l.blocks, validG ⟨l.lim, q, l.step⟩ = true) ∧
    (∀ i, i < l.pays.length → 0 ≤ l.pays.getD i 0 ∧ l.pays.getD i 0 ≤ (if i = 0 then 100 else l.pays.getD (i - 1) 0)) ∧ ∀ o ∈ l.orders, 0 ≤ o.1 ∧ o.1 < (l.lim.length : Int) ∧ 1 ≤ o.2 ∧ o.2 ≤ 6 := by
  unfold validL at h
  simp only [Bool.and_eq_true, decide_eq_true_eq, List.all_eq_true, List.mem_range] at h
  obtain ⟨⟨⟨⟨⟨⟨⟨⟨h1, h2⟩, h3⟩, h4⟩, h5⟩, h6⟩, h7⟩, h8⟩, h9⟩ := h
  exact ⟨h1, h2, ⟨h3, h4⟩, h5, h6, h7, h8, h9⟩
theorem valid_gradeL {l : LotD} (h : validL l = true) {b : Nat} (hb : b < l.blocks.length) : validG (gradeL l b) = true := by
  have := (validL_parts h).2.2.2.2.2.1 l.blocks[b] (List.getElem_mem hb)
  unfold gradeL
  rw [List.getD_eq_getElem?_getD, List.getElem?_eq_getElem hb]
  exact this
theorem len5 {l : LotD} {p : PartsL} {Rd : Nat → Prop} {W : World} (h : LotAt l p Rd W) {b : Nat} (hb : b < l.blocks.length) : (gradeL l b).pts.length = 5 := by
  obtain ⟨_, _, _, _, _, h4⟩ := h.blk
  unfold gradeL
  dsimp only
  rw [List.getD_eq_getElem?_getD, List.getElem?_eq_getElem hb]
  exact (h4 b hb).1
theorem grades_of {g : GradeD} (hv : validG g = true) : gradesD g = if truthsG g = [] then (0, 10) else ((gradesG g : Int), 0) := by
  unfold gradesD errG
  rw [hv]
  by_cases h : truthsG g = []
  · simp [h]
  · simp [h]
theorem shop_set {l : LotD} {p : PartsL} {mk ml sp : Nat} {sv sv' : Value} {W : World} (h : W.heap[sp]? = some (shopO l p mk ml sv)) : (W.setCell ⟨sp, 8, none⟩ sv').heap[sp]? = some (shopO l p mk ml sv') := by
  unfold shopO lotC at h ⊢
  simp [World.setCell, Array.getElem?_modify, h]
set_option maxRecDepth 100000 in
set_option maxHeartbeats 8000000 in
theorem lopen_e (l : LotD) (p : PartsL) (es : List EntD) (v : Bool) (w w1 : World) (bx sp mk ml : Nat) (hv : validL l = true) (hes : es.length ≤ 8) (hok : (v && es.all (fun x => isBlockL l x.1 && isGradeL l x.2.1)) = true) (hlot : LotAt l p (fun k => k < w.heap.size) w) (hb : Below w.heap.size w w1)
    (hbx : w1.heap[bx]? = some (lotO l p)) (hsp : w1.heap[sp]? = some (shopO l p mk ml (.slice none 0 0))) (hmk : w1.heap[mk]? = some (.map #[] 0)) (hml : w1.heap[ml]? = some (.map #[] 0)) (hge : w.heap.size ≤ bx ∧ w.heap.size ≤ sp ∧ w.heap.size ≤ mk ∧ w.heap.size ≤ ml) (hne : mk ≠ ml)
    (u0 u1 u2 u4 u5 u6 u8 u9 u10 u11 u12 u13 u14 u15 u16 u17 u18 u19 u20 u21 u22 u23 u24 u25 u26 u27 u28 u29 u30 u31 u32 u33 u34 u35 u36 u37 u38 u39 u40 u41 u42 u43 u44 u45 u46 u47 u48 u49 u50 u51 u52 u53 u54 u55 u56 u57 u58 u59 u60 u61 u62 u63 u64 u65 u66 u67 u68 u69 u70 u71 u72 u73 u74 u75 u76 u77 u78 u79 u80 u81 u82 u83 u84 u85 u86 u87 u88 u89 u90 u91 u92 u93 u94 u95 u96 u97 u98 u99 u100 u101 u102 u103 u104 u105 u106 u107 u108 u109 u110 u111 u112 u113 u114 u115 u116 u117 u118 u119 u120 u121 u122 u123 u124 u125 u126 u127 u128 u129 u130 u131 u132 u133 u134 u135 u136 u137 u138 u139 u140 u141 u142 u143 u144 u145 u146 u147 u148 u149 u150 u151 u152 u153 u154 u155 u156 u157 u158 u159 u160 u161 u162 u163 u164 u165 u166 u167 u168 u169 u170 u171 : Value) :
    Code.wp Try.prog (moreL 13) (bodyPost Try.prog Try.f44 (LopenR l p es v w)) ⟨#[u0, u1, u2, .pointer (some ⟨bx, 0, none⟩), u4, u5, u6, .pointer (some ⟨sp, 0, none⟩), u8, u9, u10, u11, u12, u13, u14, u15, u16, u17, u18, u19, u20, u21, u22, u23, u24, u25, u26, u27, u28, u29, u30, u31, u32, u33, u34, u35, u36, u37, u38, u39, u40, u41, u42, u43, u44, u45, u46, u47, u48, u49, u50, u51, u52, u53, u54, u55, u56, u57, u58, u59, u60, u61, u62, u63, u64, u65, u66, u67, u68, u69, u70, u71, u72, u73, u74, u75, u76, u77, u78, u79, u80, u81, u82, u83, u84, u85, u86, u87, u88, u89, u90, u91, u92, u93, u94, u95, u96, u97, u98, u99, u100, u101, u102, u103, u104, u105, u106, u107, u108, u109, u110, u111, u112, u113, u114, u115, u116, u117, u118, u119, u120, u121, u122, u123, u124, u125, u126, u127, u128, u129, u130, u131, u132, u133, u134, u135, u136, u137, u138, u139, u140, u141, u142, u143, u144, u145, u146, u147, u148, u149, u150, u151, u152, u153, u154, u155, u156, u157, u158, u159, u160, u161, u162, u163, u164, u165, u166, u167, u168, u169, u170, u171], []⟩ w1 := by
  conv => arg 2; whnf
  have herr : ∀ c, clashL l = c → errL l es v = if c then 10 else 0 := fun c hc => by unfold errL; rw [hv, if_pos rfl, if_pos hes, hok, hc]; rfl
  have hbl6 := (validL_parts hv).1
  have hbox : w1.cell? ⟨bx, 2, none⟩ = some p.blks := by rw [cell_of_row _ _ _ _ _ _ hbx]; rfl
  obtain ⟨ab, cb, hblk, _⟩ := id hlot.blk
  obtain ⟨nb, hnb⟩ : ∃ n, n = l.blocks.length := ⟨_, rfl⟩
  rw [← hnb] at hblk hbl6
  rw [hblk] at hbox
  have HSP := Lib.hid hsp
  have HMK := Lib.hid hmk
  have HML := Lib.hid hml
  have HB := Lib.hid hb
  have HLOT := Lib.hid hlot
  have HV := Lib.hid hv
  have HERR := Lib.hid herr
  have HNB := Lib.hid hnb
  have hslt := lt_of_block hsp
  have hmklt := (Array.getElem?_eq_some_iff.1 hmk).1
  have hmllt := (Array.getElem?_eq_some_iff.1 hml).1
  have hn1 : sp ≠ mk := by rintro rfl; rw [hsp] at hmk; cases hmk
  have hn2 : sp ≠ ml := by rintro rfl; rw [hsp] at hml; cases hml
  have hsz1 := hb.size
  clear hsp hmk hml hb hlot hv herr hnb hblk hbx hes hok
  go_wp2_with fail
  clear hbox
  go_loopw [146] (fun iv wr => ∃ i : Nat, i ≤ nb ∧ iv = .int .i64 i ∧ (∀ j, j < i → truthsG (gradeL l j) ≠ []) ∧ ∃ sv, wr.heap[sp]? = some (shopO l p mk ml sv) ∧ wr.ownsRow w1.heap.size 3 1 sv i ((setsInts l i).map (Value.int .i64)) ∧ Keeps (fun k => k = sp) w1 wr) (fun iv _ => nb - (intOf iv).toNat)
  case atStart => exact ⟨0, Nat.zero_le _, rfl, fun j hj => absurd hj (by omega), _, HSP.out, World.ownsRow_nil _ _ _ _, Keeps.refl _ _⟩
  case round =>
    obtain ⟨i, hi, rfl, htr, sv, hrow, hown, hk⟩ := hrel
    have HTR := Lib.hid htr
    have HROW := Lib.hid hrow
    have HOWN := Lib.hid hown
    have HK := Lib.hid hk
    have HBr := Lib.hid (HB.out.trans (hk.below (B := w.heap.size) HB.out.size (fun k h e => by omega)))
    have hszr := hk.size
    clear htr hrow hown hk
    by_cases hlt : i < nb
    · have hw : IntKind.i64.wrap ((i : Int) + 1) = ((i + 1 : Nat) : Int) := by rw [IntWalk.i64_in _ (by omega)]; omega
      have hlti : (i : Int) < (nb : Int) := by omega
      go_wp2_with fail
      have hlotr := HLOT.out.later HBr.out.size (fun k h1 h2 => HBr.out.block k h2)
      have hib : i < l.blocks.length := by rw [← HNB.out]; exact hlt
      have hcg := lgrade_any l p mk ml sp sv i hib wr HROW.out _ hlotr (by rw [← HNB.out]; omega)
      obtain ⟨q, hq⟩ : ∃ q, q = l.blocks.getD i [] := ⟨_, rfl⟩
      rw [← hq] at hcg
      have HGQ := Lib.hid (show gradeL l i = ⟨l.lim, q, l.step⟩ by unfold gradeL; rw [hq])
      clear hq
      refine hcg.mono ?_
      rintro e w2 ⟨rfl, hb2⟩
      clear hcg
      dsimp only
      have HB2 := Lib.hid hb2
      have hlot2 := hlotr.later hb2.size (fun k h1 h2 => hb2.block k h1)
      have HLOT2 := Lib.hid hlot2
      have HL5 := Lib.hid (len5 hlotr hib)
      clear hb2 hlotr hlot2
      go_wp2_with fail
      have hgc := gGrades_any (gradeL l i) HL5.out p.lims w2 HLOT2.out.lim.low (by have := lim4 (valid_gradeL HV.out hib); have : (gradeL l i).lim = l.lim := rfl; omega)
      rw [show (gradeL l i).pts = q by rw [HGQ.out], show (gradeL l i).step = l.step from rfl] at hgc
      refine hgc.mono ?_
      clear hgc
      rintro e w3 ⟨rfl, hb3⟩
      have hgd := grades_of (valid_gradeL HV.out hib)
      have hb23 : Below wr.heap.size wr w3 := HB2.out.trans (hb3.mono HB2.out.size)
      have HB3 := Lib.hid hb23
      clear hb3 hb23
      by_cases ht : truthsG (gradeL l i) = []
      · rw [if_pos ht] at hgd
        rw [hgd]
        have hcl : clashL l = true := by
          unfold clashL
          rw [List.any_eq_true]
          exact ⟨i, List.mem_range.2 hib, by rw [ht]; rfl⟩
        have HE := Lib.hid (HERR.out true hcl)
        clear hgd hcl ht
        dsimp only
        go_wp2_with fail
        refine (lmust_no 10 w3).mono ?_
        rintro e w' ⟨rfl, rfl⟩
        exact ⟨rfl, HBr.out.trans (HB3.out.mono HBr.out.size), .inr ⟨by rw [HE.out]; decide, by rw [HE.out]; rfl⟩⟩
      · rw [if_neg ht] at hgd
        rw [hgd]
        have HT := Lib.hid ht
        clear hgd ht
        obtain ⟨gs, hgs⟩ : ∃ n : Nat, n = gradesG (gradeL l i) := ⟨_, rfl⟩
        rw [← hgs]
        have HGS := Lib.hid hgs
        clear hgs
        dsimp only
        go_wp2_with fail
        refine (lmust_ok 0 w3).mono ?_
        rintro e w' ⟨rfl, rfl⟩
        dsimp only
        have hrow3 := (HB3.out.block sp (by omega)).trans HROW.out
        have hown3 : w3.ownsRow w1.heap.size 3 1 sv i ((setsInts l i).map (Value.int .i64)) := own_block HOWN.out (fun k e => HB3.out.block k (HOWN.out.lt k e).2)
        obtain ⟨_, _, _, _, _, _, _, _, c8⟩ := shop_cells hrow3
        have HROW3 := Lib.hid hrow3
        have HOWN3 := Lib.hid hown3
        have hsz3 := HB3.out.size
        clear hrow3 hown3
        go_wp2_with (first | (refine wpList_append_here rfl (.tmp 164) (.tmp 166) 29 rfl w1.heap.size 3 1 8 _ underInts infoInt rfl (by decide) sv i _ rfl (own_block HOWN3.out (fun k e => Below.heap_alloc _ _ _ (HOWN3.out.lt k e).2)) w3.heap.size 1 #[.int .i64 (gs : Int)] 3 (0, 0) rfl (heap_alloc_at _ _ _ (by simp)) rfl (by simp [Value.oneCell']) (by omega) (by decide) (by simp <;> omega) ?_))
        intro v1 W6 hown6 hg6 hat6
        have hk6 := keeps_grown hg6
        have hs6 : w3.heap.size + 1 ≤ W6.heap.size := by have := hk6.size; simp at this; omega
        have hob : ∀ k, sv.ownBlock = some k → w1.heap.size ≤ k ∧ k < w3.heap.size := fun k e => ⟨(HOWN3.out.lt k e).1, (HOWN3.out.lt k e).2⟩
        have hrow6 : W6.heap[sp]? = some (shopO l p mk ml sv) := (hk6.block sp (by simp; omega) (fun e => by have := hob _ e; omega)).trans ((hget_old _ _ _ (by omega)).trans HROW3.out)
        obtain ⟨_, _, _, _, _, _, _, _, c86⟩ := shop_cells hrow6
        have f86 : W6.frozen? ⟨sp, 8, none⟩ = false := frozen_of_row _ _ _ _ _ hrow6
        have hkw : Keeps (fun k => k = sp) w1 W6 := HK.out.transNew ((Keeps.of_below (Mut := fun k => w1.heap.size ≤ k) HB3.out (fun k h1 h2 => absurd h2 (by omega))).trans ((Keeps.alloc _ _ _).trans (hk6.mono fun k _ e => (hob k e).1))) (fun i h => h)
        obtain ⟨av, ac, nv, rfl⟩ : ∃ a n c, v1 = .slice a n c := by
          rcases hown6.2 with ⟨h2, _⟩ | ⟨g, cap, cur, h2, _⟩ <;> exact ⟨_, _, _, h2⟩
        have HROW6 := Lib.hid hrow6
        have HOWN6 := Lib.hid hown6
        have HKW := Lib.hid hkw
        clear hk6 hrow6 hkw hown6 hg6 hat6 hob c8
        go_wp2
        go_roundw
        case measure => simp [intOf]; omega
        refine ⟨i + 1, by omega, rfl, fun j hj => ?_, _, shop_set HROW6.out, ?_, HKW.out.trans (Keeps.setCell _ _ _ rfl)⟩
        · rcases Nat.lt_succ_iff_lt_or_eq.1 hj with h | h
          · exact HTR.out j h
          · rw [h]; exact HT.out
        · have this : (W6.setCell ⟨sp, 8, none⟩ (.slice av ac nv)).ownsRow _ _ _ _ _ _ := own_block HOWN6.out (fun k e => Below.heap_setCell _ _ _ _ (by have := (HOWN6.out.lt k e).1; show k ≠ sp; omega))
          rw [show (setsInts l (i + 1)).map (Value.int .i64) = (setsInts l i).map (Value.int .i64) ++ [.int .i64 (gs : Int)] by unfold setsInts; rw [List.range_succ, List.map_append, List.map_append, HGS.out]; rfl]
          exact this
    · have hin : i = nb := by omega
      have hlti : ¬ (i : Int) < (nb : Int) := by omega
      have hcl : clashL l = false := by
        unfold clashL
        rw [List.any_eq_false]
        intro j hj
        rw [List.mem_range, ← HNB.out, ← hin] at hj
        have := HTR.out j hj
        cases h : truthsG (gradeL l j) with
        | nil => exact absurd h this
        | cons => simp
      have HE := Lib.hid (HERR.out false hcl)
      have HKK := Lib.hid (show Hid (i = l.blocks.length) from Lib.hid (hin.trans HNB.out))
      clear hcl hin
      go_wp2
      refine bodyPost_ret (v := .pointer (some ⟨sp, 0, none⟩)) (by simp [results, Try.results44, go_sem]) rfl ⟨HBr.out, .inl ⟨HE.out, sp, mk, ml, sv, rfl, ?_⟩⟩
      refine ⟨HROW.out, HLOT.out.later HBr.out.size (fun k h1 h2 => HBr.out.block k h2), (KnownL.empty HMK.out).of (HK.out.block mk hmklt (fun e => hn1 e.symm)), (KnownL.empty HML.out).of (HK.out.block ml hmllt (fun e => hn2 e.symm)), ?_, hge.2.1, hge.2.2.1, hge.2.2.2, hn1, hn2, hne⟩
      have := nums_of_own (l := setsInts l i) (by simp [setsInts]) HOWN.out
      rw [← HKK.out.out]
      exact this.mono fun k h => ⟨by omega, by omega, by omega, by omega⟩
end Go.Proofs.Ytagjepclobobjaa

/- Package lot: a lot is opened: entries, and what else is asked. -/
namespace Go.Proofs.Ytagjepclobobjaa
set_option linter.unusedVariables false
set_option linter.unusedSimpArgs false
open Go.RowKit Go.Shelf
attribute [local go_sem] Oper.semAt_some

theorem inB_block (l : LotD) (n : Int) : inN n 0 ((l.blocks.length : Int) - 1) = isBlockL l n := by
  unfold inN isBlockL
  congr 1
  apply propext
  omega
theorem inB_grade (l : LotD) (n : Int) : inN n 0 ((l.lim.length : Int) - 1) = isGradeL l n := by
  unfold inN isGradeL
  congr 1
  apply propext
  omega
def fitsE (l : LotD) (x : EntD) : Bool := isBlockL l x.1 && isGradeL l x.2.1
theorem fits_snoc (l : LotD) (es : List EntD) (v : Bool) (i : Nat) (h : i < es.length) : (v && (es.take (i + 1)).all (fitsE l)) = ((v && (es.take i).all (fitsE l)) && fitsE l es[i]) := by
  rw [List.take_succ_eq_append_getElem h, List.all_append]
  simp [Bool.and_assoc]
set_option maxRecDepth 100000 in
set_option maxHeartbeats 8000000 in
theorem lopen_d (l : LotD) (p : PartsL) (es : List EntD) (ev : Value) (v : Bool) (f : Nat) (caps : Array Value) (w w1 : World) (bx sp mk ml : Nat) (hv : validL l = true) (hlot : LotAt l p (fun k => k < w.heap.size) w) (hents : EntsAt w ev es (fun k => k < w.heap.size)) (hes9 : es.length ≤ 1000)
    (eg : ∀ args w, (callFunc f args).run Try.prog w = .ok (.enter f args) w)
    (hf : ∀ sp mk ml sv W, Below w.heap.size w W → W.heap[sp]? = some (shopO l p mk ml sv) → Calls Try.prog f (#[.pointer (some ⟨sp, 0, none⟩)] ++ caps) W fun e W' => e = .returned (.bool v) ∧ Below W.heap.size W W')
    (hb : Below w.heap.size w w1)
    (hbx : w1.heap[bx]? = some (lotO l p)) (hsp : w1.heap[sp]? = some (shopO l p mk ml (.slice none 0 0))) (hmk : w1.heap[mk]? = some (.map #[] 0)) (hml : w1.heap[ml]? = some (.map #[] 0)) (hge : w.heap.size ≤ bx ∧ w.heap.size ≤ sp ∧ w.heap.size ≤ mk ∧ w.heap.size ≤ ml) (hne : mk ≠ ml)
    (u0 u4 u5 u6 u8 u9 u10 u11 u12 u13 u14 u15 u16 u17 u18 u19 u20 u21 u22 u23 u24 u25 u26 u27 u28 u29 u30 u31 u32 u33 u34 u35 u36 u37 u38 u39 u40 u41 u42 u43 u44 u45 u46 u47 u48 u49 u50 u51 u52 u53 u54 u55 u56 u57 u58 u59 u60 u61 u62 u63 u64 u65 u66 u67 u68 u69 u70 u71 u72 u73 u74 u75 u76 u77 u78 u79 u80 u81 u82 u83 u84 u85 u86 u87 u88 u89 u90 u91 u92 u93 u94 u95 u96 u97 u98 u99 u100 u101 u102 u103 u104 u105 u106 u107 u108 u109 u110 u111 u112 u113 u114 u115 u116 u117 u118 u119 u120 u121 u122 u123 u124 u125 u126 u127 u128 u129 u130 u131 u132 u133 u134 u135 u136 u137 u138 u139 u140 u141 u142 u143 u144 u145 u146 u147 u148 u149 u150 u151 u152 u153 u154 u155 u156 u157 u158 u159 u160 u161 u162 u163 u164 u165 u166 u167 u168 u169 u170 u171 : Value) :
    Code.wp Try.prog (moreL 9) (bodyPost Try.prog Try.f44 (LopenR l p es v w)) ⟨#[u0, ev, .func (.func f) #[] caps, .pointer (some ⟨bx, 0, none⟩), u4, u5, u6, .pointer (some ⟨sp, 0, none⟩), u8, u9, u10, u11, u12, u13, u14, u15, u16, u17, u18, u19, u20, u21, u22, u23, u24, u25, u26, u27, u28, u29, u30, u31, u32, u33, u34, u35, u36, u37, u38, u39, u40, u41, u42, u43, u44, u45, u46, u47, u48, u49, u50, u51, u52, u53, u54, u55, u56, u57, u58, u59, u60, u61, u62, u63, u64, u65, u66, u67, u68, u69, u70, u71, u72, u73, u74, u75, u76, u77, u78, u79, u80, u81, u82, u83, u84, u85, u86, u87, u88, u89, u90, u91, u92, u93, u94, u95, u96, u97, u98, u99, u100, u101, u102, u103, u104, u105, u106, u107, u108, u109, u110, u111, u112, u113, u114, u115, u116, u117, u118, u119, u120, u121, u122, u123, u124, u125, u126, u127, u128, u129, u130, u131, u132, u133, u134, u135, u136, u137, u138, u139, u140, u141, u142, u143, u144, u145, u146, u147, u148, u149, u150, u151, u152, u153, u154, u155, u156, u157, u158, u159, u160, u161, u162, u163, u164, u165, u166, u167, u168, u169, u170, u171], []⟩ w1 := by
  conv => arg 2; whnf
  refine wp_cutC 4 (t := moreL 13) (by kernel_rfl) ?_
  simp only [cutC]
  have hbl6 := (validL_parts hv).1
  have hlim4 : l.lim.length ≤ 4 := lim4 (g := ⟨l.lim, zeroPts, l.step⟩) (validL_parts hv).2.2.2.2.1
  obtain ⟨ae, ce, rfl, _, _, hel⟩ := id hents
  obtain ⟨ne, hnen⟩ : ∃ n, n = es.length := ⟨_, rfl⟩
  rw [← hnen] at hes9 ⊢
  have HV := Lib.hid hv
  have HLOT := Lib.hid hlot
  have HEL := Lib.hid hel
  have HF := Lib.hid hf
  have HB := Lib.hid hb
  have HBX := Lib.hid hbx
  have HSP := Lib.hid hsp
  have HMK := Lib.hid hmk
  have HML := Lib.hid hml
  have HNE := Lib.hid hnen
  have hslt := lt_of_block hsp
  have hblt := lt_of_block hbx
  have hmklt := (Array.getElem?_eq_some_iff.1 hmk).1
  have hmllt := (Array.getElem?_eq_some_iff.1 hml).1
  clear hv hlot hents hel hf hb hbx hsp hmk hml hnen
  by_cases h8 : ne ≤ 8
  · have h8i : ((ne : Nat) : Int) ≤ 8 := by omega
    go_wp2_with fail
    refine (lmust_ok 3 w1).mono ?_
    rintro e w' ⟨rfl, rfl⟩
    dsimp only
    go_wp2_with fail
    refine (HF.out sp mk ml _ w1 HB.out HSP.out).mono ?_
    rintro e w2 ⟨rfl, hb2⟩
    dsimp only
    have hbw2 : Below w.heap.size w w2 := HB.out.trans (hb2.mono HB.out.size)
    have HBX2 := Lib.hid ((hb2.block _ hblt).trans HBX.out)
    have HSP2 := Lib.hid ((hb2.block _ hslt).trans HSP.out)
    have HMK2 := Lib.hid ((hb2.block _ hmklt).trans HMK.out)
    have HML2 := Lib.hid ((hb2.block _ hmllt).trans HML.out)
    have HB2 := Lib.hid hbw2
    have hsz2 := hb2.size
    clear hb2 hbw2 HF
    go_wp2_with fail
    go_loopw [18, 123] (fun s18 iv wr => ∃ i : Nat, i ≤ ne ∧ iv = .int .i64 i ∧ s18 = .bool (v && (es.take i).all (fitsE l)) ∧ Below w2.heap.size w2 wr) (fun _ iv _ => ne - (intOf iv).toNat)
    case atStart => exact ⟨0, Nat.zero_le _, rfl, by simp, Below.refl _ _⟩
    case round =>
      obtain ⟨i, hi, rfl, rfl, hbr⟩ := hrel
      have HB := Lib.hid hbr
      have hszr := hbr.size
      clear hbr
      by_cases hlt : i < ne
      · have hw : IntKind.i64.wrap ((i : Int) + 1) = ((i + 1 : Nat) : Int) := by rw [IntWalk.i64_in _ (by omega)]; omega
        have hlti : (i : Int) < (ne : Int) := by omega
        have hi0 : 0 ≤ (i : Int) := by omega
        have hbw : Below w.heap.size w wr := HB2.out.trans (HB.out.mono HB2.out.size)
        obtain ⟨eb, off, rfl, hgw, _, d0, d1, d2⟩ := HEL.out i (by rw [← HNE.out]; exact hlt)
        have hsn := fits_snoc l es v i (by rw [← HNE.out]; exact hlt)
        obtain ⟨⟨xb, xg, xp⟩, hx⟩ : ∃ x, x = es[i]'(by rw [← HNE.out]; exact hlt) := ⟨_, rfl⟩
        rw [← hx] at d0 d1 d2 hsn
        replace d0 := (World.cell?_of_block (w := w) (w' := wr) (a := ⟨eb, off + i * 3, none⟩) (hbw.block eb hgw)).trans d0
        replace d1 := (World.cell?_of_block (w := w) (w' := wr) (a := ⟨eb, off + i * 3 + 1, none⟩) (hbw.block eb hgw)).trans d1
        replace d2 := (World.cell?_of_block (w := w) (w' := wr) (a := ⟨eb, off + i * 3 + 2, none⟩) (hbw.block eb hgw)).trans d2
        have HSN := Lib.hid hsn
        have HBW := Lib.hid hbw
        clear hsn hbw hx hgw
        dsimp only at d0 d1 d2
        go_upto_region 28 with fail
        obtain ⟨W5, hW5⟩ : ∃ W5, W5 = wr.alloc (.cells #[.int .i64 xb, .int .i64 xg, .int .i64 xp] 69) := ⟨_, rfl⟩
        rw [← hW5]
        have hrow5 : W5.heap[wr.heap.size]? = some (.cells #[.int .i64 xb, .int .i64 xg, .int .i64 xp] 69 (0, 0)) := by rw [hW5]; exact heap_alloc_at _ _ _ rfl
        have hb5 : Below w2.heap.size w2 W5 := by rw [hW5]; exact HB.out.alloc HB.out.size _
        have hbw5 : Below w.heap.size w W5 := HB2.out.trans (hb5.mono HB2.out.size)
        have e0 : W5.cell? ⟨wr.heap.size, 0, none⟩ = some (.int .i64 xb) := by rw [cell_of_row _ _ _ _ _ _ hrow5]; rfl
        have e1 : W5.cell? ⟨wr.heap.size, 1, none⟩ = some (.int .i64 xg) := by rw [cell_of_row _ _ _ _ _ _ hrow5]; rfl
        have e2 : W5.cell? ⟨wr.heap.size, 2, none⟩ = some (.int .i64 xp) := by rw [cell_of_row _ _ _ _ _ _ hrow5]; rfl
        have HB5 := Lib.hid hb5
        have HSP5 := Lib.hid ((hb5.block sp (by omega)).trans HSP2.out)
        have HLT5 := Lib.hid (HLOT.out.later hbw5.size (fun k h1 h2 => hbw5.block k h2))
        clear hrow5 hb5 hbw5 hW5 d0 d1 d2
        obtain ⟨ok, hok⟩ : ∃ b, b = (v && (es.take i).all (fitsE l)) := ⟨_, rfl⟩
        rw [← hok]
        have HOK := Lib.hid hok
        clear hok
        cases ok with
        | false =>
          go_wp2_with fail
          go_roundw
          case measure => simp [intOf]; omega
          exact ⟨i + 1, by omega, rfl, by rw [HSN.out, ← HOK.out]; unfold fitsE; simp, HB5.out⟩
        | true =>
          go_wp2_with fail
          refine (lisBlock_any l p mk ml sp _ xb W5 HSP5.out _ HLT5.out.blk (by omega)).mono ?_
          rintro e w' ⟨rfl, rfl⟩
          rw [inB_block]
          dsimp only
          cases hbk : isBlockL l xb with
          | false =>
            have HBK := Lib.hid hbk
            clear hbk
            go_wp2_with fail
            go_roundw
            case measure => simp [intOf]; omega
            exact ⟨i + 1, by omega, rfl, by rw [HSN.out, ← HOK.out]; unfold fitsE; rw [HBK.out]; simp, HB5.out⟩
          | true =>
            have HBK := Lib.hid hbk
            clear hbk
            go_wp2_with fail
            refine (lisGrade_any l p mk ml sp _ xg W5 HSP5.out _ HLT5.out.lim (by omega)).mono ?_
            rintro e w' ⟨rfl, rfl⟩
            rw [inB_grade]
            dsimp only
            obtain ⟨gk, hgk⟩ : ∃ b, b = isGradeL l xg := ⟨_, rfl⟩
            rw [← hgk]
            have HGK := Lib.hid hgk
            clear hgk
            go_wp2_with fail
            go_roundw
            case measure => simp [intOf]; omega
            exact ⟨i + 1, by omega, rfl, by rw [HSN.out, ← HOK.out]; unfold fitsE; rw [HBK.out, ← HGK.out]; simp, HB5.out⟩
      · have hin : i = ne := by omega
        have hlti : ¬ (i : Int) < (ne : Int) := by omega
        obtain ⟨ok, hok⟩ : ∃ b, b = (v && (es.take i).all (fitsE l)) := ⟨_, rfl⟩
        rw [← hok]
        have hok2 : (v && es.all (fun x => isBlockL l x.1 && isGradeL l x.2.1)) = ok := by
          rw [hok, hin, HNE.out, List.take_length]; rfl
        have HOK := Lib.hid hok2
        have hbw : Below w.heap.size w wr := HB2.out.trans (HB.out.mono HB2.out.size)
        have HBW := Lib.hid hbw
        clear hok hok2 hbw
        cases ok with
        | false =>
          go_wp2_with fail
          refine (lmust_no 2 wr).mono ?_
          rintro e w' ⟨rfl, rfl⟩
          have he : errL l es v = 2 := by unfold errL; rw [HV.out, if_pos rfl, if_pos (by rw [← HNE.out]; exact h8), HOK.out]; rfl
          exact ⟨rfl, HBW.out, .inr ⟨by rw [he]; decide, by rw [he]⟩⟩
        | true =>
          go_wp2_with fail
          refine (lmust_ok 2 wr).mono ?_
          rintro e w' ⟨rfl, rfl⟩
          dsimp only
          go_wp2_with fail
          exact lopen_e l p es v w wr bx sp mk ml HV.out (by rw [← HNE.out]; exact h8) HOK.out HLOT.out HBW.out ((HB.out.block _ (by omega)).trans HBX2.out) ((HB.out.block _ (by omega)).trans HSP2.out) ((HB.out.block _ (by omega)).trans HMK2.out) ((HB.out.block _ (by omega)).trans HML2.out) hge hne _ _ _ _ _ _ _ _ _ _ _ _ _ _ _ _ _ _ _ _ _ _ _ _ _ _ _ _ _ _ _ _ _ _ _ _ _ _ _ _ _ _ _ _ _ _ _ _ _ _ _ _ _ _ _ _ _ _ _ _ _ _ _ _ _ _ _ _ _ _ _ _ _ _ _ _ _ _ _ _ _ _ _ _ _ _ _ _ _ _ _ _ _ _ _ _ _ _ _ _ _ _ _ _ _ _ _ _ _ _ _ _ _ _ _ _ _ _ _ _ _ _ _ _ _ _ _ _ _ _ _ _ _ _ _ _ _ _ _ _ _ _ _ _ _ _ _ _ _ _ _ _ _ _ _ _ _ _ _ _ _ _ _ _ _ _ _ _ _ _
  · have h8i : ¬ ((ne : Nat) : Int) ≤ 8 := by omega
    go_wp2_with fail
    refine (lmust_no 3 w1).mono ?_
    rintro e w' ⟨rfl, rfl⟩
    have he : errL l es v = 3 := by unfold errL; rw [HV.out, if_pos rfl, if_neg (by rw [← HNE.out]; exact h8)]
    exact ⟨rfl, HB.out, .inr ⟨by rw [he]; decide, by rw [he]⟩⟩
end Go.Proofs.Ytagjepclobobjaa

/- Package lot: a lot is opened: what is paid, and orders. -/
namespace Go.Proofs.Ytagjepclobobjaa
set_option linter.unusedVariables false
set_option linter.unusedSimpArgs false
open Go.RowKit Go.Shelf
attribute [local go_sem] Oper.semAt_some

def PreA (l : LotD) : Prop := l.blocks.length ≤ 6 ∧ l.orders.length ≤ 4 ∧ (0 ≤ l.lap ∧ l.lap ≤ 50) ∧ l.pays.length = l.lim.length ∧ validG ⟨l.lim, zeroPts, l.step⟩ = true ∧ (∀ q ∈ l.blocks, validG ⟨l.lim, q, l.step⟩ = true)
def payOk (l : LotD) (i : Nat) : Prop := 0 ≤ l.pays.getD i 0 ∧ l.pays.getD i 0 ≤ (if i = 0 then 100 else l.pays.getD (i - 1) 0)
def ordOk (l : LotD) (o : Int × Int) : Prop := 0 ≤ o.1 ∧ o.1 < (l.lim.length : Int) ∧ 1 ≤ o.2 ∧ o.2 ≤ 6
theorem validL_iff (l : LotD) : validL l = true ↔ PreA l ∧ (∀ i, i < l.pays.length → payOk l i) ∧ ∀ o ∈ l.orders, ordOk l o := by
  constructor
  · intro h
    obtain ⟨h1, h2, h3, h4, h5, h6, h7, h8⟩ := validL_parts h
    exact ⟨⟨h1, h2, h3, h4, h5, h6⟩, h7, h8⟩
  · rintro ⟨⟨h1, h2, h3, h4, h5, h6⟩, h7, h8⟩
    unfold validL
    simp only [Bool.and_eq_true, decide_eq_true_eq, List.all_eq_true, List.mem_range]
    exact ⟨⟨⟨⟨⟨⟨⟨⟨h1, h2⟩, h3.1⟩, h3.2⟩, h4⟩, h5⟩, h6⟩, h7⟩, h8⟩
theorem err_invalid {l : LotD} (h : validL l = false) (es : List EntD) (v : Bool) : errL l es v = 1 := by unfold errL; rw [h]; rfl
set_option maxRecDepth 100000 in
set_option maxHeartbeats 8000000 in
theorem lopen_c (l : LotD) (p : PartsL) (es : List EntD) (ev : Value) (v : Bool) (f : Nat) (caps : Array Value) (w w1 : World) (bx sp mk ml : Nat) (hpre : PreA l) (hpay : ∀ i, i < l.pays.length → payOk l i) (hlot : LotAt l p (fun k => k < w.heap.size) w) (hents : EntsAt w ev es (fun k => k < w.heap.size)) (hes9 : es.length ≤ 1000)
    (eg : ∀ args w, (callFunc f args).run Try.prog w = .ok (.enter f args) w)
    (hf : ∀ sp mk ml sv W, Below w.heap.size w W → W.heap[sp]? = some (shopO l p mk ml sv) → Calls Try.prog f (#[.pointer (some ⟨sp, 0, none⟩)] ++ caps) W fun e W' => e = .returned (.bool v) ∧ Below W.heap.size W W')
    (hb : Below w.heap.size w w1)
    (hbx : w1.heap[bx]? = some (lotO l p)) (hsp : w1.heap[sp]? = some (shopO l p mk ml (.slice none 0 0))) (hmk : w1.heap[mk]? = some (.map #[] 0)) (hml : w1.heap[ml]? = some (.map #[] 0)) (hge : w.heap.size ≤ bx ∧ w.heap.size ≤ sp ∧ w.heap.size ≤ mk ∧ w.heap.size ≤ ml) (hne : mk ≠ ml)
    (u0 u4 u5 u6 u8 u9 u10 u11 u12 u13 u14 u15 u16 u17 u18 u19 u20 u21 u22 u23 u24 u25 u26 u27 u28 u29 u30 u31 u32 u33 u34 u35 u36 u37 u38 u39 u40 u41 u42 u43 u44 u45 u46 u47 u48 u49 u50 u51 u52 u53 u54 u55 u56 u57 u58 u59 u60 u61 u62 u63 u64 u65 u66 u67 u68 u69 u70 u71 u72 u73 u74 u75 u76 u77 u78 u79 u80 u81 u82 u83 u84 u85 u86 u87 u88 u89 u90 u91 u92 u93 u94 u95 u96 u97 u98 u99 u100 u101 u102 u103 u104 u105 u106 u107 u108 u109 u110 u111 u112 u113 u114 u115 u116 u117 u118 u119 u120 u121 u122 u123 u124 u125 u126 u127 u128 u129 u130 u131 u132 u133 u134 u135 u136 u137 u138 u139 u140 u141 u142 u143 u144 u145 u146 u147 u148 u149 u150 u151 u152 u153 u154 u155 u156 u157 u158 u159 u160 u161 u162 u163 u164 u165 u166 u167 u168 u169 u170 u171 : Value) :
    Code.wp Try.prog (moreL 8) (bodyPost Try.prog Try.f44 (LopenR l p es v w)) ⟨#[u0, ev, .func (.func f) #[] caps, .pointer (some ⟨bx, 0, none⟩), u4, u5, u6, .pointer (some ⟨sp, 0, none⟩), u8, u9, u10, u11, u12, u13, u14, u15, u16, u17, u18, u19, u20, u21, u22, u23, u24, u25, u26, u27, u28, u29, u30, u31, u32, u33, u34, u35, u36, u37, u38, u39, u40, u41, u42, u43, u44, u45, u46, u47, u48, u49, u50, u51, u52, u53, u54, u55, u56, u57, u58, u59, u60, u61, u62, u63, u64, u65, u66, u67, u68, u69, u70, u71, u72, u73, u74, u75, u76, u77, u78, u79, u80, u81, u82, u83, u84, u85, u86, u87, u88, u89, u90, u91, u92, u93, u94, u95, u96, u97, u98, u99, u100, u101, u102, u103, u104, u105, u106, u107, u108, u109, u110, u111, u112, u113, u114, u115, u116, u117, u118, u119, u120, u121, u122, u123, u124, u125, u126, u127, u128, u129, u130, u131, u132, u133, u134, u135, u136, u137, u138, u139, u140, u141, u142, u143, u144, u145, u146, u147, u148, u149, u150, u151, u152, u153, u154, u155, u156, u157, u158, u159, u160, u161, u162, u163, u164, u165, u166, u167, u168, u169, u170, u171], []⟩ w1 := by
  conv => arg 2; whnf
  refine wp_cutC 1 (t := moreL 9) (by kernel_rfl) ?_
  simp only [cutC]
  have hlim4 : l.lim.length ≤ 4 := lim4 (g := ⟨l.lim, zeroPts, l.step⟩) hpre.2.2.2.2.1
  have hord4 := hpre.2.1
  obtain ⟨ae, ce, hvo, _, _, hel⟩ := id hlot.ord
  obtain ⟨ne, hnen⟩ : ∃ n, n = l.orders.length := ⟨_, rfl⟩
  have hbox : w1.cell? ⟨bx, 5, none⟩ = some (.slice ae ne ce) := by rw [cell_of_row _ _ _ _ _ _ hbx, hnen, ← hvo]; rfl
  rw [← hnen] at hord4
  have HPRE := Lib.hid hpre
  have HPAY := Lib.hid hpay
  have HLOT := Lib.hid hlot
  have HEL := Lib.hid hel
  have HENT := Lib.hid hents
  have HF := Lib.hid hf
  have HEG := Lib.hid eg
  have HB := Lib.hid hb
  have HBX := Lib.hid hbx
  have HSP := Lib.hid hsp
  have HMK := Lib.hid hmk
  have HML := Lib.hid hml
  have HNE := Lib.hid hnen
  have hslt := lt_of_block hsp
  have hblt := lt_of_block hbx
  have hmklt := (Array.getElem?_eq_some_iff.1 hmk).1
  have hmllt := (Array.getElem?_eq_some_iff.1 hml).1
  clear hpre hpay hlot hents hel hf eg hb hbx hsp hmk hml hnen hvo
  go_wp2_with fail
  clear hbox
  go_loopw [99] (fun iv wr => ∃ i : Nat, i ≤ ne ∧ iv = .int .i64 i ∧ (∀ j (h : j < l.orders.length), j < i → ordOk l l.orders[j]) ∧ Below w1.heap.size w1 wr) (fun iv _ => ne - (intOf iv).toNat)
  case atStart => exact ⟨0, Nat.zero_le _, rfl, fun j _ hj => absurd hj (by omega), Below.refl _ _⟩
  case round =>
    obtain ⟨i, hi, rfl, hok, hbr⟩ := hrel
    have HOK := Lib.hid hok
    have HBr := Lib.hid hbr
    have hszr := hbr.size
    clear hbr hok
    by_cases hlt : i < ne
    · have hw : IntKind.i64.wrap ((i : Int) + 1) = ((i + 1 : Nat) : Int) := by rw [IntWalk.i64_in _ (by omega)]; omega
      have hlti : (i : Int) < (ne : Int) := by omega
      have hi0 : 0 ≤ (i : Int) := by omega
      have hbw : Below w.heap.size w wr := HB.out.trans (HBr.out.mono HB.out.size)
      have hil : i < l.orders.length := by rw [← HNE.out]; exact hlt
      obtain ⟨eb, off, rfl, hgw, _, d0, d1⟩ := HEL.out i hil
      obtain ⟨⟨xb, xg⟩, hx⟩ : ∃ x, x = l.orders[i] := ⟨_, rfl⟩
      rw [← hx] at d0 d1
      replace d0 := (World.cell?_of_block (w := w) (w' := wr) (a := ⟨eb, off + i * 2, none⟩) (hbw.block eb hgw)).trans d0
      replace d1 := (World.cell?_of_block (w := w) (w' := wr) (a := ⟨eb, off + i * 2 + 1, none⟩) (hbw.block eb hgw)).trans d1
      have HX := Lib.hid hx
      clear hbw hx hgw
      dsimp only at d0 d1
      go_upto_region 21 with fail
      obtain ⟨W5, hW5⟩ : ∃ W5, W5 = wr.alloc (.cells #[.int .i64 xb, .int .i64 xg] 64) := ⟨_, rfl⟩
      rw [← hW5]
      have hrow5 : W5.heap[wr.heap.size]? = some (.cells #[.int .i64 xb, .int .i64 xg] 64 (0, 0)) := by rw [hW5]; exact heap_alloc_at _ _ _ rfl
      have hb5 : Below w1.heap.size w1 W5 := by rw [hW5]; exact HBr.out.alloc HBr.out.size _
      have hbw5 : Below w.heap.size w W5 := HB.out.trans (hb5.mono HB.out.size)
      have e0 : W5.cell? ⟨wr.heap.size, 0, none⟩ = some (.int .i64 xb) := by rw [cell_of_row _ _ _ _ _ _ hrow5]; rfl
      have e1 : W5.cell? ⟨wr.heap.size, 1, none⟩ = some (.int .i64 xg) := by rw [cell_of_row _ _ _ _ _ _ hrow5]; rfl
      have HR5 := Lib.hid hb5
      have HB5 := Lib.hid hbw5
      have HSP5 := Lib.hid ((hb5.block sp hslt).trans HSP.out)
      have HLT5 := Lib.hid (HLOT.out.later hbw5.size (fun k h1 h2 => hbw5.block k h2))
      have hinv : ¬ ordOk l (xb, xg) → validL l = false := fun h => by
        rw [Bool.eq_false_iff]
        intro hv
        exact h (by have := ((validL_iff l).1 hv).2.2 l.orders[i] (List.getElem_mem hil); rw [← HX.out] at this; exact this)
      have HINV := Lib.hid hinv
      clear hrow5 hb5 hbw5 hW5 d0 d1 hinv
      go_wp2_with fail
      refine (lisGrade_any l p mk ml sp _ xb W5 HSP5.out _ HLT5.out.lim (by omega)).mono ?_
      rintro e w' ⟨rfl, rfl⟩
      rw [inB_grade]
      dsimp only
      cases hgk : isGradeL l xb with
      | false =>
        have HGK := Lib.hid hgk
        clear hgk
        go_wp2_with fail
        refine (lmust_no 1 W5).mono ?_
        rintro e w' ⟨rfl, rfl⟩
        have he : errL l es v = 1 := err_invalid (HINV.out (fun h => by have := HGK.out; unfold isGradeL at this; rw [decide_eq_false_iff_not] at this; exact this ⟨h.1, h.2.1⟩)) es v
        exact ⟨rfl, HB5.out, .inr ⟨by rw [he]; decide, by rw [he]⟩⟩
      | true =>
        have HGK := Lib.hid hgk
        clear hgk
        go_wp2_with fail
        refine (lwithin_any xg 1 6 W5).mono ?_
        rintro e w' ⟨rfl, rfl⟩
        dsimp only
        cases hmk2 : inN xg 1 6 with
        | false =>
          have HGM := Lib.hid hmk2
          clear hmk2
          go_wp2_with fail
          refine (lmust_no 1 W5).mono ?_
          rintro e w' ⟨rfl, rfl⟩
          have he : errL l es v = 1 := err_invalid (HINV.out (fun h => by have := HGM.out; unfold inN at this; rw [decide_eq_false_iff_not] at this; exact this h.2.2)) es v
          exact ⟨rfl, HB5.out, .inr ⟨by rw [he]; decide, by rw [he]⟩⟩
        | true =>
          have HGM := Lib.hid hmk2
          clear hmk2
          go_wp2_with fail
          refine (lmust_ok 1 W5).mono ?_
          rintro e w' ⟨rfl, rfl⟩
          dsimp only
          go_wp2_with fail
          go_roundw
          case measure => simp [intOf]; omega
          refine ⟨i + 1, by omega, rfl, fun j hj hji => ?_, HR5.out⟩
          rcases Nat.lt_succ_iff_lt_or_eq.1 hji with h | h
          · exact HOK.out j hj h
          · subst h
            rw [← HX.out]
            have a := of_decide_eq_true HGK.out
            have b := of_decide_eq_true HGM.out
            exact ⟨a.1, a.2, b.1, b.2⟩
    · have hin : i = ne := by omega
      have hlti : ¬ (i : Int) < (ne : Int) := by omega
      have hv : validL l = true := (validL_iff l).2 ⟨HPRE.out, HPAY.out, fun o ho => by
        obtain ⟨j, hj, rfl⟩ := List.getElem_of_mem ho
        exact HOK.out j hj (by rw [hin, HNE.out]; exact hj)⟩
      have HV := Lib.hid hv
      clear hv hin
      go_wp2_with fail
      exact lopen_d l p es ev v f caps w wr bx sp mk ml HV.out HLOT.out HENT.out hes9 HEG.out HF.out (HB.out.trans (HBr.out.mono HB.out.size)) ((HBr.out.block _ hblt).trans HBX.out) ((HBr.out.block _ hslt).trans HSP.out) ((HBr.out.block _ hmklt).trans HMK.out) ((HBr.out.block _ hmllt).trans HML.out) hge hne _ _ _ _ _ _ _ _ _ _ _ _ _ _ _ _ _ _ _ _ _ _ _ _ _ _ _ _ _ _ _ _ _ _ _ _ _ _ _ _ _ _ _ _ _ _ _ _ _ _ _ _ _ _ _ _ _ _ _ _ _ _ _ _ _ _ _ _ _ _ _ _ _ _ _ _ _ _ _ _ _ _ _ _ _ _ _ _ _ _ _ _ _ _ _ _ _ _ _ _ _ _ _ _ _ _ _ _ _ _ _ _ _ _ _ _ _ _ _ _ _ _ _ _ _ _ _ _ _ _ _ _ _ _ _ _ _ _ _ _ _ _ _ _ _ _ _ _ _ _ _ _ _ _ _ _ _ _ _ _ _ _ _ _ _ _ _ _
set_option maxRecDepth 100000 in
set_option maxHeartbeats 8000000 in
theorem lopen_b (l : LotD) (p : PartsL) (es : List EntD) (ev : Value) (v : Bool) (f : Nat) (caps : Array Value) (w w1 : World) (bx sp mk ml : Nat) (hpre : PreA l) (hlot : LotAt l p (fun k => k < w.heap.size) w) (hents : EntsAt w ev es (fun k => k < w.heap.size)) (hes9 : es.length ≤ 1000)
    (eg : ∀ args w, (callFunc f args).run Try.prog w = .ok (.enter f args) w)
    (hf : ∀ sp mk ml sv W, Below w.heap.size w W → W.heap[sp]? = some (shopO l p mk ml sv) → Calls Try.prog f (#[.pointer (some ⟨sp, 0, none⟩)] ++ caps) W fun e W' => e = .returned (.bool v) ∧ Below W.heap.size W W')
    (hb : Below w.heap.size w w1)
    (hbx : w1.heap[bx]? = some (lotO l p)) (hsp : w1.heap[sp]? = some (shopO l p mk ml (.slice none 0 0))) (hmk : w1.heap[mk]? = some (.map #[] 0)) (hml : w1.heap[ml]? = some (.map #[] 0)) (hge : w.heap.size ≤ bx ∧ w.heap.size ≤ sp ∧ w.heap.size ≤ mk ∧ w.heap.size ≤ ml) (hne : mk ≠ ml)
    (u0 u4 u5 u6 u8 u9 u10 u11 u12 u13 u14 u15 u16 u17 u18 u19 u20 u21 u22 u23 u24 u25 u26 u27 u28 u29 u30 u31 u32 u33 u34 u35 u36 u37 u38 u39 u40 u41 u42 u43 u44 u45 u46 u47 u48 u49 u50 u51 u52 u53 u54 u55 u56 u57 u58 u59 u60 u61 u62 u63 u64 u65 u66 u67 u68 u69 u70 u71 u72 u73 u74 u75 u76 u77 u78 u79 u80 u81 u82 u83 u84 u85 u86 u87 u88 u89 u90 u91 u92 u93 u94 u95 u96 u97 u98 u99 u100 u101 u102 u103 u104 u105 u106 u107 u108 u109 u110 u111 u112 u113 u114 u115 u116 u117 u118 u119 u120 u121 u122 u123 u124 u125 u126 u127 u128 u129 u130 u131 u132 u133 u134 u135 u136 u137 u138 u139 u140 u141 u142 u143 u144 u145 u146 u147 u148 u149 u150 u151 u152 u153 u154 u155 u156 u157 u158 u159 u160 u161 u162 u163 u164 u165 u166 u167 u168 u169 u170 u171 : Value) :
    Code.wp Try.prog (moreL 6) (bodyPost Try.prog Try.f44 (LopenR l p es v w)) ⟨#[u0, ev, .func (.func f) #[] caps, .pointer (some ⟨bx, 0, none⟩), u4, u5, u6, .pointer (some ⟨sp, 0, none⟩), u8, u9, u10, u11, u12, u13, u14, u15, u16, u17, u18, u19, u20, u21, u22, u23, u24, u25, u26, u27, u28, u29, u30, u31, u32, u33, u34, u35, u36, u37, u38, u39, u40, u41, u42, u43, u44, u45, u46, u47, u48, u49, u50, u51, u52, u53, u54, u55, u56, u57, u58, u59, u60, u61, u62, u63, u64, u65, u66, u67, u68, u69, u70, u71, u72, u73, u74, u75, u76, u77, u78, u79, u80, u81, u82, u83, u84, u85, u86, u87, u88, u89, u90, u91, u92, u93, u94, u95, u96, u97, u98, u99, u100, u101, u102, u103, u104, u105, u106, u107, u108, u109, u110, u111, u112, u113, u114, u115, u116, u117, u118, u119, u120, u121, u122, u123, u124, u125, u126, u127, u128, u129, u130, u131, u132, u133, u134, u135, u136, u137, u138, u139, u140, u141, u142, u143, u144, u145, u146, u147, u148, u149, u150, u151, u152, u153, u154, u155, u156, u157, u158, u159, u160, u161, u162, u163, u164, u165, u166, u167, u168, u169, u170, u171], []⟩ w1 := by
  conv => arg 2; whnf
  refine wp_cutC 2 (t := moreL 8) (by kernel_rfl) ?_
  simp only [cutC]
  have hlim4 : l.lim.length ≤ 4 := lim4 (g := ⟨l.lim, zeroPts, l.step⟩) hpre.2.2.2.2.1
  have hpl := hpre.2.2.2.1
  obtain ⟨ae, ce, hvo, _, _, hel⟩ := id hlot.pay
  obtain ⟨ne, hnen⟩ : ∃ n, n = l.pays.length := ⟨_, rfl⟩
  have hbox : w1.cell? ⟨bx, 3, none⟩ = some (.slice ae ne ce) := by rw [cell_of_row _ _ _ _ _ _ hbx, hnen, ← hvo]; rfl
  have hne4 : ne ≤ 4 := by omega
  have HPRE := Lib.hid hpre
  have HEL := Lib.hid hel
  have HB5 := Lib.hid hb
  have HBX := Lib.hid hbx
  have HNE := Lib.hid hnen
  have hblt := lt_of_block hbx
  have HREST := Lib.hid (And.intro hlot (And.intro hents (And.intro eg (And.intro hf (And.intro hsp (And.intro hmk hml))))))
  clear hpre hlot hents hel hf eg hb hbx hsp hmk hml hnen hvo hpl
  go_wp2_with fail
  clear hbox
  go_loopw [13, 86] (fun lv iv wr => ∃ i : Nat, i ≤ ne ∧ iv = .int .i64 i ∧ lv = .int .i64 (if i = 0 then 100 else l.pays.getD (i - 1) 0) ∧ (∀ j, j < i → payOk l j) ∧ wr = w1) (fun _ iv _ => ne - (intOf iv).toNat)
  case atStart => exact ⟨0, Nat.zero_le _, rfl, rfl, fun j hj => absurd hj (by omega), rfl⟩
  case round =>
    obtain ⟨i, hi, rfl, rfl, hok, rfl⟩ := hrel
    have HOK := Lib.hid hok
    clear hok
    by_cases hlt : i < ne
    · have hw : IntKind.i64.wrap ((i : Int) + 1) = ((i + 1 : Nat) : Int) := by rw [IntWalk.i64_in _ (by omega)]; omega
      have hlti : (i : Int) < (ne : Int) := by omega
      have hi0 : 0 ≤ (i : Int) := by omega
      have hil : i < l.pays.length := by rw [← HNE.out]; exact hlt
      obtain ⟨eb, off, rfl, hgw, _, d0⟩ := HEL.out i hil
      obtain ⟨x, hx⟩ : ∃ x, x = l.pays[i] := ⟨_, rfl⟩
      rw [← hx] at d0
      replace d0 := (World.cell?_of_block (w := w) (w' := wr) (a := ⟨eb, off + i, none⟩) (HB5.out.block eb hgw)).trans d0
      have hxg : l.pays.getD i 0 = x := by rw [List.getD_eq_getElem?_getD, List.getElem?_eq_getElem hil, hx]; rfl
      obtain ⟨lst, hlst⟩ : ∃ q : Int, q = if i = 0 then 100 else l.pays.getD (i - 1) 0 := ⟨_, rfl⟩
      rw [← hlst]
      have hinv : ¬ (0 ≤ x ∧ x ≤ lst) → validL l = false := fun h => by
        rw [Bool.eq_false_iff]
        intro hv
        exact h (by have := ((validL_iff l).1 hv).2.1 i hil; unfold payOk at this; rw [hxg, ← hlst] at this; exact this)
      have HINV := Lib.hid hinv
      have HX := Lib.hid hxg
      have HLST := Lib.hid hlst
      clear hx hgw hxg hlst hinv hil
      go_wp2_with fail
      refine (lwithin_any x 0 lst wr).mono ?_
      rintro e w' ⟨rfl, rfl⟩
      dsimp only
      cases hgk : inN x 0 lst with
      | false =>
        have HGK := Lib.hid hgk
        clear hgk
        go_wp2_with fail
        refine (lmust_no 1 wr).mono ?_
        rintro e w' ⟨rfl, rfl⟩
        have he : errL l es v = 1 := err_invalid (HINV.out (fun h => by have := HGK.out; unfold inN at this; rw [decide_eq_false_iff_not] at this; exact this h)) es v
        exact ⟨rfl, HB5.out, .inr ⟨by rw [he]; decide, by rw [he]⟩⟩
      | true =>
        have HGK := Lib.hid hgk
        clear hgk
        go_wp2_with fail
        refine (lmust_ok 1 wr).mono ?_
        rintro e w' ⟨rfl, rfl⟩
        dsimp only
        go_wp2_with fail
        go_roundw
        case measure => simp [intOf]; omega
        refine ⟨i + 1, by omega, rfl, by rw [if_neg (by omega), Nat.add_sub_cancel, HX.out], fun j hji => ?_, trivial⟩
        rcases Nat.lt_succ_iff_lt_or_eq.1 hji with h | h
        · exact HOK.out j h
        · subst h
          have a := of_decide_eq_true HGK.out
          unfold payOk
          rw [HX.out, ← HLST.out]
          exact a
    · have hin : i = ne := by omega
      have hlti : ¬ (i : Int) < (ne : Int) := by omega
      have hpy : ∀ j, j < l.pays.length → payOk l j := fun j hj => HOK.out j (by rw [hin, HNE.out]; exact hj)
      have HPAY := Lib.hid hpy
      clear hpy hin
      obtain ⟨lst, hlst⟩ : ∃ q : Int, q = if i = 0 then 100 else l.pays.getD (i - 1) 0 := ⟨_, rfl⟩
      rw [← hlst]
      clear hlst
      go_wp2_with fail
      obtain ⟨hlot, hents, eg, hf, hsp, hmk, hml⟩ := HREST.out
      exact lopen_c l p es ev v f caps w wr bx sp mk ml HPRE.out HPAY.out hlot hents hes9 eg hf HB5.out HBX.out hsp hmk hml hge hne _ _ _ _ _ _ _ _ _ _ _ _ _ _ _ _ _ _ _ _ _ _ _ _ _ _ _ _ _ _ _ _ _ _ _ _ _ _ _ _ _ _ _ _ _ _ _ _ _ _ _ _ _ _ _ _ _ _ _ _ _ _ _ _ _ _ _ _ _ _ _ _ _ _ _ _ _ _ _ _ _ _ _ _ _ _ _ _ _ _ _ _ _ _ _ _ _ _ _ _ _ _ _ _ _ _ _ _ _ _ _ _ _ _ _ _ _ _ _ _ _ _ _ _ _ _ _ _ _ _ _ _ _ _ _ _ _ _ _ _ _ _ _ _ _ _ _ _ _ _ _ _ _ _ _ _ _ _ _ _ _ _ _ _ _ _ _ _
end Go.Proofs.Ytagjepclobobjaa

/- Package lot: a lot is opened. -/
namespace Go.Proofs.Ytagjepclobobjaa
set_option linter.unusedVariables false
set_option linter.unusedSimpArgs false
open Go.RowKit Go.Shelf
attribute [local go_sem] Oper.semAt_some

set_option maxRecDepth 100000 in
set_option maxHeartbeats 8000000 in
theorem lopen_any (l : LotD) (p : PartsL) (es : List EntD) (ev : Value) (v : Bool) (f : Nat) (caps : Array Value) (w : World) (hlot : LotAt l p (fun k => k < w.heap.size) w) (hents : EntsAt w ev es (fun k => k < w.heap.size)) (hes9 : es.length ≤ 1000)
    (h9 : l.lim.length ≤ 1000 ∧ l.blocks.length ≤ 1000 ∧ l.pays.length ≤ 1000 ∧ l.orders.length ≤ 1000)
    (eg : ∀ args w, (callFunc f args).run Try.prog w = .ok (.enter f args) w)
    (hf : ∀ sp mk ml sv W, Below w.heap.size w W → W.heap[sp]? = some (shopO l p mk ml sv) → Calls Try.prog f (#[.pointer (some ⟨sp, 0, none⟩)] ++ caps) W fun e W' => e = .returned (.bool v) ∧ Below W.heap.size W W') :
    Calls Try.prog 44 #[lotV l p, ev, .func (.func f) #[] caps] w (LopenR l p es v w) := by
  obtain ⟨al, cl, hvl, _⟩ := id hlot.lim
  obtain ⟨ab, cb, hvb, _⟩ := id hlot.blk
  obtain ⟨ap, cp, hvp, _⟩ := id hlot.pay
  obtain ⟨ao, co, hvo, _⟩ := id hlot.ord
  obtain ⟨nl, hnl⟩ : ∃ n, n = l.lim.length := ⟨_, rfl⟩
  obtain ⟨nb, hnb⟩ : ∃ n, n = l.blocks.length := ⟨_, rfl⟩
  obtain ⟨np, hnp⟩ : ∃ n, n = l.pays.length := ⟨_, rfl⟩
  obtain ⟨no, hno⟩ : ∃ n, n = l.orders.length := ⟨_, rfl⟩
  obtain ⟨st, hst⟩ : ∃ n, n = l.step := ⟨_, rfl⟩
  obtain ⟨lp, hlp⟩ : ∃ n, n = l.lap := ⟨_, rfl⟩
  have hrow : lotC l p = [.slice al nl cl, .int .i64 st, .slice ab nb cb, .slice ap np cp, .int .i64 lp, .slice ao no co] := by
    unfold lotC; rw [hvl, hvb, hvp, hvo, hst, hlp, hnl, hnb, hnp, hno]
  have hshop : ∀ mk ml sv, shopO l p mk ml sv = .cells #[.slice al nl cl, .int .i64 st, .slice ab nb cb, .slice ap np cp, .int .i64 lp, .slice ao no co, .map (some mk), .map (some ml), sv] 103 (0, 0) := fun mk ml sv => by unfold shopO; rw [hrow]; rfl
  have HSHOP := Lib.hid hshop
  have HROW := Lib.hid hrow
  have HLOT := Lib.hid hlot
  have HREST := Lib.hid (And.intro hents (And.intro eg hf))
  have HN := Lib.hid (And.intro hnl (And.intro hnb (And.intro hnp (And.intro hno (And.intro hst hlp)))))
  have HVL := Lib.hid hvl
  have hn9 : nl ≤ 1000 ∧ nb ≤ 1000 ∧ np ≤ 1000 ∧ no ≤ 1000 := by rw [hnl, hnb, hnp, hno]; exact h9
  unfold lotV
  rw [hrow]
  clear hrow hshop hlot hents eg hf hnl hnb hnp hno hst hlp hvl hvb hvp hvo h9
  have hmm := @run_makeMap Try.prog
  go_enter Try.func44, Try.ntmps44
  refine wp_cutC 6 (t := moreL 6) (by kernel_rfl) ?_
  simp only [cutC]
  go_upto_region 2 with fail
  obtain ⟨W5, hW5⟩ : ∃ W5, W5 = (((w.alloc (.cells #[.slice al nl cl, .int .i64 st, .slice ab nb cb, .slice ap np cp, .int .i64 lp, .slice ao no co] 32)).alloc (.map #[] 0)).alloc (.map #[] 0)).alloc (.cells #[.slice al nl cl, .int .i64 st, .slice ab nb cb, .slice ap np cp, .int .i64 lp, .slice ao no co, .map (some (w.heap.size + 1)), .map (some (w.heap.size + 1 + 1)), .slice none 0 0] 103) := ⟨_, rfl⟩
  rw [← hW5]
  have hs5 : W5.heap.size = w.heap.size + 4 := by rw [hW5]; simp
  have y0 : W5.heap[w.heap.size]? = some (.cells #[.slice al nl cl, .int .i64 st, .slice ab nb cb, .slice ap np cp, .int .i64 lp, .slice ao no co] 32 (0, 0)) := by rw [hW5]; exact (by repeat (first | (refine heap_alloc_at _ _ _ ?_; (simp <;> omega); done) | (refine (hget_old _ _ _ ?_).trans ?_; · (simp <;> omega))))
  have y1 : W5.heap[w.heap.size + 1]? = some (.map #[] 0) := by rw [hW5]; exact (by repeat (first | (refine heap_alloc_at _ _ _ ?_; (simp <;> omega); done) | (refine (hget_old _ _ _ ?_).trans ?_; · (simp <;> omega))))
  have y2 : W5.heap[w.heap.size + 1 + 1]? = some (.map #[] 0) := by rw [hW5]; exact (by repeat (first | (refine heap_alloc_at _ _ _ ?_; (simp <;> omega); done) | (refine (hget_old _ _ _ ?_).trans ?_; · (simp <;> omega))))
  have y3 : W5.heap[w.heap.size + 1 + 1 + 1]? = some (shopO l p (w.heap.size + 1) (w.heap.size + 1 + 1) (.slice none 0 0)) := by rw [hW5, HSHOP.out]; exact (by repeat (first | (refine heap_alloc_at _ _ _ ?_; (simp <;> omega); done) | (refine (hget_old _ _ _ ?_).trans ?_; · (simp <;> omega))))
  have hb5 : Below w.heap.size w W5 := by rw [hW5]; exact ((((Below.refl _ _).alloc (Nat.le_refl _) _).alloc (by simp <;> omega) _).alloc (by simp <;> omega) _).alloc (by simp <;> omega) _
  have hbx : W5.heap[w.heap.size]? = some (lotO l p) := by rw [y0]; unfold lotO; rw [HROW.out]
  have c0 : W5.cell? ⟨w.heap.size, 0, none⟩ = some (.slice al nl cl) := by rw [cell_of_row _ _ _ _ _ _ y0]; rfl
  have c1 : W5.cell? ⟨w.heap.size, 1, none⟩ = some (.int .i64 st) := by rw [cell_of_row _ _ _ _ _ _ y0]; rfl
  have c2 : W5.cell? ⟨w.heap.size, 2, none⟩ = some (.slice ab nb cb) := by rw [cell_of_row _ _ _ _ _ _ y0]; rfl
  have c3 : W5.cell? ⟨w.heap.size, 3, none⟩ = some (.slice ap np cp) := by rw [cell_of_row _ _ _ _ _ _ y0]; rfl
  have c4 : W5.cell? ⟨w.heap.size, 4, none⟩ = some (.int .i64 lp) := by rw [cell_of_row _ _ _ _ _ _ y0]; rfl
  have c5 : W5.cell? ⟨w.heap.size, 5, none⟩ = some (.slice ao no co) := by rw [cell_of_row _ _ _ _ _ _ y0]; rfl
  have HBX := Lib.hid hbx
  have HMK := Lib.hid y1
  have HML := Lib.hid y2
  have HSP := Lib.hid y3
  have HB5 := Lib.hid hb5
  have HS5 := Lib.hid hs5
  have hpre : (∀ h : validL l = true, nb ≤ 6 ∧ no ≤ 4 ∧ (0 ≤ lp ∧ lp ≤ 50) ∧ np = nl) := fun h => by
    have := validL_parts h
    rw [HN.out.2.1, HN.out.2.2.2.1, HN.out.2.2.2.2.2, HN.out.2.2.1, HN.out.1]
    exact ⟨this.1, this.2.1, this.2.2.1, this.2.2.2.1⟩
  have HINV := Lib.hid (show ¬ (nb ≤ 6 ∧ no ≤ 4 ∧ (0 ≤ lp ∧ lp ≤ 50) ∧ np = nl) → validL l = false from fun h => by
    rw [Bool.eq_false_iff]; exact fun hv => h (hpre hv))
  clear hW5 y0 y1 y2 y3 hb5 hbx hs5 hmm hpre
  by_cases h1 : nb ≤ 6
  · have h1i : (nb : Int) ≤ 6 := by omega
    by_cases h2 : no ≤ 4
    · have h2i : (no : Int) ≤ 4 := by omega
      go_wp2_with fail
      refine (lwithin_any lp 0 50 _).mono ?_
      rintro e w' ⟨rfl, rfl⟩
      dsimp only
      cases h3 : inN lp 0 50 with
      | false =>
        have H3 := Lib.hid h3
        clear h3
        go_wp2_with fail
        refine (lmust_no 1 _).mono ?_
        rintro e w' ⟨rfl, rfl⟩
        have he : errL l es v = 1 := err_invalid (HINV.out (fun h => by have := H3.out; unfold inN at this; rw [decide_eq_false_iff_not] at this; exact this h.2.2.1)) es v
        exact ⟨rfl, HB5.out, .inr ⟨by rw [he]; decide, by rw [he]⟩⟩
      | true =>
        have H3 := Lib.hid (of_decide_eq_true h3)
        clear h3
        by_cases h4 : np = nl
        · have h4i : (np : Int) = (nl : Int) := by omega
          go_wp2_with fail
          refine (lmust_ok 1 _).mono ?_
          rintro e w' ⟨rfl, rfl⟩
          dsimp only
          go_wp2_with fail
          have hlot5 := HLOT.out.later HB5.out.size (fun k h1 h2 => HB5.out.block k h2)
          have hc := gPoint_no ⟨l.lim, zeroPts, l.step⟩ rfl p.lims W5 hlot5.lim.low (by have := hn9.1; rw [HN.out.1] at this; exact this)
          dsimp only at hc
          rw [show gradeV p.lims zeroPts l.step = .agg #[.slice al nl cl, .int .i64 0, .int .i64 0, .int .i64 0, .int .i64 0, .int .i64 0, .int .i64 0, .int .i64 0, .int .i64 0, .int .i64 0, .int .i64 0, .int .i64 st] by rw [HVL.out, ← HN.out.1, ← HN.out.2.2.2.2.1]; rfl] at hc
          refine hc.mono ?_
          clear hc
          rintro e w6 ⟨rfl, hb6⟩
          have hbw6 : Below w.heap.size w w6 := HB5.out.trans (hb6.mono HB5.out.size)
          have HB56 := Lib.hid hb6
          have HB6 := Lib.hid hbw6
          clear hb6 hbw6 hlot5
          cases hvz : validG ⟨l.lim, zeroPts, l.step⟩ with
          | false =>
            have HVZ := Lib.hid (show validL l = false by
              rw [Bool.eq_false_iff]
              intro hv
              have := (validL_parts hv).2.2.2.2.1
              rw [hvz] at this; cases this)
            clear hvz
            simp only [Bool.false_eq_true, if_false]
            go_wp2_with fail
            refine (lmust_no 1 _).mono ?_
            rintro e w' ⟨rfl, rfl⟩
            have he : errL l es v = 1 := err_invalid HVZ.out es v
            exact ⟨rfl, HB6.out.alloc HB6.out.size _, .inr ⟨by rw [he]; decide, by rw [he]⟩⟩
          | true =>
            have HVZ := Lib.hid hvz
            clear hvz
            simp only [if_true]
            go_wp2_with fail
            refine (lmust_ok 1 _).mono ?_
            rintro e w' ⟨rfl, rfl⟩
            dsimp only
            obtain ⟨W7, hW7⟩ : ∃ W, W = w6.alloc (.cells #[.int .i64 0, .int .i64 0] 37) := ⟨_, rfl⟩
            rw [← hW7]
            have hb7 : Below W5.heap.size W5 W7 := by rw [hW7]; exact HB56.out.alloc HB56.out.size _
            have HB7 := Lib.hid hb7
            have HBX7 := Lib.hid ((hb7.block _ (lt_of_block HBX.out)).trans HBX.out)
            have HSP7 := Lib.hid ((hb7.block _ (lt_of_block HSP.out)).trans HSP.out)
            have HW7 := Lib.hid (HB5.out.trans (hb7.mono HB5.out.size))
            have c2 : W7.cell? ⟨w.heap.size, 2, none⟩ = some (.slice ab nb cb) := by rw [cell_of_row _ _ _ _ _ _ HBX7.out, HROW.out]; rfl
            have hsz7 := hb7.size
            have hlt5 := lt_of_block HSP.out
            clear hW7 hb7 c0 c1 c3 c4 c5
            have H4 := Lib.hid (And.intro h1 (And.intro h2 h4))
            clear h4 h1i h2i h2
            go_wp2_with fail
            clear c2
            go_loopw [69] (fun iv wr => ∃ i : Nat, i ≤ nb ∧ iv = .int .i64 i ∧ (∀ j (h : j < l.blocks.length), j < i → validG ⟨l.lim, l.blocks[j], l.step⟩ = true) ∧ Below W7.heap.size W7 wr) (fun iv _ => nb - (intOf iv).toNat)
            case atStart => exact ⟨0, Nat.zero_le _, rfl, fun j _ hj => absurd hj (by omega), Below.refl _ _⟩
            case round =>
              obtain ⟨i, hi, rfl, hok, hbr⟩ := hrel
              have HOK := Lib.hid hok
              have HBr := Lib.hid hbr
              have hszr := hbr.size
              clear hbr hok
              by_cases hlt : i < nb
              · have hw : IntKind.i64.wrap ((i : Int) + 1) = ((i + 1 : Nat) : Int) := by rw [IntWalk.i64_in _ (by omega)]; omega
                have hlti : (i : Int) < (nb : Int) := by omega
                have hil : i < l.blocks.length := by rw [← HN.out.2.1]; exact hlt
                have hbw : Below w.heap.size w wr := HW7.out.trans (HBr.out.mono HW7.out.size)
                have hlotr := HLOT.out.later hbw.size (fun k h1 h2 => hbw.block k h2)
                have hspr := (HBr.out.block _ (lt_of_block HSP7.out)).trans HSP7.out
                have hcg := lgrade_any l p _ _ _ _ i hil wr hspr _ hlotr (by rw [← HN.out.2.1]; omega)
                obtain ⟨q, hq⟩ : ∃ q, q = l.blocks.getD i [] := ⟨_, rfl⟩
                rw [← hq] at hcg
                have hqi : q = l.blocks[i] := by rw [hq, List.getD_eq_getElem?_getD, List.getElem?_eq_getElem hil]; rfl
                have hq5 : q.length = 5 := by
                  obtain ⟨_, _, _, _, _, h4⟩ := hlotr.blk
                  rw [hqi]; exact (h4 i hil).1
                have HQI := Lib.hid hqi
                have HLR := Lib.hid hlotr
                have HBW := Lib.hid hbw
                clear hq hqi hspr hbw
                have HCG := Lib.hid hcg
                clear hcg hlotr
                go_wp2_with fail
                refine HCG.out.mono ?_
                rintro e w8 ⟨rfl, hb8⟩
                dsimp only
                have hc := gPoint_no ⟨l.lim, q, l.step⟩ hq5 p.lims w8 (HLR.out.later hb8.size (fun k h1 h2 => hb8.block k h1)).lim.low (by have := hn9.1; rw [HN.out.1] at this; exact this)
                have HC := Lib.hid hc
                have HB8 := Lib.hid hb8
                clear hc hb8
                go_wp2_with fail
                refine HC.out.mono ?_
                rintro e w9 ⟨rfl, hb9⟩
                have hbw9 : Below wr.heap.size wr w9 := HB8.out.trans (hb9.mono HB8.out.size)
                have HB9 := Lib.hid hbw9
                clear hb9 hbw9
                cases hvz : validG ⟨l.lim, q, l.step⟩ with
                | false =>
                  have HVF := Lib.hid (show validL l = false by
                    rw [Bool.eq_false_iff]
                    intro hv
                    have := (validL_parts hv).2.2.2.2.2.1 l.blocks[i] (List.getElem_mem hil)
                    rw [← HQI.out, hvz] at this; cases this)
                  clear hvz
                  simp only [Bool.false_eq_true, if_false]
                  go_wp2_with fail
                  refine (lmust_no 1 _).mono ?_
                  rintro e w' ⟨rfl, rfl⟩
                  have he : errL l es v = 1 := err_invalid HVF.out es v
                  exact ⟨rfl, (HBW.out.trans (HB9.out.mono HBW.out.size)).alloc (by have := HB9.out.size; have := HBW.out.size; omega) _, .inr ⟨by rw [he]; decide, by rw [he]⟩⟩
                | true =>
                  have HVQ := Lib.hid hvz
                  clear hvz
                  simp only [if_true]
                  go_wp2_with fail
                  refine (lmust_ok 1 _).mono ?_
                  rintro e w' ⟨rfl, rfl⟩
                  dsimp only
                  go_wp2_with fail
                  go_roundw
                  case measure => simp [intOf]; omega
                  refine ⟨i + 1, by omega, rfl, fun j hj hji => ?_, (HBr.out.trans (HB9.out.mono HBr.out.size)).alloc (by have := HB9.out.size; have := HBr.out.size; omega) _⟩
                  rcases Nat.lt_succ_iff_lt_or_eq.1 hji with h | h
                  · exact HOK.out j hj h
                  · subst h
                    rw [← HQI.out]; exact HVQ.out
              · have hin : i = nb := by omega
                have hlti : ¬ (i : Int) < (nb : Int) := by omega
                have hpre : PreA l := by
                  refine ⟨by rw [← HN.out.2.1]; exact H4.out.1, by rw [← HN.out.2.2.2.1]; exact H4.out.2.1, by rw [← HN.out.2.2.2.2.2]; exact H3.out, by rw [← HN.out.2.2.1, ← HN.out.1]; exact H4.out.2.2, HVZ.out, fun q hq => ?_⟩
                  obtain ⟨j, hj, rfl⟩ := List.getElem_of_mem hq
                  exact HOK.out j hj (by rw [hin, HN.out.2.1]; exact hj)
                have HPRE := Lib.hid hpre
                have hb57 : Below W5.heap.size W5 wr := HB7.out.trans (HBr.out.mono HB7.out.size)
                have HB57 := Lib.hid hb57
                clear hpre hin hb57
                go_wp2_with fail
                obtain ⟨hents, eg, hf⟩ := HREST.out
                exact lopen_b l p es ev v f caps w wr w.heap.size (w.heap.size + 1 + 1 + 1) (w.heap.size + 1) (w.heap.size + 1 + 1) HPRE.out HLOT.out hents hes9 eg hf (HB5.out.trans (HB57.out.mono HB5.out.size)) ((HB57.out.block _ (lt_of_block HBX.out)).trans HBX.out) ((HB57.out.block _ (lt_of_block HSP.out)).trans HSP.out) ((HB57.out.block _ (by omega)).trans HMK.out) ((HB57.out.block _ (by omega)).trans HML.out) ⟨by omega, by omega, by omega, by omega⟩ (by omega) _ _ _ _ _ _ _ _ _ _ _ _ _ _ _ _ _ _ _ _ _ _ _ _ _ _ _ _ _ _ _ _ _ _ _ _ _ _ _ _ _ _ _ _ _ _ _ _ _ _ _ _ _ _ _ _ _ _ _ _ _ _ _ _ _ _ _ _ _ _ _ _ _ _ _ _ _ _ _ _ _ _ _ _ _ _ _ _ _ _ _ _ _ _ _ _ _ _ _ _ _ _ _ _ _ _ _ _ _ _ _ _ _ _ _ _ _ _ _ _ _ _ _ _ _ _ _ _ _ _ _ _ _ _ _ _ _ _ _ _ _ _ _ _ _ _ _ _ _ _ _ _ _ _ _ _ _ _ _ _ _ _ _ _ _ _ _ _
        · have h4b : ((np : Int) == (nl : Int)) = false := by rw [beq_eq_false_iff_ne]; omega
          go_wp2_with fail
          refine (lmust_no 1 _).mono ?_
          rintro e w' ⟨rfl, rfl⟩
          have he : errL l es v = 1 := err_invalid (HINV.out (fun h => h4 h.2.2.2)) es v
          exact ⟨rfl, HB5.out, .inr ⟨by rw [he]; decide, by rw [he]⟩⟩
    · have h2i : ¬ (no : Int) ≤ 4 := by omega
      go_wp2_with fail
      refine (lmust_no 1 _).mono ?_
      rintro e w' ⟨rfl, rfl⟩
      have he : errL l es v = 1 := err_invalid (HINV.out (fun h => h2 h.2.1)) es v
      exact ⟨rfl, HB5.out, .inr ⟨by rw [he]; decide, by rw [he]⟩⟩
  · have h1i : ¬ (nb : Int) ≤ 6 := by omega
    go_wp2_with fail
    refine (lmust_no 1 _).mono ?_
    rintro e w' ⟨rfl, rfl⟩
    have he : errL l es v = 1 := err_invalid (HINV.out (fun h => h1 h.1)) es v
    exact ⟨rfl, HB5.out, .inr ⟨by rw [he]; decide, by rw [he]⟩⟩
end Go.Proofs.Ytagjepclobobjaa
