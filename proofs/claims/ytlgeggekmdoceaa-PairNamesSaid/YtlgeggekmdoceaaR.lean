/- A stop is caught. -/
import Derived.Test.YtlgeggekmdoceaaQ
import Derived.Recover
namespace Go.Proofs.Ytlgeggekmdoceaa
set_option linter.unusedVariables false
set_option linter.unusedSimpArgs false
open Go.RowKit Go.Shelf
attribute [local go_sem] Oper.semAt_some

theorem stopped_nil (ep : Nat) (w : World) :
    Calls Try.prog 46 #[.nilIface, .pointer (some ⟨ep, 0, none⟩)] w fun e w' => e = .returned (.tuple #[]) ∧ w = w' := by
  go_enter Try.func46, Try.ntmps46
  go_wp2
  exact bodyPost_ret (v := .tuple #[]) (by simp [results, Try.results46, go_sem]) rfl ⟨rfl, rfl⟩
set_option maxRecDepth 100000 in
theorem stopped_stop (n : Int) (ep : Nat) (x : Int) (w : World) (hep : w.heap[ep]? = some (.cells #[.int .i64 x] 30 (0, 0))) :
    Calls Try.prog 46 #[stopV n, .pointer (some ⟨ep, 0, none⟩)] w fun e w' => e = .returned (.tuple #[]) ∧ Keeps (fun k => k = ep) w w' ∧ w'.heap[ep]? = some (.cells #[.int .i64 n] 30 (0, 0)) := by
  unfold stopV
  have hlt := lt_of_block hep
  have c0 : ∀ o, (w.alloc o).cell? ⟨ep, 0, none⟩ = some (.int .i64 x) := fun o => by rw [cell_of_row _ _ _ _ _ _ ((hget_old _ _ _ (by omega)).trans hep)]; rfl
  have c1 : ∀ o k, (w.alloc o).frozen? ⟨ep, k, none⟩ = false := fun o k => frozen_of_row _ _ _ _ _ ((hget_old _ _ _ (by omega)).trans hep)
  have c2 : (w.setCell ⟨ep, 0, none⟩ (.int .i64 n)).heap[ep]? = some (.cells #[.int .i64 n] 30 (0, 0)) := by
    simp [World.setCell, Array.getElem?_modify, hep]
  have hta : (Instr.typeAssert (.iface 113 (.agg #[.int .i64 n])) 20 113 true).run Try.prog w = .ok (.tuple #[.agg #[.int .i64 n], .bool true]) w := by kernel_rfl
  have C2 := Lib.hid c2
  clear c2
  go_enter Try.func46, Try.ntmps46
  go_wp2
  go_end0
  refine ⟨rfl, (Keeps.setCell (Mut := fun k => k = ep) _ _ _ rfl).trans (Keeps.alloc _ _ _), (hget_old _ _ _ (by simp; omega)).trans C2.out⟩

theorem catch_idle_known (ep : Nat) (w : World) :
    CallsD Try.prog 45 #[.pointer (some ⟨ep, 0, none⟩)] .returning w fun e u' w' => e = .returned (.tuple #[]) ∧ u' = .returning ∧ w' = w := by
  refine callsD_of_wpS Try.func45 rfl fun c₀ cs hu => ?_
  apply wpS_region
  have hm : c₀ = { c₀ with mode := .returning } := by cases c₀; simp_all
  simp [wpOpsS, go_sem, recoverD, hu, Try.ntmps45, Oper.upon]
  refine (stopped_nil ep w).mono ?_
  rintro e w' ⟨rfl, rfl⟩
  simp only [bodyPostS]
  exact ⟨trivial, .returning, by rw [← hm], .tuple #[], by simp [results, Try.results45, go_sem], by first | exact ⟨rfl, rfl, rfl⟩ | exact ⟨trivial, rfl, rfl⟩ | simp⟩
theorem catch_stop_known (n : Int) (ep : Nat) (x : Int) (w : World) (hep : w.heap[ep]? = some (.cells #[.int .i64 x] 30 (0, 0))) :
    CallsD Try.prog 45 #[.pointer (some ⟨ep, 0, none⟩)] (.panicking [{ v := stopV n, recovered := false }]) w fun e u' w' => e = .returned (.tuple #[]) ∧ u' = .panicking [{ v := stopV n, recovered := true }] ∧ Keeps (fun k => k = ep) w w' ∧ w'.heap[ep]? = some (.cells #[.int .i64 n] 30 (0, 0)) := by
  refine callsD_of_wpS Try.func45 rfl fun c₀ cs hu => ?_
  apply wpS_region
  simp [wpOpsS, go_sem, recoverD, hu, Try.ntmps45, Oper.upon]
  refine (stopped_stop n ep x w hep).mono ?_
  rintro e w' ⟨rfl, h1, h2⟩
  simp only [bodyPostS]
  exact ⟨trivial, _, rfl, .tuple #[], by simp [results, Try.results45, go_sem], by first | exact ⟨rfl, rfl, h1, h2⟩ | exact ⟨trivial, rfl, h1, h2⟩ | (simp; exact ⟨h1, h2⟩)⟩
theorem catch_idle_differ (ep : Nat) (w : World) :
    CallsD Try.prog 55 #[.pointer (some ⟨ep, 0, none⟩)] .returning w fun e u' w' => e = .returned (.tuple #[]) ∧ u' = .returning ∧ w' = w := by
  refine callsD_of_wpS Try.func55 rfl fun c₀ cs hu => ?_
  apply wpS_region
  have hm : c₀ = { c₀ with mode := .returning } := by cases c₀; simp_all
  simp [wpOpsS, go_sem, recoverD, hu, Try.ntmps55, Oper.upon]
  refine (stopped_nil ep w).mono ?_
  rintro e w' ⟨rfl, rfl⟩
  simp only [bodyPostS]
  exact ⟨trivial, .returning, by rw [← hm], .tuple #[], by simp [results, Try.results55, go_sem], by first | exact ⟨rfl, rfl, rfl⟩ | exact ⟨trivial, rfl, rfl⟩ | simp⟩
theorem catch_stop_differ (n : Int) (ep : Nat) (x : Int) (w : World) (hep : w.heap[ep]? = some (.cells #[.int .i64 x] 30 (0, 0))) :
    CallsD Try.prog 55 #[.pointer (some ⟨ep, 0, none⟩)] (.panicking [{ v := stopV n, recovered := false }]) w fun e u' w' => e = .returned (.tuple #[]) ∧ u' = .panicking [{ v := stopV n, recovered := true }] ∧ Keeps (fun k => k = ep) w w' ∧ w'.heap[ep]? = some (.cells #[.int .i64 n] 30 (0, 0)) := by
  refine callsD_of_wpS Try.func55 rfl fun c₀ cs hu => ?_
  apply wpS_region
  simp [wpOpsS, go_sem, recoverD, hu, Try.ntmps55, Oper.upon]
  refine (stopped_stop n ep x w hep).mono ?_
  rintro e w' ⟨rfl, h1, h2⟩
  simp only [bodyPostS]
  exact ⟨trivial, _, rfl, .tuple #[], by simp [results, Try.results55, go_sem], by first | exact ⟨rfl, rfl, h1, h2⟩ | exact ⟨trivial, rfl, h1, h2⟩ | (simp; exact ⟨h1, h2⟩)⟩
theorem catch_idle_shows (ep : Nat) (w : World) :
    CallsD Try.prog 58 #[.pointer (some ⟨ep, 0, none⟩)] .returning w fun e u' w' => e = .returned (.tuple #[]) ∧ u' = .returning ∧ w' = w := by
  refine callsD_of_wpS Try.func58 rfl fun c₀ cs hu => ?_
  apply wpS_region
  have hm : c₀ = { c₀ with mode := .returning } := by cases c₀; simp_all
  simp [wpOpsS, go_sem, recoverD, hu, Try.ntmps58, Oper.upon]
  refine (stopped_nil ep w).mono ?_
  rintro e w' ⟨rfl, rfl⟩
  simp only [bodyPostS]
  exact ⟨trivial, .returning, by rw [← hm], .tuple #[], by simp [results, Try.results58, go_sem], by first | exact ⟨rfl, rfl, rfl⟩ | exact ⟨trivial, rfl, rfl⟩ | simp⟩
theorem catch_stop_shows (n : Int) (ep : Nat) (x : Int) (w : World) (hep : w.heap[ep]? = some (.cells #[.int .i64 x] 30 (0, 0))) :
    CallsD Try.prog 58 #[.pointer (some ⟨ep, 0, none⟩)] (.panicking [{ v := stopV n, recovered := false }]) w fun e u' w' => e = .returned (.tuple #[]) ∧ u' = .panicking [{ v := stopV n, recovered := true }] ∧ Keeps (fun k => k = ep) w w' ∧ w'.heap[ep]? = some (.cells #[.int .i64 n] 30 (0, 0)) := by
  refine callsD_of_wpS Try.func58 rfl fun c₀ cs hu => ?_
  apply wpS_region
  simp [wpOpsS, go_sem, recoverD, hu, Try.ntmps58, Oper.upon]
  refine (stopped_stop n ep x w hep).mono ?_
  rintro e w' ⟨rfl, h1, h2⟩
  simp only [bodyPostS]
  exact ⟨trivial, _, rfl, .tuple #[], by simp [results, Try.results58, go_sem], by first | exact ⟨rfl, rfl, h1, h2⟩ | exact ⟨trivial, rfl, h1, h2⟩ | (simp; exact ⟨h1, h2⟩)⟩
theorem catch_idle_longest (ep : Nat) (w : World) :
    CallsD Try.prog 66 #[.pointer (some ⟨ep, 0, none⟩)] .returning w fun e u' w' => e = .returned (.tuple #[]) ∧ u' = .returning ∧ w' = w := by
  refine callsD_of_wpS Try.func66 rfl fun c₀ cs hu => ?_
  apply wpS_region
  have hm : c₀ = { c₀ with mode := .returning } := by cases c₀; simp_all
  simp [wpOpsS, go_sem, recoverD, hu, Try.ntmps66, Oper.upon]
  refine (stopped_nil ep w).mono ?_
  rintro e w' ⟨rfl, rfl⟩
  simp only [bodyPostS]
  exact ⟨trivial, .returning, by rw [← hm], .tuple #[], by simp [results, Try.results66, go_sem], by first | exact ⟨rfl, rfl, rfl⟩ | exact ⟨trivial, rfl, rfl⟩ | simp⟩
theorem catch_stop_longest (n : Int) (ep : Nat) (x : Int) (w : World) (hep : w.heap[ep]? = some (.cells #[.int .i64 x] 30 (0, 0))) :
    CallsD Try.prog 66 #[.pointer (some ⟨ep, 0, none⟩)] (.panicking [{ v := stopV n, recovered := false }]) w fun e u' w' => e = .returned (.tuple #[]) ∧ u' = .panicking [{ v := stopV n, recovered := true }] ∧ Keeps (fun k => k = ep) w w' ∧ w'.heap[ep]? = some (.cells #[.int .i64 n] 30 (0, 0)) := by
  refine callsD_of_wpS Try.func66 rfl fun c₀ cs hu => ?_
  apply wpS_region
  simp [wpOpsS, go_sem, recoverD, hu, Try.ntmps66, Oper.upon]
  refine (stopped_stop n ep x w hep).mono ?_
  rintro e w' ⟨rfl, h1, h2⟩
  simp only [bodyPostS]
  exact ⟨trivial, _, rfl, .tuple #[], by simp [results, Try.results66, go_sem], by first | exact ⟨rfl, rfl, h1, h2⟩ | exact ⟨trivial, rfl, h1, h2⟩ | (simp; exact ⟨h1, h2⟩)⟩
theorem catch_idle_least (ep : Nat) (w : World) :
    CallsD Try.prog 73 #[.pointer (some ⟨ep, 0, none⟩)] .returning w fun e u' w' => e = .returned (.tuple #[]) ∧ u' = .returning ∧ w' = w := by
  refine callsD_of_wpS Try.func73 rfl fun c₀ cs hu => ?_
  apply wpS_region
  have hm : c₀ = { c₀ with mode := .returning } := by cases c₀; simp_all
  simp [wpOpsS, go_sem, recoverD, hu, Try.ntmps73, Oper.upon]
  refine (stopped_nil ep w).mono ?_
  rintro e w' ⟨rfl, rfl⟩
  simp only [bodyPostS]
  exact ⟨trivial, .returning, by rw [← hm], .tuple #[], by simp [results, Try.results73, go_sem], by first | exact ⟨rfl, rfl, rfl⟩ | exact ⟨trivial, rfl, rfl⟩ | simp⟩
theorem catch_stop_least (n : Int) (ep : Nat) (x : Int) (w : World) (hep : w.heap[ep]? = some (.cells #[.int .i64 x] 30 (0, 0))) :
    CallsD Try.prog 73 #[.pointer (some ⟨ep, 0, none⟩)] (.panicking [{ v := stopV n, recovered := false }]) w fun e u' w' => e = .returned (.tuple #[]) ∧ u' = .panicking [{ v := stopV n, recovered := true }] ∧ Keeps (fun k => k = ep) w w' ∧ w'.heap[ep]? = some (.cells #[.int .i64 n] 30 (0, 0)) := by
  refine callsD_of_wpS Try.func73 rfl fun c₀ cs hu => ?_
  apply wpS_region
  simp [wpOpsS, go_sem, recoverD, hu, Try.ntmps73, Oper.upon]
  refine (stopped_stop n ep x w hep).mono ?_
  rintro e w' ⟨rfl, h1, h2⟩
  simp only [bodyPostS]
  exact ⟨trivial, _, rfl, .tuple #[], by simp [results, Try.results73, go_sem], by first | exact ⟨rfl, rfl, h1, h2⟩ | exact ⟨trivial, rfl, h1, h2⟩ | (simp; exact ⟨h1, h2⟩)⟩
theorem catch_idle_groups (ep : Nat) (w : World) :
    CallsD Try.prog 75 #[.pointer (some ⟨ep, 0, none⟩)] .returning w fun e u' w' => e = .returned (.tuple #[]) ∧ u' = .returning ∧ w' = w := by
  refine callsD_of_wpS Try.func75 rfl fun c₀ cs hu => ?_
  apply wpS_region
  have hm : c₀ = { c₀ with mode := .returning } := by cases c₀; simp_all
  simp [wpOpsS, go_sem, recoverD, hu, Try.ntmps75, Oper.upon]
  refine (stopped_nil ep w).mono ?_
  rintro e w' ⟨rfl, rfl⟩
  simp only [bodyPostS]
  exact ⟨trivial, .returning, by rw [← hm], .tuple #[], by simp [results, Try.results75, go_sem], by first | exact ⟨rfl, rfl, rfl⟩ | exact ⟨trivial, rfl, rfl⟩ | simp⟩
theorem catch_stop_groups (n : Int) (ep : Nat) (x : Int) (w : World) (hep : w.heap[ep]? = some (.cells #[.int .i64 x] 30 (0, 0))) :
    CallsD Try.prog 75 #[.pointer (some ⟨ep, 0, none⟩)] (.panicking [{ v := stopV n, recovered := false }]) w fun e u' w' => e = .returned (.tuple #[]) ∧ u' = .panicking [{ v := stopV n, recovered := true }] ∧ Keeps (fun k => k = ep) w w' ∧ w'.heap[ep]? = some (.cells #[.int .i64 n] 30 (0, 0)) := by
  refine callsD_of_wpS Try.func75 rfl fun c₀ cs hu => ?_
  apply wpS_region
  simp [wpOpsS, go_sem, recoverD, hu, Try.ntmps75, Oper.upon]
  refine (stopped_stop n ep x w hep).mono ?_
  rintro e w' ⟨rfl, h1, h2⟩
  simp only [bodyPostS]
  exact ⟨trivial, _, rfl, .tuple #[], by simp [results, Try.results75, go_sem], by first | exact ⟨rfl, rfl, h1, h2⟩ | exact ⟨trivial, rfl, h1, h2⟩ | (simp; exact ⟨h1, h2⟩)⟩
theorem catch_idle_wrong (ep : Nat) (w : World) :
    CallsD Try.prog 78 #[.pointer (some ⟨ep, 0, none⟩)] .returning w fun e u' w' => e = .returned (.tuple #[]) ∧ u' = .returning ∧ w' = w := by
  refine callsD_of_wpS Try.func78 rfl fun c₀ cs hu => ?_
  apply wpS_region
  have hm : c₀ = { c₀ with mode := .returning } := by cases c₀; simp_all
  simp [wpOpsS, go_sem, recoverD, hu, Try.ntmps78, Oper.upon]
  refine (stopped_nil ep w).mono ?_
  rintro e w' ⟨rfl, rfl⟩
  simp only [bodyPostS]
  exact ⟨trivial, .returning, by rw [← hm], .tuple #[], by simp [results, Try.results78, go_sem], by first | exact ⟨rfl, rfl, rfl⟩ | exact ⟨trivial, rfl, rfl⟩ | simp⟩
theorem catch_stop_wrong (n : Int) (ep : Nat) (x : Int) (w : World) (hep : w.heap[ep]? = some (.cells #[.int .i64 x] 30 (0, 0))) :
    CallsD Try.prog 78 #[.pointer (some ⟨ep, 0, none⟩)] (.panicking [{ v := stopV n, recovered := false }]) w fun e u' w' => e = .returned (.tuple #[]) ∧ u' = .panicking [{ v := stopV n, recovered := true }] ∧ Keeps (fun k => k = ep) w w' ∧ w'.heap[ep]? = some (.cells #[.int .i64 n] 30 (0, 0)) := by
  refine callsD_of_wpS Try.func78 rfl fun c₀ cs hu => ?_
  apply wpS_region
  simp [wpOpsS, go_sem, recoverD, hu, Try.ntmps78, Oper.upon]
  refine (stopped_stop n ep x w hep).mono ?_
  rintro e w' ⟨rfl, h1, h2⟩
  simp only [bodyPostS]
  exact ⟨trivial, _, rfl, .tuple #[], by simp [results, Try.results78, go_sem], by first | exact ⟨rfl, rfl, h1, h2⟩ | exact ⟨trivial, rfl, h1, h2⟩ | (simp; exact ⟨h1, h2⟩)⟩
theorem catch_idle_clash (ep : Nat) (w : World) :
    CallsD Try.prog 85 #[.pointer (some ⟨ep, 0, none⟩)] .returning w fun e u' w' => e = .returned (.tuple #[]) ∧ u' = .returning ∧ w' = w := by
  refine callsD_of_wpS Try.func85 rfl fun c₀ cs hu => ?_
  apply wpS_region
  have hm : c₀ = { c₀ with mode := .returning } := by cases c₀; simp_all
  simp [wpOpsS, go_sem, recoverD, hu, Try.ntmps85, Oper.upon]
  refine (stopped_nil ep w).mono ?_
  rintro e w' ⟨rfl, rfl⟩
  simp only [bodyPostS]
  exact ⟨trivial, .returning, by rw [← hm], .tuple #[], by simp [results, Try.results85, go_sem], by first | exact ⟨rfl, rfl, rfl⟩ | exact ⟨trivial, rfl, rfl⟩ | simp⟩
theorem catch_stop_clash (n : Int) (ep : Nat) (x : Int) (w : World) (hep : w.heap[ep]? = some (.cells #[.int .i64 x] 30 (0, 0))) :
    CallsD Try.prog 85 #[.pointer (some ⟨ep, 0, none⟩)] (.panicking [{ v := stopV n, recovered := false }]) w fun e u' w' => e = .returned (.tuple #[]) ∧ u' = .panicking [{ v := stopV n, recovered := true }] ∧ Keeps (fun k => k = ep) w w' ∧ w'.heap[ep]? = some (.cells #[.int .i64 n] 30 (0, 0)) := by
  refine callsD_of_wpS Try.func85 rfl fun c₀ cs hu => ?_
  apply wpS_region
  simp [wpOpsS, go_sem, recoverD, hu, Try.ntmps85, Oper.upon]
  refine (stopped_stop n ep x w hep).mono ?_
  rintro e w' ⟨rfl, h1, h2⟩
  simp only [bodyPostS]
  exact ⟨trivial, _, rfl, .tuple #[], by simp [results, Try.results85, go_sem], by first | exact ⟨rfl, rfl, h1, h2⟩ | exact ⟨trivial, rfl, h1, h2⟩ | (simp; exact ⟨h1, h2⟩)⟩

end Go.Proofs.Ytlgeggekmdoceaa
