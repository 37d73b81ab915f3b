/- General lemmas, and the small functions and tables of package pair. -/
import Derived.Test.YtlgeggekmdoceaaG
import Derived.WalkKit
import Derived.WalkSpells
import Derived.WalkLawsBesides
import Derived.Lib.Hide
import Derived.BigQuiet
import Derived.Deep.QuietTactic
import Derived.StillTailTactics
import Derived.Laws.CopyOwn
import Derived.Deep.RegionHeld3
import Derived.Deep.MidRow
namespace Go.Proofs.Ytlgeggekmdoceaa
set_option linter.unusedVariables false
set_option linter.unusedSimpArgs false
open Go.RowKit

theorem region_tail {P : Program} {id : Nat} {Q : Exit → Act → World → Prop} {a : Act} {w : World} {l : List Oper} (n : Nat) (hm : P.follows .mixedOrders = true) (hB : Region.lexTailB .any l.toArray n = true)
    (h : wpStill P l.toArray w.drew (fun a' => wpList P l.toArray Q (l.drop n) a' w.drew) (l.take n) a) : (Code.region id l.toArray true).wp P Q a w :=
  wp_region_still_tail n hm hB h

theorem results_row_tmp {P : Program} {fn : Func} {p u : Tmp} {ty : TypeId} (h : fn.results = #[.cell p ty, .tmp u]) (tmps : Array Value) (w : World) (g : Nat) (t : TypeId) (cs : Array Value) (fr : Nat × Nat) (d : TypeDesc)
    (hp : tmps.getD p undef = .pointer (some ⟨g, 0, none⟩)) (hg : w.heap[g]? = some (.cells cs t fr))
    (hu : P.underlying ty = some d) (hd : (match d with | .struct _ | .array _ _ => true | _ => false) = true) (hi : (P.info? ty).map (·.size) = some cs.size) :
    (results fn tmps).run P w = .ok (.tuple #[.agg cs, tmps.getD u undef]) w := by
  rw [results_cell_tmp h]
  simp only [hp, asAddr, Sem.run_pure, Result.andThen_ok, run_loadVar_row w g t ty cs fr d hg hu hd hi]

theorem ret_int {k : IntKind} {a b : Int} (h : a = b) : Ending.returned (.int k a) = .returned (.int k b) := by rw [h]

/-! ### tables -/
abbrev Tab := Nat → Nat → Int
def tcells (t : Tab) : Array Value := ((List.range 36).map fun k => Value.int .i64 (t (k / 6) (k % 6))).toArray
theorem tcells_size (t : Tab) : (tcells t).size = 36 := by simp [tcells]
theorem tcells_one (t : Tab) : (tcells t).all (·.oneCell') = true := by simp [tcells, Value.oneCell']
theorem tcells_at (t : Tab) (i j : Nat) (_hi : i < 6) (hj : j < 6) : (tcells t)[i * 6 + j]? = some (.int .i64 (t i j)) := by
  have h : i * 6 + j < 36 := by omega
  have h1 : (i * 6 + j) / 6 = i := by omega
  have h2 : (i * 6 + j) % 6 = j := by omega
  simp [tcells, h, h1, h2]
def upd (t : Tab) (i j : Nat) (v : Int) : Tab := fun a b => if a = i ∧ b = j then v else t a b
theorem tcells_set (t : Tab) (i j : Nat) (hi : i < 6) (hj : j < 6) (v : Int) : (tcells t).setIfInBounds (i * 6 + j) (.int .i64 v) = tcells (upd t i j v) := by
  apply Array.ext_getElem?
  intro k
  by_cases hk : k < 36
  · by_cases e : k = i * 6 + j
    · subst e
      have h1 : (i * 6 + j) / 6 = i := by omega
      have h2 : (i * 6 + j) % 6 = j := by omega
      simp [tcells, hk, upd, h1, h2]
    · have h3 : ¬ (k / 6 = i ∧ k % 6 = j) := by omega
      have e' : ¬ i * 6 + j = k := fun h => e h.symm
      simp [tcells, hk, upd, h3, e']
  · simp [tcells, hk]
def stepN (k : Nat) (c : Tab) : Tab := upd c (k / 6 % 6) (k % 6) (min (c (k / 6 % 6) (k % 6)) (c (k / 6 % 6) (k / 36) + c (k / 36) (k % 6)))
def fwN (t : Tab) : Nat → Tab
  | 0 => t
  | k + 1 => stepN k (fwN t k)
def diagOk (c : Tab) : Bool := (List.range 6).all fun i => decide (0 ≤ c i i)
theorem diagOk_iff (c : Tab) : diagOk c = true ↔ ∀ i, i < 6 → 0 ≤ c i i := by simp [diagOk]
def leastT (t : Tab) (i j : Nat) (m : Int) : Tab := upd t i j (min (t i j) m)
def putT (t : Tab) (i j : Nat) (lo hi : Int) : Tab := leastT (leastT t i j hi) j i (-lo)
theorem cell_tab {w : World} {B : Nat} {t : Tab} {T : TypeId} (h : w.heap[B]? = some (.cells (tcells t) T (0, 0))) (i j : Nat) (hi : i < 6) (hj : j < 6) :
   w.cell? ⟨B, i * 6 + j, none⟩ = some (.int .i64 (t i j)) := by
  rw [cell_of_row w B _ _ T _ h, tcells_at t i j hi hj]
theorem heap_setCell_tab {w : World} {B : Nat} {T : TypeId} {c : Tab} (h : w.heap[B]? = some (.cells (tcells c) T (0, 0))) (i j : Nat) (hi : i < 6) (hj : j < 6) (v : Int) :
    (w.setCell ⟨B, i * 6 + j, none⟩ (.int .i64 v)).heap[B]? = some (.cells (tcells (upd c i j v)) T (0, 0)) := by
  rw [← tcells_set c i j hi hj v]
  simp [World.setCell, Array.getElem?_modify, h]
def CW (w : World) (B : Nat) (T : TypeId) (c : Tab) (wr : World) : Prop :=
  wr.heap[B]? = some (.cells (tcells c) T (0, 0)) ∧ (∃ z : Array Value, z.size = 36 ∧ wr.heap[B + 1]? = some (.cells z T (0, 0))) ∧ Below B w wr
theorem CW.drew {w : World} {B : Nat} {T : TypeId} {c : Tab} {wr : World} (h : CW w B T c wr) : CW w B T c wr.drew := ⟨h.1, h.2.1, h.2.2.drew⟩
theorem CW.set {w : World} {B : Nat} {T : TypeId} {c : Tab} {wr : World} (h : CW w B T c wr) (i j : Nat) (hi : i < 6) (hj : j < 6) (v : Int) : CW w B T (upd c i j v) (wr.setCell ⟨B, i * 6 + j, none⟩ (.int .i64 v)) := by
  obtain ⟨h1, ⟨z, hz, h2⟩, h3⟩ := h
  exact ⟨heap_setCell_tab h1 i j hi hj v, ⟨z, hz, (Below.heap_setCell _ _ _ _ (by simp)).trans h2⟩, h3.setCell (by simp) _⟩
theorem CW_start (w : World) (t : Tab) (T : TypeId) (z : Array Value) (hz : z.size = 36) : CW w w.heap.size T t ((w.alloc (.cells (tcells t) T)).alloc (.cells z T)) :=
  ⟨heap_alloc2_old _ _ _, ⟨z, hz, heap_alloc2_new _ _ _⟩, ((Below.refl _ _).alloc (Nat.le_refl _) _).alloc (by simp) _⟩
theorem sizeTab (c : Tab) : (Try.prog.info? 84).map (·.size) = some (tcells c).size := by rw [tcells_size]; kernel_rfl
theorem underTab : Try.prog.underlying 84 = some (.array 6 82) := by kernel_rfl

/-! ### small functions -/
def inB (n a b : Int) : Bool := decide (a ≤ n ∧ n ≤ b)
theorem within_any (n a b : Int) (w : World) :
    Calls Try.prog 92 #[.int .i64 n, .int .i64 a, .int .i64 b] w fun e w' => e = .returned (.bool (inB n a b)) ∧ w = w' := by
  have H : Hid (inB n a b = (decide (a ≤ n) && decide (n ≤ b))) := by show _ = _; simp [inB]
  go_enter Try.func92, Try.ntmps92
  go_wp2
  all_goals go_ret
  all_goals exact ⟨by rw [H.out]; simp [*]; try omega, rfl⟩
def okSpan (lo hi m : Int) : Bool := decide (-m ≤ lo ∧ lo ≤ hi ∧ hi ≤ m)
theorem isSpan_any (lo hi m : Int) (hm : -1000000 ≤ m ∧ m ≤ 1000000) (w : World) :
    Calls Try.prog 93 #[.agg #[.int .i64 lo, .int .i64 hi], .int .i64 m] w fun e w' => e = .returned (.bool (okSpan lo hi m)) ∧ Below w.heap.size w w' := by
  have H : Hid (okSpan lo hi m = (decide (-m ≤ lo) && decide (lo ≤ hi) && decide (hi ≤ m))) := by show _ = _; simp [okSpan, Bool.and_assoc]
  obtain ⟨hm1, hm2⟩ := hm
  go_enter Try.func93, Try.ntmps93
  go_wp2
  all_goals go_ret
  all_goals exact ⟨by rw [H.out]; simp [*]; try omega, (Below.refl _ _).alloc (Nat.le_refl _) _⟩
theorem isMinute_any (n : Int) (w : World) :
    Calls Try.prog 60 #[.int .i64 n] w fun e w' => e = .returned (.bool (inB n 0 60)) ∧ w = w' := by
  go_enter Try.func60, Try.ntmps60
  go_wp2_with (go_at_call 92; refine (within_any _ _ _ _).mono ?_; rintro e w' ⟨rfl, rfl⟩)
  go_ret
  exact ⟨rfl, rfl⟩
theorem must_ok (n : Int) (w : World) :
    Calls Try.prog 74 #[.bool true, .int .i64 n] w fun e w' => e = .returned (.tuple #[]) ∧ w = w' := by
  go_enter Try.func74, Try.ntmps74
  go_wp2
  go_end0
  exact ⟨rfl, rfl⟩
def stopV (n : Int) : Value := .iface 113 (.agg #[.int .i64 n])
theorem must_no (n : Int) (w : World) :
    Calls Try.prog 74 #[.bool false, .int .i64 n] w fun e w' => e = .panicked [{ v := stopV n, recovered := false }] ∧ w = w' := by
  go_enter Try.func74, Try.ntmps74
  go_wp2
  exact ⟨rfl, rfl, rfl⟩
theorem always_any (v : Value) (w : World) :
    Calls Try.prog 67 #[v] w fun e w' => e = .returned (.bool true) ∧ w = w' := by
  go_enter Try.func67, Try.ntmps67
  go_wp2
  go_ret
  exact ⟨rfl, rfl⟩
def showsC (z r m : Int) : Int := z + r * m / 10
theorem tdiv_facts (n : Int) : 10 * n.tdiv 10 + n.tmod 10 = n ∧ -10 < n.tmod 10 ∧ n.tmod 10 < 10 ∧ (0 ≤ n → 0 ≤ n.tmod 10) ∧ (n ≤ 0 → n.tmod 10 ≤ 0) := by
  refine ⟨Int.mul_tdiv_add_tmod n 10, ?_, Int.tmod_lt_of_pos n (by decide), fun h => Int.tmod_nonneg 10 h, fun h => ?_⟩
  · have := Int.tmod_lt_of_pos (-n) (b := 10) (by decide)
    rw [Int.neg_tmod] at this
    omega
  · have := Int.tmod_nonneg (a := -n) 10 (by omega)
    rw [Int.neg_tmod] at this
    omega
theorem cshows_any (z r m : Int) (hz : -1000000 ≤ z ∧ z ≤ 1000000) (hr : -1000000 ≤ r * m ∧ r * m ≤ 1000000) (w : World) :
    Calls Try.prog 63 #[.agg #[.int .i64 z, .int .i64 r], .int .i64 m] w fun e w' => e = .returned (.int .i64 (showsC z r m)) ∧ Below w.heap.size w w' := by
  obtain ⟨hr1, hr2⟩ := hr
  obtain ⟨hz1, hz2⟩ := hz
  have HX : Hid (showsC z r m = z + r * m / 10) := rfl
  have HT := Lib.hid (tdiv_facts (r * m))
  have d1 : -1000000 ≤ (r * m).tdiv 10 := by have := HT.out; omega
  have d2 : (r * m).tdiv 10 ≤ 1000000 := by have := HT.out; omega
  go_enter Try.func63, Try.ntmps63
  go_wp2
  all_goals go_ret
  all_goals exact ⟨ret_int (by have := HT.out; rw [HX.out]; omega), (Below.refl _ _).alloc (Nat.le_refl _) _⟩

/-! ### tables -/
attribute [local irreducible] tcells
set_option maxHeartbeats 400000 in
set_option maxRecDepth 4000 in
theorem tspan_any (t : Tab) (a b : Nat) (ha : a < 6) (hb : b < 6) (hr : -1000000000000 ≤ t b a ∧ t b a ≤ 1000000000000) (w : World) :
    Calls Try.prog 96 #[.agg (tcells t), .int .i64 a, .int .i64 b] w fun e w' => e = .returned (.agg #[.int .i64 (- t b a), .int .i64 (t a b)]) ∧ Below w.heap.size w w' := by
  have ha' : (a : Int) < 6 := by omega
  have hb' : (b : Int) < 6 := by omega
  have c1 := tcells_at t b a hb ha
  have c2 := tcells_at t a b ha hb
  obtain ⟨hr1, hr2⟩ := hr
  go_enter Try.func96, Try.ntmps96
  go_wp2
  refine region_tail 12 (by kernel_rfl) (by kernel_rfl) ?_
  simp only [List.take_succ_cons, List.take_zero, List.drop_succ_cons, List.drop_zero]
  repeat still_step
  refine wpStill_nil ?_
  go_wp2
  refine bodyPost_ret (v := .agg #[.int .i64 (- t b a), .int .i64 (t a b)]) (by simp [results, Try.results96, go_sem]) rfl ⟨rfl, ?_⟩
  exact (((Below.refl _ _).alloc (Nat.le_refl _) _).alloc (by simp) _).drew

set_option maxHeartbeats 400000 in
set_option maxRecDepth 4000 in
theorem least_any (t : Tab) (a b : Nat) (m : Int) (ha : a < 6) (hb : b < 6) (w : World) :
    Calls Try.prog 129 #[.agg (tcells t), .int .i64 a, .int .i64 b, .int .i64 m] w fun e w' => e = .returned (.agg (tcells (leastT t a b m))) ∧ Below w.heap.size w w' := by
  have ha' : (a : Int) < 6 := by omega
  have hb' : (b : Int) < 6 := by omega
  have c1 := tcells_at t a b ha hb
  by_cases hm : m < t a b
  · have hs : (tcells t).setIfInBounds (a * 6 + b) (.int .i64 m) = tcells (leastT t a b m) := by rw [tcells_set t a b ha hb, leastT, show min (t a b) m = m by omega]
    go_enter Try.func129, Try.ntmps129
    go_wp2
    refine region_tail 11 (by kernel_rfl) (by kernel_rfl) ?_
    simp only [List.take_succ_cons, List.take_zero, List.drop_succ_cons, List.drop_zero]
    repeat still_step
    refine wpStill_nil ?_
    go_wp2_with (first | (refine wpList_load_row rfl 84 _ rfl w.heap.size rfl 84 (tcells (leastT t a b m)) (0, 0) _ (heap_alloc2_old _ _ _) underTab rfl (sizeTab _) ?_) | (refine wpList_store_row rfl 84 _ _ rfl (w.heap.size + 1) (tcells (leastT t a b m)) rfl rfl 84 _ (heap_alloc2_new _ _ _) (sizeTab _) (tcells_size _).symm (tcells_one _) ?_))
    refine bodyPost_ret (v := .agg (tcells (leastT t a b m))) (results_cell_row (fn := Try.f129) (p := 8) rfl _ _ (w.heap.size + 1) 84 (tcells (leastT t a b m)) (0, 0) _ rfl (setRow_heap _ _ _ _ _ _ (heap_alloc2_new _ _ _)) underTab rfl (sizeTab _)) rfl ⟨rfl, ?_⟩
    exact below_setRow ((((Below.refl _ _).alloc (Nat.le_refl _) _).alloc (by simp) _).drew) (by omega) _
  · have hs : (tcells t).setIfInBounds (a * 6 + b) (.int .i64 (t a b)) = tcells (leastT t a b m) := by rw [tcells_set t a b ha hb, leastT, show min (t a b) m = t a b by omega]
    go_enter Try.func129, Try.ntmps129
    go_wp2
    refine region_tail 11 (by kernel_rfl) (by kernel_rfl) ?_
    simp only [List.take_succ_cons, List.take_zero, List.drop_succ_cons, List.drop_zero]
    repeat still_step
    refine wpStill_nil ?_
    go_wp2_with (first | (refine wpList_load_row rfl 84 _ rfl w.heap.size rfl 84 (tcells (leastT t a b m)) (0, 0) _ (heap_alloc2_old _ _ _) underTab rfl (sizeTab _) ?_) | (refine wpList_store_row rfl 84 _ _ rfl (w.heap.size + 1) (tcells (leastT t a b m)) rfl rfl 84 _ (heap_alloc2_new _ _ _) (sizeTab _) (tcells_size _).symm (tcells_one _) ?_))
    refine bodyPost_ret (v := .agg (tcells (leastT t a b m))) (results_cell_row (fn := Try.f129) (p := 8) rfl _ _ (w.heap.size + 1) 84 (tcells (leastT t a b m)) (0, 0) _ rfl (setRow_heap _ _ _ _ _ _ (heap_alloc2_new _ _ _)) underTab rfl (sizeTab _)) rfl ⟨rfl, ?_⟩
    exact below_setRow ((((Below.refl _ _).alloc (Nat.le_refl _) _).alloc (by simp) _).drew) (by omega) _

set_option maxHeartbeats 800000 in
set_option maxRecDepth 4000 in
theorem kput_any (a b : Nat) (lo hi z r : Int) (t : Tab) (ha : a < 6) (hb : b < 6) (hlo : -1000000000 ≤ lo ∧ lo ≤ 1000000000) (w : World) :
    Calls Try.prog 128 #[.agg #[.int .i64 a, .int .i64 b, .int .i64 lo, .int .i64 hi], .agg (tcells t), .agg #[.int .i64 z, .int .i64 r]] w fun e w' => e = .returned (.agg (tcells (putT t a b lo hi))) ∧ Below w.heap.size w w' := by
  obtain ⟨hlo1, hlo2⟩ := hlo
  have HR : Hid (leastT (leastT t a b hi) b a (-lo) = putT t a b lo hi) := rfl
  have hi1 := sizeTab t
  rw [tcells_size] at hi1
  have hu := underTab
  go_enter Try.func128, Try.ntmps128
  go_wp2_with fail
  obtain ⟨W, hW⟩ : ∃ W, W = (((w.alloc (.cells #[.int .i64 a, .int .i64 b, .int .i64 lo, .int .i64 hi] 92)).alloc (.cells (tcells t) 84)).alloc (.cells #[.int .i64 z, .int .i64 r] 81)).alloc (.cells #[Value.int IntKind.i64 0, Value.int IntKind.i64 0, Value.int IntKind.i64 0, Value.int IntKind.i64 0, Value.int IntKind.i64 0, Value.int IntKind.i64 0, Value.int IntKind.i64 0, Value.int IntKind.i64 0, Value.int IntKind.i64 0, Value.int IntKind.i64 0, Value.int IntKind.i64 0, Value.int IntKind.i64 0, Value.int IntKind.i64 0, Value.int IntKind.i64 0, Value.int IntKind.i64 0, Value.int IntKind.i64 0, Value.int IntKind.i64 0, Value.int IntKind.i64 0, Value.int IntKind.i64 0, Value.int IntKind.i64 0, Value.int IntKind.i64 0, Value.int IntKind.i64 0, Value.int IntKind.i64 0, Value.int IntKind.i64 0, Value.int IntKind.i64 0, Value.int IntKind.i64 0, Value.int IntKind.i64 0, Value.int IntKind.i64 0, Value.int IntKind.i64 0, Value.int IntKind.i64 0, Value.int IntKind.i64 0, Value.int IntKind.i64 0, Value.int IntKind.i64 0, Value.int IntKind.i64 0, Value.int IntKind.i64 0, Value.int IntKind.i64 0] 84) := ⟨_, rfl⟩
  rw [← hW]
  have hbw : Below w.heap.size w W := by
    rw [hW]
    exact ((((Below.refl _ _).alloc (Nat.le_refl _) _).alloc (by simp) _).alloc (by simp <;> omega) _).alloc (by simp <;> omega) _
  obtain ⟨z, hz36, hz⟩ : ∃ z : Array Value, z.size = 36 ∧ W.heap[w.heap.size + 1 + 1 + 1]? = some (.cells z 84 (0, 0)) := ⟨#[Value.int IntKind.i64 0, Value.int IntKind.i64 0, Value.int IntKind.i64 0, Value.int IntKind.i64 0, Value.int IntKind.i64 0, Value.int IntKind.i64 0, Value.int IntKind.i64 0, Value.int IntKind.i64 0, Value.int IntKind.i64 0, Value.int IntKind.i64 0, Value.int IntKind.i64 0, Value.int IntKind.i64 0, Value.int IntKind.i64 0, Value.int IntKind.i64 0, Value.int IntKind.i64 0, Value.int IntKind.i64 0, Value.int IntKind.i64 0, Value.int IntKind.i64 0, Value.int IntKind.i64 0, Value.int IntKind.i64 0, Value.int IntKind.i64 0, Value.int IntKind.i64 0, Value.int IntKind.i64 0, Value.int IntKind.i64 0, Value.int IntKind.i64 0, Value.int IntKind.i64 0, Value.int IntKind.i64 0, Value.int IntKind.i64 0, Value.int IntKind.i64 0, Value.int IntKind.i64 0, Value.int IntKind.i64 0, Value.int IntKind.i64 0, Value.int IntKind.i64 0, Value.int IntKind.i64 0, Value.int IntKind.i64 0, Value.int IntKind.i64 0], rfl, by rw [hW]; exact heap_alloc_at _ _ _ (by simp)⟩
  have h0 : W.cell? ⟨w.heap.size, 0, none⟩ = some (.int .i64 a) := by rw [hW]; simp [go_sem]
  have h1 : W.cell? ⟨w.heap.size, 1, none⟩ = some (.int .i64 b) := by rw [hW]; simp [go_sem]
  have h2 : W.cell? ⟨w.heap.size, 2, none⟩ = some (.int .i64 lo) := by rw [hW]; simp [go_sem]
  have h3 : W.cell? ⟨w.heap.size, 3, none⟩ = some (.int .i64 hi) := by rw [hW]; simp [go_sem]
  have h4 : W.heap[w.heap.size + 1]? = some (.cells (tcells t) 84 (0, 0)) := by rw [hW]; exact (Below.heap_alloc _ _ _ (by simp <;> omega)).trans ((Below.heap_alloc _ _ _ (by simp)).trans (heap_alloc_at _ _ _ (by simp)))
  have hsz : w.heap.size + 4 ≤ W.heap.size := by rw [hW]; simp
  have hwr : IntKind.i64.wrap (-lo) = -lo := wrap_neg lo (by omega) (by omega)
  clear hW
  refine region_fix 20 (fun W' => Below W.heap.size W W') (by kernel_rfl) (by kernel_rfl) (Below.refl _ _).drew ?_
  simp only [List.take_succ_cons, List.take_zero, List.drop_succ_cons, List.drop_zero]
  refine WF_step ?_ (fun W' hC => ?_) rfl ?_
  rotate_left
  · have f0 := (hC.cell (p := ⟨w.heap.size, 0, none⟩) (by simp; omega)).trans h0
    have f1 := (hC.cell (p := ⟨w.heap.size, 1, none⟩) (by simp; omega)).trans h1
    have f2 := (hC.cell (p := ⟨w.heap.size, 2, none⟩) (by simp; omega)).trans h2
    have f3 := (hC.cell (p := ⟨w.heap.size, 3, none⟩) (by simp; omega)).trans h3
    go_simp
    exact fix_value hC
  simp only [Act.put, List.setIfInBounds_toArray, List.set_cons_zero, List.set_cons_succ]
  refine WF_step ?_ (fun W' hC => ?_) rfl ?_
  rotate_left
  · have f0 := (hC.cell (p := ⟨w.heap.size, 0, none⟩) (by simp; omega)).trans h0
    have f1 := (hC.cell (p := ⟨w.heap.size, 1, none⟩) (by simp; omega)).trans h1
    have f2 := (hC.cell (p := ⟨w.heap.size, 2, none⟩) (by simp; omega)).trans h2
    have f3 := (hC.cell (p := ⟨w.heap.size, 3, none⟩) (by simp; omega)).trans h3
    go_simp
    exact fix_value hC
  simp only [Act.put, List.setIfInBounds_toArray, List.set_cons_zero, List.set_cons_succ]
  refine WF_step (.agg (tcells t)) (fun W' hC => fix_load_row 84 (.tmp 4) rfl (w.heap.size + 1) rfl 84 (tcells t) (0, 0) _ ((hC.block (w.heap.size + 1) (by omega)).trans h4) underTab rfl (sizeTab _) hC) rfl ?_
  simp only [Act.put, List.setIfInBounds_toArray, List.set_cons_zero, List.set_cons_succ]
  iterate 7
    refine WF_step ?_ (fun W' hC => ?_) rfl ?_
    rotate_left
    · have f0 := (hC.cell (p := ⟨w.heap.size, 0, none⟩) (by simp; omega)).trans h0
      have f1 := (hC.cell (p := ⟨w.heap.size, 1, none⟩) (by simp; omega)).trans h1
      have f2 := (hC.cell (p := ⟨w.heap.size, 2, none⟩) (by simp; omega)).trans h2
      have f3 := (hC.cell (p := ⟨w.heap.size, 3, none⟩) (by simp; omega)).trans h3
      go_simp
      exact fix_value hC
    simp only [Act.put, List.setIfInBounds_toArray, List.set_cons_zero, List.set_cons_succ]
  refine WF_step (.agg (tcells (leastT t a b hi))) (fun W' hC => ?_) rfl ?_
  · go_simp
    refine fix_enter ((least_any t a b hi ha hb _).mono ?_)
    rintro e w1 ⟨rfl, hb1⟩
    exact ⟨rfl, hC.trans (hb1.mono hC.size)⟩
  simp only [Act.put, List.setIfInBounds_toArray, List.set_cons_zero, List.set_cons_succ]
  iterate 8
    refine WF_step ?_ (fun W' hC => ?_) rfl ?_
    rotate_left
    · have f0 := (hC.cell (p := ⟨w.heap.size, 0, none⟩) (by simp; omega)).trans h0
      have f1 := (hC.cell (p := ⟨w.heap.size, 1, none⟩) (by simp; omega)).trans h1
      have f2 := (hC.cell (p := ⟨w.heap.size, 2, none⟩) (by simp; omega)).trans h2
      have f3 := (hC.cell (p := ⟨w.heap.size, 3, none⟩) (by simp; omega)).trans h3
      go_simp
      exact fix_value hC
    simp only [Act.put, List.setIfInBounds_toArray, List.set_cons_zero, List.set_cons_succ]
  refine WF_step (.agg (tcells (putT t a b lo hi))) (fun W' hC => ?_) rfl ?_
  · go_simp
    refine fix_enter ((least_any (leastT t a b hi) b a (-lo) hb ha _).mono ?_)
    rintro e w1 ⟨rfl, hb1⟩
    exact ⟨rfl, hC.trans (hb1.mono hC.size)⟩
  simp only [Act.put, List.setIfInBounds_toArray, List.set_cons_zero, List.set_cons_succ]
  refine WF_nil ?_
  intro W1 hC1
  go_wp2_with (refine wpList_store_row rfl 84 _ _ rfl (w.heap.size + 1 + 1 + 1) (tcells (putT t a b lo hi)) rfl rfl 84 z ((hC1.block _ (by omega)).trans hz) (sizeTab _) (hz36.trans (tcells_size _).symm) (tcells_one _) ?_)
  refine bodyPost_ret (v := .agg (tcells (putT t a b lo hi))) (results_cell_row (fn := Try.f128) (p := 6) rfl _ _ (w.heap.size + 1 + 1 + 1) 84 (tcells (putT t a b lo hi)) (0, 0) _ rfl (setRow_heap _ _ _ _ _ _ ((hC1.block _ (by omega)).trans hz)) underTab rfl (sizeTab _)) rfl ⟨rfl, ?_⟩
  exact below_setRow (hbw.trans (hC1.mono hbw.size)) (by omega) _

end Go.Proofs.Ytlgeggekmdoceaa
