/- The span of all that can be: over a map, in whatever order. -/
import Derived.Test.YtlgeggekmdoceaaK
import Derived.Maps.RangeRun
namespace Go.Proofs.Ytlgeggekmdoceaa
set_option linter.unusedVariables false
set_option linter.unusedSimpArgs false
open Go.RowKit Go.Shelf
open Go.ChangeMaps (setBlock)
attribute [local go_sem] Oper.semAt_some

def spanV (s : Int × Int) : Value := .agg #[.int .i64 s.1, .int .i64 s.2]
/-- A span that holds some spans, and no more. -/
def IsHull (S : Int × Int → Prop) (s : Int × Int) : Prop := (∃ a, S a ∧ a.1 = s.1) ∧ (∃ a, S a ∧ a.2 = s.2) ∧ ∀ a, S a → s.1 ≤ a.1 ∧ a.2 ≤ s.2
theorem IsHull.congr {S T : Int × Int → Prop} {s : Int × Int} (h : IsHull S s) (e : ∀ x, S x ↔ T x) : IsHull T s := by
  have : S = T := funext fun x => propext (e x)
  exact this ▸ h
theorem IsHull.one (a : Int × Int) : IsHull (fun x => x = a) a := ⟨⟨a, rfl, rfl⟩, ⟨a, rfl, rfl⟩, fun x h => by subst h; omega⟩
theorem IsHull.add {S : Int × Int → Prop} {s : Int × Int} (h : IsHull S s) (a : Int × Int) : IsHull (fun x => S x ∨ x = a) (min s.1 a.1, max s.2 a.2) := by
  obtain ⟨⟨b, hb, e1⟩, ⟨c, hc, e2⟩, h3⟩ := h
  refine ⟨?_, ?_, ?_⟩
  · by_cases hle : s.1 ≤ a.1
    · exact ⟨b, .inl hb, by simp only; omega⟩
    · exact ⟨a, .inr rfl, by simp only; omega⟩
  · by_cases hle : a.2 ≤ s.2
    · exact ⟨c, .inl hc, by simp only; omega⟩
    · exact ⟨a, .inr rfl, by simp only; omega⟩
  · rintro x (hx | rfl)
    · have := h3 x hx; simp only; omega
    · simp only; omega
theorem IsHull.unique {S : Int × Int → Prop} {s t : Int × Int} (h : IsHull S s) (k : IsHull S t) : s = t := by
  obtain ⟨⟨b, hb, e1⟩, ⟨c, hc, e2⟩, h3⟩ := h
  obtain ⟨⟨b', hb', e1'⟩, ⟨c', hc', e2'⟩, h3'⟩ := k
  have := h3 b' hb'; have := h3 c' hc'; have := h3' b hb; have := h3' c hc
  apply Prod.ext <;> omega
def SeenIn {α : Type} (g : α → Int × Int) (xs : List α) (seen : Array Nat) (x : Int × Int) : Prop := ∃ i, seen.contains i = true ∧ ∃ y, xs[i]? = some y ∧ x = g y
theorem seenIn_push {α : Type} (g : α → Int × Int) (xs : List α) (seen : Array Nat) (i : Nat) (y : α) (hy : xs[i]? = some y) (x : Int × Int) : (SeenIn g xs seen x ∨ x = g y) ↔ SeenIn g xs (seen.push i) x := by
  unfold SeenIn
  constructor
  · rintro (⟨j, h1, h2⟩ | rfl)
    · exact ⟨j, by simp at h1 ⊢; exact .inl h1, h2⟩
    · exact ⟨i, by simp, y, hy, rfl⟩
  · rintro ⟨j, h1, z, h2, rfl⟩
    simp at h1
    rcases h1 with h1 | rfl
    · exact .inl ⟨j, by simpa using h1, z, h2, rfl⟩
    · rw [hy] at h2; cases h2; exact .inr rfl
theorem entsOf_mem (xs : List ((Int × Int) × Tab)) (e : MapEntry) (h : e ∈ (entsOf xs).toList) : ∃ y, xs[e.born]? = some y ∧ e.key = encC y.1 ∧ e.val = .agg (tcells y.2) := by
  simp only [entsOf, List.mem_mapIdx] at h
  obtain ⟨i, hi, rfl⟩ := h
  exact ⟨_, List.getElem?_eq_getElem hi, rfl, rfl⟩
theorem entsOf_born (xs : List ((Int × Int) × Tab)) (e : MapEntry) (h : e ∈ (entsOf xs).toList) : e.born < xs.length := by
  obtain ⟨y, hy, _⟩ := entsOf_mem xs e h
  exact (List.getElem?_eq_some_iff.1 hy).1
theorem entsOf_borns (xs : List ((Int × Int) × Tab)) : (entsOf xs).toList.map (·.born) = List.range xs.length := by
  apply List.ext_getElem
  · simp [entsOf]
  · intro i h1 h2
    simp [entsOf]
theorem entsOf_at (xs : List ((Int × Int) × Tab)) (i : Nat) (y) (h : xs[i]? = some y) : ∃ e ∈ (entsOf xs).toList, e.born = i := by
  obtain ⟨hi, rfl⟩ := List.getElem?_eq_some_iff.1 h
  refine ⟨{ key := encC xs[i].1, val := .agg (tcells xs[i].2), born := i }, ?_, rfl⟩
  simp only [entsOf, List.mem_mapIdx]
  exact ⟨i, hi, rfl⟩
theorem seenIn_all {xs : List ((Int × Int) × Tab)} (g : (Int × Int) × Tab → Int × Int) (seen : Array Nat) (h : (leftOf (entsOf xs) seen).size = 0) (x : Int × Int) : SeenIn g xs seen x ↔ x ∈ xs.map g := by
  unfold SeenIn
  rw [List.mem_map]
  constructor
  · rintro ⟨i, _, y, hy, rfl⟩; exact ⟨y, List.mem_of_getElem? hy, rfl⟩
  · rintro ⟨y, hy, rfl⟩
    obtain ⟨i, hi⟩ := List.mem_iff_getElem?.1 hy
    obtain ⟨e, he, rfl⟩ := entsOf_at xs i y hi
    exact ⟨e.born, all_seen _ _ h e he, y, hi, rfl⟩

/-- How many entries are still to come. -/
def leftAt (w : World) (b r : Nat) : Nat :=
  match w.heap[b]?, w.heap[r]? with
  | some (.map es _), some (.mapIter _ _ seen _) => (leftOf es seen).size
  | _, _ => 0

theorem wpList_storeA {P : Program} {ops : Array Oper} {rest : List Oper} {o : Oper} {a : Act} {w : World} {Q : Exit → Act → World → Prop} (hgd : o.guard = none) (ty : TypeId) (x y : Operand) (ho : o.op = .store ty x y)
    (g : Nat) (cells : Array Value) (hx : a.eval x = .pointer (some ⟨g, 0, none⟩)) (hy : a.eval y = .agg cells)
    (t : TypeId) (old : Array Value) (hg : w.heap[g]? = some (.cells old t (0, 0))) (hi : (P.info? ty).map (·.size) = some cells.size)
    (hold : old.size = cells.size) (h1 : cells.all (·.oneCell') = true)
    (h : ∀ w', w'.heap[g]? = some (.cells cells t (0, 0)) → Keeps (fun k => k = g) w w' → w'.heap.size = w.heap.size → wpList P ops Q rest (a.put o.dst undef) w') : wpList P ops Q (o :: rest) a w :=
  wpList_store_row hgd ty x y ho g cells hx hy t old hg hi hold h1 (h _ (setRow_heap _ _ _ _ _ _ hg) (keeps_setRow _ _ _) (by simp))
theorem two_setCell {w : World} {b : Nat} {x y x' y' : Value} {t : TypeId} {fr : Nat × Nat} (h : w.heap[b]? = some (.cells #[x, y] t fr)) : ((w.setCell ⟨b, 0, none⟩ x').setCell ⟨b, 1, none⟩ y').heap[b]? = some (.cells #[x', y'] t fr) := by
  simp [World.setCell, Array.getElem?_modify, h]

set_option maxRecDepth 100000 in
set_option maxHeartbeats 2000000 in
theorem hull_any (xs : List ((Int × Int) × Tab)) (hne : xs ≠ []) (g : (Int × Int) × Tab → Int × Int) (mb : Nat) (f : Nat) (caps : Array Value) (w : World) (hm : w.heap[mb]? = some (.map (entsOf xs) xs.length))
    (eg : ∀ args w, (callFunc f args).run Try.prog w = .ok (.enter f args) w)
    (hf : ∀ x ∈ xs, ∀ W, Below w.heap.size w W → Calls Try.prog f (#[encC x.1, .agg (tcells x.2)] ++ caps) W fun e W' => e = .returned (spanV (g x)) ∧ Below W.heap.size W W') :
    Calls Try.prog 97 #[.map (some mb), .agg #[.func (.func f) #[] caps]] w fun e w' => (∃ s, IsHull (fun x => x ∈ xs.map g) s ∧ e = .returned (spanV s)) ∧ Below w.heap.size w w' := by
  have hlt := lt_of_block hm
  have HM := Lib.hid hm
  have HF := Lib.hid hf
  clear hm hf
  have hrg := fun W (hw : W.heap[mb]? = some (.map (entsOf xs) xs.length)) => run_range_map W 97 _ _ mb (entsOf xs) xs.length under_map hw
  have hr1 := hrg ((w.alloc (.cells #[.func (.func f) #[] caps] 120 (0, 0))).alloc (.cells #[.int .i64 0, .int .i64 0] 24 (0, 0))) ((hget_old _ _ _ (by simp <;> omega)).trans ((hget_old _ _ _ (by simp <;> omega)).trans HM.out))
  go_enter Try.func97, Try.ntmps97
  go_wp2_with fail
  clear hr1
  go_loopw [5] (fun sm wr => ∃ (seen : Array Nat) (c0 : Nat), xs.length ≤ c0 ∧ wr.heap[w.heap.size + 1 + 1]? = some (.mapIter (some mb) xs.length seen c0) ∧
      ((sm = .bool false ∧ seen = #[] ∧ wr.heap[w.heap.size + 1]? = some (.cells #[.int .i64 0, .int .i64 0] 24 (0, 0))) ∨
       (sm = .bool true ∧ ∃ lo hi, IsHull (SeenIn g xs seen) (lo, hi) ∧ wr.heap[w.heap.size + 1]? = some (.cells #[.int .i64 lo, .int .i64 hi] 24 (0, 0)))) ∧
      wr.heap[w.heap.size]? = some (.cells #[.func (.func f) #[] caps] 120 (0, 0)) ∧ Below w.heap.size w wr)
    (fun _ wr => leftAt wr mb (w.heap.size + 1 + 1))
  case atStart =>
    refine ⟨#[], xs.length, Nat.le_refl _, (by repeat (first | (refine heap_alloc_at _ _ _ ?_; (simp <;> omega); done) | (refine (hget_old _ _ _ ?_).trans ?_; · (simp <;> omega)))), .inl ⟨rfl, rfl, (by repeat (first | (refine heap_alloc_at _ _ _ ?_; (simp <;> omega); done) | (refine (hget_old _ _ _ ?_).trans ?_; · (simp <;> omega))))⟩, (by repeat (first | (refine heap_alloc_at _ _ _ ?_; (simp <;> omega); done) | (refine (hget_old _ _ _ ?_).trans ?_; · (simp <;> omega)))), (((Below.refl _ _).alloc (Nat.le_refl _) _).alloc (by simp) _).alloc (by simp <;> omega) _⟩
  case round =>
    obtain ⟨seen, c0, hc0, hit, hcase, hbx, hb⟩ := hrel
    have hmr := (hb.block mb hlt).trans HM.out
    have hnx := run_next_at (P := Try.prog) wr 0 (w.heap.size + 1 + 1) mb xs.length c0 seen (entsOf xs) xs.length hit hmr (entsOf_born xs) hc0
    rcases hnx with ⟨hz, hrun⟩ | ⟨e, he, w1, hw1, hrun⟩
    · obtain ⟨lo, hi, hih, hs⟩ : ∃ lo hi, IsHull (SeenIn g xs seen) (lo, hi) ∧ wr.heap[w.heap.size + 1]? = some (.cells #[.int .i64 lo, .int .i64 hi] 24 (0, 0)) := by
        rcases hcase with ⟨_, rfl, _⟩ | ⟨_, lo, hi, h1, h2⟩
        · obtain ⟨y, ys, rfl⟩ := List.exists_cons_of_ne_nil hne
          have := all_seen _ _ hz _ (entsOf_at (y :: ys) 0 y rfl).choose_spec.1
          simp at this
        · exact ⟨lo, hi, h1, h2⟩
      have d0 : wr.cell? ⟨w.heap.size + 1, 0, none⟩ = some (.int .i64 lo) := by rw [cell_of_row wr _ _ _ _ _ hs]; rfl
      have d1 : wr.cell? ⟨w.heap.size + 1, 1, none⟩ = some (.int .i64 hi) := by rw [cell_of_row wr _ _ _ _ _ hs]; rfl
      have d2 : ∀ k, wr.frozen? ⟨w.heap.size + 1, k, none⟩ = false := fun k => frozen_of_row wr _ _ _ _ hs
      have HZ := Lib.hid hz
      have HB := Lib.hid hb
      have HI := Lib.hid (hih.congr (seenIn_all g seen hz))
      have HS := Lib.hid (two_setCell (x' := .int .i64 lo) (y' := .int .i64 hi) hs)
      clear hz hcase hb hs hih
      go_wp2
      obtain ⟨W3, hW3⟩ : ∃ W3, W3 = (wr.setCell ⟨w.heap.size + 1, 0, none⟩ (.int .i64 lo)).setCell ⟨w.heap.size + 1, 1, none⟩ (.int .i64 hi) := ⟨_, rfl⟩
      have HBB := Lib.hid ((HB.out.setCell (p := ⟨w.heap.size + 1, 0, none⟩) (by simp) (.int .i64 lo)).setCell (p := ⟨w.heap.size + 1, 1, none⟩) (by simp) (.int .i64 hi))
      rw [← hW3] at HS HBB
      rw [← hW3]
      have e0 : W3.cell? ⟨w.heap.size + 1, 0, none⟩ = some (.int .i64 lo) := by rw [cell_of_row W3 _ _ _ _ _ HS.out]; rfl
      have e1 : W3.cell? ⟨w.heap.size + 1, 1, none⟩ = some (.int .i64 hi) := by rw [cell_of_row W3 _ _ _ _ _ HS.out]; rfl
      refine bodyPost_ret (v := spanV (lo, hi)) ?_ rfl ⟨⟨(lo, hi), HI.out, rfl⟩, HBB.out⟩
      simp [results, Try.results97, go_sem, spanV, e0, e1]
    · obtain ⟨W, hW⟩ : ∃ W, W = setBlock w1 (w.heap.size + 1 + 1) (.mapIter (some mb) xs.length (seen.push e.born) xs.length) := ⟨_, rfl⟩
      rw [← hW] at hrun
      have hkW : Keeps (fun k => k = w.heap.size + 1 + 1) wr W := by
        rw [hW]
        rcases hw1 with rfl | rfl
        · exact Keeps.putObj _ _ _ rfl
        · exact (Keeps.drew _ _).trans (Keeps.putObj _ _ _ rfl)
      have hsW : W.heap.size = wr.heap.size := by rw [hW]; rcases hw1 with rfl | rfl <;> simp [setBlock]
      have hiW : W.heap[w.heap.size + 1 + 1]? = some (.mapIter (some mb) xs.length (seen.push e.born) xs.length) := by
        have := lt_of_block hit
        rw [hW]; rcases hw1 with rfl | rfl <;> simp [setBlock, this]
      clear hW
      obtain ⟨hee, _⟩ := mem_left he
      obtain ⟨y, hy, hke, hva⟩ := entsOf_mem xs e hee
      have hmW : W.heap[mb]? = some (.map (entsOf xs) xs.length) := (hkW.block mb (lt_of_block hmr) (by omega)).trans hmr
      have hen := run_entry_at (P := Try.prog) W (w.heap.size + 1 + 1) mb xs.length seen (entsOf xs) xs.length e hiW hmW hee (by rw [entsOf_borns]; exact List.nodup_range)
      rw [hke, hva] at hen hrun
      obtain ⟨⟨cz, cr⟩, ty⟩ := y
      simp only [encC] at hen hrun
      have HSW := Lib.hid hsW
      clear hsW
      have HC := Lib.hid hcase
      have HB := Lib.hid hb
      have HKW := Lib.hid hkW
      have HIW := Lib.hid hiW
      have HMW := Lib.hid hmW
      have HMR := Lib.hid hmr
      have HIT := Lib.hid hit
      have HY := Lib.hid hy
      have HBX := Lib.hid hbx
      have HE := Lib.hid he
      clear hcase hb hkW hiW hmW hmr hit hy hbx he hee hke hva
      have hfa : ∀ W', Below w.heap.size w W' → Calls Try.prog f (#[.agg #[.int .i64 cz, .int .i64 cr], .agg (tcells ty)] ++ caps) W' fun e W'' => e = .returned (spanV (g ((cz, cr), ty))) ∧ Below W'.heap.size W' W'' := HF.out _ (List.mem_of_getElem? HY.out)
      have HFA := Lib.hid hfa
      clear hfa
      have hbW : Below w.heap.size w W := HB.out.trans (HKW.out.below (by have := HB.out.size; omega) (fun k h => by omega))
      have HBW := Lib.hid hbW
      clear hbW
      go_wp2_with (first | (refine wpList_storeA rfl 84 _ _ rfl (W.heap.size + 1) (tcells ty) rfl rfl 84 #[Value.int IntKind.i64 0, Value.int IntKind.i64 0, Value.int IntKind.i64 0, Value.int IntKind.i64 0, Value.int IntKind.i64 0, Value.int IntKind.i64 0, Value.int IntKind.i64 0, Value.int IntKind.i64 0, Value.int IntKind.i64 0, Value.int IntKind.i64 0, Value.int IntKind.i64 0, Value.int IntKind.i64 0, Value.int IntKind.i64 0, Value.int IntKind.i64 0, Value.int IntKind.i64 0, Value.int IntKind.i64 0, Value.int IntKind.i64 0, Value.int IntKind.i64 0, Value.int IntKind.i64 0, Value.int IntKind.i64 0, Value.int IntKind.i64 0, Value.int IntKind.i64 0, Value.int IntKind.i64 0, Value.int IntKind.i64 0, Value.int IntKind.i64 0, Value.int IntKind.i64 0, Value.int IntKind.i64 0, Value.int IntKind.i64 0, Value.int IntKind.i64 0, Value.int IntKind.i64 0, Value.int IntKind.i64 0, Value.int IntKind.i64 0, Value.int IntKind.i64 0, Value.int IntKind.i64 0, Value.int IntKind.i64 0, Value.int IntKind.i64 0] (by repeat (first | (refine heap_alloc_at _ _ _ ?_; (simp <;> omega); done) | (refine (hget_old _ _ _ ?_).trans ?_; · (simp <;> omega)))) (sizeTab _) (tcells_size _).symm (tcells_one _) ?_))
      intro wy hyr hyk hys
      have HYR := Lib.hid hyr
      have HYK := Lib.hid hyk
      have HYS := Lib.hid hys
      clear hyr hyk hys
      have hsy : wy.heap.size = W.heap.size + 2 := by rw [HYS.out]
      have hbxW := (HKW.out.block w.heap.size (by have := HIT.out; have := lt_of_block this; omega) (by omega)).trans HBX.out
      have hby : Below W.heap.size W wy := (((Below.refl _ _).alloc (Nat.le_refl _) _).alloc (by simp) _).trans (HYK.out.below (by simp; omega) (fun k h => by omega))
      have q0 := (hby.block _ (lt_of_block hbxW)).trans hbxW
      have q1 : wy.heap[W.heap.size]? = some (.cells #[.int .i64 cz, .int .i64 cr] 81 (0, 0)) := (HYK.out.block _ (by simp <;> omega) (by omega)).trans ((hget_old _ _ _ (by simp)).trans (heap_alloc_at _ _ _ rfl))
      have d0 : wy.cell? ⟨w.heap.size, 0, none⟩ = some (.func (.func f) #[] caps) := by rw [cell_of_row wy _ _ _ _ _ q0]; rfl
      have d2 : wy.cell? ⟨W.heap.size, 0, none⟩ = some (.int .i64 cz) := by rw [cell_of_row wy _ _ _ _ _ q1]; rfl
      have d3 : wy.cell? ⟨W.heap.size, 1, none⟩ = some (.int .i64 cr) := by rw [cell_of_row wy _ _ _ _ _ q1]; rfl
      have Q1 := Lib.hid q1
      have HBY := Lib.hid hby
      have HSY := Lib.hid hsy
      clear q0 q1 hby hsy hbxW
      go_wp2_with (first | (refine wpList_load_row rfl 84 _ rfl (W.heap.size + 1) rfl 84 (tcells ty) (0, 0) _ HYR.out underTab rfl (sizeTab _) ?_))
      refine (HFA.out wy (HBW.out.trans (HBY.out.mono (by have := HBW.out.size; omega)))).mono ?_
      rintro e2 w2 ⟨rfl, hb2⟩
      obtain ⟨⟨gl, gh⟩, hgv⟩ : ∃ v, v = g ((cz, cr), ty) := ⟨_, rfl⟩
      rw [← hgv]
      have HG := Lib.hid hgv
      clear hgv
      have hle1 := HBW.out.size
      have hsr := HSW.out
      have hold : ∀ k, k < wr.heap.size → k ≠ w.heap.size + 1 + 1 → w2.heap[k]? = wr.heap[k]? := fun k hk hne => (hb2.block k (by have := HSY.out; omega)).trans ((HBY.out.block k (by omega)).trans (HKW.out.block k hk hne))
      have hRlt : w.heap.size + 1 + 1 < wr.heap.size := by have := HIT.out; exact lt_of_block this
      have hR2 : w2.heap[w.heap.size + 1 + 1]? = some (.mapIter (some mb) xs.length (seen.push e.born) xs.length) := (hb2.block _ (by have := HSY.out; omega)).trans ((HBY.out.block _ (by omega)).trans HIW.out)
      have hB2 : w2.heap[w.heap.size]? = some (.cells #[.func (.func f) #[] caps] 120 (0, 0)) := (hold _ (by omega) (by omega)).trans HBX.out
      have hM2 : w2.heap[mb]? = some (.map (entsOf xs) xs.length) := (hold _ (by omega) (by omega)).trans HMR.out
      have hbel : Below w.heap.size w w2 := HBW.out.trans (HBY.out.trans (hb2.mono (by have := HSY.out; omega)) |>.mono hle1)
      have HB2 := Lib.hid hb2
      have HOLD := Lib.hid hold
      have HR2 := Lib.hid hR2
      have HBB2 := Lib.hid hB2
      have HM2 := Lib.hid hM2
      have HBEL := Lib.hid hbel
      have hs2 : wr.heap.size + 2 ≤ w2.heap.size := by have := hb2.size; have := HSY.out; omega
      clear hb2 hold hR2 hB2 hM2 hbel hsr hle1
      have hmeas : ∀ w4 : World, w4.heap[mb]? = some (.map (entsOf xs) xs.length) → w4.heap[w.heap.size + 1 + 1]? = some (.mapIter (some mb) xs.length (seen.push e.born) xs.length) → leftAt w4 mb (w.heap.size + 1 + 1) < leftAt wr mb (w.heap.size + 1 + 1) := by
        intro w4 h1 h2
        unfold leftAt
        rw [h1, h2, HMR.out, HIT.out]
        exact left_shrinks _ _ _ HE.out
      have HMEAS := Lib.hid hmeas
      clear hmeas
      unfold spanV
      have hC := HC.out
      rcases hC with ⟨rfl, h0, hs0⟩ | ⟨rfl, lo, hi, hih, hs0⟩
      · have hS2 := (HOLD.out _ (by omega) (by omega)).trans hs0
        have hS3 : ∀ o, (w2.alloc o).heap[w.heap.size + 1]? = some (.cells #[.int .i64 0, .int .i64 0] 24 (0, 0)) := fun o => (hget_old _ _ _ (by omega)).trans hS2
        have d2 : ∀ o k, (w2.alloc o).frozen? ⟨w.heap.size + 1, k, none⟩ = false := fun o k => frozen_of_row _ _ _ _ _ (hS3 o)
        have d3 : ∀ o, (w2.alloc o).cell? ⟨w.heap.size + 1, 0, none⟩ = some (.int .i64 0) := fun o => by rw [cell_of_row _ _ _ _ _ _ (hS3 o)]; rfl
        have d4 : ∀ o, (w2.alloc o).cell? ⟨w.heap.size + 1, 1, none⟩ = some (.int .i64 0) := fun o => by rw [cell_of_row _ _ _ _ _ _ (hS3 o)]; rfl
        have hend : ∀ (o : Obj) (a b : Int), a = gl ∧ b = gh → ∀ sm : Value, sm = .bool true → ∀ W4, W4 = ((w2.alloc o).setCell ⟨w.heap.size + 1, 0, none⟩ (.int .i64 a)).setCell ⟨w.heap.size + 1, 1, none⟩ (.int .i64 b) → (∃ (seen' : Array Nat) (c0 : Nat), xs.length ≤ c0 ∧ W4.heap[w.heap.size + 1 + 1]? = some (.mapIter (some mb) xs.length seen' c0) ∧
            ((sm = .bool false ∧ seen' = #[] ∧ W4.heap[w.heap.size + 1]? = some (.cells #[.int .i64 0, .int .i64 0] 24 (0, 0))) ∨
             (sm = .bool true ∧ ∃ lo hi, IsHull (SeenIn g xs seen') (lo, hi) ∧ W4.heap[w.heap.size + 1]? = some (.cells #[.int .i64 lo, .int .i64 hi] 24 (0, 0)))) ∧
            W4.heap[w.heap.size]? = some (.cells #[.func (.func f) #[] caps] 120 (0, 0)) ∧ Below w.heap.size w W4) ∧ leftAt W4 mb (w.heap.size + 1 + 1) < leftAt wr mb (w.heap.size + 1 + 1) := by
          rintro o a b hab sm hsm W4 rfl
          have hk : ∀ k, k < w2.heap.size → k ≠ w.heap.size + 1 → (((w2.alloc o).setCell ⟨w.heap.size + 1, 0, none⟩ (.int .i64 a)).setCell ⟨w.heap.size + 1, 1, none⟩ (.int .i64 b)).heap[k]? = w2.heap[k]? := fun k h1 h2 =>
            (Below.heap_setCell _ _ _ _ h2).trans ((Below.heap_setCell _ _ _ _ h2).trans (hget_old _ _ _ (by omega)))
          refine ⟨⟨seen.push e.born, xs.length, Nat.le_refl _, (hk _ (by omega) (by omega)).trans HR2.out, .inr ⟨hsm, a, b, by obtain ⟨rfl, rfl⟩ := hab; refine (IsHull.one (a, b)).congr fun x => ?_; rw [← seenIn_push g xs seen e.born _ HY.out x, HG.out]; unfold SeenIn; simp [h0], two_setCell (hS3 o)⟩, (hk _ (by omega) (by omega)).trans HBB2.out, ?_⟩, HMEAS.out _ ((hk _ (by omega) (by omega)).trans HM2.out) ((hk _ (by omega) (by omega)).trans HR2.out)⟩
          exact ((HBEL.out.alloc (by omega) o).setCell (by simp) _).setCell (by simp) _
        have HEND := Lib.hid hend
        clear hend hS2
        clear hS3 hs0
        go_wp2
        all_goals go_roundw
        all_goals first | (refine (HEND.out _ _ _ ?_ _ rfl _ rfl).1; constructor <;> (repeat' split) <;> omega) | (refine (HEND.out _ _ _ ?_ _ rfl _ rfl).2; constructor <;> (repeat' split) <;> omega)
      · have hS2 := (HOLD.out _ (by omega) (by omega)).trans hs0
        have hS3 : ∀ o, (w2.alloc o).heap[w.heap.size + 1]? = some (.cells #[.int .i64 lo, .int .i64 hi] 24 (0, 0)) := fun o => (hget_old _ _ _ (by omega)).trans hS2
        have d2 : ∀ o k, (w2.alloc o).frozen? ⟨w.heap.size + 1, k, none⟩ = false := fun o k => frozen_of_row _ _ _ _ _ (hS3 o)
        have d3 : ∀ o, (w2.alloc o).cell? ⟨w.heap.size + 1, 0, none⟩ = some (.int .i64 lo) := fun o => by rw [cell_of_row _ _ _ _ _ _ (hS3 o)]; rfl
        have d4 : ∀ o, (w2.alloc o).cell? ⟨w.heap.size + 1, 1, none⟩ = some (.int .i64 hi) := fun o => by rw [cell_of_row _ _ _ _ _ _ (hS3 o)]; rfl
        have hend : ∀ (o : Obj) (a b : Int), a = min lo gl ∧ b = max hi gh → ∀ sm : Value, sm = .bool true → ∀ W4, W4 = ((w2.alloc o).setCell ⟨w.heap.size + 1, 0, none⟩ (.int .i64 a)).setCell ⟨w.heap.size + 1, 1, none⟩ (.int .i64 b) → (∃ (seen' : Array Nat) (c0 : Nat), xs.length ≤ c0 ∧ W4.heap[w.heap.size + 1 + 1]? = some (.mapIter (some mb) xs.length seen' c0) ∧
            ((sm = .bool false ∧ seen' = #[] ∧ W4.heap[w.heap.size + 1]? = some (.cells #[.int .i64 0, .int .i64 0] 24 (0, 0))) ∨
             (sm = .bool true ∧ ∃ lo hi, IsHull (SeenIn g xs seen') (lo, hi) ∧ W4.heap[w.heap.size + 1]? = some (.cells #[.int .i64 lo, .int .i64 hi] 24 (0, 0)))) ∧
            W4.heap[w.heap.size]? = some (.cells #[.func (.func f) #[] caps] 120 (0, 0)) ∧ Below w.heap.size w W4) ∧ leftAt W4 mb (w.heap.size + 1 + 1) < leftAt wr mb (w.heap.size + 1 + 1) := by
          rintro o a b hab sm hsm W4 rfl
          have hk : ∀ k, k < w2.heap.size → k ≠ w.heap.size + 1 → (((w2.alloc o).setCell ⟨w.heap.size + 1, 0, none⟩ (.int .i64 a)).setCell ⟨w.heap.size + 1, 1, none⟩ (.int .i64 b)).heap[k]? = w2.heap[k]? := fun k h1 h2 =>
            (Below.heap_setCell _ _ _ _ h2).trans ((Below.heap_setCell _ _ _ _ h2).trans (hget_old _ _ _ (by omega)))
          refine ⟨⟨seen.push e.born, xs.length, Nat.le_refl _, (hk _ (by omega) (by omega)).trans HR2.out, .inr ⟨hsm, a, b, by obtain ⟨rfl, rfl⟩ := hab; have h1 := hih.add (gl, gh); refine h1.congr fun x => ?_; rw [← seenIn_push g xs seen e.born _ HY.out x, HG.out], two_setCell (hS3 o)⟩, (hk _ (by omega) (by omega)).trans HBB2.out, ?_⟩, HMEAS.out _ ((hk _ (by omega) (by omega)).trans HM2.out) ((hk _ (by omega) (by omega)).trans HR2.out)⟩
          exact ((HBEL.out.alloc (by omega) o).setCell (by simp) _).setCell (by simp) _
        have HEND := Lib.hid hend
        clear hend hS2
        clear hS3 hs0
        go_wp2
        all_goals go_roundw
        all_goals first | (refine (HEND.out _ _ _ ?_ _ rfl _ rfl).1; constructor <;> (repeat' split) <;> omega) | (refine (HEND.out _ _ _ ?_ _ rfl _ rfl).2; constructor <;> (repeat' split) <;> omega)

end Go.Proofs.Ytlgeggekmdoceaa
