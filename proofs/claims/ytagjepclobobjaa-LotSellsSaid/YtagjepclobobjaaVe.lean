/- Texts Bu, Bv, Bw, Bx in one file; each begins with a word on what it proves. -/
import Derived.Test.YtagjepclobobjaaVd
import Derived.Test.YtagjepclobobjaaVa

/- Package grade: what is told; the faces that blocks can have. -/
namespace Go.Proofs.Ytagjepclobobjaa
set_option linter.unusedVariables false
set_option linter.unusedSimpArgs false
open Go.RowKit Go.Shelf
attribute [local go_sem] Oper.semAt_some

set_option maxRecDepth 100000 in
set_option maxHeartbeats 2000000 in
theorem gtold_any (g : GradeD) (hp : g.pts.length = 5) (hv : validG g = true) (lv l2 : Value) (bp : Nat) (w : World) (hbp : w.heap[bp]? = some (.cells (benchC lv g.pts g.step l2).toArray 154 (0, 0))) :
    Calls Try.prog 59 #[.pointer (some ⟨bp, 0, none⟩)] w fun e w' =>
      (if truthsG g = [] then e = .panicked [{ v := gstopV 10, recovered := false }] else e = .returned (.pointer (some ⟨bp, 0, none⟩))) ∧ Below w.heap.size w w' := by
  have hlp := lt_of_block hbp
  have HP := Lib.hid hbp
  clear hbp
  go_enter Try.func59, Try.ntmps59
  go_wp2_with fail
  refine (gblocks_any bp _).mono ?_
  rintro e w1 ⟨rfl, rfl⟩
  dsimp only
  go_wp2_with fail
  refine (gfirst_any g hp hv lv l2 w.heap.size bp (w.alloc (boxB bp)) (heap_alloc_at _ _ _ rfl) ((hget_old _ _ _ (by omega)).trans HP.out)).mono ?_
  rintro e w2 ⟨⟨y, hy, rfl⟩, hb2⟩
  have hbw : Below w.heap.size w w2 := (below_allocG w _).trans (hb2.mono (by simp))
  have HB := Lib.hid hbw
  obtain ⟨a, b, c, d, f, rfl⟩ := list5 hy
  clear hb2 hbw hy
  by_cases ht : truthsG g = []
  · have he : (!(truthsG g).isEmpty) = false := by rw [ht]; rfl
    have HT := Lib.hid ht
    simp only [he]
    clear he ht
    unfold ptsV
    simp only [List.map_cons, List.map_nil]
    go_wp2_with fail
    refine (gmust_no 10 _).mono ?_
    rintro e w3 ⟨rfl, rfl⟩
    exact ⟨rfl, by rw [if_pos HT.out], HB.out.alloc HB.out.size _⟩
  · have he : (!(truthsG g).isEmpty) = true := by
      cases h : truthsG g with
      | nil => exact absurd h ht
      | cons x xs => rfl
    have HT := Lib.hid ht
    simp only [he]
    clear he ht
    unfold ptsV
    simp only [List.map_cons, List.map_nil]
    go_wp2_with fail
    refine (gmust_ok 10 _).mono ?_
    rintro e w3 ⟨rfl, rfl⟩
    dsimp only
    go_wp2_with fail
    refine ⟨rfl, .pointer (some ⟨bp, 0, none⟩), by kernel_rfl, by first | rfl | rw [if_neg HT.out], HB.out.alloc HB.out.size _⟩

/-! ### faces -/
def encF (f : Int × Int) : Value := pairV f.1 f.2
theorem under_face : Try.prog.underlying 132 = some (.struct (Try.prog.fieldsOf 132)) := by kernel_rfl
theorem under_intG : Try.prog.underlying 3 = some (.int .i64) := by kernel_rfl
theorem under_fmap : Try.prog.underlying 125 = some (.map 132 4) := by kernel_rfl
theorem eqFace (c d : Int × Int) (w : World) : (Op.equal 132 (encF c) (encF d)).run Try.prog w = .ok (decide (c = d)) w := by
  unfold encF pairV Op.equal Op.maxDepth
  rw [run_equalIn_agg w 9999 132 _ _ under_face (by kernel_rfl)]
  simp [go_sem, Op.eqFields]
  obtain ⟨a, b⟩ := c
  obtain ⟨a', b'⟩ := d
  by_cases h1 : a = a' <;> by_cases h2 : b = b' <;> simp [h1, h2]
theorem keyFace : KeyK Try.prog 132 encF where
  under := ⟨_, under_face⟩
  eq := eqFace
  chk c e w := by kernel_rfl
  same c := by simp [encF, pairV, Instr.sameBits]
theorem method_plain (w : World) : (method 292 128 (.agg #[]) "blockworks/grade.at").run Try.prog w = .ok (108, .agg #[]) w := by kernel_rfl
theorem method_lapped (cs : Array Value) (w : World) : (method 292 130 (.agg cs) "blockworks/grade.at").run Try.prog w = .ok (112, .agg cs) w := by kernel_rfl
/-- A set of faces. -/
def inF (l : List (Int × Int)) : Int × Int → Option Value := fun k => if k ∈ l then some (.bool true) else none
theorem inF_snoc (l : List (Int × Int)) (k : Int × Int) : (fun x => if x = k then some (.bool true) else inF l x) = inF (l ++ [k]) := by
  funext x
  unfold inF
  by_cases h : x = k
  · simp [h]
  · simp [h]
/-- A set of faces in memory. -/
def FacesAt (W : World) (mb : Nat) (l : List (Int × Int)) : Prop := ∃ L clock, W.heap[mb]? = some (mapK encF L clock) ∧ TabK L clock (inF l)
theorem FacesAt.of {w W : World} {mb : Nat} {l : List (Int × Int)} (h : FacesAt w mb l) (he : W.heap[mb]? = w.heap[mb]?) : FacesAt W mb l := by
  obtain ⟨L, clock, h1, h2⟩ := h
  exact ⟨L, clock, he.trans h1, h2⟩
theorem FacesAt.lt {w : World} {mb : Nat} {l : List (Int × Int)} (h : FacesAt w mb l) : mb < w.heap.size := by
  obtain ⟨L, clock, h1, _⟩ := h
  exact (Array.getElem?_eq_some_iff.1 h1).1
theorem FacesAt.put {W : World} {mb : Nat} {l : List (Int × Int)} (h : FacesAt W mb l) (k : Int × Int) :
    ∃ o, (Instr.mapUpdate 125 (.map (some mb)) (encF k) (.bool true)).run Try.prog W = .ok () (W.putObj mb o) ∧ FacesAt (W.putObj mb o) mb (l ++ [k]) := by
  obtain ⟨L, clock, h1, h2⟩ := h
  refine ⟨_, run_updK keyFace under_fmap mb L clock k (.bool true) W h1, (updK k (.bool true) L clock).1, (updK k (.bool true) L clock).2, ?_, ?_⟩
  · have := (Array.getElem?_eq_some_iff.1 h1).1
    simp [World.putObj, this]
  · rw [← inF_snoc]; exact h2.upd k _
theorem emptyMap (w : World) : w.alloc (.map #[] 0) = w.alloc (mapK encF [] 0) := rfl
def faceOf (x : List Int) : Int × Int := (offG x, variesG x)

set_option maxRecDepth 100000 in
set_option maxHeartbeats 4000000 in
theorem faces_plain (g : GradeD) (hp : g.pts.length = 5) (hv : validG g = true) (lv l2 : Value) (level : Int) (hlevel : -1000 ≤ level ∧ level ≤ 1000) (bp : Nat) (w : World) (hbp : w.heap[bp]? = some (.cells (benchC lv g.pts g.step l2).toArray 154 (0, 0))) :
    Calls Try.prog 67 #[.pointer (some ⟨bp, 0, none⟩), .iface 128 (.agg #[])] w fun e w' =>
      (∃ mb, e = .returned (.map (some mb)) ∧ w.heap.size ≤ mb ∧ FacesAt w' mb ((truthsG g).map fun x => faceOf (x))) ∧ Below w.heap.size w w' := by
  have hlp := lt_of_block hbp
  have HP := Lib.hid hbp
  clear hbp
  have hmm := @run_makeMap Try.prog
  refine calls_of_wp_marks Try.func67 rfl ?_
  simp only [Try.ntmps67, List.size_toArray, List.length_cons, List.length_nil, Nat.reduceAdd, Nat.reduceSub, Array.replicate_succ, Array.replicate_zero, List.push_toArray, List.append_toArray, List.nil_append, List.cons_append]
  go_wp2_with fail
  refine (gblocks_any bp _).mono ?_
  rintro e w1 ⟨rfl, rfl⟩
  clear hmm
  go_wp2_with fail
  obtain ⟨WZ, hWZ⟩ : ∃ WZ, WZ = ((((w.alloc (.cells #[.iface 128 (.agg #[])] 168)).alloc (.map #[] 0)).alloc (.cells #[.map (some (w.heap.size + 1))] 125)).alloc (boxB bp)) := ⟨_, rfl⟩
  rw [← hWZ]
  have hzz : WZ.heap.size = w.heap.size + 4 := by rw [hWZ]; simp
  have y0 : WZ.heap[w.heap.size]? = some (.cells #[.iface 128 (.agg #[])] 168 (0, 0)) := by rw [hWZ]; exact (by repeat (first | (refine heap_alloc_at _ _ _ ?_; (simp <;> omega); done) | (refine (hget_old _ _ _ ?_).trans ?_; · (simp <;> omega))))
  have y1 : WZ.heap[w.heap.size + 1]? = some (mapK encF [] 0) := by rw [hWZ]; exact (by repeat (first | (refine heap_alloc_at _ _ _ ?_; (simp <;> omega); done) | (refine (hget_old _ _ _ ?_).trans ?_; · (simp <;> omega))))
  have y2 : WZ.heap[w.heap.size + 1 + 1]? = some (.cells #[.map (some (w.heap.size + 1))] 125 (0, 0)) := by rw [hWZ]; exact (by repeat (first | (refine heap_alloc_at _ _ _ ?_; (simp <;> omega); done) | (refine (hget_old _ _ _ ?_).trans ?_; · (simp <;> omega))))
  have y3 : WZ.heap[w.heap.size + 3]? = some (boxB bp) := by rw [hWZ]; exact (by repeat (first | (refine heap_alloc_at _ _ _ ?_; (simp <;> omega); done) | (refine (hget_old _ _ _ ?_).trans ?_; · (simp <;> omega))))
  have hbz : Below w.heap.size w WZ := by rw [hWZ]; exact ((((Below.refl _ _).alloc (Nat.le_refl _) _).alloc (by simp) _).alloc (by simp <;> omega) _).alloc (by simp <;> omega) _
  have Y0 := Lib.hid y0
  have Y1 := Lib.hid y1
  have Y2 := Lib.hid y2
  have Y3 := Lib.hid y3
  have HBZ := Lib.hid hbz
  clear hWZ y0 y1 y2 y3 hbz
  refine wp_range (gf := 89) (lb := #[.pointer (some ⟨w.heap.size + 3, 0, none⟩)]) rfl (enters_of Try.func89 (by kernel_rfl) rfl) (encs := encX) (fun _ => rfl)
    (fun k => k = w.heap.size + 3 ∨ k = bp) (fun k => k = w.heap.size + 1) ?hRd ?hM (truthsG g) ?hseq
    (fun pre G Wr => FacesAt Wr (w.heap.size + 1) (pre.map fun x => faceOf (x)) ∧ Keeps (fun k => k = w.heap.size + 1) WZ Wr)
    (fun _ _ _ _ => False)
    ?hI ?hIx ?h0 ?hround ?hdone ?hstop
  case hRd => intro k hk; omega
  case hM => intro k hk; exact ⟨by omega, fun h => by omega⟩
  case hseq =>
    intro W' hb
    exact blocks_seq g hp hv lv l2 (w.heap.size + 3) bp W' ((hb.block _ (by omega)).trans Y3.out) ((hb.block _ (by omega)).trans ((HBZ.out.block _ hlp).trans HP.out))
  case hI =>
    rintro s G A B ⟨h1, h2⟩ hk
    exact ⟨h1.of (hk.block _ h1.lt (by omega)), h2.transNew hk (fun i h => h.1)⟩
  case hIx => rintro c s G A B h hk; exact h
  case h0 => exact ⟨⟨[], 0, Y1.out, TabK.nil⟩, Keeps.refl _ _⟩
  case hstop => rintro D c pre x rest G W' hxs h; exact h.elim
  case hround =>
    rintro l pre x rest G Wr hxs ⟨h1, h2⟩ hl1 hl2 hGl
    have hx5 : x.length = 5 := truth_len (g := g) (by rw [hxs]; simp)
    have hxi : ∀ v ∈ x, -1000 ≤ v ∧ v ≤ 1000 := fun v hv2 => by have := truth_in (g := g) hp hv (x := x) (by rw [hxs]; simp) v hv2; omega
    have hat := plainAt_any x hx5 hxi
    obtain ⟨fo, hfo⟩ : ∃ q, q = faceOf (x) := ⟨_, rfl⟩
    have hfo1 : fo.1 = offG (x) := by rw [hfo]; rfl
    have hfo2 : fo.2 = variesG (x) := by rw [hfo]; rfl
    rw [← hfo1, ← hfo2] at hat
    have HAT := Lib.hid hat
    have H1 := Lib.hid h1
    have H2 := Lib.hid h2
    have HFO := Lib.hid hfo
    clear h1 h2 hGl hxs hxi hat hfo hfo1 hfo2
    obtain ⟨a, b, c, d, f, rfl⟩ := list5 hx5
    unfold encX ptsV
    simp only [List.map_cons, List.map_nil]
    gi_wp2
    refine ⟨Keeps.alloc _ _ _, ?_⟩
    intro W3 hk3 hs9
    have hs3 : W3.heap.size = Wr.heap.size + 1 := by rw [hs9]; simp
    clear hs9
    have hW3 : ∀ k, k < Wr.heap.size → k ≠ l → W3.heap[k]? = Wr.heap[k]? := fun k hk hne => (hk3.block k (by simp; omega) hne).trans (Below.heap_alloc _ _ _ hk)
    have hsz2 := H2.out.size
    have z0 := (hW3 _ (by omega) (by omega)).trans ((H2.out.block w.heap.size (by omega) (by omega)).trans Y0.out)
    have z1 := H1.out.of (hW3 _ (by omega) (by omega))
    have z2 := (hW3 _ (by omega) (by omega)).trans ((H2.out.block (w.heap.size + 1 + 1) (by omega) (by omega)).trans Y2.out)
    have zx : W3.heap[Wr.heap.size]? = some (rowG [a, b, c, d, f]) := (hk3.block _ (by simp) (by omega)).trans (heap_alloc_at _ _ _ rfl)
    have hkr3 : Keeps (fun k => k = w.heap.size + 1) WZ W3 := (H2.out.trans (Keeps.alloc _ _ _)).transNew hk3 (fun i h => by omega)
    have d0 : W3.cell? ⟨w.heap.size, 0, none⟩ = some (.iface 128 (.agg #[])) := by rw [cell_of_row W3 _ _ _ _ _ z0]; rfl
    have d2 : W3.cell? ⟨w.heap.size + 1 + 1, 0, none⟩ = some (.map (some (w.heap.size + 1))) := by rw [cell_of_row W3 _ _ _ _ _ z2]; rfl
    have Z0 := Lib.hid z0
    have Z1 := Lib.hid z1
    have Z2 := Lib.hid z2
    have ZX := Lib.hid zx
    have HK3 := Lib.hid hkr3
    have HS3 := Lib.hid hs3
    clear z0 z1 z2 zx hk3 hW3 hkr3 d0 d2 hs3
    gi_wp2
    refine region_fixIn 4 (fun W' => Below W3.heap.size W3 W') (by kernel_rfl) (by kernel_rfl) (by kernel_rfl) (Below.refl _ _).drew ?_
    simp only [List.take_succ_cons, List.take_zero, List.drop_succ_cons, List.drop_zero]
    iterate 3
      refine WF_step ?_ (fun W' hC => ?_) rfl ?_
      rotate_left
      · have d0 : W'.cell? ⟨w.heap.size, 0, none⟩ = some (.iface 128 (.agg #[])) := by rw [cell_of_row W' _ _ _ _ _ ((hC.block _ (by have := HS3.out; omega)).trans Z0.out)]; rfl
        have d2 : W'.cell? ⟨w.heap.size + 1 + 1, 0, none⟩ = some (.map (some (w.heap.size + 1))) := by rw [cell_of_row W' _ _ _ _ _ ((hC.block _ (by have := HS3.out; omega)).trans Z2.out)]; rfl
        obtain ⟨q0, q1, q2, q3, q4⟩ := cells5 ((hC.block _ (by have := HS3.out; omega)).trans ZX.out)
        have hmi := method_plain
        go_simp
        first
          | exact fix_value hC
          | exact fix_enter ((HAT.out W').mono fun e w'' h => ⟨h.1, hC.trans (h.2.mono hC.size)⟩)
      simp only [Act.put, List.setIfInBounds_toArray, List.set_cons_zero, List.set_cons_succ]
    refine WF_step (pairV fo.1 fo.2) (fun W' hC => ?_) rfl ?_
    · have d0 : W'.cell? ⟨w.heap.size, 0, none⟩ = some (.iface 128 (.agg #[])) := by rw [cell_of_row W' _ _ _ _ _ ((hC.block _ (by have := HS3.out; omega)).trans Z0.out)]; rfl
      have d2 : W'.cell? ⟨w.heap.size + 1 + 1, 0, none⟩ = some (.map (some (w.heap.size + 1))) := by rw [cell_of_row W' _ _ _ _ _ ((hC.block _ (by have := HS3.out; omega)).trans Z2.out)]; rfl
      obtain ⟨q0, q1, q2, q3, q4⟩ := cells5 ((hC.block _ (by have := HS3.out; omega)).trans ZX.out)
      have hmi := method_plain
      go_simp
      first
        | exact fix_value hC
        | exact fix_enter ((HAT.out W').mono fun e w'' h => ⟨h.1, hC.trans (h.2.mono hC.size)⟩)
    simp only [Act.put, List.setIfInBounds_toArray, List.set_cons_zero, List.set_cons_succ]
    refine WF_nil ?_
    intro W5 hC5
    obtain ⟨ob, hput, hfa⟩ := (Z1.out.of (hC5.block _ (by have := Z1.out.lt; omega))).put fo
    unfold encF at hput
    have hkW5 : Keeps (fun k => k = w.heap.size + 1) W3 (W5.putObj (w.heap.size + 1) ob) := (Keeps.of_below hC5 (fun k h1 h2 => absurd h2 (by omega))).trans (Keeps.putObj _ _ _ rfl)
    have HPUT := Lib.hid (And.intro hfa hkW5)
    clear hfa hkW5 hC5
    gi_wp2
    refine ⟨HPUT.out.2, ?_, HK3.out.trans HPUT.out.2⟩
    rw [List.map_append, List.map_cons, List.map_nil, ← HFO.out]
    exact HPUT.out.1
  case hdone =>
    rintro D G W' ⟨h1, h2⟩ hGD hkk hD hDs
    have z2 := (h2.block (w.heap.size + 1 + 1) (by omega) (by omega)).trans Y2.out
    have d2 : W'.cell? ⟨w.heap.size + 1 + 1, 0, none⟩ = some (.map (some (w.heap.size + 1))) := by rw [cell_of_row W' _ _ _ _ _ z2]; rfl
    have H1 := Lib.hid h1
    have HKK := Lib.hid h2
    have HD := Lib.hid hD
    clear h1 h2 hD hGD hkk z2
    go_wp2
    refine ⟨by simp, .inl ⟨_, _, rfl, run_takeDeferred HD.out, ?_⟩⟩
    refine ⟨.map (some (w.heap.size + 1)), ?_, ⟨_, rfl, by omega, H1.out.of (World.putObj_heap_other (by omega))⟩, ?_⟩
    · simp [results, Try.results67, go_sem]
    · exact (HBZ.out.trans ((HKK.out.mono (Mut' := fun k => w.heap.size ≤ k) (fun k _ h => by omega)).below (by omega) (fun k h => by omega))).trans ((Keeps.putObj (Mut := fun k => k = D) _ _ _ rfl).below (by have := HKK.out.size; omega) (fun k h => by omega))
set_option maxRecDepth 100000 in
set_option maxHeartbeats 4000000 in
theorem faces_lapped (g : GradeD) (hp : g.pts.length = 5) (hv : validG g = true) (lv l2 : Value) (level : Int) (hlevel : -1000 ≤ level ∧ level ≤ 1000) (bp : Nat) (w : World) (hbp : w.heap[bp]? = some (.cells (benchC lv g.pts g.step l2).toArray 154 (0, 0))) :
    Calls Try.prog 67 #[.pointer (some ⟨bp, 0, none⟩), .iface 130 (.agg #[.int .i64 level])] w fun e w' =>
      (∃ mb, e = .returned (.map (some mb)) ∧ w.heap.size ≤ mb ∧ FacesAt w' mb ((truthsG g).map fun x => faceOf (lapG level x))) ∧ Below w.heap.size w w' := by
  have hlp := lt_of_block hbp
  have HP := Lib.hid hbp
  clear hbp
  have hmm := @run_makeMap Try.prog
  refine calls_of_wp_marks Try.func67 rfl ?_
  simp only [Try.ntmps67, List.size_toArray, List.length_cons, List.length_nil, Nat.reduceAdd, Nat.reduceSub, Array.replicate_succ, Array.replicate_zero, List.push_toArray, List.append_toArray, List.nil_append, List.cons_append]
  go_wp2_with fail
  refine (gblocks_any bp _).mono ?_
  rintro e w1 ⟨rfl, rfl⟩
  clear hmm
  go_wp2_with fail
  obtain ⟨WZ, hWZ⟩ : ∃ WZ, WZ = ((((w.alloc (.cells #[.iface 130 (.agg #[.int .i64 level])] 168)).alloc (.map #[] 0)).alloc (.cells #[.map (some (w.heap.size + 1))] 125)).alloc (boxB bp)) := ⟨_, rfl⟩
  rw [← hWZ]
  have hzz : WZ.heap.size = w.heap.size + 4 := by rw [hWZ]; simp
  have y0 : WZ.heap[w.heap.size]? = some (.cells #[.iface 130 (.agg #[.int .i64 level])] 168 (0, 0)) := by rw [hWZ]; exact (by repeat (first | (refine heap_alloc_at _ _ _ ?_; (simp <;> omega); done) | (refine (hget_old _ _ _ ?_).trans ?_; · (simp <;> omega))))
  have y1 : WZ.heap[w.heap.size + 1]? = some (mapK encF [] 0) := by rw [hWZ]; exact (by repeat (first | (refine heap_alloc_at _ _ _ ?_; (simp <;> omega); done) | (refine (hget_old _ _ _ ?_).trans ?_; · (simp <;> omega))))
  have y2 : WZ.heap[w.heap.size + 1 + 1]? = some (.cells #[.map (some (w.heap.size + 1))] 125 (0, 0)) := by rw [hWZ]; exact (by repeat (first | (refine heap_alloc_at _ _ _ ?_; (simp <;> omega); done) | (refine (hget_old _ _ _ ?_).trans ?_; · (simp <;> omega))))
  have y3 : WZ.heap[w.heap.size + 3]? = some (boxB bp) := by rw [hWZ]; exact (by repeat (first | (refine heap_alloc_at _ _ _ ?_; (simp <;> omega); done) | (refine (hget_old _ _ _ ?_).trans ?_; · (simp <;> omega))))
  have hbz : Below w.heap.size w WZ := by rw [hWZ]; exact ((((Below.refl _ _).alloc (Nat.le_refl _) _).alloc (by simp) _).alloc (by simp <;> omega) _).alloc (by simp <;> omega) _
  have Y0 := Lib.hid y0
  have Y1 := Lib.hid y1
  have Y2 := Lib.hid y2
  have Y3 := Lib.hid y3
  have HBZ := Lib.hid hbz
  clear hWZ y0 y1 y2 y3 hbz
  refine wp_range (gf := 89) (lb := #[.pointer (some ⟨w.heap.size + 3, 0, none⟩)]) rfl (enters_of Try.func89 (by kernel_rfl) rfl) (encs := encX) (fun _ => rfl)
    (fun k => k = w.heap.size + 3 ∨ k = bp) (fun k => k = w.heap.size + 1) ?hRd ?hM (truthsG g) ?hseq
    (fun pre G Wr => FacesAt Wr (w.heap.size + 1) (pre.map fun x => faceOf (lapG level x)) ∧ Keeps (fun k => k = w.heap.size + 1) WZ Wr)
    (fun _ _ _ _ => False)
    ?hI ?hIx ?h0 ?hround ?hdone ?hstop
  case hRd => intro k hk; omega
  case hM => intro k hk; exact ⟨by omega, fun h => by omega⟩
  case hseq =>
    intro W' hb
    exact blocks_seq g hp hv lv l2 (w.heap.size + 3) bp W' ((hb.block _ (by omega)).trans Y3.out) ((hb.block _ (by omega)).trans ((HBZ.out.block _ hlp).trans HP.out))
  case hI =>
    rintro s G A B ⟨h1, h2⟩ hk
    exact ⟨h1.of (hk.block _ h1.lt (by omega)), h2.transNew hk (fun i h => h.1)⟩
  case hIx => rintro c s G A B h hk; exact h
  case h0 => exact ⟨⟨[], 0, Y1.out, TabK.nil⟩, Keeps.refl _ _⟩
  case hstop => rintro D c pre x rest G W' hxs h; exact h.elim
  case hround =>
    rintro l pre x rest G Wr hxs ⟨h1, h2⟩ hl1 hl2 hGl
    have hx5 : x.length = 5 := truth_len (g := g) (by rw [hxs]; simp)
    have hxi : ∀ v ∈ x, -1000 ≤ v ∧ v ≤ 1000 := fun v hv2 => by have := truth_in (g := g) hp hv (x := x) (by rw [hxs]; simp) v hv2; omega
    have hat := lappedAt_any level x hlevel hx5 hxi
    obtain ⟨fo, hfo⟩ : ∃ q, q = faceOf (lapG level x) := ⟨_, rfl⟩
    have hfo1 : fo.1 = offG (lapG level x) := by rw [hfo]; rfl
    have hfo2 : fo.2 = variesG (lapG level x) := by rw [hfo]; rfl
    rw [← hfo1, ← hfo2] at hat
    have HAT := Lib.hid hat
    have H1 := Lib.hid h1
    have H2 := Lib.hid h2
    have HFO := Lib.hid hfo
    clear h1 h2 hGl hxs hxi hat hfo hfo1 hfo2
    obtain ⟨a, b, c, d, f, rfl⟩ := list5 hx5
    unfold encX ptsV
    simp only [List.map_cons, List.map_nil]
    gi_wp2
    refine ⟨Keeps.alloc _ _ _, ?_⟩
    intro W3 hk3 hs9
    have hs3 : W3.heap.size = Wr.heap.size + 1 := by rw [hs9]; simp
    clear hs9
    have hW3 : ∀ k, k < Wr.heap.size → k ≠ l → W3.heap[k]? = Wr.heap[k]? := fun k hk hne => (hk3.block k (by simp; omega) hne).trans (Below.heap_alloc _ _ _ hk)
    have hsz2 := H2.out.size
    have z0 := (hW3 _ (by omega) (by omega)).trans ((H2.out.block w.heap.size (by omega) (by omega)).trans Y0.out)
    have z1 := H1.out.of (hW3 _ (by omega) (by omega))
    have z2 := (hW3 _ (by omega) (by omega)).trans ((H2.out.block (w.heap.size + 1 + 1) (by omega) (by omega)).trans Y2.out)
    have zx : W3.heap[Wr.heap.size]? = some (rowG [a, b, c, d, f]) := (hk3.block _ (by simp) (by omega)).trans (heap_alloc_at _ _ _ rfl)
    have hkr3 : Keeps (fun k => k = w.heap.size + 1) WZ W3 := (H2.out.trans (Keeps.alloc _ _ _)).transNew hk3 (fun i h => by omega)
    have d0 : W3.cell? ⟨w.heap.size, 0, none⟩ = some (.iface 130 (.agg #[.int .i64 level])) := by rw [cell_of_row W3 _ _ _ _ _ z0]; rfl
    have d2 : W3.cell? ⟨w.heap.size + 1 + 1, 0, none⟩ = some (.map (some (w.heap.size + 1))) := by rw [cell_of_row W3 _ _ _ _ _ z2]; rfl
    have Z0 := Lib.hid z0
    have Z1 := Lib.hid z1
    have Z2 := Lib.hid z2
    have ZX := Lib.hid zx
    have HK3 := Lib.hid hkr3
    have HS3 := Lib.hid hs3
    clear z0 z1 z2 zx hk3 hW3 hkr3 d0 d2 hs3
    gi_wp2
    refine region_fixIn 4 (fun W' => Below W3.heap.size W3 W') (by kernel_rfl) (by kernel_rfl) (by kernel_rfl) (Below.refl _ _).drew ?_
    simp only [List.take_succ_cons, List.take_zero, List.drop_succ_cons, List.drop_zero]
    iterate 3
      refine WF_step ?_ (fun W' hC => ?_) rfl ?_
      rotate_left
      · have d0 : W'.cell? ⟨w.heap.size, 0, none⟩ = some (.iface 130 (.agg #[.int .i64 level])) := by rw [cell_of_row W' _ _ _ _ _ ((hC.block _ (by have := HS3.out; omega)).trans Z0.out)]; rfl
        have d2 : W'.cell? ⟨w.heap.size + 1 + 1, 0, none⟩ = some (.map (some (w.heap.size + 1))) := by rw [cell_of_row W' _ _ _ _ _ ((hC.block _ (by have := HS3.out; omega)).trans Z2.out)]; rfl
        obtain ⟨q0, q1, q2, q3, q4⟩ := cells5 ((hC.block _ (by have := HS3.out; omega)).trans ZX.out)
        have hmi := method_lapped
        go_simp
        first
          | exact fix_value hC
          | exact fix_enter ((HAT.out W').mono fun e w'' h => ⟨h.1, hC.trans (h.2.mono hC.size)⟩)
      simp only [Act.put, List.setIfInBounds_toArray, List.set_cons_zero, List.set_cons_succ]
    refine WF_step (pairV fo.1 fo.2) (fun W' hC => ?_) rfl ?_
    · have d0 : W'.cell? ⟨w.heap.size, 0, none⟩ = some (.iface 130 (.agg #[.int .i64 level])) := by rw [cell_of_row W' _ _ _ _ _ ((hC.block _ (by have := HS3.out; omega)).trans Z0.out)]; rfl
      have d2 : W'.cell? ⟨w.heap.size + 1 + 1, 0, none⟩ = some (.map (some (w.heap.size + 1))) := by rw [cell_of_row W' _ _ _ _ _ ((hC.block _ (by have := HS3.out; omega)).trans Z2.out)]; rfl
      obtain ⟨q0, q1, q2, q3, q4⟩ := cells5 ((hC.block _ (by have := HS3.out; omega)).trans ZX.out)
      have hmi := method_lapped
      go_simp
      first
        | exact fix_value hC
        | exact fix_enter ((HAT.out W').mono fun e w'' h => ⟨h.1, hC.trans (h.2.mono hC.size)⟩)
    simp only [Act.put, List.setIfInBounds_toArray, List.set_cons_zero, List.set_cons_succ]
    refine WF_nil ?_
    intro W5 hC5
    obtain ⟨ob, hput, hfa⟩ := (Z1.out.of (hC5.block _ (by have := Z1.out.lt; omega))).put fo
    unfold encF at hput
    have hkW5 : Keeps (fun k => k = w.heap.size + 1) W3 (W5.putObj (w.heap.size + 1) ob) := (Keeps.of_below hC5 (fun k h1 h2 => absurd h2 (by omega))).trans (Keeps.putObj _ _ _ rfl)
    have HPUT := Lib.hid (And.intro hfa hkW5)
    clear hfa hkW5 hC5
    gi_wp2
    refine ⟨HPUT.out.2, ?_, HK3.out.trans HPUT.out.2⟩
    rw [List.map_append, List.map_cons, List.map_nil, ← HFO.out]
    exact HPUT.out.1
  case hdone =>
    rintro D G W' ⟨h1, h2⟩ hGD hkk hD hDs
    have z2 := (h2.block (w.heap.size + 1 + 1) (by omega) (by omega)).trans Y2.out
    have d2 : W'.cell? ⟨w.heap.size + 1 + 1, 0, none⟩ = some (.map (some (w.heap.size + 1))) := by rw [cell_of_row W' _ _ _ _ _ z2]; rfl
    have H1 := Lib.hid h1
    have HKK := Lib.hid h2
    have HD := Lib.hid hD
    clear h1 h2 hD hGD hkk z2
    go_wp2
    refine ⟨by simp, .inl ⟨_, _, rfl, run_takeDeferred HD.out, ?_⟩⟩
    refine ⟨.map (some (w.heap.size + 1)), ?_, ⟨_, rfl, by omega, H1.out.of (World.putObj_heap_other (by omega))⟩, ?_⟩
    · simp [results, Try.results67, go_sem]
    · exact (HBZ.out.trans ((HKK.out.mono (Mut' := fun k => w.heap.size ≤ k) (fun k _ h => by omega)).below (by omega) (fun k h => by omega))).trans ((Keeps.putObj (Mut := fun k => k = D) _ _ _ rfl).below (by have := HKK.out.size; omega) (fun k h => by omega))
end Go.Proofs.Ytagjepclobobjaa

/- Package grade: the set of the grades that there are. -/
namespace Go.Proofs.Ytagjepclobobjaa
set_option linter.unusedVariables false
set_option linter.unusedSimpArgs false
open Go.RowKit Go.Shelf
attribute [local go_sem] Oper.semAt_some

theorem maxG_le {l : List Int} {M : Int} (h0 : l ≠ []) (h : ∀ v ∈ l, v ≤ M) : maxG l ≤ M := by
  unfold maxG
  obtain ⟨_, _, h3⟩ := max_fold 0 l (l.headD 0)
  rcases h3 with h3 | h3
  · rw [h3]
    cases l with
    | nil => exact absurd rfl h0
    | cons a l => exact h a List.mem_cons_self
  · exact h _ h3
theorem turn_mem {x : List Int} {M : Int} (h : ∀ v ∈ x, -M ≤ v) : ∀ v ∈ turnG x, v ≤ M := by
  intro v hv
  unfold turnG at hv
  obtain ⟨u, hu, rfl⟩ := List.mem_map.1 hv
  have := h u hu
  omega
theorem face_le {x : List Int} (hx : x.length = 5) (hs : ∀ v ∈ x, -20 ≤ v ∧ v ≤ 20) : offG x ≤ 40 ∧ variesG x ≤ 40 := by
  have h0 : x ≠ [] := by rintro rfl; simp at hx
  have h1 : turnG x ≠ [] := by unfold turnG; simpa using h0
  have a := maxG_le h0 (fun v hv => (hs v hv).2)
  have b := maxG_le (M := 20) h1 (turn_mem fun v hv => (hs v hv).1)
  unfold offG variesG
  omega
theorem of_face (lim : List (Int × Int)) (x : List Int) (h : offG x ≤ 40 ∧ variesG x ≤ 40) :
    ((lim ++ [(40, 40)]).findIdx fun l : Int × Int => decide (offG x ≤ l.1) && decide (variesG x ≤ l.2)) = ofG lim x := by
  unfold ofG keepsG
  rw [List.findIdx_append]
  split
  · rfl
  · rename_i hn
    have h1 : lim.findIdx (fun l : Int × Int => decide (offG x ≤ l.1) && decide (variesG x ≤ l.2)) = lim.length := by
      have := List.findIdx_le_length (p := fun l : Int × Int => decide (offG x ≤ l.1) && decide (variesG x ≤ l.2)) (xs := lim)
      omega
    rw [h1]
    simp [List.findIdx_cons, h]
theorem or_u64G : ∀ n : Fin 8, ∀ s : Fin 32, bits BinOp.or IntKind.u64 (s.val : Int) (IntKind.u64.wrap (2 ^ n.val)) = ((s.val ||| 2 ^ n.val : Nat) : Int) := by decide +kernel
set_option maxRecDepth 100000 in
set_option maxHeartbeats 4000000 in
theorem ggrades_any (g : GradeD) (hp : g.pts.length = 5) (hv : validG g = true) (lv l2 : Value) (bp : Nat) (Rd : Nat → Prop) (w : World) (hbp : w.heap[bp]? = some (.cells (benchC lv g.pts g.step l2).toArray 154 (0, 0)))
    (hl2 : SpansAt w l2 (g.lim ++ [(40, 40)]) Rd) :
    Calls Try.prog 60 #[.pointer (some ⟨bp, 0, none⟩)] w fun e w' => e = .returned (.int .u64 (gradesG g : Nat)) ∧ Below w.heap.size w w' := by
  have hlim4 : g.lim.length ≤ 4 := by
    unfold validG at hv
    simp only [Bool.and_eq_true, decide_eq_true_eq] at hv
    exact hv.1.1.1.2
  obtain ⟨ao, cap, rfl, _⟩ := id hl2
  have hlp := lt_of_block hbp
  have HP := Lib.hid hbp
  have HL := Lib.hid hl2.low
  have HV := Lib.hid hv
  have HPL := Lib.hid hp
  obtain ⟨nl, hnl⟩ : ∃ n, n = (g.lim ++ [(40, 40)]).length := ⟨_, rfl⟩
  rw [← hnl] at HP HL
  have HNL := Lib.hid hnl
  clear hbp hl2 hnl hv hp
  go_enter Try.func60, Try.ntmps60
  go_wp2_with fail
  refine (faces_plain g HPL.out HV.out lv _ 0 (by decide) bp w HP.out).mono ?_
  rintro e w1 ⟨⟨mb, rfl, hmb, hfa⟩, hb1⟩
  dsimp only
  obtain ⟨L, clock, hrow, htk⟩ := hfa
  have hr1 := run_range_map (P := Try.prog) w1 125 _ _ mb _ clock under_fmap hrow
  have hml := (Array.getElem?_eq_some_iff.1 hrow).1
  have HB := Lib.hid hb1
  have HROW := Lib.hid hrow
  have HTK := Lib.hid htk
  have hszb := hb1.size
  clear hb1 hrow htk
  go_wp2_with fail
  clear hr1
  go_loopw [2] (fun s2 wr => ∃ (seen : Array Nat) (s : Nat), s2 = .int .u64 (s : Int) ∧ s < 2 ^ 5 ∧ (∀ n, s.testBit n = true ↔ ∃ y ∈ L, seen.contains y.2.2 = true ∧ ((g.lim ++ [(40, 40)]).findIdx fun l : Int × Int => decide (y.1.1 ≤ l.1) && decide (y.1.2 ≤ l.2)) = n) ∧
      wr.heap[w1.heap.size]? = some (.mapIter (some mb) clock seen clock) ∧ wr.heap[mb]? = some (mapK encF L clock) ∧ Below w.heap.size w wr ∧ w1.heap.size < wr.heap.size)
    (fun _ wr => leftK wr mb w1.heap.size)
  case atStart =>
    refine ⟨#[], 0, rfl, by decide, fun n => by simp, heap_alloc_at _ _ _ rfl, (hget_old _ _ _ (by omega)).trans HROW.out, HB.out.alloc (by omega) _, by simp⟩
  case round =>
    obtain ⟨seen, s, rfl, hs5, hbit, hit, hmw, hb, hsz⟩ := hrel
    have hnk := next_K (P := Try.prog) HTK.out (Nat.le_refl clock) hit (Nat.le_refl clock) hmw (by omega)
    have HIT := Lib.hid hit
    have HMW := Lib.hid hmw
    have HBW := Lib.hid hb
    have HBIT := Lib.hid hbit
    clear hit hmw hb hbit
    rcases hnk with ⟨hall, hrun⟩ | ⟨y, hy, hsn, W2, hkW, hsW, hiW, hrun, hent, hmeas⟩
    · have HALL := Lib.hid hall
      clear hall
      have hfin : s = gradesG g := by
        apply Nat.eq_of_testBit_eq
        intro n
        rw [Bool.eq_iff_iff, HBIT.out n, grades_bit, List.any_eq_true]
        constructor
        · rintro ⟨⟨k, v, b⟩, hy, _, hi⟩
          have hm := (HTK.out.mem k v).2 ⟨b, hy⟩
          unfold inF at hm
          split at hm
          · rename_i hk
            obtain ⟨x, hx, rfl⟩ := List.mem_map.1 hk
            refine ⟨x, hx, ?_⟩
            rw [beq_iff_eq, ← of_face g.lim x (face_le (truth_len hx) (truth_in HPL.out HV.out hx))]
            exact hi
          · cases hm
        · rintro ⟨x, hx, hi⟩
          rw [beq_iff_eq, ← of_face g.lim x (face_le (truth_len hx) (truth_in HPL.out HV.out hx))] at hi
          have hk : faceOf x ∈ (truthsG g).map fun x => faceOf x := List.mem_map.2 ⟨x, hx, rfl⟩
          obtain ⟨b, hb⟩ := (HTK.out.mem (faceOf x) (.bool true)).1 (by unfold inF; rw [if_pos hk])
          exact ⟨_, hb, HALL.out _ hb, hi⟩
      have HFIN := Lib.hid hfin
      clear hfin
      go_wp2
      go_ret
      exact ⟨by rw [← HFIN.out]; rfl, HBW.out⟩
    · have HKW := Lib.hid hkW
      have HSW := Lib.hid hsW
      have HIW := Lib.hid hiW
      have HMEAS := Lib.hid hmeas
      have HSN := Lib.hid hsn
      clear hkW hsW hiW hmeas hsn
      obtain ⟨⟨o, v⟩, val, born⟩ := y
      have hin := (HTK.out.mem (o, v) val).2 ⟨born, hy⟩
      have hov : o ≤ 40 ∧ v ≤ 40 := by
        unfold inF at hin
        split at hin
        · rename_i hk
          obtain ⟨x, hx, hf⟩ := List.mem_map.1 hk
          have := face_le (truth_len hx) (truth_in HPL.out HV.out hx)
          unfold faceOf at hf
          cases hf
          exact this
        · cases hin
      have HYL := Lib.hid hy
      have HOV := Lib.hid hov
      clear hy hin hov
      unfold encF pairV at hrun hent
      dsimp only at hrun hent
      go_wp2_with fail
      obtain ⟨W4, hW4⟩ : ∃ W4, W4 = W2.alloc (.cells #[.int .i64 o, .int .i64 v] 132) := ⟨_, rfl⟩
      rw [← hW4]
      have hs4 : W4.heap.size = wr.heap.size + 1 := by rw [hW4]; simp [HSW.out]
      have hx4 : W4.heap[wr.heap.size]? = some (.cells #[.int .i64 o, .int .i64 v] 132 (0, 0)) := by rw [hW4]; exact heap_alloc_at _ _ _ HSW.out.symm
      have hk4 : Keeps (fun k => k = w1.heap.size) wr W4 := by rw [hW4]; exact HKW.out.trans (Keeps.alloc _ _ _)
      have hi4 : W4.heap[w1.heap.size]? = some (.mapIter (some mb) clock (seen.push born) clock) := by rw [hW4]; exact (hget_old _ _ _ (by rw [HSW.out]; omega)).trans HIW.out
      have d0 : W4.cell? ⟨wr.heap.size, 0, none⟩ = some (.int .i64 o) := by rw [cell_of_row W4 _ _ _ _ _ hx4]; rfl
      have d1 : W4.cell? ⟨wr.heap.size, 1, none⟩ = some (.int .i64 v) := by rw [cell_of_row W4 _ _ _ _ _ hx4]; rfl
      clear hW4
      have hb4 : Below w.heap.size w W4 := HBW.out.trans (hk4.below (by have := HBW.out.size; omega) (fun k h => by omega))
      have hm4 := (hk4.block mb (by omega) (by omega)).trans HMW.out
      have HS4 := Lib.hid hs4
      have HI4 := Lib.hid hi4
      have HB4 := Lib.hid hb4
      have HM4 := Lib.hid hm4
      clear hs4 hx4 hk4 hi4 hb4 hm4 hrun hent
      have hsw := HSW.out
      rw [hsw]
      clear hsw
      go_wp2_with fail
      refine (of_any (g.lim ++ [(40, 40)]) o v bp nl cap ao _ _ (fun k => k < w.heap.size) W4 (by simp; omega) ((HB4.out.block bp hlp).trans HP.out) (bench_12 _ _ HPL.out _ _) HNL.out (HL.out.later HB4.out.size (fun k h1 h2 => HB4.out.block k h2)) ⟨(40, 40), by simp, HOV.out⟩).mono ?_
      rintro e w5 ⟨rfl, hb5⟩
      dsimp only
      obtain ⟨k, hk⟩ : ∃ k, k = ((g.lim ++ [(40, 40)]).findIdx fun l : Int × Int => decide (o ≤ l.1) && decide (v ≤ l.2)) := ⟨_, rfl⟩
      rw [← hk]
      have hk4 : k ≤ 4 := by
        have h1 : k < (g.lim ++ [(40, 40)]).length := by rw [hk]; exact List.findIdx_lt_length_of_exists ⟨(40, 40), by simp, by have := HOV.out; simp [this]⟩
        simp at h1; omega
      have HK := Lib.hid hk
      have HB5 := Lib.hid hb5
      clear hk hb5
      go_wp2_with fail
      go_roundw
      case measure => exact HMEAS.out w5 ((HB5.out.block _ (by have := HS4.out; omega)).trans HM4.out) ((HB5.out.block _ (by have := HS4.out; omega)).trans HI4.out)
      refine ⟨seen.push born, s ||| 2 ^ k, congrArg _ (or_u64G ⟨k, by omega⟩ ⟨s, hs5⟩), Nat.or_lt_two_pow hs5 (Nat.pow_lt_pow_right (by decide) (by omega)), fun n => ?_, (HB5.out.block _ (by have := HS4.out; omega)).trans HI4.out, (HB5.out.block _ (by have := HS4.out; omega)).trans HM4.out, HB4.out.trans (HB5.out.mono HB4.out.size), by have := HB5.out.size; have := HS4.out; omega⟩
      rw [Nat.testBit_or, Nat.testBit_two_pow, Bool.or_eq_true, decide_eq_true_eq, HBIT.out n]
      constructor
      · rintro (⟨y, h1, h2, h3⟩ | rfl)
        · exact ⟨y, h1, by simp at h2 ⊢; exact .inl h2, h3⟩
        · exact ⟨_, HYL.out, by simp, HK.out.symm⟩
      · rintro ⟨y, h1, h2, h3⟩
        simp at h2
        rcases h2 with h2 | h2
        · exact .inl ⟨y, h1, by simpa using h2, h3⟩
        · right
          obtain ⟨i, hi, rfl⟩ := List.getElem_of_mem h1
          obtain ⟨j, hj, hje⟩ := List.getElem_of_mem HYL.out
          have hb := HTK.out.borns
          have : i = j := (List.getElem_inj (xs := L.map (·.2.2)) (h₀ := by simpa using hi) (h₁ := by simpa using hj) hb).1 (by simp [hje, h2])
          subst this
          rw [hje] at h3
          rw [HK.out]; exact h3
end Go.Proofs.Ytagjepclobobjaa

/- Package grade: Point, Grades. -/
namespace Go.Proofs.Ytagjepclobobjaa
set_option linter.unusedVariables false
set_option linter.unusedSimpArgs false
open Go.RowKit Go.Shelf
attribute [local go_sem] Oper.semAt_some

theorem underGrade : Try.prog.underlying 53 = some (.struct (Try.prog.fieldsOf 53)) := by kernel_rfl
theorem sizeGrade0 : (Try.prog.info? 53).map (·.size) = some 12 := by kernel_rfl
theorem gradeC_len (lv : Value) (p : List (Int × Int)) (hp : p.length = 5) (step : Int) : (gradeC lv p step).toArray.size = 12 := by
  have := pts_len p
  unfold gradeC
  simp [this, hp]
theorem sizeGrade (lv : Value) (p : List (Int × Int)) (hp : p.length = 5) (step : Int) : (Try.prog.info? 53).map (·.size) = some (gradeC lv p step).toArray.size := by
  rw [gradeC_len _ _ hp, sizeGrade0]
def rowGr (lv : Value) (g : GradeD) : Obj := .cells (gradeC lv g.pts g.step).toArray 53 (0, 0)
theorem gpoint_results (t1 t2 : Array Value) (h4 : t1.getD 4 undef = t2.getD 4 undef) (h5 : t1.getD 5 undef = t2.getD 5 undef) : results Try.f76 t1 = results Try.f76 t2 := by
  have h4' : t1[4]?.getD undef = t2[4]?.getD undef := by simpa [Array.getD_eq_getD_getElem?] using h4
  have h5' : t1[5]?.getD undef = t2[5]?.getD undef := by simpa [Array.getD_eq_getD_getElem?] using h5
  simp [results, Try.results76, h4', h5']
theorem gpoint_put {R : Ending → World → Prop} {c : List PanicEntry} {d : Nat} {v : Value} {a : Act} {w : World} (h4 : d ≠ 4) (h5 : d ≠ 5)
    (h : bodyPostD Try.prog Try.f76 R (.panic c) (a.put (some d) v) w) : bodyPostD Try.prog Try.f76 R (.panic c) a w := by
  refine Leaves.congr (fun w v hh => ?_) _ _ _ h
  rw [gpoint_results _ a.tmps] at hh
  · exact hh
  · simp [Act.put, Array.getD_eq_getD_getElem?, Array.getElem?_setIfInBounds, h4]
  · simp [Act.put, Array.getD_eq_getD_getElem?, Array.getElem?_setIfInBounds, h5]
theorem gsure_results (t1 t2 : Array Value) (h4 : t1.getD 4 undef = t2.getD 4 undef) (h5 : t1.getD 5 undef = t2.getD 5 undef) : results Try.f24 t1 = results Try.f24 t2 := by
  have h4' : t1[4]?.getD undef = t2[4]?.getD undef := by simpa [Array.getD_eq_getD_getElem?] using h4
  have h5' : t1[5]?.getD undef = t2[5]?.getD undef := by simpa [Array.getD_eq_getD_getElem?] using h5
  simp [results, Try.results24, h4', h5']
theorem gsure_put {R : Ending → World → Prop} {c : List PanicEntry} {d : Nat} {v : Value} {a : Act} {w : World} (h4 : d ≠ 4) (h5 : d ≠ 5)
    (h : bodyPostD Try.prog Try.f24 R (.panic c) (a.put (some d) v) w) : bodyPostD Try.prog Try.f24 R (.panic c) a w := by
  refine Leaves.congr (fun w v hh => ?_) _ _ _ h
  rw [gsure_results _ a.tmps] at hh
  · exact hh
  · simp [Act.put, Array.getD_eq_getD_getElem?, Array.getElem?_setIfInBounds, h4]
  · simp [Act.put, Array.getD_eq_getD_getElem?, Array.getElem?_setIfInBounds, h5]
theorem glap_results (t1 t2 : Array Value) (h4 : t1.getD 4 undef = t2.getD 4 undef) (h5 : t1.getD 5 undef = t2.getD 5 undef) : results Try.f27 t1 = results Try.f27 t2 := by
  have h4' : t1[4]?.getD undef = t2[4]?.getD undef := by simpa [Array.getD_eq_getD_getElem?] using h4
  have h5' : t1[5]?.getD undef = t2[5]?.getD undef := by simpa [Array.getD_eq_getD_getElem?] using h5
  simp [results, Try.results27, h4', h5']
theorem glap_put {R : Ending → World → Prop} {c : List PanicEntry} {d : Nat} {v : Value} {a : Act} {w : World} (h4 : d ≠ 4) (h5 : d ≠ 5)
    (h : bodyPostD Try.prog Try.f27 R (.panic c) (a.put (some d) v) w) : bodyPostD Try.prog Try.f27 R (.panic c) a w := by
  refine Leaves.congr (fun w v hh => ?_) _ _ _ h
  rw [glap_results _ a.tmps] at hh
  · exact hh
  · simp [Act.put, Array.getD_eq_getD_getElem?, Array.getElem?_setIfInBounds, h4]
  · simp [Act.put, Array.getD_eq_getD_getElem?, Array.getElem?_setIfInBounds, h5]
theorem gisGrade_any (g : GradeD) (lv : Value) (n : Int) (w : World) (hl : SpansAt w lv g.lim (fun k => k < w.heap.size)) (hl9 : g.lim.length ≤ 1000) :
    Calls Try.prog 62 #[gradeV lv g.pts g.step, .int .i64 n] w fun e w' => e = .returned (.bool (inN n 0 ((g.lim.length : Int) - 1))) ∧ Below w.heap.size w w' := by
  obtain ⟨ao, cap, rfl, _⟩ := id hl
  obtain ⟨nl, hnl⟩ : ∃ n, n = g.lim.length := ⟨_, rfl⟩
  rw [← hnl] at hl9 ⊢
  clear hl hnl
  have hr0 := heap_alloc_at w (.cells (gradeC (.slice ao nl cap) g.pts g.step).toArray 53) _ rfl
  have hb0 := below_allocG w (.cells (gradeC (.slice ao nl cap) g.pts g.step).toArray 53)
  obtain ⟨W, hW⟩ : ∃ W, W = w.alloc (.cells (gradeC (.slice ao nl cap) g.pts g.step).toArray 53) := ⟨_, rfl⟩
  rw [← hW] at hr0 hb0
  have c0 : W.cell? ⟨w.heap.size, 0, none⟩ = some (.slice ao nl cap) := by rw [cell_of_row W _ _ _ _ _ hr0]; rfl
  have HB := Lib.hid hb0
  clear hr0 hb0
  unfold gradeV
  go_enter Try.func62, Try.ntmps62
  go_upto_region 1 with fail
  rw [← hW]
  clear hW
  go_wp2_with fail
  refine (gwithin_any n 0 ((nl : Int) - 1) _).mono ?_
  rintro e w1 ⟨rfl, rfl⟩
  dsimp only
  go_wp2_with fail
  go_ret
  exact ⟨rfl, HB.out⟩

/-- What Grades answers. -/
def gradesD (g : GradeD) : Int × Int := if errG g true = 0 then ((gradesG g : Int), 0) else (0, errG g true)
set_option maxRecDepth 100000 in
set_option maxHeartbeats 4000000 in
theorem gGrades_any (g : GradeD) (hp : g.pts.length = 5) (lv : Value) (w : World) (hl : SpansAt w lv g.lim (fun k => k < w.heap.size)) (hl9 : g.lim.length ≤ 1000) :
    Calls Try.prog 23 #[gradeV lv g.pts g.step] w fun e w' => e = .returned (.tuple #[.int .i64 (gradesD g).1, .int .i64 (gradesD g).2]) ∧ Below w.heap.size w w' := by
  have HL := Lib.hid hl
  have HP := Lib.hid hp
  clear hl hp
  have hmf : ∀ fn first cap w, (Instr.makeFunc fn first cap).run Try.prog w = .ok (.func fn first cap) w := fun _ _ _ _ => rfl
  obtain ⟨W0, hW0⟩ : ∃ W0, W0 = (w.alloc (rowGr lv g)).alloc (.cells #[.int .i64 0] 24) := ⟨_, rfl⟩
  have w0 : W0.heap[w.heap.size]? = some (rowGr lv g) := by rw [hW0]; exact (by repeat (first | (refine heap_alloc_at _ _ _ ?_; (simp <;> omega); done) | (refine (hget_old _ _ _ ?_).trans ?_; · (simp <;> omega))))
  have w1 : W0.heap[w.heap.size + 1]? = some (.cells #[.int .i64 0] 24 (0, 0)) := by rw [hW0]; exact (by repeat (first | (refine heap_alloc_at _ _ _ ?_; (simp <;> omega); done) | (refine (hget_old _ _ _ ?_).trans ?_; · (simp <;> omega))))
  have hbW : Below w.heap.size w W0 := by rw [hW0]; exact ((Below.refl _ _).alloc (Nat.le_refl _) _).alloc (by simp <;> omega) _
  have hsW : W0.heap.size = w.heap.size + 2 := by rw [hW0]; simp
  have H0 := Lib.hid w0
  have H1 := Lib.hid w1
  have HB := Lib.hid hbW
  have HS := Lib.hid hsW
  clear w0 w1 hbW hsW
  unfold rowGr at hW0
  unfold gradeV
  go_enter_defers Try.func23, Try.ntmps23
  go_upto_region 2 with fail
  rw [← hW0]
  clear hW0
  go_wp2_with (first | (refine wpList_load_row rfl 53 _ rfl w.heap.size rfl 53 (gradeC lv g.pts g.step).toArray (0, 0) _ H0.out underGrade rfl (sizeGrade lv g.pts HP.out g.step) ?_))
  refine (gopen_any g HP.out lv true W0 (HL.out.later HB.out.size (fun k h1 h2 => HB.out.block k h2)).low hl9).mono ?_
  rintro e w5 ⟨hb5, hres⟩
  have he5 := (hb5.block (w.heap.size + 1) (by have := HS.out; omega)).trans H1.out
  have hbw5 : Below w.heap.size w w5 := HB.out.trans (hb5.mono HB.out.size)
  have HE5 := Lib.hid he5
  have HB5 := Lib.hid hbw5
  clear hb5 he5 hbw5
  have stop : ∀ (n : Int) (fn : Func) (tmps : Array Value) (w6 : World), Below w5.heap.size w5 w6 → (gradesD g) = (0, n) → (tmps.getD 2 undef = .int .i64 0) → (tmps.getD 3 undef = .pointer (some ⟨w.heap.size + 1, 0, none⟩)) →
      Leaves Try.prog Try.f23 tmps (fun e w' => e = .returned (.tuple #[.int .i64 (gradesD g).1, .int .i64 (gradesD g).2]) ∧ Below w.heap.size w w') [{ target := .fn (.func 56) #[.pointer (some ⟨w.heap.size + 1, 0, none⟩)], args := #[] }] (.panicking [{ v := gstopV n, recovered := false }]) w6 := by
    intro n fn tmps w6 hb6 hn ht2 ht3
    have he6 := (hb6.block _ (lt_of_block HE5.out)).trans HE5.out
    refine leaf_stop_gGrades n (w.heap.size + 1) 0 tmps w6 he6 (fun W' hk he => ?_)
    have e0 : W'.cell? ⟨w.heap.size + 1, 0, none⟩ = some (.int .i64 n) := by rw [cell_of_row _ _ _ _ _ _ he]; rfl
    have ht2' : tmps[2]?.getD undef = .int .i64 0 := by simpa [Array.getD_eq_getD_getElem?] using ht2
    have ht3' : tmps[3]?.getD undef = .pointer (some ⟨w.heap.size + 1, 0, none⟩) := by simpa [Array.getD_eq_getD_getElem?] using ht3
    refine ⟨.tuple #[.int .i64 0, .int .i64 n], by simp [results, Try.results23, go_sem, ht2', ht3', e0], by rw [hn], HB5.out.trans ((hb6.mono HB5.out.size).trans (hk.below (by have := hb6.size; have := HB5.out.size; omega) (fun k h e => by omega)))⟩
  have STOP := Lib.hid stop
  clear stop
  cases hv : validG g with
  | false =>
    rw [hv] at hres
    simp only [Bool.false_eq_true, if_false] at hres
    subst hres
    exact STOP.out 1 Try.f23 _ w5 (Below.refl _ _) (by unfold gradesD errG; rw [hv]; rfl) rfl rfl
  | true =>
    rw [hv] at hres
    simp only [if_true] at hres
    obtain ⟨bp, l2, rfl, hle, hbp, hl2⟩ := hres
    have hlp := lt_of_block hbp
    have HBP := Lib.hid hbp
    have HL2 := Lib.hid hl2
    have HV := Lib.hid hv
    clear hbp hl2 hv
    dsimp only
    go_wp2_with fail
    refine (gtold_any g HP.out HV.out lv l2 bp w5 HBP.out).mono ?_
    rintro e w6 ⟨hres, hb6⟩
    by_cases ht : truthsG g = []
    · rw [if_pos ht] at hres
      subst hres
      exact STOP.out 10 Try.f23 _ w6 hb6 (by unfold gradesD errG; rw [HV.out, ht]; rfl) rfl rfl
    · rw [if_neg ht] at hres
      subst hres
      have HT := Lib.hid ht
      have hbp6 := (hb6.block bp hlp).trans HBP.out
      have hl26 := HL2.out.low.later hb6.size (fun k h1 h2 => hb6.block k h2)
      have HB6 := Lib.hid (HB5.out.trans (hb6.mono HB5.out.size))
      have HE6 := Lib.hid ((hb6.block _ (lt_of_block HE5.out)).trans HE5.out)
      clear ht hb6
      dsimp only
      go_wp2_with fail
      refine (ggrades_any g HP.out HV.out lv l2 bp _ w6 hbp6 hl26).mono ?_
      rintro e w7 ⟨rfl, hb7⟩
      have he7 := (hb7.block _ (lt_of_block HE6.out)).trans HE6.out
      have c0 : w7.cell? ⟨w.heap.size + 1, 0, none⟩ = some (.int .i64 0) := by rw [cell_of_row _ _ _ _ _ _ he7]; rfl
      have f0 : w7.frozen? ⟨w.heap.size + 1, 0, none⟩ = false := frozen_of_row _ _ _ _ _ he7
      have HE7 := Lib.hid he7
      have HB7 := Lib.hid (HB6.out.trans (hb7.mono HB6.out.size))
      clear hb7 he7 hbp6 hl26
      dsimp only
      go_wp2
      refine leaf_ret_gGrades (w.heap.size + 1) _ _ ?_
      have he8 : (w7.setCell ⟨w.heap.size + 1, 0, none⟩ (.int .i64 0)).heap[w.heap.size + 1]? = some (.cells #[.int .i64 0] 24 (0, 0)) := one_setG HE7.out
      have e0 : (w7.setCell ⟨w.heap.size + 1, 0, none⟩ (.int .i64 0)).cell? ⟨w.heap.size + 1, 0, none⟩ = some (.int .i64 0) := by rw [cell_of_row _ _ _ _ _ _ he8]; rfl
      have hgr : gradesD g = ((gradesG g : Int), 0) := by
        have he : errG g true = 0 := by unfold errG; rw [HV.out]; simp [HT.out]
        unfold gradesD; rw [if_pos he]
      have hwr : wrap64 ((gradesG g : Nat) : Int) = ((gradesG g : Nat) : Int) := by
        have h1 := grades_lt g
        have h2 : g.lim.length ≤ 4 := by
          have := HV.out
          unfold validG at this
          simp only [Bool.and_eq_true, decide_eq_true_eq] at this
          exact this.1.1.1.2
        have h3 : 2 ^ (g.lim.length + 1) ≤ 2 ^ 5 := Nat.pow_le_pow_right (by decide) (by omega)
        unfold wrap64; omega
      refine ⟨.tuple #[.int .i64 (gradesG g : Nat), .int .i64 0], ?_, by rw [hgr], HB7.out.setCell (by simp) _⟩
      simp [results, Try.results23, go_sem, e0]
      exact hwr

/-! ### Point, of no point -/
set_option maxRecDepth 100000 in
set_option maxHeartbeats 4000000 in
theorem gPoint_no (g : GradeD) (hp : g.pts.length = 5) (lv : Value) (w : World) (hl : SpansAt w lv g.lim (fun k => k < w.heap.size)) (hl9 : g.lim.length ≤ 1000) :
    Calls Try.prog 76 #[gradeV lv g.pts g.step, .int .i64 (-1)] w fun e w' => e = .returned (.tuple #[.agg #[.int .i64 0, .int .i64 0], .int .i64 (if validG g then 2 else 1)]) ∧ Below w.heap.size w w' := by
  have HL := Lib.hid hl
  have HP := Lib.hid hp
  clear hl hp
  have hmf : ∀ fn first cap w, (Instr.makeFunc fn first cap).run Try.prog w = .ok (.func fn first cap) w := fun _ _ _ _ => rfl
  obtain ⟨W0, hW0⟩ : ∃ W0, W0 = (((w.alloc (rowGr lv g)).alloc (.cells #[.int .i64 (-1)] 3)).alloc (.cells #[.int .i64 0, .int .i64 0] 37)).alloc (.cells #[.int .i64 0] 24) := ⟨_, rfl⟩
  have w0 : W0.heap[w.heap.size]? = some (rowGr lv g) := by rw [hW0]; exact (by repeat (first | (refine heap_alloc_at _ _ _ ?_; (simp <;> omega); done) | (refine (hget_old _ _ _ ?_).trans ?_; · (simp <;> omega))))
  have wi : W0.heap[w.heap.size + 1]? = some (.cells #[.int .i64 (-1)] 3 (0, 0)) := by rw [hW0]; exact (by repeat (first | (refine heap_alloc_at _ _ _ ?_; (simp <;> omega); done) | (refine (hget_old _ _ _ ?_).trans ?_; · (simp <;> omega))))
  have w2 : W0.heap[w.heap.size + 1 + 1]? = some (.cells #[.int .i64 0, .int .i64 0] 37 (0, 0)) := by rw [hW0]; exact (by repeat (first | (refine heap_alloc_at _ _ _ ?_; (simp <;> omega); done) | (refine (hget_old _ _ _ ?_).trans ?_; · (simp <;> omega))))
  have w1 : W0.heap[w.heap.size + 1 + 1 + 1]? = some (.cells #[.int .i64 0] 24 (0, 0)) := by rw [hW0]; exact (by repeat (first | (refine heap_alloc_at _ _ _ ?_; (simp <;> omega); done) | (refine (hget_old _ _ _ ?_).trans ?_; · (simp <;> omega))))
  have hbW : Below w.heap.size w W0 := by rw [hW0]; exact ((((Below.refl _ _).alloc (Nat.le_refl _) _).alloc (by simp <;> omega) _).alloc (by simp <;> omega) _).alloc (by simp <;> omega) _
  have hsW : W0.heap.size = w.heap.size + 4 := by rw [hW0]; simp
  have H0 := Lib.hid w0
  have HI := Lib.hid wi
  have H1 := Lib.hid w1
  have H2 := Lib.hid w2
  have HB := Lib.hid hbW
  have HS := Lib.hid hsW
  clear w0 w1 wi w2 hbW hsW
  unfold rowGr at hW0
  unfold gradeV
  go_enter_defers Try.func76, Try.ntmps76
  go_upto_region 2 with fail
  rename_i hK
  rw [← hW0]
  clear hW0
  refine wp_region_held_drew (S := fun w' => w'.heap[w.heap.size]? = some (rowGr lv g) ∧ w'.heap[w.heap.size + 1]? = some (.cells #[.int .i64 (-1)] 3 (0, 0))) (by kernel_rfl) ⟨H0.out, HI.out⟩ fun hS0 => ?_
  refine wpAnyH_take (i := 0) (v := .agg (gradeC lv g.pts g.step).toArray) rfl (by kernel_rfl) (by kernel_rfl) (by kernel_rfl) (fun c a w h => gpoint_put (by decide) (by decide) h) (yields_value rfl fun W hS => by first | exact run_load_row 53 _ rfl w.heap.size rfl 53 (gradeC lv g.pts g.step).toArray (0, 0) _ hS.1 underGrade rfl (sizeGrade lv g.pts HP.out g.step) | simp [execOp, go_sem, Act.eval, Act.put, cell_of_row W _ _ _ _ _ hS.2]) hS0 ?_
  simp only [Act.put, List.setIfInBounds_toArray, List.set_cons_zero, List.set_cons_succ]
  refine wpAnyH_take (i := 1) (v := .int .i64 (-1)) rfl (by kernel_rfl) (by kernel_rfl) (by kernel_rfl) (fun c a w h => gpoint_put (by decide) (by decide) h) (yields_value rfl fun W hS => by first | exact run_load_row 53 _ rfl w.heap.size rfl 53 (gradeC lv g.pts g.step).toArray (0, 0) _ hS.1 underGrade rfl (sizeGrade lv g.pts HP.out g.step) | simp [execOp, go_sem, Act.eval, Act.put, cell_of_row W _ _ _ _ _ hS.2]) hS0 ?_
  simp only [Act.put, List.setIfInBounds_toArray, List.set_cons_zero, List.set_cons_succ]
  refine wpAnyH_take (i := 4) (v := .func (.func 88) #[] #[.pointer (some ⟨w.heap.size + 1, 0, none⟩)]) rfl (by kernel_rfl) (by kernel_rfl) (by kernel_rfl) (fun c a w h => gpoint_put (by decide) (by decide) h) (yields_value rfl fun W hS => by first | exact run_load_row 53 _ rfl w.heap.size rfl 53 (gradeC lv g.pts g.step).toArray (0, 0) _ hS.1 underGrade rfl (sizeGrade lv g.pts HP.out g.step) | simp [execOp, go_sem, Act.eval, Act.put, cell_of_row W _ _ _ _ _ hS.2]) hS0 ?_
  simp only [Act.put, List.setIfInBounds_toArray, List.set_cons_zero, List.set_cons_succ]
  refine wpAnyH_call (k := 2) (by kernel_rfl) rfl rfl (f := 86) (args := #[.int .i64 (-1)]) (by simp [execOp, go_sem, Act.eval, Act.put]) ?_
  refine (isPoint_any (-1) _).mono ?_
  rintro e w4 ⟨rfl, rfl⟩
  refine ⟨hS0, ?_⟩
  refine wpAnyH_call (k := 3) (by kernel_rfl) rfl rfl (f := 58) (args := #[gradeV lv g.pts g.step, .bool false]) (by simp [execOp, go_sem, Act.eval, Act.put]; exact ⟨rfl, by decide⟩) ?_
  have hbd : Below w.heap.size w W0.drew := HB.out.trans (Below.refl _ _).drew
  refine (gopen_any g HP.out lv false W0.drew (HL.out.later hbd.size (fun k h1 h2 => hbd.block k h2)).low hl9).mono ?_
  rintro e w5 ⟨hb5, hres⟩
  have he5 := (hb5.block (w.heap.size + 1 + 1 + 1) (by have := HS.out; simp; omega)).trans H1.out
  have hx5 := (hb5.block (w.heap.size + 1 + 1) (by have := HS.out; simp; omega)).trans H2.out
  have hbw5 : Below w.heap.size w w5 := hbd.trans (hb5.mono hbd.size)
  have HE5 := Lib.hid he5
  have HX5 := Lib.hid hx5
  have HB5 := Lib.hid hbw5
  clear hb5 he5 hbw5 hx5 hbd
  have stop : ∀ (n : Int) (tmps : Array Value), (if validG g then (2 : Int) else 1) = n → (tmps.getD 4 undef = .pointer (some ⟨w.heap.size + 1 + 1, 0, none⟩)) → (tmps.getD 5 undef = .pointer (some ⟨w.heap.size + 1 + 1 + 1, 0, none⟩)) →
      Leaves Try.prog Try.f76 tmps (fun e w' => e = .returned (.tuple #[.agg #[.int .i64 0, .int .i64 0], .int .i64 (if validG g then 2 else 1)]) ∧ Below w.heap.size w w') [{ target := .fn (.func 85) #[.pointer (some ⟨w.heap.size + 1 + 1 + 1, 0, none⟩)], args := #[] }] (.panicking [{ v := gstopV n, recovered := false }]) w5 := by
    intro n tmps hn ht2 ht3
    refine leaf_stop_gPoint n (w.heap.size + 1 + 1 + 1) 0 tmps w5 HE5.out (fun W' hk he => ?_)
    have hx := (hk.block _ (lt_of_block HX5.out) (by omega)).trans HX5.out
    have e0 : W'.cell? ⟨w.heap.size + 1 + 1 + 1, 0, none⟩ = some (.int .i64 n) := by rw [cell_of_row _ _ _ _ _ _ he]; rfl
    have e1 : W'.cell? ⟨w.heap.size + 1 + 1, 0, none⟩ = some (.int .i64 0) := by rw [cell_of_row _ _ _ _ _ _ hx]; rfl
    have e2 : W'.cell? ⟨w.heap.size + 1 + 1, 1, none⟩ = some (.int .i64 0) := by rw [cell_of_row _ _ _ _ _ _ hx]; rfl
    have ht2' : tmps[4]?.getD undef = .pointer (some ⟨w.heap.size + 1 + 1, 0, none⟩) := by simpa [Array.getD_eq_getD_getElem?] using ht2
    have ht3' : tmps[5]?.getD undef = .pointer (some ⟨w.heap.size + 1 + 1 + 1, 0, none⟩) := by simpa [Array.getD_eq_getD_getElem?] using ht3
    refine ⟨.tuple #[.agg #[.int .i64 0, .int .i64 0], .int .i64 n], by simp [results, Try.results76, go_sem, ht2', ht3', e0, e1, e2], by rw [hn], HB5.out.trans (hk.below (by have := HB5.out.size; omega) (fun k h e => by omega))⟩
  cases hv : validG g with
  | false =>
    rw [hv] at hres
    simp only [Bool.false_eq_true, if_false] at hres
    subst hres
    refine stop 1 _ ?_ rfl rfl
    rw [hv]; rfl
  | true =>
    rw [hv] at hres
    simp only [if_true, Bool.false_eq_true, if_false] at hres
    subst hres
    refine stop 2 _ ?_ rfl rfl
    rw [hv]; rfl
end Go.Proofs.Ytagjepclobobjaa

/- Package grade: Sure. -/
namespace Go.Proofs.Ytagjepclobobjaa
set_option linter.unusedVariables false
set_option linter.unusedSimpArgs false
open Go.RowKit Go.Shelf
attribute [local go_sem] Oper.semAt_some

theorem andn_sure : ∀ n : Fin 4, ∀ s : Fin 32, bits BinOp.andNot IntKind.u64 (s.val : Int) (IntKind.u64.wrap (IntKind.u64.wrap (2 * 2 ^ n.val) - 1)) = if s.val < 2 ^ (n.val + 1) then 0 else ((s.val / 2 ^ (n.val + 1) * 2 ^ (n.val + 1) : Nat) : Int) := by decide +kernel
theorem and_sure : ∀ n : Fin 4, ∀ s : Fin 32, bits BinOp.and IntKind.u64 (s.val : Int) (IntKind.u64.wrap (IntKind.u64.wrap (2 * 2 ^ n.val) - 1)) = ((s.val % 2 ^ (n.val + 1) : Nat) : Int) := by decide +kernel
theorem sure_lt (g : GradeD) (n : Nat) : sureG g n = true ↔ gradesG g < 2 ^ (n + 1) := by
  rw [sure_iff]
  constructor
  · intro h
    exact Nat.lt_pow_two_of_testBit _ fun i hi => h i (by omega)
  · intro h m hm
    exact Nat.testBit_lt_two_pow (Nat.lt_of_lt_of_le h (Nat.pow_le_pow_right (by decide) (by omega)))
theorem never_mod (g : GradeD) (n : Nat) : neverG g n = true ↔ gradesG g % 2 ^ (n + 1) = 0 := by
  rw [never_iff]
  constructor
  · intro h
    apply Nat.eq_of_testBit_eq
    intro i
    rw [Nat.testBit_mod_two_pow, Nat.zero_testBit]
    by_cases hi : i < n + 1
    · rw [h i (by omega)]; simp
    · simp [hi]
  · intro h m hm
    have := congrArg (fun x => Nat.testBit x m) h
    simp only [Nat.testBit_mod_two_pow, Nat.zero_testBit] at this
    simpa [show m < n + 1 by omega] using this
/-- What Sure answers. -/
def sureD (g : GradeD) (n : Int) : Int × Int :=
  let e := errG g (inN n 0 ((g.lim.length : Int) - 1))
  if e = 0 then (if sureG g n.toNat then 2 else if neverG g n.toNat then 0 else 1, 0) else (0, e)
theorem lim4 {g : GradeD} (hv : validG g = true) : g.lim.length ≤ 4 := by
  unfold validG at hv
  simp only [Bool.and_eq_true, decide_eq_true_eq] at hv
  exact hv.1.1.1.2
set_option maxRecDepth 100000 in
set_option maxHeartbeats 8000000 in
theorem gSure_any (g : GradeD) (hp : g.pts.length = 5) (lv : Value) (n : Int) (w : World) (hl : SpansAt w lv g.lim (fun k => k < w.heap.size)) (hl9 : g.lim.length ≤ 1000) :
    Calls Try.prog 24 #[gradeV lv g.pts g.step, .int .i64 n] w fun e w' => e = .returned (.tuple #[.int .i64 (sureD g n).1, .int .i64 (sureD g n).2]) ∧ Below w.heap.size w w' := by
  have HL := Lib.hid hl
  have HP := Lib.hid hp
  clear hl hp
  have hmf : ∀ fn first cap w, (Instr.makeFunc fn first cap).run Try.prog w = .ok (.func fn first cap) w := fun _ _ _ _ => rfl
  obtain ⟨W0, hW0⟩ : ∃ W0, W0 = (w.alloc (rowGr lv g)).alloc (.cells #[.int .i64 0] 24) := ⟨_, rfl⟩
  have w0 : W0.heap[w.heap.size]? = some (rowGr lv g) := by rw [hW0]; exact (by repeat (first | (refine heap_alloc_at _ _ _ ?_; (simp <;> omega); done) | (refine (hget_old _ _ _ ?_).trans ?_; · (simp <;> omega))))
  have w1 : W0.heap[w.heap.size + 1]? = some (.cells #[.int .i64 0] 24 (0, 0)) := by rw [hW0]; exact (by repeat (first | (refine heap_alloc_at _ _ _ ?_; (simp <;> omega); done) | (refine (hget_old _ _ _ ?_).trans ?_; · (simp <;> omega))))
  have hbW : Below w.heap.size w W0 := by rw [hW0]; exact ((Below.refl _ _).alloc (Nat.le_refl _) _).alloc (by simp <;> omega) _
  have hsW : W0.heap.size = w.heap.size + 2 := by rw [hW0]; simp
  have H0 := Lib.hid w0
  have H1 := Lib.hid w1
  have HB := Lib.hid hbW
  have HS := Lib.hid hsW
  clear w0 w1 hbW hsW
  unfold rowGr at hW0
  unfold gradeV
  go_enter_defers Try.func24, Try.ntmps24
  go_upto_region 2 with fail
  rename_i hK
  rw [← hW0]
  clear hW0
  obtain ⟨ok, hok⟩ : ∃ b, b = inN n 0 ((g.lim.length : Int) - 1) := ⟨_, rfl⟩
  have HOK := Lib.hid hok
  refine wp_region_held_drew (S := fun w' => w'.heap[w.heap.size]? = some (rowGr lv g) ∧ w'.heap[w.heap.size]? = some (rowGr lv g)) (by kernel_rfl) ⟨H0.out, H0.out⟩ fun hS0 => ?_
  refine wpAnyH_take (i := 0) (v := .agg (gradeC lv g.pts g.step).toArray) rfl (by kernel_rfl) (by kernel_rfl) (by kernel_rfl) (fun c a w h => gsure_put (by decide) (by decide) h) (yields_value rfl fun W hS => by first | exact run_load_row 53 _ rfl w.heap.size rfl 53 (gradeC lv g.pts g.step).toArray (0, 0) _ hS.1 underGrade rfl (sizeGrade lv g.pts HP.out g.step) | simp [execOp, go_sem, Act.eval, Act.put, cell_of_row W _ _ _ _ _ hS.2]) hS0 ?_
  simp only [Act.put, List.setIfInBounds_toArray, List.set_cons_zero, List.set_cons_succ]
  refine wpAnyH_take (i := 1) (v := .agg (gradeC lv g.pts g.step).toArray) rfl (by kernel_rfl) (by kernel_rfl) (by kernel_rfl) (fun c a w h => gsure_put (by decide) (by decide) h) (yields_value rfl fun W hS => by first | exact run_load_row 53 _ rfl w.heap.size rfl 53 (gradeC lv g.pts g.step).toArray (0, 0) _ hS.1 underGrade rfl (sizeGrade lv g.pts HP.out g.step) | simp [execOp, go_sem, Act.eval, Act.put, cell_of_row W _ _ _ _ _ hS.2]) hS0 ?_
  simp only [Act.put, List.setIfInBounds_toArray, List.set_cons_zero, List.set_cons_succ]
  refine wpAnyH_take (i := 2) (v := .int .i64 n) rfl (by kernel_rfl) (by kernel_rfl) (by kernel_rfl) (fun c a w h => gsure_put (by decide) (by decide) h) (yields_value rfl fun W hS => by first | exact run_load_row 53 _ rfl w.heap.size rfl 53 (gradeC lv g.pts g.step).toArray (0, 0) _ hS.1 underGrade rfl (sizeGrade lv g.pts HP.out g.step) | simp [execOp, go_sem, Act.eval, Act.put, cell_of_row W _ _ _ _ _ hS.2]) hS0 ?_
  simp only [Act.put, List.setIfInBounds_toArray, List.set_cons_zero, List.set_cons_succ]
  refine wpAnyH_call (k := 3) (by kernel_rfl) rfl rfl (f := 62) (args := #[gradeV lv g.pts g.step, .int .i64 n]) (by simp [execOp, go_sem, Act.eval, Act.put]; rfl) ?_
  have hbd : Below w.heap.size w W0.drew := HB.out.trans (Below.refl _ _).drew
  refine (gisGrade_any g lv n W0.drew (HL.out.later hbd.size (fun k h1 h2 => hbd.block k h2)).low hl9).mono ?_
  rintro e w4 ⟨rfl, hb4⟩
  rw [← hok]
  clear hok
  have hbd4 : Below w.heap.size w w4 := hbd.trans (hb4.mono hbd.size)
  have hS4 := (hb4.block _ (lt_of_block hS0.1)).trans hS0.1
  refine ⟨⟨hS4, hS4⟩, ?_⟩
  refine wpAnyH_call (k := 4) (by kernel_rfl) rfl rfl (f := 58) (args := #[gradeV lv g.pts g.step, .bool ok]) (by simp [execOp, go_sem, Act.eval, Act.put]; rfl) ?_
  refine (gopen_any g HP.out lv ok w4 (HL.out.later hbd4.size (fun k h1 h2 => hbd4.block k h2)).low hl9).mono ?_
  rintro e w5 ⟨hb5, hres⟩
  have hS5 := (hb5.block _ (lt_of_block hS4)).trans hS4
  have he4 := (hb4.block (w.heap.size + 1) (by have := HS.out; simp; omega)).trans H1.out
  have he5 := (hb5.block _ (lt_of_block he4)).trans he4
  have hbw5 : Below w.heap.size w w5 := hbd4.trans (hb5.mono hbd4.size)
  have HE5 := Lib.hid he5
  have HB5 := Lib.hid hbw5
  clear hb5 he5 he4 hbw5 hbd hb4 hbd4 hS4 hS0
  have stop : ∀ (m : Int) (tmps : Array Value) (w6 : World), Below w5.heap.size w5 w6 → (sureD g n) = (0, m) → (tmps.getD 4 undef = .int .i64 0) → (tmps.getD 5 undef = .pointer (some ⟨w.heap.size + 1, 0, none⟩)) →
      Leaves Try.prog Try.f24 tmps (fun e w' => e = .returned (.tuple #[.int .i64 (sureD g n).1, .int .i64 (sureD g n).2]) ∧ Below w.heap.size w w') [{ target := .fn (.func 61) #[.pointer (some ⟨w.heap.size + 1, 0, none⟩)], args := #[] }] (.panicking [{ v := gstopV m, recovered := false }]) w6 := by
    intro m tmps w6 hb6 hn ht2 ht3
    have he6 := (hb6.block _ (lt_of_block HE5.out)).trans HE5.out
    refine leaf_stop_gSure m (w.heap.size + 1) 0 tmps w6 he6 (fun W' hk he => ?_)
    have e0 : W'.cell? ⟨w.heap.size + 1, 0, none⟩ = some (.int .i64 m) := by rw [cell_of_row _ _ _ _ _ _ he]; rfl
    have ht2' : tmps[4]?.getD undef = .int .i64 0 := by simpa [Array.getD_eq_getD_getElem?] using ht2
    have ht3' : tmps[5]?.getD undef = .pointer (some ⟨w.heap.size + 1, 0, none⟩) := by simpa [Array.getD_eq_getD_getElem?] using ht3
    refine ⟨.tuple #[.int .i64 0, .int .i64 m], by simp [results, Try.results24, go_sem, ht2', ht3', e0], by rw [hn], HB5.out.trans ((hb6.mono HB5.out.size).trans (hk.below (by have := hb6.size; have := HB5.out.size; omega) (fun k h e => by omega)))⟩
  cases hv : validG g with
  | false =>
    rw [hv] at hres
    simp only [Bool.false_eq_true, if_false] at hres
    subst hres
    exact stop 1 _ w5 (Below.refl _ _) (by unfold sureD errG; rw [hv]; rfl) rfl rfl
  | true =>
    rw [hv] at hres
    simp only [if_true] at hres
    cases hok2 : ok with
    | false =>
      rw [hok2] at hres
      simp only [Bool.false_eq_true, if_false] at hres
      subst hres
      exact stop 2 _ w5 (Below.refl _ _) (by unfold sureD errG; rw [hv, ← HOK.out, hok2]; rfl) rfl rfl
    | true =>
      rw [hok2] at hres
      simp only [if_true] at hres
      obtain ⟨bp, l2, rfl, hle, hbp, hl2⟩ := hres
      have hlp := lt_of_block hbp
      refine ⟨⟨hS5, hS5⟩, ?_⟩
      refine wpAnyH_call (k := 5) (by kernel_rfl) rfl rfl (f := 59) (args := #[.pointer (some ⟨bp, 0, none⟩)]) (by simp [execOp, go_sem, Act.eval, Act.put]) ?_
      refine (gtold_any g HP.out hv lv l2 bp w5 hbp).mono ?_
      rintro e w6 ⟨hres, hb6⟩
      by_cases ht : truthsG g = []
      · rw [if_pos ht] at hres
        subst hres
        exact stop 10 _ w6 hb6 (by unfold sureD errG; rw [hv, ← HOK.out, hok2, ht]; rfl) rfl rfl
      · rw [if_neg ht] at hres
        subst hres
        clear stop
        have hS6 := (hb6.block _ (lt_of_block hS5)).trans hS5
        have hbp6 := (hb6.block bp hlp).trans hbp
        have hl26 := hl2.low.later hb6.size (fun k h1 h2 => hb6.block k h2)
        refine ⟨⟨hS6, hS6⟩, ?_⟩
        refine wpAnyH_call (k := 6) (by kernel_rfl) rfl rfl (f := 60) (args := #[.pointer (some ⟨bp, 0, none⟩)]) (by simp [execOp, go_sem, Act.eval, Act.put]) ?_
        refine (ggrades_any g HP.out hv lv l2 bp _ w6 hbp6 hl26).mono ?_
        rintro e w7 ⟨rfl, hb7⟩
        have hS7 := (hb7.block _ (lt_of_block hS6)).trans hS6
        have he6 := (hb6.block _ (lt_of_block HE5.out)).trans HE5.out
        have he7 := (hb7.block _ (lt_of_block he6)).trans he6
        have hb67 : Below w.heap.size w w7 := HB5.out.trans ((hb6.mono HB5.out.size).trans (hb7.mono (by have := hb6.size; have := HB5.out.size; omega)))
        refine ⟨⟨hS7, hS7⟩, ?_⟩
        refine wpAnyH_value (k := 7) (v := .int .u64 (gradesG g : Nat)) (by kernel_rfl) rfl rfl (by simp [execOp, go_sem, Act.eval, Act.put]) ⟨hS7, hS7⟩ ?_
        refine wpAnyH_done (by kernel_rfl) ?_ _
        refine hK _ _ ?_
        simp only [Act.put, List.setIfInBounds_toArray, List.set_cons_zero, List.set_cons_succ]
        have c0 : w7.cell? ⟨w.heap.size + 1, 0, none⟩ = some (.int .i64 0) := by rw [cell_of_row _ _ _ _ _ _ he7]; rfl
        have f0 : w7.frozen? ⟨w.heap.size + 1, 0, none⟩ = false := frozen_of_row _ _ _ _ _ he7
        have HE7 := Lib.hid he7
        have HB7 := Lib.hid hb67
        have hn0 : 0 ≤ n ∧ n < 4 := by
          have h1 := HOK.out
          rw [hok2] at h1
          have h2 := of_decide_eq_true h1.symm
          have := lim4 hv
          omega
        obtain ⟨m, rfl⟩ : ∃ m : Nat, n = (m : Int) := ⟨n.toNat, by omega⟩
        have hm4 : m < 4 := by omega
        have hs5 : gradesG g < 32 := Nat.lt_of_lt_of_le (grades_lt g) (show 2 ^ (g.lim.length + 1) ≤ 2 ^ 5 from Nat.pow_le_pow_right (by decide) (by have := lim4 hv; omega))
        have hsd : sureD g (m : Int) = (if sureG g m then 2 else if neverG g m then 0 else 1, 0) := by
          have he : errG g (inN (m : Int) 0 ((g.lim.length : Int) - 1)) = 0 := by unfold errG; rw [hv, ← HOK.out, hok2]; simp [ht]
          unfold sureD; simp only [he, if_true, Int.toNat_natCast]
        obtain ⟨s, hs⟩ : ∃ s, s = gradesG g := ⟨_, rfl⟩
        have h3 := sure_lt g m
        have h4 := never_mod g m
        rw [← hs] at hs5 h3 h4 ⊢
        have h1 := andn_sure ⟨m, hm4⟩ ⟨s, hs5⟩
        have h2 := and_sure ⟨m, hm4⟩ ⟨s, hs5⟩
        dsimp only at h1 h2
        clear hb7 hb6 hb67 he7 he6 hS7 hS6 hS5 hbp6 hl26 hl2 hbp
        clear hs
        by_cases hsure : s < 2 ^ (m + 1)
        · rw [if_pos hsure] at h1
          have hsg := h3.2 hsure
          rw [hsg, if_pos rfl] at hsd
          clear h2 h3 h4 hsure hsg
          go_wp2
          refine leaf_ret_gSure (w.heap.size + 1) _ _ ?_
          have he8 : (w7.setCell ⟨w.heap.size + 1, 0, none⟩ (.int .i64 0)).heap[w.heap.size + 1]? = some (.cells #[.int .i64 0] 24 (0, 0)) := one_setG HE7.out
          have e0 : (w7.setCell ⟨w.heap.size + 1, 0, none⟩ (.int .i64 0)).cell? ⟨w.heap.size + 1, 0, none⟩ = some (.int .i64 0) := by rw [cell_of_row _ _ _ _ _ _ he8]; rfl
          refine ⟨.tuple #[.int .i64 2, .int .i64 0], ?_, by rw [hsd], HB7.out.setCell (by simp) _⟩
          simp [results, Try.results24, go_sem, e0]
        · rw [if_neg hsure] at h1
          obtain ⟨q, hq⟩ : ∃ q, q = s / 2 ^ (m + 1) * 2 ^ (m + 1) := ⟨_, rfl⟩
          have hq0 : q ≠ 0 := by
            rw [hq]
            have : 0 < s / 2 ^ (m + 1) := Nat.div_pos (by omega) (Nat.two_pow_pos _)
            have h5 := Nat.two_pow_pos (m + 1)
            exact Nat.ne_of_gt (Nat.mul_pos this h5)
          rw [← hq] at h1
          have hsg : sureG g m = false := by rw [Bool.eq_false_iff]; intro h; exact hsure (h3.1 h)
          rw [hsg, if_neg (by decide)] at hsd
          by_cases hnev : s % 2 ^ (m + 1) = 0
          · rw [hnev] at h2
            rw [h4.2 hnev, if_pos rfl] at hsd
            clear h3 h4 hsure hsg hnev hq
            go_wp2
            refine leaf_ret_gSure (w.heap.size + 1) _ _ ?_
            have he8 : (w7.setCell ⟨w.heap.size + 1, 0, none⟩ (.int .i64 0)).heap[w.heap.size + 1]? = some (.cells #[.int .i64 0] 24 (0, 0)) := one_setG HE7.out
            have e0 : (w7.setCell ⟨w.heap.size + 1, 0, none⟩ (.int .i64 0)).cell? ⟨w.heap.size + 1, 0, none⟩ = some (.int .i64 0) := by rw [cell_of_row _ _ _ _ _ _ he8]; rfl
            refine ⟨.tuple #[.int .i64 0, .int .i64 0], ?_, by rw [hsd], HB7.out.setCell (by simp) _⟩
            simp [results, Try.results24, go_sem, e0]
          · have hng : neverG g m = false := by rw [Bool.eq_false_iff]; intro h; exact hnev (h4.1 h)
            rw [hng, if_neg (by decide)] at hsd
            obtain ⟨r, hr⟩ : ∃ r, r = s % 2 ^ (m + 1) := ⟨_, rfl⟩
            rw [← hr] at h2 hnev
            clear h3 h4 hsure hsg hng hq hr
            go_wp2
            refine leaf_ret_gSure (w.heap.size + 1) _ _ ?_
            have he8 : (w7.setCell ⟨w.heap.size + 1, 0, none⟩ (.int .i64 0)).heap[w.heap.size + 1]? = some (.cells #[.int .i64 0] 24 (0, 0)) := one_setG HE7.out
            have e0 : (w7.setCell ⟨w.heap.size + 1, 0, none⟩ (.int .i64 0)).cell? ⟨w.heap.size + 1, 0, none⟩ = some (.int .i64 0) := by rw [cell_of_row _ _ _ _ _ _ he8]; rfl
            refine ⟨.tuple #[.int .i64 1, .int .i64 0], ?_, by rw [hsd], HB7.out.setCell (by simp) _⟩
            simp [results, Try.results24, go_sem, e0]
end Go.Proofs.Ytagjepclobobjaa
