/- Texts Bzo, Bzp, Hx, Bzq, Bzr in one file; each begins with a word on what it proves. -/
import Derived.Test.YtagjepclobobjaaVh
import Derived.Test.YtagjepclobobjaaVa

/- Package lot: Value. -/
namespace Go.Proofs.Ytagjepclobobjaa
set_option linter.unusedVariables false
set_option linter.unusedSimpArgs false
open Go.RowKit Go.Shelf
attribute [local go_sem] Oper.semAt_some

theorem paid_in {l : LotD} (h : OkL l) : ∀ n, 0 ≤ paidL l n ∧ paidL l n ≤ 100
  | 0 => by
    by_cases hn : 0 < l.pays.length
    · have := (validL_parts h.v).2.2.2.2.2.2.1 0 hn
      unfold paidL; simp at this ⊢; omega
    · unfold paidL; rw [List.getD_eq_getElem?_getD, List.getElem?_eq_none (by omega)]; simp
  | n + 1 => by
    by_cases hn : n + 1 < l.pays.length
    · have := (validL_parts h.v).2.2.2.2.2.2.1 (n + 1) hn
      have ih := paid_in h n
      rw [if_neg (by omega), Nat.add_sub_cancel] at this
      unfold paidL at *
      omega
    · unfold paidL; rw [List.getD_eq_getElem?_getD, List.getElem?_eq_none (by omega)]; simp
theorem worthP_in {l : LotD} (h : OkL l) (s : Nat) : ∀ i, 0 ≤ (worthP l s i).1 ∧ (worthP l s i).1 ≤ 100 ∧ 0 ≤ (worthP l s i).2 ∧ (worthP l s i).2 ≤ 100
  | 0 => by simp [worthP]
  | i + 1 => by
    have ih := worthP_in h s i
    have hp := paid_in h i
    rw [worthP_succ]
    split
    · dsimp only; omega
    · exact ih
theorem worthS_in {l : LotD} (h : OkL l) (s : Nat) : -1000 ≤ (worthS l s).1 ∧ (worthS l s).1 ≤ 1000 ∧ -1000 ≤ (worthS l s).2 ∧ (worthS l s).2 ≤ 1000 := by
  have := worthP_in h s (l.lim.length + 1)
  have e : worthS l s = worthP l s (l.lim.length + 1) := rfl
  rw [e]
  omega
theorem value_fold (l : LotD) : ((blocksG l).map fun x => worthS l x.2).foldl addS (0, 0) = valueN l := by
  unfold blocksG valueN worthN
  rw [List.map_map, List.foldl_map]
  rfl
theorem underSpansL : Try.prog.underlying 109 = some (.slice 37) := by kernel_rfl
theorem infoSpanL : (Try.prog.info? 37).map (fun i => (i.zero, i.size, i.bytes)) = some (some (.agg #[.int .i64 0, .int .i64 0]), 2, 16) := by kernel_rfl
theorem spans_of_ownL {w : World} {base : Nat} {e : TypeId} {v : Value} {l : List (Int × Int)} {n : Nat} (hn : n = l.length) (h : w.ownsRow base e 2 v n (l.flatMap spanG2)) : SpansAt w v l (fun k => base ≤ k) := by
  subst hn
  rcases id h.2 with ⟨h2, h3⟩ | ⟨g, cap, cur, h2, h3, h4, h5, h6, h7, h8⟩
  · refine ⟨none, 0, by rw [h2, h3], by omega, by unfold maxLen; omega, fun i hi => by omega⟩
  · subst h2
    refine ⟨_, cap, rfl, h5, h6, fun i hi => ⟨g, 0, rfl, h3, lt_of_block h4, ?_⟩⟩
    have hc : ∀ k, k < 2 → w.cell? ⟨g, i * 2 + k, none⟩ = (spanG2 l[i])[k]? := fun k hk => by
      rw [World.ownsRow.cellAt h (i * 2 + k) (by omega), flatG2 l i hi k hk]
    rw [Nat.zero_add]
    exact ⟨hc 0 (by decide), hc 1 (by decide)⟩
set_option maxRecDepth 100000 in
set_option maxHeartbeats 8000000 in
theorem lValue_any (l : LotD) (p : PartsL) (w : World) (hlot : LotAt l p (fun k => k < w.heap.size) w) (h9 : Small9 l) :
    Calls Try.prog 19 #[lotV l p] w fun e w' => e = .returned (.tuple #[.agg #[.int .i64 (valueD l).1.1, .int .i64 (valueD l).1.2], .int .i64 (valueD l).2]) ∧ Below w.heap.size w w' := by
  obtain ⟨al, cl, hvl, _⟩ := id hlot.lim
  obtain ⟨ab, cb, hvb, _⟩ := id hlot.blk
  obtain ⟨ap, cp, hvp, _⟩ := id hlot.pay
  obtain ⟨ao, co, hvo, _⟩ := id hlot.ord
  obtain ⟨nl, hnl⟩ : ∃ n, n = l.lim.length := ⟨_, rfl⟩
  obtain ⟨nb, hnb⟩ : ∃ n, n = l.blocks.length := ⟨_, rfl⟩
  obtain ⟨np, hnp⟩ : ∃ n, n = l.pays.length := ⟨_, rfl⟩
  obtain ⟨no, hno⟩ : ∃ n, n = l.orders.length := ⟨_, rfl⟩
  rw [← hnl] at hvl
  rw [← hnb] at hvb
  rw [← hnp] at hvp
  rw [← hno] at hvo
  have HVL := Lib.hid (And.intro hvl (And.intro hvb (And.intro hvp hvo)))
  have HNL := Lib.hid hnl
  have HNB := Lib.hid hnb
  have HNP := Lib.hid hnp
  have HNO := Lib.hid hno
  have HLOT := Lib.hid hlot
  clear hvl hvb hvp hvo hnl hnb hnp hno hlot
  have hmf : ∀ fn first cap w, (Instr.makeFunc fn first cap).run Try.prog w = .ok (.func fn first cap) w := fun _ _ _ _ => rfl
  obtain ⟨W0, hW0⟩ : ∃ W0, W0 = ((w.alloc (.cells (lotC l p).toArray 32)).alloc (.cells #[.int .i64 0, .int .i64 0] 37)).alloc (.cells #[.int .i64 0] 24) := ⟨_, rfl⟩
  have y0 : W0.heap[w.heap.size]? = some (lotO l p) := by rw [hW0]; unfold lotO; exact (by repeat (first | (refine heap_alloc_at _ _ _ ?_; (simp <;> omega); done) | (refine (hget_old _ _ _ ?_).trans ?_; · (simp <;> omega))))
  have y1 : W0.heap[w.heap.size + 2]? = some (.cells #[.int .i64 0] 24 (0, 0)) := by rw [hW0]; exact (by repeat (first | (refine heap_alloc_at _ _ _ ?_; (simp <;> omega); done) | (refine (hget_old _ _ _ ?_).trans ?_; · (simp <;> omega))))
  have hs0 : W0.heap.size = w.heap.size + (2 + 1) := by rw [hW0]; simp
  have H0 := Lib.hid y0
  have H1 := Lib.hid y1
  have HS0 := Lib.hid hs0
  clear y0 y1 hs0
  have HB := Lib.hid (show Below w.heap.size w W0 by rw [hW0]; exact ((below_allocG _ _).alloc (by simp) _).alloc (by simp <;> omega) _)
  have HX := Lib.hid (show W0.heap[w.heap.size + 1]? = some (.cells #[.int .i64 0, .int .i64 0] 37 (0, 0)) by rw [hW0]; exact (by repeat (first | (refine heap_alloc_at _ _ _ ?_; (simp <;> omega); done) | (refine (hget_old _ _ _ ?_).trans ?_; · (simp <;> omega)))))
  unfold lotV
  refine calls_of_wp_marks Try.func19 rfl ?_
  simp only [Try.ntmps19, List.size_toArray, List.length_cons, List.length_nil, Nat.reduceAdd, Nat.reduceSub, Array.replicate_succ, Array.replicate_zero, List.push_toArray, List.append_toArray, List.nil_append, List.cons_append]
  go_upto_region 2 with fail
  rw [← hW0]
  clear hW0
  go_wp2_with (first | (refine wpList_load_row rfl 32 _ rfl w.heap.size rfl 32 (lotC l p).toArray (0, 0) _ H0.out underLot rfl sizeLot ?_))
  refine (lopen_always l p [] (.slice none 0 0) W0 (HLOT.out.later HB.out.size (fun k h1 h2 => HB.out.block k h2)).low (EntsAt.nil _ _) (by decide) h9).mono ?_
  rintro e w3 ⟨hb3, ⟨he, sp, mk, ml, sv, rfl, hS⟩ | ⟨hne, rfl⟩⟩
  rotate_left
  · refine leafM_stop_Value _ (w.heap.size + 2) 0 _ w3 ((hb3.block _ (lt_of_block H1.out)).trans H1.out) (fun W' hk he9 => ?_)
    have hx9 := (hk.block _ (by have := lt_of_block HX.out; have := hb3.size; omega) (by omega)).trans ((hb3.block _ (lt_of_block HX.out)).trans HX.out)
    have e0 : W'.cell? ⟨w.heap.size + 1 + 1, 0, none⟩ = some (.int .i64 (errL l [] true)) := by rw [cell_of_row _ _ _ _ _ _ he9]; rfl
    obtain ⟨e1, e2⟩ := two_cells hx9
    refine ⟨.tuple #[.agg #[.int .i64 0, .int .i64 0], .int .i64 (errL l [] true)], by simp [results, Try.results19, go_sem, e0, e1, e2], ?_, (HB.out.trans (hb3.mono HB.out.size)).trans (hk.below (by have := hb3.size; have := HB.out.size; omega) (fun k h e => by omega))⟩
    unfold valueD; dsimp only; rw [if_neg hne]
  have hsd : valueD l = (valueN l, 0) := by unfold valueD; dsimp only; rw [if_pos he]
  have hoK := OkL.of he
  have hb6 := (validL_parts hoK.v).1
  have HSD := Lib.hid hsd
  have HOK := Lib.hid hoK
  have HS := Lib.hid hS
  have HB3 := Lib.hid hb3
  have hsz0 := HS0.out
  have hsz3 := hb3.size
  clear he hsd hoK hS hb3
  dsimp only
  go_wp2_with fail
  refine (lblocks_any sp _).mono ?_
  rintro e w4 ⟨rfl, rfl⟩
  dsimp only
  obtain ⟨n3, hn3⟩ : ∃ n, n = w3.heap.size := ⟨_, rfl⟩
  obtain ⟨WZ, hWZ⟩ : ∃ W, W = ((w3.alloc (.cells #[.pointer (some ⟨sp, 0, none⟩)] 76)).alloc (.cells #[.slice none 0 0] 109)).alloc (boxSh sp) := ⟨_, rfl⟩
  have y0 : WZ.heap[n3]? = some (.cells #[.pointer (some ⟨sp, 0, none⟩)] 76 (0, 0)) := by rw [hWZ, hn3]; exact (by repeat (first | (refine heap_alloc_at _ _ _ ?_; (simp <;> omega); done) | (refine (hget_old _ _ _ ?_).trans ?_; · (simp <;> omega))))
  have y1 : WZ.heap[n3 + 1]? = some (.cells #[.slice none 0 0] 109 (0, 0)) := by rw [hWZ, hn3]; exact (by repeat (first | (refine heap_alloc_at _ _ _ ?_; (simp <;> omega); done) | (refine (hget_old _ _ _ ?_).trans ?_; · (simp <;> omega))))
  have y2 : WZ.heap[n3 + 2]? = some (boxSh sp) := by rw [hWZ, hn3]; exact (by repeat (first | (refine heap_alloc_at _ _ _ ?_; (simp <;> omega); done) | (refine (hget_old _ _ _ ?_).trans ?_; · (simp <;> omega))))
  have hbz : Below w3.heap.size w3 WZ := by rw [hWZ]; exact (((Below.refl _ _).alloc (Nat.le_refl _) _).alloc (by simp) _).alloc (by simp <;> omega) _
  have hzz : WZ.heap.size = n3 + 3 := by rw [hWZ, hn3]; simp
  have hsq : ((w3.alloc (.cells #[.pointer (some ⟨sp, 0, none⟩)] 76)).alloc (.cells #[.slice none 0 0] 109)).heap.size = n3 + 2 := by rw [hn3]; simp
  rw [← hWZ, hsq, ← hn3]
  have Y0 := Lib.hid y0
  have Y1 := Lib.hid y1
  have Y2 := Lib.hid y2
  have HBZ := Lib.hid hbz
  have HN3 := Lib.hid hn3
  have hlsp := lt_of_block HS.out.obj
  have hsp3 : sp < n3 := by omega
  have hsz3n : W0.heap.size ≤ n3 := by omega
  clear hWZ y0 y1 y2 hbz hsq hn3 hsz3 hlsp
  go_wp2_with fail
  refine wp_rangeG (gf := 78) (lb := #[.pointer (some ⟨n3 + 2, 0, none⟩)]) rfl (enters_of Try.func78 (by kernel_rfl) rfl) (encs := fun x : Nat × Nat => #[.int .i64 (x.1 : Int), .int .i64 (x.2 : Int)]) (fun _ => rfl)
    (fun k => k < n3) (fun k => k = n3 + 1) ?hRd ?hM (blocksG l) ?hseq
    (fun pre G Wr => ∃ v, Wr.heap[n3 + 1]? = some (.cells #[v] 109 (0, 0)) ∧ Wr.ownsRow (n3 + 3) 37 2 v pre.length ((pre.map fun x => worthS l x.2).flatMap spanG2) ∧ (∀ k, v.ownBlock = some k → G k) ∧ Keeps (fun k => k = n3 + 1) WZ Wr)
    (fun _ _ _ _ => False)
    ?hI ?hIx ?h0 ?hround ?hdone ?hstop
  case hRd => intro k hk; omega
  case hM => intro k hk; exact ⟨by omega, fun h => by omega⟩
  case hseq =>
    intro W' hb
    have hbw : Below w3.heap.size w3 W' := HBZ.out.trans (hb.mono (by have := HN3.out; omega))
    have hS' := HS.out.later hbw
    refine lblocks_seq l p mk ml sp (n3 + 2) _ sv hb6 W' ((hb.block _ (by omega)).trans Y2.out) hS'.obj ?_
    have := HS.out.sets.later hbw.size (fun k h1 _ => hbw.block k h1)
    obtain ⟨ao9, cap9, e1, e2, e3, e4⟩ := HS.out.sets
    refine ⟨ao9, cap9, e1, e2, e3, fun i hi => ?_⟩
    obtain ⟨b9, off9, f1, f2, f3, f4⟩ := e4 i hi
    exact ⟨b9, off9, f1, by have := HN3.out; omega, by have := hbw.size; omega, (World.cell?_of_block (w := w3) (a := ⟨b9, off9 + i, none⟩) (hbw.block b9 f3)).trans f4⟩
  case hI =>
    rintro s G A B' ⟨v, h1, h2, h3, h4⟩ hk
    exact ⟨v, (hk.block _ (lt_of_block h1) (by omega)).trans h1, own_block h2 (fun k e => hk.block k (h2.lt k e).2 (fun hn => hn.2 (h3 k e))), h3, h4.transNew hk (fun i h => h.1)⟩
  case hIx => rintro c s G A B' h hk; exact h
  case h0 => exact ⟨_, Y1.out, World.ownsRow_nil _ _ _ _, (fun k e => by simp [Value.ownBlock] at e), Keeps.refl _ _⟩
  case hstop => rintro D c pre x rest G W' hxs h; exact h.elim
  case hround =>
    rintro li pre x rest G Wr hxs ⟨v, h1, h2, h3, h4⟩ hl1 hl2 hGl
    obtain ⟨b, st⟩ := x
    have hxm : (b, st) ∈ blocksG l := by rw [hxs]; simp
    have hst32 : st < 32 := by
      unfold blocksG at hxm
      obtain ⟨b', _, e⟩ := List.mem_map.1 hxm
      cases e
      exact sets_lt HOK.out b
    have hpl : pre.length ≤ 6 := by
      have : (blocksG l).length ≤ 6 := by unfold blocksG; simpa using hb6
      rw [hxs] at this; simp at this; omega
    have H1 := Lib.hid h1
    have H2 := Lib.hid h2
    have H3 := Lib.hid h3
    have H4 := Lib.hid h4
    have HGL := Lib.hid hGl
    clear h1 h2 h3 h4 hxs hGl hxm
    gi_wp2
    refine ⟨Keeps.refl _ _, ?_⟩
    intro W3 hk3 hs3
    have hsz4 := H4.out.size
    have hW3 : ∀ k, k < Wr.heap.size → k ≠ li → W3.heap[k]? = Wr.heap[k]? := fun k hk hne => hk3.block k hk hne
    have z0 := (hW3 _ (by omega) (by omega)).trans ((H4.out.block n3 (by omega) (by omega)).trans Y0.out)
    have z1 := (hW3 _ (by omega) (by omega)).trans H1.out
    have hown3 : W3.ownsRow (n3 + 3) 37 2 v pre.length ((pre.map fun x => worthS l x.2).flatMap spanG2) := own_block H2.out (fun k e => hW3 k (H2.out.lt k e).2 (fun hn => by have := HGL.out k (H3.out k e); omega))
    have hkr3 : Keeps (fun k => k = n3 + 1) WZ W3 := H4.out.transNew hk3 (fun i h => by omega)
    have hb3w : Below w3.heap.size w3 W3 := HBZ.out.trans (hkr3.below (by have := HN3.out; omega) (fun k h e => by have := HN3.out; omega))
    have d0 : W3.cell? ⟨n3, 0, none⟩ = some (.pointer (some ⟨sp, 0, none⟩)) := by rw [cell_of_row _ _ _ _ _ _ z0]; rfl
    have d1 : W3.cell? ⟨n3 + 1, 0, none⟩ = some v := by rw [cell_of_row _ _ _ _ _ _ z1]; rfl
    have HS3 := Lib.hid (HS.out.later hb3w)
    have Z0 := Lib.hid z0
    have Z1 := Lib.hid z1
    have HO3 := Lib.hid hown3
    have HKR := Lib.hid hkr3
    have HSZ := Lib.hid hs3
    have HK3 := Lib.hid hk3
    clear z0 z1 hown3 hkr3 hb3w hW3 hs3 hk3
    gi_wp2
    refine region_tailIn (S := fun W' => W'.cell? ⟨n3, 0, none⟩ = some (.pointer (some ⟨sp, 0, none⟩)) ∧ W'.cell? ⟨n3 + 1, 0, none⟩ = some v) 6 #[false, false, false, false, false, false, true] (by kernel_rfl) (by kernel_rfl) (by kernel_rfl) (fun ⟨a, w, h⟩ => h) rfl ⟨d0, d1⟩ fun hS => ?_
    refine wpAnyH_take (i := 0) (v := ?_) rfl (by kernel_rfl) (by kernel_rfl) (by kernel_rfl) (fun _ _ _ h => h) (Or.inl ⟨by rfl, ?_⟩) hS ?_
    rotate_left
    · (intro W hSw; obtain ⟨hq1, hq2⟩ := hSw; go_simp; try with_reducible rfl)
    try simp only [List.getElem_toArray, List.getElem_cons_succ, List.getElem_cons_zero, Act.put, List.setIfInBounds_toArray, List.set_cons_zero, List.set_cons_succ]
    refine wpAnyH_take (i := 1) (v := ?_) rfl (by kernel_rfl) (by kernel_rfl) (by kernel_rfl) (fun _ _ _ h => h) (Or.inl ⟨by rfl, ?_⟩) hS ?_
    rotate_left
    · (intro W hSw; obtain ⟨hq1, hq2⟩ := hSw; go_simp; try with_reducible rfl)
    try simp only [List.getElem_toArray, List.getElem_cons_succ, List.getElem_cons_zero, Act.put, List.setIfInBounds_toArray, List.set_cons_zero, List.set_cons_succ]
    refine wpAnyH_take (i := 2) (v := ?_) rfl (by kernel_rfl) (by kernel_rfl) (by kernel_rfl) (fun _ _ _ h => h) (Or.inl ⟨by rfl, ?_⟩) hS ?_
    rotate_left
    · (intro W hSw; obtain ⟨hq1, hq2⟩ := hSw; go_simp; try with_reducible rfl)
    try simp only [List.getElem_toArray, List.getElem_cons_succ, List.getElem_cons_zero, Act.put, List.setIfInBounds_toArray, List.set_cons_zero, List.set_cons_succ]
    refine wpAnyH_call (k := 3) (by kernel_rfl) rfl rfl (f := 42) (args := #[.pointer (some ⟨sp, 0, none⟩), .int .i64 (st : Int)]) (by simp [execOp, go_sem, Act.eval, Act.put]) ?_
    refine (lworth_any HOK.out st hst32 W3.drew (HS3.out.later (Below.refl _ _).drew)).mono ?_
    rintro e w5 ⟨rfl, hb5⟩
    have hb5' : Below W3.heap.size W3 w5 := (Below.refl _ _).drew.trans hb5
    have hs5 := hb5'.size
    have hw3s : W3.heap.size = Wr.heap.size := HSZ.out
    have z05 := (hb5'.block n3 (by omega)).trans Z0.out
    have z15 := (hb5'.block (n3 + 1) (by omega)).trans Z1.out
    obtain ⟨lo, hlo⟩ : ∃ q, q = (worthS l st).1 := ⟨_, rfl⟩
    obtain ⟨hg, hhg⟩ : ∃ q, q = (worthS l st).2 := ⟨_, rfl⟩
    rw [← hlo, ← hhg]
    refine ⟨⟨by rw [cell_of_row _ _ _ _ _ _ z05]; rfl, by rw [cell_of_row _ _ _ _ _ _ z15]; rfl⟩, ?_⟩
    obtain ⟨W6, hW6⟩ : ∃ W, W = w5.alloc (.cells #[.int .i64 lo, .int .i64 hg] 37) := ⟨_, rfl⟩
    have hn6 : W6.heap[w5.heap.size]? = some (.cells #[.int .i64 lo, .int .i64 hg] 37 (0, 0)) := by rw [hW6]; exact heap_alloc_at _ _ _ rfl
    have hb6' : Below W3.heap.size W3 W6 := by rw [hW6]; exact hb5'.alloc hs5 _
    have z06 := (hb6'.block n3 (by omega)).trans Z0.out
    have z16 := (hb6'.block (n3 + 1) (by omega)).trans Z1.out
    refine wpAnyH_value (k := 4) (v := .slice (some ⟨w5.heap.size, 0, none⟩) 1 1) (w' := W6) (by kernel_rfl) rfl rfl (by rw [hW6]; simp [execOp, go_sem, Act.eval, Act.put]) ⟨by rw [cell_of_row _ _ _ _ _ _ z06]; rfl, by rw [cell_of_row _ _ _ _ _ _ z16]; rfl⟩ ?_
    refine wpAnyH_operL (k := 5) (by kernel_rfl) rfl rfl ?_
    refine wp_append_here (.tmp 15) (.tmp 19) 109 rfl (n3 + 3) 37 2 16 (.agg #[.int .i64 0, .int .i64 0]) underSpansL infoSpanL rfl (by decide) v pre.length _ rfl (own_block HO3.out (fun k e => hb6'.block k (HO3.out.lt k e).2)) ⟨w5.heap.size, 0, none⟩ 1 1 [.int .i64 lo, .int .i64 hg] rfl rfl (news_block hn6) (by simp [Value.oneCell']) (by omega) (by decide) (by have := hb6'.size; omega) ?_
    intro v1 W7 hown7 hg7 hat7
    have hob : ∀ k, v.ownBlock = some k → n3 + 3 ≤ k ∧ G k := fun k e => ⟨(HO3.out.lt k e).1, H3.out k e⟩
    have hk7 : Keeps (fun k => G k) W6 W7 := (keeps_grown hg7).mono fun k _ e => (hob k e).2
    have hGn : ∀ k, G k → n3 + 3 ≤ k := fun k h => by have := HGL.out k h; omega
    have z07 := (hk7.block n3 (by have := hb6'.size; omega) (fun h => by have := hGn _ h; omega)).trans z06
    have z17 := (hk7.block (n3 + 1) (by have := hb6'.size; omega) (fun h => by have := hGn _ h; omega)).trans z16
    have hs7 := hk7.size
    have hs6 := hb6'.size
    have hw56 : W6.heap.size = w5.heap.size + 1 := by rw [hW6]; simp
    refine ⟨⟨by rw [cell_of_row _ _ _ _ _ _ z07]; rfl, by rw [cell_of_row _ _ _ _ _ _ z17]; rfl⟩, ?_⟩
    refine wpAnyH_done (by kernel_rfl) ?_ _
    unfold TailQ
    simp only [List.drop_succ_cons, List.drop_zero]
    obtain ⟨av, ac, nv, rfl⟩ : ∃ a n c, v1 = .slice a n c := by
      rcases hown7.2 with ⟨h2, _⟩ | ⟨g, cap, cur, h2, _⟩ <;> exact ⟨_, _, _, h2⟩
    have hat : ∀ k, (Value.slice av ac nv).ownBlock = some k → Grow G Wr W7 k := fun k e => by
      rcases hat7 with h | h
      · exact .inl (H3.out k (h.symm.trans e))
      · rw [h] at e
        obtain rfl := Option.some.inj e
        exact .inr ⟨by omega, (hown7.lt _ h).2⟩
    have hkk : Keeps (fun k => k = n3 + 1 ∨ G k) W3 W7 := (Keeps.of_below hb6' (fun k h1 h2 => absurd h2 (by omega))).trans (hk7.mono fun k _ h => .inr h)
    have e1 : W7.cell? ⟨n3 + 1, 0, none⟩ = some v := by rw [cell_of_row _ _ _ _ _ _ z17]; rfl
    have f1 : W7.frozen? ⟨n3 + 1, 0, none⟩ = false := frozen_of_row _ _ _ _ _ z17
    have HF := Lib.hid (And.intro z17 (And.intro hown7 (And.intro hat hkk)))
    have HLO := Lib.hid (And.intro hlo hhg)
    clear hS z05 z15 z06 z16 z07 z17 hk7 hg7 hat7 hown7 hat hkk hob hb5 hb5' hb6' hn6 hW6 hlo hhg d0 d1
    go_wp2_with fail
    obtain ⟨z17, hown7, hat, hkk⟩ := HF.out
    have hk9 : Keeps (fun k => k = n3 + 1 ∨ G k) W3 (W7.setCell ⟨n3 + 1, 0, none⟩ (.slice av ac nv)) := hkk.trans (Keeps.setCell _ _ _ (.inl rfl))
    refine ⟨hk9, .slice av ac nv, one_setG z17, ?_, fun k e => ?_, ?_⟩
    · have this : (W7.setCell ⟨n3 + 1, 0, none⟩ (.slice av ac nv)).ownsRow _ _ _ _ _ _ := own_block hown7 (fun k e => Below.heap_setCell _ _ _ _ (by have := (hown7.lt k e).1; show k ≠ n3 + 1; omega))
      rw [List.length_append, List.map_append, List.flatMap_append]
      simp only [List.length_cons, List.length_nil, Nat.zero_add, List.map_cons, List.map_nil, List.flatMap_cons, List.flatMap_nil, List.append_nil, spanG2, ← HLO.out.1, ← HLO.out.2]
      exact this
    · rcases hat k e with h | h
      · exact .inl h
      · exact .inr ⟨h.1, by simpa [World.setCell] using h.2⟩
    · exact ((HKR.out.mono (Mut' := fun k => k = n3 + 1 ∨ G k) fun k _ h => .inl h).trans hk9).mono (fun k hk h => h.elim id (fun h => by have := hGn k h; omega))
  case hdone =>
    rintro D G W' ⟨v, h1, h2, h3, h4⟩ hGD hkk hD hDs
    have hb9 : Below w3.heap.size w3 W' := HBZ.out.trans (h4.below (by have := HN3.out; omega) (fun k h e => by have := HN3.out; omega))
    have hb09 : Below W0.heap.size W0 W' := HB3.out.trans (hb9.mono (by have := HN3.out; omega))
    have hsp := spans_of_ownL (l := (blocksG l).map fun x => worthS l x.2) (by simp) h2
    have hva := value_fold l
    obtain ⟨L, hL⟩ : ∃ q, q = (blocksG l).map fun x => worthS l x.2 := ⟨_, rfl⟩
    rw [← hL] at hsp hva
    have hLin : ∀ x ∈ L, -1000 ≤ x.1 ∧ x.1 ≤ 1000 ∧ -1000 ≤ x.2 ∧ x.2 ≤ 1000 := fun x hx => by
      rw [hL] at hx
      obtain ⟨y, _, rfl⟩ := List.mem_map.1 hx
      exact worthS_in HOK.out _
    have hLlen : L.length ≤ 1000 := by rw [hL]; simp [blocksG]; omega
    have d1 : W'.cell? ⟨n3 + 1, 0, none⟩ = some v := by rw [cell_of_row _ _ _ _ _ _ h1]; rfl
    have hD3 : n3 + 3 ≤ D := by omega
    have HD := Lib.hid hD
    have HB9 := Lib.hid hb09
    have HSP := Lib.hid hsp
    have HVA := Lib.hid hva
    clear h1 h2 h3 h4 hGD hkk hD hb9 hb09 hsp hva hL
    go_wp2_with fail
    refine (ltotal_any L v _ hLin hLlen W' HSP.out).mono ?_
    rintro e w4 ⟨rfl, hb4⟩
    rw [HVA.out]
    have hb04 : Below W0.heap.size W0 w4 := HB9.out.trans (hb4.mono HB9.out.size)
    have hx4 := (hb04.block _ (lt_of_block HX.out)).trans HX.out
    have he4 := (hb04.block _ (lt_of_block H1.out)).trans H1.out
    have hD4 := (hb4.block D (lt_of_block HD.out)).trans HD.out
    obtain ⟨d1, d2⟩ := two_cells hx4
    have f1 : ∀ k, w4.frozen? ⟨w.heap.size + 1, k, none⟩ = false := fun k => frozen_of_row _ _ _ _ _ hx4
    have e0 : w4.cell? ⟨w.heap.size + 1 + 1, 0, none⟩ = some (.int .i64 0) := by rw [cell_of_row _ _ _ _ _ _ he4]; rfl
    have f0 : w4.frozen? ⟨w.heap.size + 1 + 1, 0, none⟩ = false := frozen_of_row _ _ _ _ _ he4
    obtain ⟨lo, hlo⟩ : ∃ q, q = (valueN l).1 := ⟨_, rfl⟩
    obtain ⟨hg, hhg⟩ : ∃ q, q = (valueN l).2 := ⟨_, rfl⟩
    rw [← hlo, ← hhg]
    have hval : valueD l = ((lo, hg), 0) := by rw [HSD.out, hlo, hhg]
    have HVAL := Lib.hid hval
    have HX4 := Lib.hid hx4
    have HE4 := Lib.hid he4
    have HB4 := Lib.hid hb04
    have HD4 := Lib.hid hD4
    have hDb : w.heap.size + 3 ≤ D := by omega
    clear hb4 hb04 hx4 he4 hlo hhg hval hD4
    dsimp only
    go_wp2
    obtain ⟨W8, hW8⟩ : ∃ W, W = (w4.setCell ⟨w.heap.size + 1, 0, none⟩ (.int .i64 lo)).setCell ⟨w.heap.size + 1, 1, none⟩ (.int .i64 hg) := ⟨_, rfl⟩
    rw [← hW8]
    have g1 : W8.heap[w.heap.size + 1]? = some (.cells #[.int .i64 lo, .int .i64 hg] 37 (0, 0)) := by rw [hW8]; exact two_setG HX4.out
    have g2 : W8.heap[w.heap.size + 1 + 1]? = some (.cells #[.int .i64 0] 24 (0, 0)) := by rw [hW8]; exact (other_setG _ _ _ _ (by simp)).trans ((other_setG _ _ _ _ (by simp)).trans HE4.out)
    have gD : W8.heap[D]? = some (.deferred (some [])) := by rw [hW8]; exact (other_setG _ _ _ _ (by simp; omega)).trans ((other_setG _ _ _ _ (by simp; omega)).trans HD4.out)
    have gb : Below w.heap.size w W8 := by rw [hW8]; exact ((HB.out.trans (HB4.out.mono HB.out.size)).setCell (by simp) _).setCell (by simp) _
    have rD2 : (W8.setCell ⟨w.heap.size + 1 + 1, 0, none⟩ (.int .i64 0)).heap[D]? = some (.deferred (some [])) := (other_setG _ _ _ _ (by simp; omega)).trans gD
    refine ⟨by simp, .inl ⟨_, _, rfl, run_takeDeferred rD2, ?_⟩⟩
    refine leafM_ret_Value (w.heap.size + 2) _ _ ?_
    obtain ⟨W9, hW9⟩ : ∃ W, W = (W8.setCell ⟨w.heap.size + 1 + 1, 0, none⟩ (.int .i64 0)).putObj D (.deferred none) := ⟨_, rfl⟩
    rw [← hW9]
    have k1 : W9.heap[w.heap.size + 1]? = some (.cells #[.int .i64 lo, .int .i64 hg] 37 (0, 0)) := by rw [hW9]; exact (World.putObj_heap_other (by omega)).trans ((other_setG _ _ _ _ (by simp)).trans g1)
    have k2 : W9.heap[w.heap.size + 1 + 1]? = some (.cells #[.int .i64 0] 24 (0, 0)) := by rw [hW9]; exact (World.putObj_heap_other (by omega)).trans (one_setG g2)
    have kb : Below w.heap.size w W9 := by
      rw [hW9]
      have q1 : Below w.heap.size w (W8.setCell ⟨w.heap.size + 1 + 1, 0, none⟩ (.int .i64 0)) := gb.setCell (by simp; omega) _
      exact q1.trans ((Keeps.putObj (Mut := fun k => k = D) _ _ _ rfl).below q1.size (fun k h e => by omega))
    obtain ⟨e1, e2⟩ := two_cells k1
    have e9 : W9.cell? ⟨w.heap.size + 1 + 1, 0, none⟩ = some (.int .i64 0) := by rw [cell_of_row _ _ _ _ _ _ k2]; rfl
    exact ⟨.tuple #[.agg #[.int .i64 lo, .int .i64 hg], .int .i64 0], by simp [results, Try.results19, go_sem, e9, e1, e2], by rw [HVAL.out], kb⟩
end Go.Proofs.Ytagjepclobobjaa

/- Package lot: Scrap. -/
namespace Go.Proofs.Ytagjepclobobjaa
set_option linter.unusedVariables false
set_option linter.unusedSimpArgs false
open Go.RowKit Go.Shelf
attribute [local go_sem] Oper.semAt_some

def surelyP (n : Nat) (pre : List (Nat × Nat)) : Nat := pre.foldl (fun s x => if x.2 = 2 ^ n then s ||| 2 ^ x.1 else s) 0
def perhapsP (n : Nat) (pre : List (Nat × Nat)) : Nat := pre.foldl (fun s x => if x.2.testBit n then s ||| 2 ^ x.1 else s) 0
theorem surelyP_all (l : LotD) : surelyP l.lim.length (blocksG l) = surelyN l := by
  unfold surelyP surelyN blocksG
  rw [List.foldl_map]
theorem perhapsP_all (l : LotD) : perhapsP l.lim.length (blocksG l) = perhapsN l := by
  unfold perhapsP perhapsN blocksG
  rw [List.foldl_map]
theorem surelyP_snoc (n : Nat) (pre : List (Nat × Nat)) (x : Nat × Nat) : surelyP n (pre ++ [x]) = if x.2 = 2 ^ n then surelyP n pre ||| 2 ^ x.1 else surelyP n pre := by
  unfold surelyP; rw [List.foldl_append]; rfl
theorem perhapsP_snoc (n : Nat) (pre : List (Nat × Nat)) (x : Nat × Nat) : perhapsP n (pre ++ [x]) = if x.2.testBit n then perhapsP n pre ||| 2 ^ x.1 else perhapsP n pre := by
  unfold perhapsP; rw [List.foldl_append]; rfl
theorem or_fold_lt {q : Nat × Nat → Bool} {m : Nat} : ∀ (pre : List (Nat × Nat)) (s : Nat), s < 2 ^ m → (∀ x ∈ pre, x.1 < m) → pre.foldl (fun s x => if q x then s ||| 2 ^ x.1 else s) s < 2 ^ m
  | [], s, h, _ => h
  | x :: pre, s, h, hx => by
    rw [List.foldl_cons]
    refine or_fold_lt pre _ ?_ (fun y hy => hx y (List.mem_cons_of_mem _ hy))
    split
    · exact Nat.or_lt_two_pow h (Nat.pow_lt_pow_right (by decide) (hx x List.mem_cons_self))
    · exact h
theorem surelyP_lt (n : Nat) (pre : List (Nat × Nat)) (h : ∀ x ∈ pre, x.1 < 6) : surelyP n pre < 64 := by
  have := or_fold_lt (q := fun x => decide (x.2 = 2 ^ n)) (m := 6) pre 0 (by decide) h
  simpa [surelyP] using this
theorem perhapsP_lt (n : Nat) (pre : List (Nat × Nat)) (h : ∀ x ∈ pre, x.1 < 6) : perhapsP n pre < 64 := or_fold_lt (q := fun x => x.2.testBit n) (m := 6) pre 0 (by decide) h
theorem pow_i64L : ∀ n : Fin 8, IntKind.i64.wrap (2 ^ n.val) = ((2 ^ n.val : Nat) : Int) := by decide +kernel
theorem pow_w64L : ∀ n : Fin 8, wrap64 (2 ^ n.val) = ((2 ^ n.val : Nat) : Int) := by decide +kernel
theorem or_i64L : ∀ n : Fin 8, ∀ s : Fin 64, bits BinOp.or IntKind.i64 (s.val : Int) ((2 ^ n.val : Nat) : Int) = ((s.val ||| 2 ^ n.val : Nat) : Int) := by decide +kernel
theorem and_i64L : ∀ n : Fin 5, ∀ s : Fin 32, bits BinOp.and IntKind.i64 (s.val : Int) ((2 ^ n.val : Nat) : Int) = if s.val.testBit n.val then ((2 ^ n.val : Nat) : Int) else 0 := by decide +kernel
set_option maxRecDepth 100000 in
set_option maxHeartbeats 8000000 in
theorem lScrap_any (l : LotD) (p : PartsL) (w : World) (hlot : LotAt l p (fun k => k < w.heap.size) w) (h9 : Small9 l) (hl8 : l.lim.length ≤ 40) :
    Calls Try.prog 20 #[lotV l p] w fun e w' => e = .returned (.tuple #[.int .i64 (scrapD l).1, .int .i64 (scrapD l).2.1, .int .i64 (scrapD l).2.2]) ∧ Below w.heap.size w w' := by
  obtain ⟨al, cl, hvl, _⟩ := id hlot.lim
  obtain ⟨ab, cb, hvb, _⟩ := id hlot.blk
  obtain ⟨ap, cp, hvp, _⟩ := id hlot.pay
  obtain ⟨ao, co, hvo, _⟩ := id hlot.ord
  obtain ⟨nl, hnl⟩ : ∃ n, n = l.lim.length := ⟨_, rfl⟩
  obtain ⟨nb, hnb⟩ : ∃ n, n = l.blocks.length := ⟨_, rfl⟩
  obtain ⟨np, hnp⟩ : ∃ n, n = l.pays.length := ⟨_, rfl⟩
  obtain ⟨no, hno⟩ : ∃ n, n = l.orders.length := ⟨_, rfl⟩
  rw [← hnl] at hvl
  rw [← hnb] at hvb
  rw [← hnp] at hvp
  rw [← hno] at hvo
  have HVL := Lib.hid (And.intro hvl (And.intro hvb (And.intro hvp hvo)))
  have HNL := Lib.hid hnl
  have HNB := Lib.hid hnb
  have HNP := Lib.hid hnp
  have HNO := Lib.hid hno
  have HLOT := Lib.hid hlot
  clear hvl hvb hvp hvo hnl hnb hnp hno hlot
  have hmf : ∀ fn first cap w, (Instr.makeFunc fn first cap).run Try.prog w = .ok (.func fn first cap) w := fun _ _ _ _ => rfl
  obtain ⟨W0, hW0⟩ : ∃ W0, W0 = (w.alloc (.cells (lotC l p).toArray 32)).alloc (.cells #[.int .i64 0] 24) := ⟨_, rfl⟩
  have y0 : W0.heap[w.heap.size]? = some (lotO l p) := by rw [hW0]; unfold lotO; exact (by repeat (first | (refine heap_alloc_at _ _ _ ?_; (simp <;> omega); done) | (refine (hget_old _ _ _ ?_).trans ?_; · (simp <;> omega))))
  have y1 : W0.heap[w.heap.size + 1]? = some (.cells #[.int .i64 0] 24 (0, 0)) := by rw [hW0]; exact (by repeat (first | (refine heap_alloc_at _ _ _ ?_; (simp <;> omega); done) | (refine (hget_old _ _ _ ?_).trans ?_; · (simp <;> omega))))
  have hs0 : W0.heap.size = w.heap.size + (1 + 1) := by rw [hW0]; simp
  have H0 := Lib.hid y0
  have H1 := Lib.hid y1
  have HS0 := Lib.hid hs0
  clear y0 y1 hs0
  have HB := Lib.hid (show Below w.heap.size w W0 by rw [hW0]; exact (below_allocG _ _).alloc (by simp) _)
  have hnl40 : nl ≤ 40 := by rw [HNL.out]; exact hl8
  have c0 : W0.cell? ⟨w.heap.size, 0, none⟩ = some (.slice al nl cl) := by rw [cell_of_row _ _ _ _ _ _ H0.out]; rw [← HVL.out.1]; rfl
  unfold lotV
  refine calls_of_wp_marks Try.func20 rfl ?_
  simp only [Try.ntmps20, List.size_toArray, List.length_cons, List.length_nil, Nat.reduceAdd, Nat.reduceSub, Array.replicate_succ, Array.replicate_zero, List.push_toArray, List.append_toArray, List.nil_append, List.cons_append]
  go_upto_region 2 with fail
  rw [← hW0]
  clear hW0
  go_upto_region 4 with fail
  obtain ⟨n0, hn0⟩ : ∃ n, n = W0.heap.size := ⟨_, rfl⟩
  obtain ⟨z, hz⟩ : ∃ z, z = wrap64 (2 ^ nl) := ⟨_, rfl⟩
  rw [← hn0, ← hz]
  obtain ⟨W1, hW1⟩ : ∃ W, W = ((W0.alloc (.cells #[.int .i64 z] 3)).alloc (.cells #[.int .i64 0] 3)).alloc (.cells #[.int .i64 0] 3) := ⟨_, rfl⟩
  have y0 : W1.heap[n0]? = some (.cells #[.int .i64 z] 3 (0, 0)) := by rw [hW1, hn0]; exact (by repeat (first | (refine heap_alloc_at _ _ _ ?_; (simp <;> omega); done) | (refine (hget_old _ _ _ ?_).trans ?_; · (simp <;> omega))))
  have y1 : W1.heap[n0 + 1]? = some (.cells #[.int .i64 0] 3 (0, 0)) := by rw [hW1, hn0]; exact (by repeat (first | (refine heap_alloc_at _ _ _ ?_; (simp <;> omega); done) | (refine (hget_old _ _ _ ?_).trans ?_; · (simp <;> omega))))
  have y2 : W1.heap[n0 + 1 + 1]? = some (.cells #[.int .i64 0] 3 (0, 0)) := by rw [hW1, hn0]; exact (by repeat (first | (refine heap_alloc_at _ _ _ ?_; (simp <;> omega); done) | (refine (hget_old _ _ _ ?_).trans ?_; · (simp <;> omega))))
  have hb1 : Below W0.heap.size W0 W1 := by rw [hW1]; exact (((Below.refl _ _).alloc (Nat.le_refl _) _).alloc (by simp) _).alloc (by simp <;> omega) _
  have hs1 : W1.heap.size = n0 + 3 := by rw [hW1, hn0]; simp
  rw [← hW1]
  have Y0 := Lib.hid y0
  have Y1 := Lib.hid y1
  have Y2 := Lib.hid y2
  have HB1 := Lib.hid hb1
  have HS1 := Lib.hid hs1
  have HN0 := Lib.hid hn0
  have HZ := Lib.hid hz
  have HX1 := Lib.hid ((hb1.block _ (lt_of_block H0.out)).trans H0.out)
  have HE1 := Lib.hid ((hb1.block _ (lt_of_block H1.out)).trans H1.out)
  have hbw1 : Below w.heap.size w W1 := HB.out.trans (hb1.mono HB.out.size)
  have HBW1 := Lib.hid hbw1
  clear hW1 y0 y1 y2 hb1 hs1 hn0 hz hbw1 c0
  go_wp2_with (first | (refine wpList_load_row rfl 32 _ rfl w.heap.size rfl 32 (lotC l p).toArray (0, 0) _ HX1.out underLot rfl sizeLot ?_))
  refine (lopen_always l p [] (.slice none 0 0) W1 (HLOT.out.later HBW1.out.size (fun k h1 h2 => HBW1.out.block k h2)).low (EntsAt.nil _ _) (by decide) h9).mono ?_
  rintro e w3 ⟨hb3, ⟨he, sp, mk, ml, sv, rfl, hS⟩ | ⟨hne, rfl⟩⟩
  rotate_left
  · refine leafM_stop_Scrap _ (w.heap.size + 1) 0 _ w3 ((hb3.block _ (lt_of_block HE1.out)).trans HE1.out) (fun W' hk he9 => ?_)
    have e0 : W'.cell? ⟨w.heap.size + 1, 0, none⟩ = some (.int .i64 (errL l [] true)) := by rw [cell_of_row _ _ _ _ _ _ he9]; rfl
    refine ⟨.tuple #[.int .i64 0, .int .i64 0, .int .i64 (errL l [] true)], by simp [results, Try.results20, go_sem, e0], ?_, (HBW1.out.trans (hb3.mono HBW1.out.size)).trans (hk.below (by have := hb3.size; have := HBW1.out.size; omega) (fun k h e => by omega))⟩
    unfold scrapD; dsimp only; rw [if_neg hne]
  have hsd : scrapD l = ((surelyN l : Int), (perhapsN l : Int), 0) := by unfold scrapD; dsimp only; rw [if_pos he]
  have hoK := OkL.of he
  have hb6 := (validL_parts hoK.v).1
  have hl4 : nl ≤ 4 := by rw [HNL.out]; exact lim4 (g := ⟨l.lim, zeroPts, l.step⟩) (validL_parts hoK.v).2.2.2.2.1
  have hzq : z = ((2 ^ nl : Nat) : Int) := by rw [HZ.out]; exact pow_w64L ⟨nl, by omega⟩
  have HZQ := Lib.hid hzq
  have HSD := Lib.hid hsd
  have HOK := Lib.hid hoK
  have HS := Lib.hid hS
  have HB3 := Lib.hid hb3
  have hsz0 := HS0.out
  clear he hsd hoK hS hb3 hzq
  dsimp only
  go_wp2_with fail
  refine (lblocks_any sp _).mono ?_
  rintro e w4 ⟨rfl, rfl⟩
  dsimp only
  obtain ⟨n3, hn3⟩ : ∃ n, n = w3.heap.size := ⟨_, rfl⟩
  obtain ⟨WZ, hWZ⟩ : ∃ W, W = w3.alloc (boxSh sp) := ⟨_, rfl⟩
  have y3 : WZ.heap[n3]? = some (boxSh sp) := by rw [hWZ, hn3]; exact heap_alloc_at _ _ _ rfl
  have hbz : Below w3.heap.size w3 WZ := by rw [hWZ]; exact below_allocG _ _
  have hzz : WZ.heap.size = n3 + 1 := by rw [hWZ, hn3]; simp
  have hle : n0 + 3 ≤ n3 := by have := HB3.out.size; have := HS1.out; omega
  have hn02 : w.heap.size + 2 = n0 := by have := HN0.out; omega
  rw [← hWZ, ← hn3]
  have Y3 := Lib.hid y3
  have HBZ := Lib.hid hbz
  have HN3 := Lib.hid hn3
  have hb1z : Below W1.heap.size W1 WZ := HB3.out.trans (hbz.mono HB3.out.size)
  have HB1Z := Lib.hid hb1z
  have Z0 := Lib.hid ((hb1z.block _ (lt_of_block Y0.out)).trans Y0.out)
  have Z1 := Lib.hid ((hb1z.block _ (lt_of_block Y1.out)).trans Y1.out)
  have Z2 := Lib.hid ((hb1z.block _ (lt_of_block Y2.out)).trans Y2.out)
  clear hWZ y3 hbz hn3 hb1z
  go_wp2_with fail
  refine wp_rangeG (gf := 78) (lb := #[.pointer (some ⟨n3, 0, none⟩)]) rfl (enters_of Try.func78 (by kernel_rfl) rfl) (encs := fun x : Nat × Nat => #[.int .i64 (x.1 : Int), .int .i64 (x.2 : Int)]) (fun _ => rfl)
    (fun k => W1.heap.size ≤ k ∧ k < n3) (fun k => k = n0 + 1 ∨ k = n0 + 1 + 1) ?hRd ?hM (blocksG l) ?hseq
    (fun pre G Wr => Wr.heap[n0 + 1]? = some (.cells #[.int .i64 (surelyP nl pre : Nat)] 3 (0, 0)) ∧ Wr.heap[n0 + 1 + 1]? = some (.cells #[.int .i64 (perhapsP nl pre : Nat)] 3 (0, 0)) ∧ Keeps (fun k => k = n0 + 1 ∨ k = n0 + 1 + 1) WZ Wr)
    (fun _ _ _ _ => False)
    ?hI ?hIx ?h0 ?hround ?hdone ?hstop
  case hRd => intro k hk; omega
  case hM => intro k hk; exact ⟨by omega, fun h => by have := HS1.out; omega⟩
  case hseq =>
    intro W' hb
    have hbw : Below w3.heap.size w3 W' := HBZ.out.trans (hb.mono (by have := HN3.out; omega))
    have hS' := HS.out.later hbw
    refine lblocks_seq l p mk ml sp n3 _ sv hb6 W' ((hb.block _ (by omega)).trans Y3.out) hS'.obj ?_
    obtain ⟨ao9, cap9, e1, e2, e3, e4⟩ := HS.out.sets
    refine ⟨ao9, cap9, e1, e2, e3, fun i hi => ?_⟩
    obtain ⟨b9, off9, f1, f2, f3, f4⟩ := e4 i hi
    exact ⟨b9, off9, f1, ⟨f2.1, by have := HN3.out; omega⟩, by have := hbw.size; omega, (World.cell?_of_block (w := w3) (a := ⟨b9, off9 + i, none⟩) (hbw.block b9 f3)).trans f4⟩
  case hI =>
    rintro s G A B' ⟨h1, h2, h3⟩ hk
    exact ⟨(hk.block _ (lt_of_block h1) (by omega)).trans h1, (hk.block _ (lt_of_block h2) (by omega)).trans h2, h3.transNew hk (fun i h => h.1)⟩
  case hIx => rintro c s G A B' h hk; exact h
  case h0 => exact ⟨Z1.out, Z2.out, Keeps.refl _ _⟩
  case hstop => rintro D c pre x rest G W' hxs h; exact h.elim
  case hround =>
    rintro li pre x rest G Wr hxs ⟨h1, h2, h3⟩ hl1 hl2 hGl
    obtain ⟨b, st⟩ := x
    have hall : ∀ x ∈ blocksG l, x.1 < 6 ∧ x.2 < 32 := by
      intro x hx
      unfold blocksG at hx
      obtain ⟨b', hb', rfl⟩ := List.mem_map.1 hx
      have := List.mem_range.1 hb'
      exact ⟨by dsimp only; omega, sets_lt HOK.out b'⟩
    obtain ⟨hb6x, hst32⟩ := hall (b, st) (by rw [hxs]; simp)
    have hpre6 : ∀ x ∈ pre, x.1 < 6 := fun x hx => (hall x (by rw [hxs]; simp [hx])).1
    have hsl := surelyP_lt nl pre hpre6
    have hpl := perhapsP_lt nl pre hpre6
    have hss := surelyP_snoc nl pre (b, st)
    have hps := perhapsP_snoc nl pre (b, st)
    obtain ⟨su, hsu⟩ : ∃ q, q = surelyP nl pre := ⟨_, rfl⟩
    obtain ⟨pe, hpe⟩ : ∃ q, q = perhapsP nl pre := ⟨_, rfl⟩
    rw [← hsu] at h1 hsl hss
    rw [← hpe] at h2 hpl hps
    dsimp only at hb6x hst32 hss hps
    have HSS := Lib.hid hss
    have HPS := Lib.hid hps
    have H1' := Lib.hid h1
    have H2' := Lib.hid h2
    have H3' := Lib.hid h3
    clear h1 h2 h3 hxs hGl hall hpre6 hss hps hsu hpe
    gi_wp2
    refine ⟨Keeps.refl _ _, ?_⟩
    intro W3 hk3 hs3
    have hsz4 := H3'.out.size
    have hW3 : ∀ k, k < Wr.heap.size → k ≠ li → W3.heap[k]? = Wr.heap[k]? := fun k hk hne => hk3.block k hk hne
    have z0 := (hW3 n0 (by omega) (by omega)).trans ((H3'.out.block n0 (by omega) (by omega)).trans Z0.out)
    have z1 := (hW3 _ (by omega) (by omega)).trans H1'.out
    have z2 := (hW3 _ (by omega) (by omega)).trans H2'.out
    have hkr3 : Keeps (fun k => k = n0 + 1 ∨ k = n0 + 1 + 1) WZ W3 := H3'.out.transNew hk3 (fun i h => by omega)
    have d0 : W3.cell? ⟨n0, 0, none⟩ = some (.int .i64 z) := by rw [cell_of_row _ _ _ _ _ _ z0]; rfl
    have ZZ1 := Lib.hid z1
    have ZZ2 := Lib.hid z2
    have ZZ0 := Lib.hid z0
    have HKR := Lib.hid hkr3
    clear z0 z1 z2 hkr3 hW3 hk3 hs3
    have hand := and_i64L ⟨nl, by omega⟩ ⟨st, hst32⟩
    have hor1 := or_i64L ⟨b, by omega⟩ ⟨su, hsl⟩
    have hor2 := or_i64L ⟨b, by omega⟩ ⟨pe, hpl⟩
    have hpb := pow_i64L ⟨b, by omega⟩
    have hpw := pow_w64L ⟨b, by omega⟩
    dsimp only at hand hor1 hor2 hpb hpw
    rw [show (((2 ^ b : Nat)) : Int) = (2 : Int) ^ b by simp] at hor1 hor2 hpb hpw
    rw [← HZQ.out] at hand
    have c1 : W3.cell? ⟨n0 + 1, 0, none⟩ = some (.int .i64 (su : Nat)) := by rw [cell_of_row _ _ _ _ _ _ ZZ1.out]; rfl
    have g1 : W3.frozen? ⟨n0 + 1, 0, none⟩ = false := frozen_of_row _ _ _ _ _ ZZ1.out
    have c2 : W3.cell? ⟨n0 + 1 + 1, 0, none⟩ = some (.int .i64 (pe : Nat)) := by rw [cell_of_row _ _ _ _ _ _ ZZ2.out]; rfl
    have g2 : W3.frozen? ⟨n0 + 1 + 1, 0, none⟩ = false := frozen_of_row _ _ _ _ _ ZZ2.out
    have hz0 : z ≠ 0 := by rw [HZQ.out]; have := Nat.two_pow_pos nl; omega
    by_cases hq : (st : Int) = z
    · have hstq : st = 2 ^ nl := by have := HZQ.out; omega
      have hbt : st.testBit nl = true := by rw [hstq]; exact Nat.testBit_two_pow_self
      have hsuq : surelyP nl (pre ++ [(b, st)]) = su ||| 2 ^ b := by rw [HSS.out, if_pos hstq]
      have HSUQ := Lib.hid hsuq
      have HPEQ := Lib.hid (show perhapsP nl (pre ++ [(b, st)]) = pe ||| 2 ^ b by rw [HPS.out, hbt]; rfl)
      rw [hbt, if_pos rfl, hq] at hand
      clear hbt hsuq hstq
      gi_wp2_with fail
      refine region_fixIn 4 (fun W' => W' = W3.drew) (by kernel_rfl) (by kernel_rfl) (by kernel_rfl) rfl ?_
      simp only [List.take_succ_cons, List.take_zero, List.drop_succ_cons, List.drop_zero]
      iterate 4
        refine WF_step ?_ (fun W' hC => ?_) rfl ?_
        rotate_left
        · subst hC
          go_simp
          exact fix_value (P := Try.prog) rfl
        simp only [Act.put, List.setIfInBounds_toArray, List.set_cons_zero, List.set_cons_succ]
      refine WF_nil ?_
      rintro W' rfl
      gi_wp2_with fail
      obtain ⟨W4, hW4⟩ : ∃ W, W = (W3.setCell ⟨n0 + 1, 0, none⟩ (.int .i64 ((su ||| 2 ^ b : Nat) : Int))).drew := ⟨_, rfl⟩
      rw [← hW4]
      have q1 : W4.heap[n0 + 1]? = some (.cells #[.int .i64 ((su ||| 2 ^ b : Nat) : Int)] 3 (0, 0)) := by rw [hW4]; exact one_setG ZZ1.out
      have q2 : W4.heap[n0 + 1 + 1]? = some (.cells #[.int .i64 (pe : Nat)] 3 (0, 0)) := by rw [hW4]; exact (other_setG W3 _ _ _ (by simp)).trans ZZ2.out
      have qk : Keeps (fun k => k = n0 + 1 ∨ k = n0 + 1 + 1) W3 W4 := by rw [hW4]; exact (Keeps.setCell W3 ⟨n0 + 1, 0, none⟩ _ (.inl rfl)).trans (Keeps.drew _ _)
      have c2 : W4.cell? ⟨n0 + 1 + 1, 0, none⟩ = some (.int .i64 (pe : Nat)) := by rw [cell_of_row _ _ _ _ _ _ q2]; rfl
      have g2 : W4.frozen? ⟨n0 + 1 + 1, 0, none⟩ = false := frozen_of_row _ _ _ _ _ q2
      have Q1 := Lib.hid q1
      have Q2 := Lib.hid q2
      have QK := Lib.hid qk
      clear q1 q2 qk hW4 c1 g1
      refine region_fixIn 4 (fun W' => W' = W4.drew) (by kernel_rfl) (by kernel_rfl) (by kernel_rfl) rfl ?_
      simp only [List.take_succ_cons, List.take_zero, List.drop_succ_cons, List.drop_zero]
      iterate 4
        refine WF_step ?_ (fun W' hC => ?_) rfl ?_
        rotate_left
        · subst hC
          go_simp
          exact fix_value (P := Try.prog) rfl
        simp only [Act.put, List.setIfInBounds_toArray, List.set_cons_zero, List.set_cons_succ]
      refine WF_nil ?_
      rintro W' rfl
      gi_wp2_with fail
      have qe : Keeps (fun k => k = n0 + 1 ∨ k = n0 + 1 + 1) W3 ((W4.setCell ⟨n0 + 1 + 1, 0, none⟩ (.int .i64 ((pe ||| 2 ^ b : Nat) : Int))).drew) := QK.out.trans ((Keeps.setCell W4 ⟨n0 + 1 + 1, 0, none⟩ _ (.inr rfl)).trans (Keeps.drew _ _))
      exact ⟨qe.mono fun k _ h => .inl h, by rw [HSUQ.out]; exact (other_setG W4 _ _ _ (by simp)).trans Q1.out, by rw [HPEQ.out]; exact one_setG Q2.out, HKR.out.trans qe⟩
    · have hstq : ¬ st = 2 ^ nl := by have := HZQ.out; omega
      have HSUQ := Lib.hid (show surelyP nl (pre ++ [(b, st)]) = su by rw [HSS.out, if_neg hstq])
      clear hstq
      cases hbt : st.testBit nl with
      | true =>
        have HPEQ := Lib.hid (show perhapsP nl (pre ++ [(b, st)]) = pe ||| 2 ^ b by rw [HPS.out, hbt]; rfl)
        rw [hbt, if_pos rfl] at hand
        clear hbt
        gi_wp2_with fail
        refine region_fixIn 4 (fun W' => W' = W3.drew) (by kernel_rfl) (by kernel_rfl) (by kernel_rfl) rfl ?_
        simp only [List.take_succ_cons, List.take_zero, List.drop_succ_cons, List.drop_zero]
        iterate 4
          refine WF_step ?_ (fun W' hC => ?_) rfl ?_
          rotate_left
          · subst hC
            go_simp
            exact fix_value (P := Try.prog) rfl
          simp only [Act.put, List.setIfInBounds_toArray, List.set_cons_zero, List.set_cons_succ]
        refine WF_nil ?_
        rintro W' rfl
        gi_wp2_with fail
        have qe : Keeps (fun k => k = n0 + 1 ∨ k = n0 + 1 + 1) W3 ((W3.setCell ⟨n0 + 1 + 1, 0, none⟩ (.int .i64 ((pe ||| 2 ^ b : Nat) : Int))).drew) := (Keeps.setCell W3 ⟨n0 + 1 + 1, 0, none⟩ _ (.inr rfl)).trans (Keeps.drew _ _)
        exact ⟨qe.mono fun k _ h => .inl h, by rw [HSUQ.out]; exact (other_setG W3 _ _ _ (by simp)).trans ZZ1.out, by rw [HPEQ.out]; exact one_setG ZZ2.out, HKR.out.trans qe⟩
      | false =>
        have HPEQ := Lib.hid (show perhapsP nl (pre ++ [(b, st)]) = pe by rw [HPS.out, hbt]; rfl)
        rw [hbt, if_neg (by decide)] at hand
        clear hbt
        gi_wp2_with fail
        exact ⟨Keeps.refl _ _, by rw [HSUQ.out]; exact ZZ1.out, by rw [HPEQ.out]; exact ZZ2.out, HKR.out⟩
  case hdone =>
    rintro D G W' ⟨h1, h2, h3⟩ hGD hkk hD hDs
    have he9 := (h3.block (w.heap.size + 1) (by omega) (by omega)).trans ((HB1Z.out.block _ (by have := HS1.out; omega)).trans HE1.out)
    have hbw : Below w.heap.size w W' := (HBW1.out.trans (HB1Z.out.mono HBW1.out.size)).trans (h3.below (by omega) (fun k h e => by omega))
    rw [show surelyP nl (blocksG l) = surelyN l by rw [HNL.out]; exact surelyP_all l] at h1
    rw [show perhapsP nl (blocksG l) = perhapsN l by rw [HNL.out]; exact perhapsP_all l] at h2
    have d1 : W'.cell? ⟨n0 + 1, 0, none⟩ = some (.int .i64 (surelyN l : Nat)) := by rw [cell_of_row _ _ _ _ _ _ h1]; rfl
    have d2 : W'.cell? ⟨n0 + 1 + 1, 0, none⟩ = some (.int .i64 (perhapsN l : Nat)) := by rw [cell_of_row _ _ _ _ _ _ h2]; rfl
    have e0 : W'.cell? ⟨w.heap.size + 1, 0, none⟩ = some (.int .i64 0) := by rw [cell_of_row _ _ _ _ _ _ he9]; rfl
    have f0 : W'.frozen? ⟨w.heap.size + 1, 0, none⟩ = false := frozen_of_row _ _ _ _ _ he9
    have HD := Lib.hid hD
    have HBW := Lib.hid hbw
    have HE9 := Lib.hid he9
    have hDb : w.heap.size + 2 < D := by omega
    clear h1 h2 h3 hGD hkk hD hbw he9
    go_upto_region 11 with fail
    refine region_fix 4 (fun X => X = W'.drew) (by kernel_rfl) (by kernel_rfl) rfl ?_
    simp only [List.take_succ_cons, List.take_zero, List.drop_succ_cons, List.drop_zero]
    iterate 4
      refine WF_step ?_ (fun W' hC => ?_) rfl ?_
      rotate_left
      · subst hC
        go_simp
        exact fix_value (P := Try.prog) rfl
      simp only [Act.put, List.setIfInBounds_toArray, List.set_cons_zero, List.set_cons_succ]
    refine WF_nil ?_
    rintro X rfl
    go_wp2
    have rD2 : ((W'.setCell ⟨w.heap.size + 1, 0, none⟩ (.int .i64 0)).drew).heap[D]? = some (.deferred (some [])) := (other_setG W' _ _ _ (by simp; omega)).trans HD.out
    refine ⟨by simp, .inl ⟨_, _, rfl, run_takeDeferred rD2, ?_⟩⟩
    refine leafM_ret_Scrap (w.heap.size + 1) _ _ ?_
    obtain ⟨W9, hW9⟩ : ∃ W, W = ((W'.setCell ⟨w.heap.size + 1, 0, none⟩ (.int .i64 0)).drew).putObj D (.deferred none) := ⟨_, rfl⟩
    rw [← hW9]
    have k2 : W9.heap[w.heap.size + 1]? = some (.cells #[.int .i64 0] 24 (0, 0)) := by rw [hW9]; exact (World.putObj_heap_other (by omega)).trans (one_setG HE9.out)
    have kb : Below w.heap.size w W9 := by
      rw [hW9]
      have q1 : Below w.heap.size w ((W'.setCell ⟨w.heap.size + 1, 0, none⟩ (.int .i64 0)).drew) := (HBW.out.setCell (by simp) _).drew
      exact q1.trans ((Keeps.putObj (Mut := fun k => k = D) _ _ _ rfl).below q1.size (fun k h e => by omega))
    have e9 : W9.cell? ⟨w.heap.size + 1, 0, none⟩ = some (.int .i64 0) := by rw [cell_of_row _ _ _ _ _ _ k2]; rfl
    exact ⟨.tuple #[.int .i64 (surelyN l : Nat), .int .i64 (perhapsN l : Nat), .int .i64 0], by simp [results, Try.results20, go_sem, e9], by rw [HSD.out], kb⟩
end Go.Proofs.Ytagjepclobobjaa

/- Maps with numbers as keys: what look and put come to. -/
namespace Go.Proofs.Ytagjepclobobjaa
set_option linter.unusedVariables false
set_option linter.unusedSimpArgs false
open Go.RowKit Go.Shelf

def encI (n : Int) : Value := .int .i64 n
theorem under_intM : Try.prog.underlying 3 = some (.int .i64) := by kernel_rfl
theorem findNow_I (k : Int) : ∀ (L : List (Int × Value × Nat)) (i : Nat), Instr.findNow (.int .i64) (.int .i64 k) (L.map (entK encI)) i = some (findK k L i)
  | [], i => by simp [Instr.findNow, findK]
  | x :: l, i => by
    have ih := findNow_I k l (i + 1)
    rw [List.map_cons]
    unfold Instr.findNow
    have hs : Instr.sameNow (.int .i64) (.int .i64 k) (entK encI x).key = some (decide (k = x.1)) := by
      simp only [Instr.sameNow, entK, encI]
      by_cases h : k = x.1 <;> simp [h]
    rw [hs, findK]
    by_cases h : k = x.1
    · simp [h, entK]
    · simp only [h, decide_false, if_false]
      exact ih
theorem find_runI (k : Int) (L : List (Int × Value × Nat)) (w : World) : (Instr.findKey 3 (.int .i64 k) (L.map (entK encI))).run Try.prog w = .ok (findK k L 0) w := by
  unfold Instr.findKey
  simp only [Sem.run_bind, run_underlying under_intM, Result.andThen_ok, findNow_I]
  rfl
theorem chk_I (e : Bool) (k : Int) (w : World) : (Instr.checkKey e 10000 3 (.int .i64 k)).run Try.prog w = .ok () w := by kernel_rfl
theorem run_updI {mt et : TypeId} (hm : Try.prog.underlying mt = some (.map 3 et)) (mb : Nat) (L : List (Int × Value × Nat)) (clock : Nat) (k : Int) (v : Value) (w : World)
    (hb : w.heap[mb]? = some (mapK encI L clock)) :
    (Instr.mapUpdate mt (.map (some mb)) (.int .i64 k) v).run Try.prog w = .ok () (w.putObj mb (mapK encI (updK k v L clock).1 (updK k v L clock).2)) := by
  have hg : (getObj mb).run Try.prog w = .ok (mapK encI L clock) w := by simp [getObj, Sem.run, hb, mapK]
  unfold Instr.mapUpdate
  simp only [Sem.run_bind, run_underlying hm, Result.andThen_ok, hg, mapK, chk_I, find_runI]
  unfold updK
  cases hf : findK k L 0 with
  | none =>
    simp only
    rw [show (L.map (entK encI)).toArray.push { key := .int .i64 k, val := v, born := clock } = ((L ++ [(k, v, clock)]).map (entK encI)).toArray by simp [entK, encI]]
    simp [setObj, Sem.run, hb, World.putObj, mapK]
  | some x =>
    obtain ⟨i, u⟩ := x
    obtain ⟨_, h2, h3, h4⟩ := findK_some hf
    rw [Nat.sub_zero] at h2
    have h3 : L[i].1 = k := h3
    have hk : (((L.map (entK encI)).toArray[i]?).map (·.key)).getD (.int .i64 k) = .int .i64 k := by
      simp [h2, entK, h3, encI]
    have hsame : Instr.sameBits 10000 (.int .i64 k) (.int .i64 k) = true := by simp [Instr.sameBits]
    simp only [hk, Instr.keyThatStays, hsame, if_true, Sem.run_bind, Sem.run_pure, Result.andThen_ok]
    rw [show ((L.map (entK encI)).toArray.modify i fun e => { e with key := .int .i64 k, val := v }) = ((L.modify i fun x => (k, v, x.2.2)).map (entK encI)).toArray by
      apply Array.ext'
      apply List.ext_getElem?
      intro j
      simp only [Array.toList_modify, List.getElem?_modify, List.getElem?_map]
      by_cases hj : i = j
      · subst hj
        simp [h2, entK, encI]
      · simp [hj]]
    simp [setObj, Sem.run, hb, World.putObj, mapK]
theorem run_getI {mt et : TypeId} (hm : Try.prog.underlying mt = some (.map 3 et)) (mb : Nat) (L : List (Int × Value × Nat)) (clock : Nat) (f : Int → Option Value) (ht : TabK L clock f) (k : Int) (w : World)
    (hb : w.heap[mb]? = some (mapK encI L clock)) (z : Value) (hz : (zeroValue et).run Try.prog w = .ok z w) :
    (Instr.lookup mt (.map (some mb)) (.int .i64 k) false).run Try.prog w = .ok ((f k).getD z) w := by
  have hg : (getObj mb).run Try.prog w = .ok (mapK encI L clock) w := by simp [getObj, Sem.run, hb, mapK]
  unfold Instr.lookup
  simp only [Sem.run_bind, run_underlying hm, Result.andThen_ok, hg, mapK, chk_I, find_runI, Sem.run_pure]
  rw [← ht.find k]
  cases hf : findK k L 0 with
  | none => simp [hz, Sem.run_bind]
  | some x => simp [Sem.run_pure]
/-- A map of numbers in memory, by what it has. -/
def MapI (m : Nat) (f : Int → Option Value) (W : World) : Prop := ∃ L clock, W.heap[m]? = some (mapK encI L clock) ∧ TabK L clock f
theorem MapI.of {m : Nat} {f : Int → Option Value} {w W : World} (h : MapI m f w) (he : W.heap[m]? = w.heap[m]?) : MapI m f W := by
  obtain ⟨L, clock, h1, h2⟩ := h
  exact ⟨L, clock, he.trans h1, h2⟩
theorem MapI.lt {m : Nat} {f : Int → Option Value} {w : World} (h : MapI m f w) : m < w.heap.size := by
  obtain ⟨L, clock, h1, _⟩ := h
  exact (Array.getElem?_eq_some_iff.1 h1).1
theorem MapI.empty {m : Nat} {w : World} (h : w.heap[m]? = some (.map #[] 0)) : MapI m (fun _ => none) w := ⟨[], 0, h, TabK.nil⟩
theorem MapI.put {m : Nat} {f : Int → Option Value} {W : World} {mt et : TypeId} (hm : Try.prog.underlying mt = some (.map 3 et)) (h : MapI m f W) (k : Int) (v : Value) :
    ∃ o, (Instr.mapUpdate mt (.map (some m)) (.int .i64 k) v).run Try.prog W = .ok () (W.putObj m o) ∧ MapI m (fun x => if x = k then some v else f x) (W.putObj m o) := by
  obtain ⟨L, clock, h1, h2⟩ := h
  refine ⟨_, run_updI hm m L clock k v W h1, (updK k v L clock).1, (updK k v L clock).2, ?_, h2.upd k v⟩
  have := (Array.getElem?_eq_some_iff.1 h1).1
  simp [World.putObj, this]
theorem MapI.get {m : Nat} {f : Int → Option Value} {W : World} {mt et : TypeId} (hm : Try.prog.underlying mt = some (.map 3 et)) (h : MapI m f W) (z : Value) (hz : ∀ w, (zeroValue et).run Try.prog w = .ok z w) (k : Int) (W' : World) (he : W'.heap[m]? = W.heap[m]?) :
    (Instr.lookup mt (.map (some m)) (.int .i64 k) false).run Try.prog W' = .ok ((f k).getD z) W' := by
  obtain ⟨L, clock, h1, h2⟩ := h
  exact run_getI hm m L clock f h2 k W' (he.trans h1) z (hz W')
end Go.Proofs.Ytagjepclobobjaa

/- Package lot: the first entry that breaks a rule. -/
namespace Go.Proofs.Ytagjepclobobjaa
set_option linter.unusedVariables false
set_option linter.unusedSimpArgs false
open Go.RowKit Go.Shelf
attribute [local go_sem] Oper.semAt_some

theorem under_sold : Try.prog.underlying 148 = some (.map 3 4) := by kernel_rfl
/-- Blocks that were booked. -/
def soldF (es : List EntD) : Int → Option Value := fun k => if (es.any fun y => y.1 == k) then some (.bool true) else none
theorem soldF_snoc (es : List EntD) (x : EntD) : (fun k => if k = x.1 then some (.bool true) else soldF es k) = soldF (es ++ [x]) := by
  funext k
  unfold soldF
  rw [List.any_append]
  by_cases h : k = x.1
  · simp [h]
  · have hb : (x.1 == k) = false := by rw [beq_eq_false_iff_ne]; exact fun e => h e.symm
    simp only [h, if_false, List.any_cons, List.any_nil, hb, Bool.or_false]
theorem broken_at (l : LotD) : ∀ (es : List EntD) (before : List EntD) (i j : Nat), j < es.length → (∀ k (h : k < j) (h2 : k < es.length), ruleL l (before ++ es.take k) es[k] = 0) → ∀ (hj : j < es.length), ruleL l (before ++ es.take j) es[j] ≠ 0 →
    brokenL l before es i = some (i + j, ruleL l (before ++ es.take j) es[j])
  | [], _, _, _, h, _, _, _ => by simp at h
  | x :: es, before, i, 0, _, _, hj, hr => by
    unfold brokenL
    simp only [List.take_zero, List.append_nil, List.getElem_cons_zero] at hr ⊢
    rw [if_neg hr]
    rfl
  | x :: es, before, i, j + 1, h, ha, hj, hr => by
    have h0 := ha 0 (by omega) (by omega)
    simp only [List.take_zero, List.append_nil, List.getElem_cons_zero] at h0
    unfold brokenL
    rw [if_pos h0]
    simp only [List.take_succ_cons, List.getElem_cons_succ] at hr ⊢
    have hj' : j < es.length := by simpa using hj
    have := broken_at l es (before ++ [x]) (i + 1) j hj' (fun k hk h2 => by
      have := ha (k + 1) (by omega) (by simpa using h2)
      simpa using this) hj' (by simpa using hr)
    rw [this]
    simp only [List.append_assoc, List.singleton_append, Option.some.injEq, Prod.mk.injEq, and_true]
    omega
theorem broken_none (l : LotD) : ∀ (es : List EntD) (before : List EntD) (i : Nat), (∀ k (h : k < es.length), ruleL l (before ++ es.take k) es[k] = 0) → brokenL l before es i = none
  | [], _, _, _ => rfl
  | x :: es, before, i, ha => by
    have h0 := ha 0 (by simp)
    simp only [List.take_zero, List.append_nil, List.getElem_cons_zero] at h0
    unfold brokenL
    rw [if_pos h0]
    exact broken_none l es (before ++ [x]) (i + 1) fun k h => by
      have := ha (k + 1) (by simpa using h)
      simpa using this
/-- What broken answers. -/
def brokenD (l : LotD) (es : List EntD) : Int × Int := match brokenL l [] es 0 with | some (i, r) => ((i : Int), r) | none => (0, 0)
theorem brokenD_at {l : LotD} {es : List EntD} {j : Nat} (hj : j < es.length) (ha : ∀ k (h : k < es.length), k < j → ruleL l (es.take k) es[k] = 0) (hr : ruleL l (es.take j) es[j] ≠ 0) : brokenD l es = ((j : Int), ruleL l (es.take j) es[j]) := by
  have := broken_at l es [] 0 j hj (fun k hk h2 => by simpa using ha k h2 hk) hj (by simpa using hr)
  unfold brokenD
  rw [this]
  simp
theorem brokenD_none {l : LotD} {es : List EntD} (ha : ∀ k (h : k < es.length), ruleL l (es.take k) es[k] = 0) : brokenL l [] es 0 = none := broken_none l es [] 0 (fun k h => by simpa using ha k h)
set_option maxRecDepth 100000 in
set_option maxHeartbeats 8000000 in
theorem lbroken_any {l : LotD} {p : PartsL} {B sp mk ml : Nat} {sv : Value} (hok : OkL l) (es : List EntD) (ev : Value) (w : World) (hS : ShopS l p B sp mk ml sv w) (hents : EntsAt w ev es (fun k => k < B)) (he8 : es.length ≤ 8)
    (hin : ∀ x ∈ es, isBlockL l x.1 = true ∧ isGradeL l x.2.1 = true) :
    Calls Try.prog 46 #[.pointer (some ⟨sp, 0, none⟩), ev] w fun e w' => e = .returned (.tuple #[.int .i64 (brokenD l es).1, .int .i64 (brokenD l es).2]) ∧ Keeps (fun k => k = mk) w w' := by
  have hlot := hS.lot
  obtain ⟨al, cl, hvl, _⟩ := id hlot.lim
  obtain ⟨ab, cb, hvb, _⟩ := id hlot.blk
  obtain ⟨ap, cp, hvp, _⟩ := id hlot.pay
  obtain ⟨ao, co, hvo, _⟩ := id hlot.ord
  obtain ⟨nl, hnl⟩ : ∃ n, n = l.lim.length := ⟨_, rfl⟩
  obtain ⟨nb, hnb⟩ : ∃ n, n = l.blocks.length := ⟨_, rfl⟩
  obtain ⟨np, hnp⟩ : ∃ n, n = l.pays.length := ⟨_, rfl⟩
  obtain ⟨no, hno⟩ : ∃ n, n = l.orders.length := ⟨_, rfl⟩
  rw [← hnl] at hvl
  rw [← hnb] at hvb
  rw [← hnp] at hvp
  rw [← hno] at hvo
  have HVL := Lib.hid (And.intro hvl (And.intro hvb (And.intro hvp hvo)))
  have HNL := Lib.hid hnl
  have HNB := Lib.hid hnb
  have HNP := Lib.hid hnp
  have HNO := Lib.hid hno
  have HLOT := Lib.hid hlot
  clear hvl hvb hvp hvo hnl hnb hnp hno hlot
  have hvp := validL_parts hok.v
  have hl4 : nl ≤ 4 := by rw [HNL.out]; exact lim4 (g := ⟨l.lim, zeroPts, l.step⟩) hvp.2.2.2.2.1
  have hpn : np = nl := by rw [HNP.out, HNL.out]; exact hvp.2.2.2.1
  obtain ⟨ae, ce, rfl, _, _, hel⟩ := id hents
  obtain ⟨ne, hnen⟩ : ∃ n, n = es.length := ⟨_, rfl⟩
  rw [← hnen] at he8 ⊢
  have HOK := Lib.hid hok
  have HS := Lib.hid hS
  have HEL := Lib.hid hel
  have HNE := Lib.hid hnen
  have HIN := Lib.hid hin
  have hmm := @run_makeMap Try.prog
  have hmklt := hS.known.lt
  clear hvp hok hS hents hel hnen hin
  go_enter Try.func46, Try.ntmps46
  go_upto_region 2 with fail
  obtain ⟨W1, hW1⟩ : ∃ W, W = w.alloc (.map #[] 0) := ⟨_, rfl⟩
  rw [← hW1]
  have hm1 : MapI w.heap.size (soldF []) W1 := MapI.empty (by rw [hW1]; exact heap_alloc_at _ _ _ rfl)
  have hb1 : Below w.heap.size w W1 := by rw [hW1]; exact below_allocG _ _
  have HM1 := Lib.hid hm1
  have HB1 := Lib.hid hb1
  have hs1 : W1.heap.size = w.heap.size + 1 := by rw [hW1]; simp
  clear hmm hm1 hb1 hW1
  go_wp2_with fail
  go_loopw [12] (fun iv wr => ∃ i : Nat, i ≤ ne ∧ iv = .int .i64 i ∧ (∀ k (h : k < es.length), k < i → ruleL l (es.take k) es[k] = 0) ∧ MapI w.heap.size (soldF (es.take i)) wr ∧ ShopS l p B sp mk ml sv wr ∧ Keeps (fun k => k = mk) w wr ∧ w.heap.size < wr.heap.size) (fun iv _ => ne - (intOf iv).toNat)
  case atStart => exact ⟨0, Nat.zero_le _, rfl, fun k _ h => absurd h (by omega), by simpa using HM1.out, HS.out.later HB1.out, Keeps.of_below HB1.out (fun k h1 h2 => absurd h2 (by omega)), by omega⟩
  case round =>
    obtain ⟨i, hi, rfl, hru, hmp, hsr, hkr, hszr⟩ := hrel
    have HRU := Lib.hid hru
    have HMP := Lib.hid hmp
    have HSR := Lib.hid hsr
    have HKR := Lib.hid hkr
    clear hru hmp hsr hkr
    by_cases hlt : i < ne
    · have hw : IntKind.i64.wrap ((i : Int) + 1) = ((i + 1 : Nat) : Int) := by rw [IntWalk.i64_in _ (by omega)]; omega
      have hlti : (i : Int) < (ne : Int) := by omega
      have hi0 : 0 ≤ (i : Int) := by omega
      have hil : i < es.length := by rw [← HNE.out]; exact hlt
      obtain ⟨eb, off, rfl, hgw, hgl, d0, d1, d2⟩ := HEL.out i hil
      obtain ⟨hxb, hxg⟩ := HIN.out es[i] (List.getElem_mem hil)
      obtain ⟨⟨xb, xg, xp⟩, hx⟩ : ∃ x, x = es[i] := ⟨_, rfl⟩
      rw [← hx] at d0 d1 d2 hxb hxg
      dsimp only at d0 d1 d2 hxb hxg
      obtain ⟨bn, hbn, hbl⟩ : ∃ n : Nat, xb = (n : Int) ∧ n < l.blocks.length := by
        unfold isBlockL at hxb
        have := of_decide_eq_true hxb
        exact ⟨xb.toNat, by omega, by omega⟩
      obtain ⟨gn, hgn, hgl9⟩ : ∃ n : Nat, xg = (n : Int) ∧ n < l.lim.length := by
        unfold isGradeL at hxg
        have := of_decide_eq_true hxg
        exact ⟨xg.toNat, by omega, by omega⟩
      subst hbn hgn
      have hebk : wr.heap[eb]? = w.heap[eb]? := HKR.out.block eb hgl (by have := HS.out.bk; omega)
      replace d0 := (World.cell?_of_block (w := w) (w' := wr) (a := ⟨eb, off + i * 3, none⟩) hebk).trans d0
      replace d1 := (World.cell?_of_block (w := w) (w' := wr) (a := ⟨eb, off + i * 3 + 1, none⟩) hebk).trans d1
      replace d2 := (World.cell?_of_block (w := w) (w' := wr) (a := ⟨eb, off + i * 3 + 2, none⟩) hebk).trans d2
      have HX := Lib.hid hx
      clear hx hgw hgl hxb hxg hebk
      go_upto_region 5 with fail
      obtain ⟨W5, hW5⟩ : ∃ W, W = wr.alloc (.cells #[.int .i64 (bn : Int), .int .i64 (gn : Int), .int .i64 xp] 69) := ⟨_, rfl⟩
      rw [← hW5]
      have hrow5 : W5.heap[wr.heap.size]? = some (.cells #[.int .i64 (bn : Int), .int .i64 (gn : Int), .int .i64 xp] 69 (0, 0)) := by rw [hW5]; exact heap_alloc_at _ _ _ rfl
      have hb5 : Below wr.heap.size wr W5 := by rw [hW5]; exact below_allocG _ _
      have e0 : W5.cell? ⟨wr.heap.size, 0, none⟩ = some (.int .i64 (bn : Int)) := by rw [cell_of_row _ _ _ _ _ _ hrow5]; rfl
      have e1 : W5.cell? ⟨wr.heap.size, 1, none⟩ = some (.int .i64 (gn : Int)) := by rw [cell_of_row _ _ _ _ _ _ hrow5]; rfl
      have hs5 : W5.heap.size = wr.heap.size + 1 := by rw [hW5]; simp
      obtain ⟨tw, htw⟩ : ∃ q, q = (es.take i).any fun y => y.1 == (bn : Int) := ⟨_, rfl⟩
      have hlk : (Instr.lookup 148 (.map (some w.heap.size)) (.int .i64 (bn : Int)) false).run Try.prog W5 = .ok (.bool tw) W5 := by
        rw [MapI.get under_sold HMP.out (.bool false) zeroBool (bn : Int) W5 (hb5.block _ HMP.out.lt)]
        unfold soldF
        rw [← htw]
        cases tw <;> rfl
      have hrule : ruleL l (es.take i) es[i] = if tw then 1 else if !sureL l bn gn then 2 else if xp ≠ paidL l gn then 3 else 0 := by
        rw [← HX.out, htw]; rfl
      have HRULE := Lib.hid hrule
      have HROW5 := Lib.hid hrow5
      have HB5 := Lib.hid hb5
      have HS5 := Lib.hid (HSR.out.later hb5)
      have HMP5 := Lib.hid (HMP.out.of (hb5.block _ HMP.out.lt))
      have HK5 := Lib.hid (HKR.out.trans (Keeps.of_below hb5 (fun k h1 h2 => absurd h2 (by omega))))
      clear hrule hrow5 hb5 hW5 d0 d1 d2 htw
      cases tw with
      | true =>
        have hbd : brokenD l es = ((i : Int), 1) := by
          have hr : ruleL l (es.take i) es[i] = 1 := HRULE.out
          rw [brokenD_at hil (fun k h hk => HRU.out k h hk) (by rw [hr]; decide), hr]
        have HBD := Lib.hid hbd
        clear hbd
        go_wp2_with fail
        exact bodyPost_ret (v := .tuple #[.int .i64 (i : Int), .int .i64 1]) (by simp [results, Try.results46, go_sem]) rfl ⟨by rw [HBD.out], HK5.out⟩
      | false =>
        go_wp2_with fail
        clear hlk e0 e1
        refine (lsure_any HOK.out bn gn hbl hgl9 W5 HS5.out).mono ?_
        rintro e w6 ⟨rfl, hs6, hk6⟩
        have hne6 : wr.heap.size ≠ mk := by omega
        have hrow6 := (hk6.block _ (lt_of_block HROW5.out) hne6).trans HROW5.out
        have HROW6 := Lib.hid hrow6
        have HMP6 := Lib.hid (HMP5.out.of (hk6.block _ HMP5.out.lt (by omega)))
        have HS6 := Lib.hid hs6
        have HK6 := Lib.hid (HK5.out.trans hk6)
        have hsz6 := hk6.size
        clear hs6 hk6
        dsimp only
        cases hsu : sureL l bn gn with
        | false =>
          have hbd : brokenD l es = ((i : Int), 2) := by
            have hr : ruleL l (es.take i) es[i] = 2 := by rw [HRULE.out, hsu]; rfl
            rw [brokenD_at hil (fun k h hk => HRU.out k h hk) (by rw [hr]; decide), hr]
          have HBD := Lib.hid hbd
          clear hbd hsu hrow6
          go_wp2_with fail
          exact bodyPost_ret (v := .tuple #[.int .i64 (i : Int), .int .i64 2]) (by simp [results, Try.results46, go_sem]) rfl ⟨by rw [HBD.out], HK6.out⟩
        | true =>
          have HSU := Lib.hid hsu
          have e0 : w6.cell? ⟨wr.heap.size, 0, none⟩ = some (.int .i64 (bn : Int)) := by rw [cell_of_row _ _ _ _ _ _ hrow6]; rfl
          have e1 : w6.cell? ⟨wr.heap.size, 1, none⟩ = some (.int .i64 (gn : Int)) := by rw [cell_of_row _ _ _ _ _ _ hrow6]; rfl
          have e2 : w6.cell? ⟨wr.heap.size, 2, none⟩ = some (.int .i64 xp) := by rw [cell_of_row _ _ _ _ _ _ hrow6]; rfl
          obtain ⟨_, _, _, s3, _⟩ := shop_cells HS6.out.obj
          have hgp : gn < np := by rw [hpn, HNL.out]; exact hgl9
          obtain ⟨ap', cp', hep, _, _, hpel⟩ := HS6.out.lot.pay
          obtain ⟨pb, poff, rfl, hpw, hpgl, p0⟩ := hpel gn (by rw [← HNP.out]; exact hgp)
          obtain ⟨pd, hpd⟩ : ∃ x, x = l.pays[gn]'(by rw [← HNP.out]; exact hgp) := ⟨_, rfl⟩
          rw [← hpd] at p0
          have hpaid : paidL l gn = pd := by unfold paidL; rw [List.getD_eq_getElem?_getD, List.getElem?_eq_getElem (by rw [← HNP.out]; exact hgp), hpd]; rfl
          rw [hep, ← HNP.out] at s3
          have hg0 : 0 ≤ (gn : Int) := by omega
          have hgpi : (gn : Int) < (np : Int) := by omega
          have HPAID := Lib.hid hpaid
          clear hsu hrow6 hpel hpd hpaid hpw hpgl hep
          go_upto_region 9 with fail
          by_cases hpx : xp = pd
          · subst hpx
            have hr : ruleL l (es.take i) es[i] = 0 := by rw [HRULE.out, HSU.out, HPAID.out]; simp
            have HR := Lib.hid hr
            clear hr
            go_quiet (fail)
            go_upto_region 11 with fail
            refine wp_name (fun W => W.heap[wr.heap.size]? = some (.cells #[.int .i64 (bn : Int), .int .i64 (gn : Int), .int .i64 xp] 69 (0, 0)) ∧ MapI w.heap.size (soldF (es.take i)) W ∧ ShopS l p B sp mk ml sv W ∧ Keeps (fun k => k = mk) w W ∧ w.heap.size < W.heap.size) ⟨HROW6.out, HMP6.out.of rfl, HS6.out.later ⟨rfl, rfl, rfl, Nat.le_refl _, fun _ _ => rfl⟩, HK6.out.trans ⟨rfl, rfl, rfl, Nat.le_refl _, fun _ _ _ => rfl⟩, HMP6.out.lt⟩ ?_
            rintro W7 ⟨hrow7, hmp7, hs7, hk7, hsz7⟩
            have e0 : W7.cell? ⟨wr.heap.size, 0, none⟩ = some (.int .i64 (bn : Int)) := by rw [cell_of_row _ _ _ _ _ _ hrow7]; rfl
            obtain ⟨ob, hput, hmp8⟩ := hmp7.put under_sold (bn : Int) (.bool true)
            have hkp : Keeps (fun k => k = w.heap.size) W7 (W7.putObj w.heap.size ob) := Keeps.putObj _ _ _ rfl
            have hwmk : w.heap.size ≠ mk := by omega
            have hspw : sp < w.heap.size := lt_of_block HS.out.obj
            have hmlw := HS.out.laps.lt
            have hs8 : ShopS l p B sp mk ml sv (W7.putObj w.heap.size ob) := by
              refine ⟨(World.putObj_heap_other (by omega)).trans hs7.obj, hs7.lot.later (by simp) (fun k h1 h2 => World.putObj_heap_other (by have := HS.out.bs; omega)), hs7.known.of (World.putObj_heap_other (by omega)), hs7.laps.of (World.putObj_heap_other (by omega)), ?_, hs7.bs, hs7.bk, hs7.bl, hs7.n1, hs7.n2, hs7.n3⟩
              obtain ⟨ao9, cap9, f1, f2, f3, f4⟩ := HS.out.sets
              refine ⟨ao9, cap9, f1, f2, f3, fun q hq => ?_⟩
              obtain ⟨b9, off9, g1, g2, g3, g4⟩ := f4 q hq
              have hbb : (W7.putObj w.heap.size ob).heap[b9]? = w.heap[b9]? := (World.putObj_heap_other (by omega)).trans (hk7.block b9 g3 g2.2.2.1)
              exact ⟨b9, off9, g1, g2, by simp; omega, (World.cell?_of_block (w := w) (a := ⟨b9, off9 + q, none⟩) hbb).trans g4⟩
            have hk8 : Keeps (fun k => k = mk) w (W7.putObj w.heap.size ob) := hk7.transNew hkp (fun i h => by omega)
            have HF := Lib.hid (And.intro hmp8 (And.intro hs8 hk8))
            clear hmp8 hs8 hk8 hkp hs7 hk7 hmp7 hrow7
            go_wp2_with fail
            go_roundw
            case measure => simp [intOf]; omega
            obtain ⟨hmp8, hs8, hk8⟩ := HF.out
            refine ⟨i + 1, by omega, rfl, fun k hk hki => ?_, ?_, hs8, hk8, by simp; omega⟩
            · rcases Nat.lt_succ_iff_lt_or_eq.1 hki with h | h
              · exact HRU.out k hk h
              · subst h; exact HR.out
            · rw [List.take_succ_eq_append_getElem hil, ← HX.out, ← soldF_snoc]
              exact hmp8
          · have hbd : brokenD l es = ((i : Int), 3) := by
              have hr : ruleL l (es.take i) es[i] = 3 := by rw [HRULE.out, HSU.out, HPAID.out]; simp [hpx]
              rw [brokenD_at hil (fun k h hk => HRU.out k h hk) (by rw [hr]; decide), hr]
            have HBD := Lib.hid hbd
            clear hbd
            go_quiet (fail)
            go_wp2_with fail
            exact bodyPost_ret (v := .tuple #[.int .i64 (i : Int), .int .i64 3]) (by simp [results, Try.results46, go_sem]) rfl ⟨by rw [HBD.out], HK6.out.trans ⟨rfl, rfl, rfl, Nat.le_refl _, fun _ _ _ => rfl⟩⟩
    · have hin : i = ne := by omega
      have hlti : ¬ (i : Int) < (ne : Int) := by omega
      have hbd : brokenD l es = (0, 0) := by
        unfold brokenD
        rw [brokenD_none (fun k h => HRU.out k h (by rw [hin, HNE.out]; exact h))]
      have HBD := Lib.hid hbd
      clear hbd hin
      go_wp2_with fail
      exact bodyPost_ret (v := .tuple #[.int .i64 0, .int .i64 0]) (by simp [results, Try.results46, go_sem]) rfl ⟨by rw [HBD.out], HKR.out⟩
end Go.Proofs.Ytagjepclobobjaa

/- Package lot: Check and Sum. -/
namespace Go.Proofs.Ytagjepclobobjaa
set_option linter.unusedVariables false
set_option linter.unusedSimpArgs false
open Go.RowKit Go.Shelf
attribute [local go_sem] Oper.semAt_some

theorem broken_nz (l : LotD) : ∀ (es before : List EntD) (i : Nat) (q : Nat × Int), brokenL l before es i = some q → q.2 ≠ 0
  | [], _, _, _, h => by unfold brokenL at h; cases h
  | x :: es, before, i, q, h => by
    unfold brokenL at h
    split at h
    · exact broken_nz l es _ _ q h
    · rename_i hr
      cases h
      exact hr
set_option maxRecDepth 100000 in
set_option maxHeartbeats 4000000 in
theorem lCheck_any (l : LotD) (p : PartsL) (es : List EntD) (ev : Value) (w : World) (hlot : LotAt l p (fun k => k < w.heap.size) w) (hents : EntsAt w ev es (fun k => k < w.heap.size)) (hes9 : es.length ≤ 1000) (h9 : Small9 l) :
    Calls Try.prog 13 #[lotV l p, ev] w fun e w' => e = .returned (.tuple #[.int .i64 (checkL l es).1, .int .i64 (checkL l es).2.1, .int .i64 (checkL l es).2.2]) ∧ Below w.heap.size w w' := by
  obtain ⟨al, cl, hvl, _⟩ := id hlot.lim
  obtain ⟨ab, cb, hvb, _⟩ := id hlot.blk
  obtain ⟨ap, cp, hvp, _⟩ := id hlot.pay
  obtain ⟨ao, co, hvo, _⟩ := id hlot.ord
  obtain ⟨nl, hnl⟩ : ∃ n, n = l.lim.length := ⟨_, rfl⟩
  obtain ⟨nb, hnb⟩ : ∃ n, n = l.blocks.length := ⟨_, rfl⟩
  obtain ⟨np, hnp⟩ : ∃ n, n = l.pays.length := ⟨_, rfl⟩
  obtain ⟨no, hno⟩ : ∃ n, n = l.orders.length := ⟨_, rfl⟩
  rw [← hnl] at hvl
  rw [← hnb] at hvb
  rw [← hnp] at hvp
  rw [← hno] at hvo
  have HVL := Lib.hid (And.intro hvl (And.intro hvb (And.intro hvp hvo)))
  have HNL := Lib.hid hnl
  have HNB := Lib.hid hnb
  have HNP := Lib.hid hnp
  have HNO := Lib.hid hno
  have HLOT := Lib.hid hlot
  clear hvl hvb hvp hvo hnl hnb hnp hno hlot
  obtain ⟨ae, ce, hev, _⟩ := id hents
  obtain ⟨ne, hnen⟩ : ∃ n, n = es.length := ⟨_, rfl⟩
  have hmf : ∀ fn first cap w, (Instr.makeFunc fn first cap).run Try.prog w = .ok (.func fn first cap) w := fun _ _ _ _ => rfl
  obtain ⟨W0, hW0⟩ : ∃ W0, W0 = (w.alloc (.cells (lotC l p).toArray 32)).alloc (.cells #[.int .i64 0] 24) := ⟨_, rfl⟩
  have y0 : W0.heap[w.heap.size]? = some (lotO l p) := by rw [hW0]; unfold lotO; exact (by repeat (first | (refine heap_alloc_at _ _ _ ?_; (simp <;> omega); done) | (refine (hget_old _ _ _ ?_).trans ?_; · (simp <;> omega))))
  have y1 : W0.heap[w.heap.size + 1]? = some (.cells #[.int .i64 0] 24 (0, 0)) := by rw [hW0]; exact (by repeat (first | (refine heap_alloc_at _ _ _ ?_; (simp <;> omega); done) | (refine (hget_old _ _ _ ?_).trans ?_; · (simp <;> omega))))
  have hs0 : W0.heap.size = w.heap.size + (1 + 1) := by rw [hW0]; simp
  have H0 := Lib.hid y0
  have H1 := Lib.hid y1
  have HS0 := Lib.hid hs0
  clear y0 y1 hs0
  have HB := Lib.hid (show Below w.heap.size w W0 by rw [hW0]; exact (below_allocG _ _).alloc (by simp) _)
  have HENT := Lib.hid (hents.later HB.out.size (fun k h1 h2 => HB.out.block k h2)).low
  clear hents
  rw [← hnen] at hev
  have HEV := Lib.hid hev
  subst hev
  have HNE := Lib.hid hnen
  clear hnen
  unfold lotV
  go_enter_defers Try.func13, Try.ntmps13
  go_upto_region 2 with fail
  rw [← hW0]
  clear hW0
  go_wp2_with (first | (refine wpList_load_row rfl 32 _ rfl w.heap.size rfl 32 (lotC l p).toArray (0, 0) _ H0.out underLot rfl sizeLot ?_))
  refine (lopen_always l p es _ W0 (HLOT.out.later HB.out.size (fun k h1 h2 => HB.out.block k h2)).low HENT.out hes9 h9).mono ?_
  rintro e w3 ⟨hb3, ⟨he, sp, mk, ml, sv, rfl, hS⟩ | ⟨hne, rfl⟩⟩
  rotate_left
  · refine leaf_stop_lCheck _ (w.heap.size + 1) 0 _ w3 ((hb3.block _ (lt_of_block H1.out)).trans H1.out) (fun W' hk he9 => ?_)
    have e0 : W'.cell? ⟨w.heap.size + 1, 0, none⟩ = some (.int .i64 (errL l es true)) := by rw [cell_of_row _ _ _ _ _ _ he9]; rfl
    refine ⟨.tuple #[.int .i64 0, .int .i64 0, .int .i64 (errL l es true)], by simp [results, Try.results13, go_sem, e0], ?_, (HB.out.trans (hb3.mono HB.out.size)).trans (hk.below (by have := hb3.size; have := HB.out.size; omega) (fun k h e => by omega))⟩
    unfold checkL; dsimp only; rw [if_neg hne]
  · obtain ⟨_, hin, h8⟩ := isBlock_nat (b := 0) he
    have hoK := OkL.of he
    have hcl : checkL l es = match brokenL l [] es 0 with | some (i, r) => ((i : Int), r, 0) | none => (0, 0, 4) := by unfold checkL; dsimp only; rw [if_pos he]; cases brokenL l [] es 0 <;> rfl
    have HCL := Lib.hid hcl
    have HB3 := Lib.hid hb3
    have HIN := Lib.hid hin
    have HS := Lib.hid hS
    have HOK := Lib.hid hoK
    have HENT3 := Lib.hid (HENT.out.later hb3.size (fun k h1 h2 => hb3.block k h2))
    clear he hin hoK hcl hb3 hS
    dsimp only
    go_wp2_with fail
    refine (lbroken_any HOK.out es _ w3 HS.out HENT3.out h8 HIN.out).mono ?_
    rintro e w4 ⟨rfl, hk4⟩
    have hb4 : Below W0.heap.size W0 w4 := HB3.out.trans (hk4.below HB3.out.size (fun k h e => by have := HS.out.bk; omega))
    have he4 := (hb4.block _ (lt_of_block H1.out)).trans H1.out
    have HE4 := Lib.hid he4
    have HB4 := Lib.hid hb4
    clear hk4 hb4
    cases hbr : brokenL l [] es 0 with
    | none =>
      have hcl : checkL l es = (0, 0, 4) := by rw [HCL.out, hbr]
      have hbd : brokenD l es = (0, 0) := by unfold brokenD; rw [hbr]
      rw [hbd]
      have HCC := Lib.hid hcl
      clear hcl hbd hbr he4
      dsimp only
      go_wp2_with fail
      refine (lmust_no 4 w4).mono ?_
      rintro e w' ⟨rfl, rfl⟩
      refine leaf_stop_lCheck _ (w.heap.size + 1) 0 _ w4 HE4.out (fun W' hk he9 => ?_)
      have e0 : W'.cell? ⟨w.heap.size + 1, 0, none⟩ = some (.int .i64 4) := by rw [cell_of_row _ _ _ _ _ _ he9]; rfl
      exact ⟨.tuple #[.int .i64 0, .int .i64 0, .int .i64 4], by simp [results, Try.results13, go_sem, e0], by rw [HCC.out], (HB.out.trans (HB4.out.mono HB.out.size)).trans (hk.below (by have := HB4.out.size; have := HB.out.size; omega) (fun k h e => by omega))⟩
    | some q =>
      obtain ⟨i, r⟩ := q
      have hr := broken_nz l _ _ _ _ hbr
      dsimp only at hr
      have hcl : checkL l es = ((i : Int), r, 0) := by rw [HCL.out, hbr]
      have hbd : brokenD l es = ((i : Int), r) := by unfold brokenD; rw [hbr]
      rw [hbd]
      have HCC := Lib.hid hcl
      have e0 : w4.cell? ⟨w.heap.size + 1, 0, none⟩ = some (.int .i64 0) := by rw [cell_of_row _ _ _ _ _ _ he4]; rfl
      have f0 : w4.frozen? ⟨w.heap.size + 1, 0, none⟩ = false := frozen_of_row _ _ _ _ _ he4
      clear hcl hbd hbr he4
      have hrb : (r != 0) = true := by simpa using hr
      dsimp only
      go_wp2_with fail
      refine (lmust_ok 4 w4).mono ?_
      rintro e w' ⟨rfl, rfl⟩
      dsimp only
      go_wp2
      refine leaf_ret_lCheck (w.heap.size + 1) _ _ ?_
      have e9 : (w4.setCell ⟨w.heap.size + 1, 0, none⟩ (.int .i64 0)).cell? ⟨w.heap.size + 1, 0, none⟩ = some (.int .i64 0) := by rw [cell_of_row _ _ _ _ _ _ (one_setG HE4.out)]; rfl
      exact ⟨.tuple #[.int .i64 (i : Int), .int .i64 r, .int .i64 0], by simp [results, Try.results13, go_sem, e9], by rw [HCC.out], (HB.out.trans (HB4.out.mono HB.out.size)).setCell (by simp) _⟩
theorem sum_take (es : List EntD) (i : Nat) (h : i < es.length) : sumL (es.take (i + 1)) = sumL (es.take i) + es[i].2.2 := by
  unfold sumL
  rw [List.take_succ_eq_append_getElem h, List.map_append, List.sum_append]
  simp
theorem sum_in {es : List EntD} (h : ∀ x ∈ es, 0 ≤ x.2.2 ∧ x.2.2 ≤ 100) : ∀ i, i ≤ es.length → 0 ≤ sumL (es.take i) ∧ sumL (es.take i) ≤ 100 * i
  | 0, _ => by simp [sumL]
  | i + 1, hi => by
    have ih := sum_in h i (by omega)
    have hx := h es[i] (List.getElem_mem (by omega))
    rw [sum_take es i (by omega)]
    push_cast
    omega
theorem fit_pence {l : LotD} (hok : OkL l) : ∀ (es before : List EntD) (i : Nat), brokenL l before es i = none → ∀ x ∈ es, 0 ≤ x.2.2 ∧ x.2.2 ≤ 100
  | [], _, _, _, x, hx => by cases hx
  | y :: es, before, i, h, x, hx => by
    unfold brokenL at h
    split at h
    · rename_i hr
      rcases List.mem_cons.1 hx with rfl | hx
      · unfold ruleL at hr
        split at hr
        · cases hr
        · split at hr
          · cases hr
          · split at hr
            · cases hr
            · rename_i hp
              have := paid_in hok x.2.1.toNat
              simp only [ne_eq, Decidable.not_not] at hp
              rw [hp]; exact this
      · exact fit_pence hok es _ _ h x hx
    · cases h
set_option maxRecDepth 100000 in
set_option maxHeartbeats 4000000 in
theorem lSum_any (l : LotD) (p : PartsL) (es : List EntD) (ev : Value) (w : World) (hlot : LotAt l p (fun k => k < w.heap.size) w) (hents : EntsAt w ev es (fun k => k < w.heap.size)) (hes9 : es.length ≤ 1000) (h9 : Small9 l) :
    Calls Try.prog 15 #[lotV l p, ev] w fun e w' => e = .returned (.tuple #[.int .i64 (sumD l es).1, .int .i64 (sumD l es).2]) ∧ Below w.heap.size w w' := by
  obtain ⟨al, cl, hvl, _⟩ := id hlot.lim
  obtain ⟨ab, cb, hvb, _⟩ := id hlot.blk
  obtain ⟨ap, cp, hvp, _⟩ := id hlot.pay
  obtain ⟨ao, co, hvo, _⟩ := id hlot.ord
  obtain ⟨nl, hnl⟩ : ∃ n, n = l.lim.length := ⟨_, rfl⟩
  obtain ⟨nb, hnb⟩ : ∃ n, n = l.blocks.length := ⟨_, rfl⟩
  obtain ⟨np, hnp⟩ : ∃ n, n = l.pays.length := ⟨_, rfl⟩
  obtain ⟨no, hno⟩ : ∃ n, n = l.orders.length := ⟨_, rfl⟩
  rw [← hnl] at hvl
  rw [← hnb] at hvb
  rw [← hnp] at hvp
  rw [← hno] at hvo
  have HVL := Lib.hid (And.intro hvl (And.intro hvb (And.intro hvp hvo)))
  have HNL := Lib.hid hnl
  have HNB := Lib.hid hnb
  have HNP := Lib.hid hnp
  have HNO := Lib.hid hno
  have HLOT := Lib.hid hlot
  clear hvl hvb hvp hvo hnl hnb hnp hno hlot
  obtain ⟨ae, ce, hev, _⟩ := id hents
  obtain ⟨ne, hnen⟩ : ∃ n, n = es.length := ⟨_, rfl⟩
  have hmf : ∀ fn first cap w, (Instr.makeFunc fn first cap).run Try.prog w = .ok (.func fn first cap) w := fun _ _ _ _ => rfl
  obtain ⟨W0, hW0⟩ : ∃ W0, W0 = (w.alloc (.cells (lotC l p).toArray 32)).alloc (.cells #[.int .i64 0] 24) := ⟨_, rfl⟩
  have y0 : W0.heap[w.heap.size]? = some (lotO l p) := by rw [hW0]; unfold lotO; exact (by repeat (first | (refine heap_alloc_at _ _ _ ?_; (simp <;> omega); done) | (refine (hget_old _ _ _ ?_).trans ?_; · (simp <;> omega))))
  have y1 : W0.heap[w.heap.size + 1]? = some (.cells #[.int .i64 0] 24 (0, 0)) := by rw [hW0]; exact (by repeat (first | (refine heap_alloc_at _ _ _ ?_; (simp <;> omega); done) | (refine (hget_old _ _ _ ?_).trans ?_; · (simp <;> omega))))
  have hs0 : W0.heap.size = w.heap.size + (1 + 1) := by rw [hW0]; simp
  have H0 := Lib.hid y0
  have H1 := Lib.hid y1
  have HS0 := Lib.hid hs0
  clear y0 y1 hs0
  have HB := Lib.hid (show Below w.heap.size w W0 by rw [hW0]; exact (below_allocG _ _).alloc (by simp) _)
  have HENT := Lib.hid (hents.later HB.out.size (fun k h1 h2 => HB.out.block k h2)).low
  clear hents
  rw [← hnen] at hev
  have HEV := Lib.hid hev
  subst hev
  have HNE := Lib.hid hnen
  clear hnen
  unfold lotV
  go_enter_defers Try.func15, Try.ntmps15
  go_upto_region 2 with fail
  rw [← hW0]
  clear hW0
  go_wp2_with (first | (refine wpList_load_row rfl 32 _ rfl w.heap.size rfl 32 (lotC l p).toArray (0, 0) _ H0.out underLot rfl sizeLot ?_))
  refine (lopen_always l p es _ W0 (HLOT.out.later HB.out.size (fun k h1 h2 => HB.out.block k h2)).low HENT.out hes9 h9).mono ?_
  rintro e w3 ⟨hb3, ⟨he, sp, mk, ml, sv, rfl, hS⟩ | ⟨hne, rfl⟩⟩
  rotate_left
  · refine leaf_stop_lSum _ (w.heap.size + 1) 0 _ w3 ((hb3.block _ (lt_of_block H1.out)).trans H1.out) (fun W' hk he9 => ?_)
    have e0 : W'.cell? ⟨w.heap.size + 1, 0, none⟩ = some (.int .i64 (errL l es true)) := by rw [cell_of_row _ _ _ _ _ _ he9]; rfl
    refine ⟨.tuple #[.int .i64 0, .int .i64 (errL l es true)], by simp [results, Try.results15, go_sem, e0], ?_, (HB.out.trans (hb3.mono HB.out.size)).trans (hk.below (by have := hb3.size; have := HB.out.size; omega) (fun k h e => by omega))⟩
    unfold sumD; dsimp only; rw [if_neg hne]
  · obtain ⟨_, hin, h8⟩ := isBlock_nat (b := 0) he
    have hoK := OkL.of he
    have hcl : sumD l es = match brokenL l [] es 0 with | some _ => (0, 11) | none => (sumL es, 0) := by unfold sumD; dsimp only; rw [if_pos he]; cases brokenL l [] es 0 <;> rfl
    have HCL := Lib.hid hcl
    have HB3 := Lib.hid hb3
    have HIN := Lib.hid hin
    have HS := Lib.hid hS
    have HOK := Lib.hid hoK
    have HENT3 := Lib.hid (HENT.out.later hb3.size (fun k h1 h2 => hb3.block k h2))
    clear he hin hoK hcl hb3 hS
    dsimp only
    go_wp2_with fail
    refine (lbroken_any HOK.out es _ w3 HS.out HENT3.out h8 HIN.out).mono ?_
    rintro e w4 ⟨rfl, hk4⟩
    have hb4 : Below W0.heap.size W0 w4 := HB3.out.trans (hk4.below HB3.out.size (fun k h e => by have := HS.out.bk; omega))
    have HE4 := Lib.hid ((hb4.block _ (lt_of_block H1.out)).trans H1.out)
    have HB4 := Lib.hid hb4
    clear hk4 hb4
    cases hbr : brokenL l [] es 0 with
    | some q =>
      obtain ⟨i, r⟩ := q
      have hr := broken_nz l _ _ _ _ hbr
      dsimp only at hr
      have hcl : sumD l es = (0, 11) := by rw [HCL.out, hbr]
      have hbd : brokenD l es = ((i : Int), r) := by unfold brokenD; rw [hbr]
      rw [hbd]
      have HCC := Lib.hid hcl
      clear hcl hbd hbr
      have hrb : (r == 0) = false := by simpa using hr
      dsimp only
      go_wp2_with fail
      refine (lmust_no 11 w4).mono ?_
      rintro e w' ⟨rfl, rfl⟩
      refine leaf_stop_lSum _ (w.heap.size + 1) 0 _ w4 HE4.out (fun W' hk he9 => ?_)
      have e0 : W'.cell? ⟨w.heap.size + 1, 0, none⟩ = some (.int .i64 11) := by rw [cell_of_row _ _ _ _ _ _ he9]; rfl
      exact ⟨.tuple #[.int .i64 0, .int .i64 11], by simp [results, Try.results15, go_sem, e0], by rw [HCC.out], (HB.out.trans (HB4.out.mono HB.out.size)).trans (hk.below (by have := HB4.out.size; have := HB.out.size; omega) (fun k h e => by omega))⟩
    | none =>
      have hcl : sumD l es = (sumL es, 0) := by rw [HCL.out, hbr]
      have hbd : brokenD l es = (0, 0) := by unfold brokenD; rw [hbr]
      have hfp := fit_pence HOK.out es [] 0 hbr
      rw [hbd]
      have HCC := Lib.hid hcl
      have HFP := Lib.hid hfp
      have hne8 : ne ≤ 8 := by rw [HNE.out]; exact h8
      clear hcl hbd hbr hfp
      dsimp only
      go_wp2_with fail
      refine (lmust_ok 11 w4).mono ?_
      rintro e w' ⟨rfl, rfl⟩
      dsimp only
      go_wp2_with fail
      go_loopw [8, 25] (fun av iv wr => ∃ i : Nat, i ≤ ne ∧ iv = .int .i64 i ∧ av = .int .i64 (sumL (es.take i)) ∧ Below W0.heap.size W0 wr) (fun _ iv _ => ne - (intOf iv).toNat)
      case atStart => exact ⟨0, Nat.zero_le _, rfl, rfl, HB4.out⟩
      case round =>
        obtain ⟨i, hi, rfl, rfl, hbr⟩ := hrel
        have HBR := Lib.hid hbr
        clear hbr
        have hsi := sum_in HFP.out i (by rw [← HNE.out]; exact hi)
        by_cases hlt : i < ne
        · have hw : IntKind.i64.wrap ((i : Int) + 1) = ((i + 1 : Nat) : Int) := by rw [IntWalk.i64_in _ (by omega)]; omega
          have hlti : (i : Int) < (ne : Int) := by omega
          have hi0 : 0 ≤ (i : Int) := by omega
          have hil : i < es.length := by rw [← HNE.out]; exact hlt
          obtain ⟨ao', cap', hse, _, _, hel⟩ := HENT.out
          obtain ⟨eb, off, rfl, _, hgl, d0, d1, d2⟩ := hel i hil
          injection hse with hae hlen hcap
          subst hae hcap
          have hsu := sum_take es i hil
          have hxin := HFP.out es[i] (List.getElem_mem hil)
          obtain ⟨⟨xb, xg, xp⟩, hx⟩ : ∃ x, x = es[i] := ⟨_, rfl⟩
          rw [← hx] at d0 d1 d2 hsu hxin
          dsimp only at d0 d1 d2 hsu hxin
          replace d0 := (World.cell?_of_block (w := W0) (w' := wr) (a := ⟨eb, off + i * 3, none⟩) (HBR.out.block eb hgl)).trans d0
          replace d1 := (World.cell?_of_block (w := W0) (w' := wr) (a := ⟨eb, off + i * 3 + 1, none⟩) (HBR.out.block eb hgl)).trans d1
          replace d2 := (World.cell?_of_block (w := W0) (w' := wr) (a := ⟨eb, off + i * 3 + 2, none⟩) (HBR.out.block eb hgl)).trans d2
          obtain ⟨sm, hsm⟩ : ∃ q, q = sumL (es.take i) := ⟨_, rfl⟩
          rw [← hsm] at hsi hsu ⊢
          have w2 : IntKind.i64.wrap (sm + xp) = sm + xp := IntWalk.i64_in _ (by omega)
          have HSU := Lib.hid hsu
          clear hx hel hlen hsm hsu hgl
          go_upto_region 8 with fail
          obtain ⟨W5, hW5⟩ : ∃ W, W = wr.alloc (.cells #[.int .i64 xb, .int .i64 xg, .int .i64 xp] 69) := ⟨_, rfl⟩
          rw [← hW5]
          have hrow5 : W5.heap[wr.heap.size]? = some (.cells #[.int .i64 xb, .int .i64 xg, .int .i64 xp] 69 (0, 0)) := by rw [hW5]; exact heap_alloc_at _ _ _ rfl
          have e2 : W5.cell? ⟨wr.heap.size, 2, none⟩ = some (.int .i64 xp) := by rw [cell_of_row _ _ _ _ _ _ hrow5]; rfl
          have HB5 := Lib.hid (show Below W0.heap.size W0 W5 by rw [hW5]; exact HBR.out.alloc HBR.out.size _)
          clear hW5 hrow5 d0 d1 d2
          go_wp2_with fail
          go_roundw
          case measure => simp [intOf]; omega
          exact ⟨i + 1, by omega, rfl, by rw [HSU.out], HB5.out⟩
        · have hin : i = ne := by omega
          have hlti : ¬ (i : Int) < (ne : Int) := by omega
          have hfin : sumL (es.take i) = sumL es := by rw [hin, HNE.out, List.take_length]
          rw [hfin]
          have he4 := (HBR.out.block _ (lt_of_block H1.out)).trans H1.out
          have e0 : wr.cell? ⟨w.heap.size + 1, 0, none⟩ = some (.int .i64 0) := by rw [cell_of_row _ _ _ _ _ _ he4]; rfl
          have f0 : wr.frozen? ⟨w.heap.size + 1, 0, none⟩ = false := frozen_of_row _ _ _ _ _ he4
          have HE9 := Lib.hid he4
          clear hfin hin he4
          go_wp2
          refine leaf_ret_lSum (w.heap.size + 1) _ _ ?_
          have e9 : (wr.setCell ⟨w.heap.size + 1, 0, none⟩ (.int .i64 0)).cell? ⟨w.heap.size + 1, 0, none⟩ = some (.int .i64 0) := by rw [cell_of_row _ _ _ _ _ _ (one_setG HE9.out)]; rfl
          exact ⟨.tuple #[.int .i64 (sumL es), .int .i64 0], by simp [results, Try.results15, go_sem, e9], by rw [HCC.out], (HB.out.trans (HBR.out.mono HB.out.size)).setCell (by simp) _⟩
end Go.Proofs.Ytagjepclobobjaa
