/- Texts Th, Tj, Mi, Mx in one file; each begins with a word on what it proves. -/
import Derived.StillTailTactics
import Derived.Deep.Cut
import Derived.Lib.MinMax
import Derived.Test.YtlgeggekmdoceaaKk
import Derived.Test.YtlgeggekmdoceaaKs
import Derived.Test.YtlgeggekmdoceaaKr
import Derived.Test.YtlgeggekmdoceaaKb

/- The laws' function at: a pair in which a deviation is known. -/
namespace Go.Proofs.Ytlgeggekmdoceaa
set_option linter.unusedVariables false
set_option linter.unusedSimpArgs false
open Go.RowKit Go.Shelf
attribute [local go_sem] Oper.semAt_some

theorem wp_store_at {P : Program} {o : Oper} {a : Act} {w : World} {K : Act → World → Prop} {Q : Exit → Act → World → Prop} (ty : TypeId) (x y : Operand) (ho : o.op = .store ty x y)
    (g off : Nat) (cells : Array Value) (hx : a.eval x = .pointer (some ⟨g, off, none⟩)) (hy : a.eval y = .agg cells)
    (t : TypeId) (cur : Array Value) (hg : w.heap[g]? = some (.cells cur t (0, 0))) (hi : (P.info? ty).map (·.size) = some cells.size)
    (hfit : off + cells.size ≤ cur.size) (h1 : cells.all (·.oneCell') = true)
    (h : ∀ w' cur', Seg cur cur' off cells.toList → w'.heap[g]? = some (.cells cur' t (0, 0)) → Keeps (fun k => k = g) w w' → w'.heap.size = w.heap.size → K (a.put o.dst undef) w') : o.wp P a w K Q := by
  unfold Oper.wp
  rw [run_store_at ty x y ho g off cells hx hy t cur hg hi hfit h1]
  exact h _ _ (seg_of cur off cells.toList (by simpa using hfit)) (setRow_heap _ _ _ _ _ _ hg) (keeps_setRow _ _ _) (by simp)
/-- An append of many to an own row. -/
theorem wpList_append_m {P : Program} {ops : Array Oper} {rest : List Oper} {o : Oper} {a : Act} {w : World} {Q : Exit → Act → World → Prop} (hgd : o.guard = none) (s x : Operand) (t : TypeId)
    (ho : o.op = .call { callee := .builtin .append, args := #[s, x], argTypes := #[t, t] })
    (base : Nat) (e : TypeId) (size bytes : Nat) (z : Value) (ht : P.underlying t = some (.slice e)) (hinfo : (P.info? e).map (fun i => (i.zero, i.size, i.bytes)) = some (some z, size, bytes)) (hzs : z.cells.size = size) (hsz : 0 < size)
    (v : Value) (n : Nat) (xs : List Value) (hs : a.eval s = v) (hown : w.ownsRow base e size v n xs)
    (ad : Addr) (m c : Nat) (news : List Value) (hx : a.eval x = .slice (some ad) m c) (hl : news.length = m * size) (hnews : ∀ (j : Nat) u, news[j]? = some u → w.cell? (ad.add j) = some u) (h1 : ∀ u ∈ news, u.oneCell' = true)
    (h63 : n + m ≤ 1000001) (hbytes : bytes ≤ 1000) (hbase : base ≤ w.heap.size)
    (h : ∀ v' w', w'.ownsRow base e size v' (n + m) (xs ++ news) → w.grownBy w' v.ownBlock → Below base w w' → wpList P ops Q rest (a.put o.dst v') w') : wpList P ops Q (o :: rest) a w := by
  obtain ⟨i, hi, hz, hsize, hby⟩ := info_parts hinfo
  refine wpList_append_own w hgd s x t ho base e i z size bytes ht hi hz hsize hby hzs hsz v n xs hs hown ad m c news hx hl hnews h1 (by unfold maxLen; omega) ?_ hbase ?_
  · have h2 : (n + m) * bytes ≤ 1000001 * 1000 := Nat.mul_le_mul h63 hbytes
    omega
  · intro v' w' hown' hgrow _
    exact h v' w' hown' hgrow ((Below.refl _ _).grown hgrow hbase (own_base hown))
theorem spC_length : ∀ (l : List (Int × Int)), (l.flatMap spC).length = l.length * 2
  | [] => rfl
  | r :: l => by rw [List.flatMap_cons, List.length_append, spC_length l, List.length_cons]; simp [spC]; omega
theorem spC_ones (l : List (Int × Int)) : ∀ u ∈ l.flatMap spC, u.oneCell' = true := by
  intro u hu
  obtain ⟨s, _, hs⟩ := List.mem_flatMap.1 hu
  simp [spC] at hs
  rcases hs with rfl | rfl <;> rfl
/-- The cells of a slice of spans. -/
theorem SpansAt.news {W : World} {b off cap : Nat} {l : List (Int × Int)} {Rd : Nat → Prop} (h : SpansAt W (.slice (some ⟨b, off, none⟩) l.length cap) l Rd) : ∀ (j : Nat) u, (l.flatMap spC)[j]? = some u → W.cell? ((⟨b, off, none⟩ : Addr).add j) = some u := by
  intro j u hu
  have hj : j < l.length * 2 := by rw [← spC_length]; exact (List.getElem?_eq_some_iff.1 hu).1
  obtain ⟨ao, cap', h1, _, _, h4⟩ := h
  obtain ⟨b', off', e1, _, _, e2, e3⟩ := h4 (j / 2) (by omega)
  have e0 : some (⟨b, off, none⟩ : Addr) = ao := by injection h1
  rw [e1] at e0
  have e0 := Option.some.inj e0
  have eb : b = b' := congrArg Addr.block e0
  have eo : off = off' := congrArg Addr.off e0
  subst eb eo
  have hf := flat_len spC 2 (fun _ => rfl) l (j / 2) (j % 2) (by omega) (by omega)
  rw [show j / 2 * 2 + j % 2 = j by omega, hu] at hf
  rw [show ((⟨b, off, none⟩ : Addr).add j) = ⟨b, off + j, none⟩ by simp [Addr.add]]
  rcases Nat.mod_two_eq_zero_or_one j with h0 | h0
  · rw [h0] at hf
    rw [hf, show off + j = off + j / 2 * 2 by omega, e2]
    rfl
  · rw [h0] at hf
    rw [hf, show off + j = off + j / 2 * 2 + 1 by omega, e3]
    rfl
/-- Spans in a row, from its beginning. -/
theorem spansAt_of_row {w : World} {g cap : Nat} {t : TypeId} {cur : Array Value} {l : List (Int × Int)} (h : w.heap[g]? = some (.cells cur t (0, 0))) (hc : l.length ≤ cap) (hm : cap ≤ maxLen) (hr : ∀ i (hi : i < l.length), cur[i * 2]? = some (.int .i64 l[i].1) ∧ cur[i * 2 + 1]? = some (.int .i64 l[i].2)) : SpansAt w (.slice (some ⟨g, 0, none⟩) l.length cap) l (fun k => k = g) := by
  refine ⟨_, cap, rfl, hc, hm, fun i hi => ⟨g, 0, rfl, rfl, lt_of_block h, ?_⟩⟩
  have := hr i hi
  rw [Nat.zero_add]
  exact ⟨by rw [cell_of_row _ _ _ _ _ _ h]; exact this.1, by rw [cell_of_row _ _ _ _ _ _ h]; exact this.2⟩
theorem SpansAt.pos {W : World} {v : Value} {l : List (Int × Int)} {Rd : Nat → Prop} (h : SpansAt W v l Rd) (h0 : 0 < l.length) : ∃ b off cap, v = .slice (some ⟨b, off, none⟩) l.length cap ∧ b < W.heap.size := by
  obtain ⟨ao, cap, h1, _, _, h4⟩ := h
  obtain ⟨b, off, e1, _, hb, _⟩ := h4 0 h0
  exact ⟨b, off, cap, by rw [h1, e1], hb⟩
theorem underSpans : Try.prog.underlying 22 = some (.slice 24) := by kernel_rfl
theorem infoSpans : (Try.prog.info? 24).map (fun i => (i.zero, i.size, i.bytes)) = some (some (.agg #[.int .i64 0, .int .i64 0]), 2, 16) := by kernel_rfl
theorem own_none {w : World} {base g : Nat} {e : TypeId} {size : Nat} (h : w.heap[g]? = some (.cells #[] e (0, 0))) (hb : base ≤ g) : w.ownsRow base e size (.slice (some ⟨g, 0, none⟩) 0 0) 0 [] :=
  ⟨by simp, .inr ⟨g, 0, #[], rfl, hb, h, Nat.le_refl _, by simp, by simp, by simp⟩⟩
theorem own_row {w : World} {base : Nat} {e : TypeId} {size : Nat} {v : Value} {n : Nat} {xs : List Value} (h : w.ownsRow base e size v n xs) (h0 : 0 < n) :
    ∃ g cap cur, v = .slice (some ⟨g, 0, none⟩) n cap ∧ base ≤ g ∧ w.heap[g]? = some (.cells cur e (0, 0)) ∧ n ≤ cap ∧ cap ≤ maxLen ∧ cur.size = cap * size ∧ cur.toList.take (n * size) = xs := by
  rcases h.2 with h1 | h1
  · omega
  · exact h1
theorem six_setCell {w : World} {b : Nat} {a0 a1 a2 a3 a4 a5 x : Value} {t : TypeId} {fr : Nat × Nat} (h : w.heap[b]? = some (.cells #[a0, a1, a2, a3, a4, a5] t fr)) : (w.setCell ⟨b, 0, none⟩ x).heap[b]? = some (.cells #[x, a1, a2, a3, a4, a5] t fr) := by
  simp [World.setCell, Array.getElem?_modify, h]
theorem duo_setCell {w : World} {b o : Nat} {cur : Array Value} {x y : Value} {t : TypeId} {fr : Nat × Nat} (h : w.heap[b]? = some (.cells cur t fr)) (ho : o + 1 < cur.size) :
    ∃ cur', ((w.setCell ⟨b, o, none⟩ x).setCell ⟨b, o + 1, none⟩ y).heap[b]? = some (.cells cur' t fr) ∧ cur'.size = cur.size ∧ cur'[o]? = some x ∧ cur'[o + 1]? = some y ∧ ∀ j, j ≠ o → j ≠ o + 1 → cur'[j]? = cur[j]? := by
  refine ⟨(cur.setIfInBounds o x).setIfInBounds (o + 1) y, by simp [World.setCell, Array.getElem?_modify, h], by simp, ?_, ?_, fun j h1 h2 => ?_⟩
  · rw [Array.getElem?_setIfInBounds_ne (by omega), Array.getElem?_setIfInBounds_self_of_lt (by omega)]
  · rw [Array.getElem?_setIfInBounds_self_of_lt (by simp; omega)]
  · rw [Array.getElem?_setIfInBounds_ne (by omega), Array.getElem?_setIfInBounds_ne (by omega)]
theorem row_spans {cur : Array Value} {l : List (Int × Int)} (h : cur.toList.take (l.length * 2) = l.flatMap spC) (i q : Nat) (hi : i < l.length) (hq : q < 2) : cur[i * 2 + q]? = (spC l[i])[q]? := by
  rw [← flat_len spC 2 (fun _ => rfl) l i q hi hq, ← h, List.getElem?_take_of_lt (by omega), Array.getElem?_toList]
set_option maxRecDepth 100000 in
set_option maxHeartbeats 2000000 in
theorem at_any (p : PairD) (bs rs : Value) (a : Nat) (ha : a < p.bs.length) (hn5 : p.bs.length ≤ 5) (k : Int) (w : World) (hpa : PairAt w p bs rs) :
    Calls Try.prog 40 #[.agg (pairRow p bs rs), .int .i64 a, .int .i64 k] w fun e w' => (∃ ao3 cap3, e = .returned (.agg (pairRow p (.slice ao3 p.bs.length cap3) rs)) ∧ PairAt w' (atB p a k) (.slice ao3 p.bs.length cap3) rs) ∧ Below w.heap.size w w' := by
  obtain ⟨b, off, cap, rfl, hbw⟩ := hpa.b.pos (by omega)
  obtain ⟨ao2, cap2, hrse, _⟩ := id hpa.r
  subst hrse
  have HPA := Lib.hid hpa
  have HNW := Lib.hid (hpa.b.news)
  clear hpa
  unfold pairRow
  go_enter Try.func40, Try.ntmps40
  obtain ⟨A2, hA2⟩ : ∃ A, A = ((w.alloc (.cells #[.slice (some ⟨b, off, none⟩) p.bs.length cap, .int .i64 p.zl, .int .i64 p.zh, .int .i64 p.rl, .int .i64 p.rh, .slice ao2 p.rs.length cap2] 27)).alloc (.cells #[.slice none 0 0, .int .i64 0, .int .i64 0, .int .i64 0, .int .i64 0, .slice none 0 0] 27)).alloc (.cells #[] 24) := ⟨_, rfl⟩
  have hsA : A2.heap.size = w.heap.size + 3 := by rw [hA2]; simp
  have hbA : Below w.heap.size w A2 := by rw [hA2]; exact (((Below.refl _ _).alloc (Nat.le_refl _) _).alloc (by simp) _).alloc (by simp; omega) _
  have hr0 : A2.heap[w.heap.size]? = some (.cells #[.slice (some ⟨b, off, none⟩) p.bs.length cap, .int .i64 p.zl, .int .i64 p.zh, .int .i64 p.rl, .int .i64 p.rh, .slice ao2 p.rs.length cap2] 27 (0, 0)) := by rw [hA2]; exact (hget_old _ _ _ (by simp; omega)).trans ((hget_old _ _ _ (by simp)).trans (heap_alloc_at _ _ _ rfl))
  have hr1 : A2.heap[w.heap.size + 1]? = some (.cells #[.slice none 0 0, .int .i64 0, .int .i64 0, .int .i64 0, .int .i64 0, .slice none 0 0] 27 (0, 0)) := by rw [hA2]; exact (hget_old _ _ _ (by simp)).trans (heap_alloc_at _ _ _ (by simp))
  have hr2 : A2.heap[w.heap.size + 1 + 1]? = some (.cells #[] 24 (0, 0)) := by rw [hA2]; exact heap_alloc_at _ _ _ (by simp)
  have HBA := Lib.hid hbA
  have HR0 := Lib.hid hr0
  have HR1 := Lib.hid hr1
  have HR2 := Lib.hid hr2
  clear hbA hr0 hr1 hr2
  go_wp2_with (first | (at_builtin; rw [← hA2]; clear hA2; refine wpList_append_m rfl _ _ 22 rfl (w.heap.size + 2) 24 2 16 _ underSpans infoSpans rfl (by decide) _ 0 [] rfl (own_none HR2.out (by omega)) ⟨b, off, none⟩ p.bs.length cap (p.bs.flatMap spC) rfl (spC_length _) (fun j u hu => (HBA.out.cell (lt_of_cell (HNW.out j u hu))).trans (HNW.out j u hu)) (spC_ones _) (by omega) (by decide) (by omega) ?_; intro v1 w1 hown1 hg1 hb1; rw [Nat.zero_add, List.nil_append] at hown1; obtain ⟨g1, cap1, cur1, rfl, hgb1, hrow1, hle1, hcm1, hsz1, htk1⟩ := own_row hown1 (by omega); have q0 := (hb1.block w.heap.size (by omega)).trans HR0.out; have e0 := cell_of_row _ _ 0 _ _ _ q0; have e6 : ∀ k, w1.frozen? ⟨w.heap.size, k, none⟩ = false := fun k => frozen_of_row _ _ _ _ _ q0))
  have hs1 := hb1.size
  obtain ⟨W2, hW2⟩ : ∃ W, W = w1.setCell ⟨w.heap.size, 0, none⟩ (.slice (some ⟨g1, 0, none⟩) p.bs.length cap1) := ⟨_, rfl⟩
  have z0 : W2.heap[w.heap.size]? = some (.cells #[.slice (some ⟨g1, 0, none⟩) p.bs.length cap1, .int .i64 p.zl, .int .i64 p.zh, .int .i64 p.rl, .int .i64 p.rh, .slice ao2 p.rs.length cap2] 27 (0, 0)) := by rw [hW2]; exact six_setCell q0
  have z1 : W2.heap[w.heap.size + 1]? = some (.cells #[.slice none 0 0, .int .i64 0, .int .i64 0, .int .i64 0, .int .i64 0, .slice none 0 0] 27 (0, 0)) := by rw [hW2]; exact (Below.heap_setCell _ _ _ _ (by simp)).trans ((hb1.block _ (by omega)).trans HR1.out)
  have z2 : W2.heap[g1]? = some (.cells cur1 24 (0, 0)) := by rw [hW2]; exact (Below.heap_setCell _ _ _ _ (by simp; omega)).trans hrow1
  have zb : Below w.heap.size w W2 := by rw [hW2]; exact (HBA.out.trans (hb1.mono (by omega))).setCell (by simp) _
  have hs2 : W2.heap.size = w1.heap.size := by rw [hW2]; simp
  rw [← hW2]
  clear hW2 e0 e6 q0 hrow1
  obtain ⟨u1, hu1⟩ : ∃ u, cur1[a * 2]? = some u := ⟨_, Array.getElem?_eq_getElem (by omega)⟩
  obtain ⟨u2, hu2⟩ : ∃ u, cur1[a * 2 + 1]? = some u := ⟨_, Array.getElem?_eq_getElem (by omega)⟩
  have HY3 : Hid (∀ (w3 : World) (v v' : Value), w3.cell? ⟨w.heap.size, 0, none⟩ = some (.slice (some ⟨g1, 0, none⟩) p.bs.length cap1) → ((w3.setCell ⟨g1, a * 2, none⟩ v).setCell ⟨g1, a * 2 + 1, none⟩ v').cell? ⟨w.heap.size, 0, none⟩ = some (.slice (some ⟨g1, 0, none⟩) p.bs.length cap1)) := fun w3 v v' h => by
    have hne : w.heap.size ≠ g1 := by omega
    unfold World.cell? at h ⊢
    rw [Below.heap_setCell _ _ _ _ hne, Below.heap_setCell _ _ _ _ hne]
    exact h
  have Z0 := Lib.hid z0
  have Z1 := Lib.hid z1
  have Z2 := Lib.hid z2
  have ZB := Lib.hid zb
  have HT1 := Lib.hid htk1
  have HS1 := Lib.hid hsz1
  have y0 : W2.drew.cell? ⟨w.heap.size, 0, none⟩ = some (.slice (some ⟨g1, 0, none⟩) p.bs.length cap1) := cell_of_row _ _ 0 _ _ _ z0
  clear z0 z1 z2 zb htk1 hsz1
  go_region_held3 (fun w' => w'.cell? ⟨w.heap.size, 0, none⟩ = some (.slice (some ⟨g1, 0, none⟩) p.bs.length cap1)) (first | exact y1 | exact y0 | exact HY3.out _ _ _ y1)
    (first | (go_at_call 33; refine (lspan_any k k _).mono ?_; rintro e w3 ⟨rfl, hb3⟩; have y1 : w3.cell? ⟨w.heap.size, 0, none⟩ = some (.slice (some ⟨g1, 0, none⟩) p.bs.length cap1) := (hb3.cell (lt_of_cell y0)).trans y0; have x0 : w3.heap[g1]? = some (.cells cur1 24 (0, 0)) := (hb3.block _ (lt_of_block Z2.out)).trans Z2.out; have x1 : w3.cell? ⟨g1, a * 2, none⟩ = some u1 := (cell_of_row _ _ _ _ _ _ x0).trans hu1; have x2 : w3.cell? ⟨g1, a * 2 + 1, none⟩ = some u2 := (cell_of_row _ _ _ _ _ _ x0).trans hu2; have x3 : ∀ k, w3.frozen? ⟨g1, k, none⟩ = false := fun k => frozen_of_row _ _ _ _ _ x0; have X0 := Lib.hid x0; clear x0; unfold spanV))
  obtain ⟨cur4, r1, r2, r3, r4, r5⟩ := duo_setCell (x := .int .i64 k) (y := .int .i64 k) X0.out (o := a * 2) (by have := HS1.out; omega)
  obtain ⟨W4, hW4⟩ : ∃ W, W = (w3.setCell ⟨g1, a * 2, none⟩ (.int .i64 k)).setCell ⟨g1, a * 2 + 1, none⟩ (.int .i64 k) := ⟨_, rfl⟩
  have hs3 := hb3.size
  have n0 : W4.heap[w.heap.size]? = some (.cells #[.slice (some ⟨g1, 0, none⟩) p.bs.length cap1, .int .i64 p.zl, .int .i64 p.zh, .int .i64 p.rl, .int .i64 p.rh, .slice ao2 p.rs.length cap2] 27 (0, 0)) := by
    rw [hW4, Below.heap_setCell _ _ _ _ (show w.heap.size ≠ g1 by omega), Below.heap_setCell _ _ _ _ (show w.heap.size ≠ g1 by omega)]
    exact (hb3.block _ (lt_of_block Z0.out)).trans Z0.out
  have n1 : W4.heap[w.heap.size + 1]? = some (.cells #[.slice none 0 0, .int .i64 0, .int .i64 0, .int .i64 0, .int .i64 0, .slice none 0 0] 27 (0, 0)) := by
    rw [hW4, Below.heap_setCell _ _ _ _ (show w.heap.size + 1 ≠ g1 by omega), Below.heap_setCell _ _ _ _ (show w.heap.size + 1 ≠ g1 by omega)]
    exact (hb3.block _ (lt_of_block Z1.out)).trans Z1.out
  rw [← hW4] at r1
  have nb : Below w.heap.size w W4 := by
    rw [hW4]
    exact ((ZB.out.trans ((show Below W2.heap.size W2 w3 from ⟨hb3.os, hb3.tape, hb3.output, hb3.size, hb3.block⟩).mono (by omega))).setCell (by simp; omega) _).setCell (by simp; omega) _
  have hl4 : W4.heap.size = w3.heap.size := by rw [hW4]; simp
  rw [← hW4]
  clear hW4 x1 x2 x3 y1 y0
  have e0 := cell_of_row _ _ 0 _ _ _ n0
  have e1 := cell_of_row _ _ 1 _ _ _ n0
  have e2 := cell_of_row _ _ 2 _ _ _ n0
  have e3 := cell_of_row _ _ 3 _ _ _ n0
  have e4 := cell_of_row _ _ 4 _ _ _ n0
  have e5 := cell_of_row _ _ 5 _ _ _ n0
  have N1 := Lib.hid n1
  have R1 := Lib.hid r1
  have NB := Lib.hid nb
  have hspan : SpansAt W4 (.slice (some ⟨g1, 0, none⟩) (p.bs.set a (k, k)).length cap1) (p.bs.set a (k, k)) (fun k => k = g1) := by
    refine spansAt_of_row r1 (by rw [List.length_set]; omega) hcm1 fun i hi => ?_
    rw [List.length_set] at hi
    by_cases he : a = i
    · subst he
      rw [List.getElem_set_self]
      exact ⟨r3, r4⟩
    · rw [List.getElem_set_ne he, r5 _ (by omega) (by omega), r5 _ (by omega) (by omega)]
      have f1 := row_spans HT1.out i 0 hi (by omega)
      have f2 := row_spans HT1.out i 1 hi (by omega)
      exact ⟨f1, f2⟩
  rw [List.length_set] at hspan
  have HSP := Lib.hid hspan
  clear n0 n1 r1 nb hspan r3 r4 r5
  go_wp2_with (first | (refine wpList_storeA rfl 27 _ _ rfl (w.heap.size + 1) #[.slice (some ⟨g1, 0, none⟩) p.bs.length cap1, .int .i64 p.zl, .int .i64 p.zh, .int .i64 p.rl, .int .i64 p.rh, .slice ao2 p.rs.length cap2] rfl rfl 27 _ N1.out rfl rfl (by simp [Value.oneCell']) ?_; intro wy hyr hyk hys; have HYR := Lib.hid hyr; have HYK := Lib.hid hyk; clear hyr hyk))
  clear e0 e1 e2 e3 e4 e5
  have e0 := cell_of_row _ _ 0 _ _ _ HYR.out
  have e1 := cell_of_row _ _ 1 _ _ _ HYR.out
  have e2 := cell_of_row _ _ 2 _ _ _ HYR.out
  have e3 := cell_of_row _ _ 3 _ _ _ HYR.out
  have e4 := cell_of_row _ _ 4 _ _ _ HYR.out
  have e5 := cell_of_row _ _ 5 _ _ _ HYR.out
  have hlast := NB.out.trans (HYK.out.below NB.out.size (fun k h => by omega))
  refine bodyPost_ret (v := .agg (pairRow p (.slice (some ⟨g1, 0, none⟩) p.bs.length cap1) (.slice ao2 p.rs.length cap2))) (by simp [results, Try.results40, go_sem, pairRow, e0, e1, e2, e3, e4, e5]) rfl ⟨⟨_, _, rfl, ?_, ?_⟩, hlast⟩
  · exact (HSP.out.later HYK.out.size (fun j hj hr => HYK.out.block j hj (by have e7 : j = g1 := hr; omega))).low
  · exact (HPA.out.later hlast).r

end Go.Proofs.Ytlgeggekmdoceaa

/- The laws' function with: a pair with readings more. -/
namespace Go.Proofs.Ytlgeggekmdoceaa
set_option linter.unusedVariables false
set_option linter.unusedSimpArgs false
open Go.RowKit Go.Shelf
attribute [local go_sem] Oper.semAt_some

/-- The pair with readings more. -/
def withL (p : PairD) (l : List RdD) : PairD := { p with rs := p.rs ++ l }
theorem rdC_ones (l : List RdD) : ∀ u ∈ l.flatMap rdC, u.oneCell' = true := by
  intro u hu
  obtain ⟨s, _, hs⟩ := List.mem_flatMap.1 hu
  simp [rdC] at hs
  rcases hs with rfl | rfl | rfl | rfl | rfl <;> rfl
/-- The cells of a slice of readings. -/
theorem ReadsAt.news {W : World} {ad : Addr} {cap : Nat} {l : List RdD} {Rd : Nat → Prop} (h : ReadsAt W (.slice (some ad) l.length cap) l Rd) : ∀ (j : Nat) u, (l.flatMap rdC)[j]? = some u → W.cell? (ad.add j) = some u := by
  intro j u hu
  have hj : j < l.length * 5 := by rw [← flat_length]; exact (List.getElem?_eq_some_iff.1 hu).1
  obtain ⟨ao, cap', h1, _, _, h4⟩ := h
  obtain ⟨b, off, e1, _, _, e2, e3, e4, e5, e6⟩ := h4 (j / 5) (by omega)
  have e0 : some ad = ao := by injection h1
  rw [e1] at e0
  have e0 := Option.some.inj e0
  subst e0
  have hf := flat_at l (j / 5) (j % 5) (by omega) (by omega)
  rw [show j / 5 * 5 + j % 5 = j by omega, hu] at hf
  rw [show ((⟨b, off, none⟩ : Addr).add j) = ⟨b, off + j, none⟩ by simp [Addr.add]]
  have hm : j % 5 = 0 ∨ j % 5 = 1 ∨ j % 5 = 2 ∨ j % 5 = 3 ∨ j % 5 = 4 := by omega
  rcases hm with h0 | h0 | h0 | h0 | h0 <;> rw [h0] at hf <;> rw [hf]
  · rw [show off + j = off + j / 5 * 5 by omega, e2]; rfl
  · rw [show off + j = off + j / 5 * 5 + 1 by omega, e3]; rfl
  · rw [show off + j = off + j / 5 * 5 + 2 by omega, e4]; rfl
  · rw [show off + j = off + j / 5 * 5 + 3 by omega, e5]; rfl
  · rw [show off + j = off + j / 5 * 5 + 4 by omega, e6]; rfl
theorem wpList_append_nil {ops : Array Oper} {rest : List Oper} {o : Oper} {a : Act} {w : World} {Q : Exit → Act → World → Prop} (hgd : o.guard = none) (s x : Operand) (t : TypeId)
    (ho : o.op = .call { callee := .builtin .append, args := #[s, x], argTypes := #[t, t] }) (e : TypeId) (size bytes : Nat) (z : Value) (ht : Try.prog.underlying t = some (.slice e)) (hinfo : (Try.prog.info? e).map (fun i => (i.zero, i.size, i.bytes)) = some (some z, size, bytes))
    (g : Nat) (hs : a.eval s = .slice (some ⟨g, 0, none⟩) 0 0) (m c : Nat) (hx : a.eval x = .slice none m c) (hm : m = 0) (h : wpList Try.prog ops Q rest (a.put o.dst (.slice (some ⟨g, 0, none⟩) 0 0)) w) : wpList Try.prog ops Q (o :: rest) a w :=
  wpList_plain hgd fun _ hK => wp_append_nil s x t ho e size bytes z ht hinfo g hs m c hx hm rfl (hK _ _ h)
/-- 'append([]T{}, l...)' of readings. -/
theorem wpList_copy_reads {ops : Array Oper} {rest : List Oper} {o : Oper} {a : Act} {w : World} {Q : Exit → Act → World → Prop} (hgd : o.guard = none) (s x : Operand)
    (ho : o.op = .call { callee := .builtin .append, args := #[s, x], argTypes := #[25, 25] })
    (g : Nat) (hs : a.eval s = .slice (some ⟨g, 0, none⟩) 0 0) (hg : w.heap[g]? = some (.cells #[] 44 (0, 0))) (ao : Option Addr) (cap : Nat) (l : List RdD) (hx : a.eval x = .slice ao l.length cap) (Rd : Nat → Prop) (hr : ReadsAt w (.slice ao l.length cap) l Rd) (hl : l.length ≤ 1000)
    (h : ∀ v' w', w'.ownsRow g 44 5 v' l.length (l.flatMap rdC) → Below g w w' → wpList Try.prog ops Q rest (a.put o.dst v') w') : wpList Try.prog ops Q (o :: rest) a w := by
  cases ao with
  | none =>
    have h0 : l.length = 0 := by
      obtain ⟨ao', cap', h1, _, _, h4⟩ := hr
      rcases Nat.eq_zero_or_pos l.length with k | k
      · exact k
      · obtain ⟨b, off, e1, _⟩ := h4 0 k
        have e0 : none = ao' := by injection h1
        rw [e1] at e0; cases e0
    have hnil : l = [] := List.length_eq_zero_iff.1 h0
    refine wpList_append_nil hgd s x _ ho 44 5 40 _ underReads infoRead g hs _ _ hx h0 (h _ _ ?_ (Below.refl _ _))
    rw [hnil]
    exact own_none hg (Nat.le_refl _)
  | some ad =>
    have hlt := lt_of_block hg
    refine wpList_append_m hgd s x _ ho g 44 5 40 _ underReads infoRead rfl (by decide) _ 0 [] hs (own_none hg (Nat.le_refl _)) ad l.length cap (l.flatMap rdC) hx (flat_length l) hr.news (rdC_ones l) (by omega) (by decide) (by omega) ?_
    intro v' w' hown _ hb
    rw [Nat.zero_add, List.nil_append] at hown
    exact h v' w' hown hb
theorem one5_setCell {w : World} {b : Nat} {a0 a1 a2 a3 a4 a5 x : Value} {t : TypeId} {fr : Nat × Nat} (h : w.heap[b]? = some (.cells #[a0, a1, a2, a3, a4, a5] t fr)) : (w.setCell ⟨b, 5, none⟩ x).heap[b]? = some (.cells #[a0, a1, a2, a3, a4, x] t fr) := by
  simp [World.setCell, Array.getElem?_modify, h]
set_option maxRecDepth 100000 in
set_option maxHeartbeats 2000000 in
theorem with_own (p : PairD) (bs rs : Value) (lr : List RdD) (h1 : 0 < lr.length) (h2 : lr.length ≤ 2) (h8 : p.rs.length ≤ 100) (g c : Nat) (w : World) (hpa : PairAt w p bs rs) (hg : w.heap[g]? = some (.cells (lr.flatMap rdC).toArray 44 (0, 0))) :
    Calls Try.prog 41 #[.agg (pairRow p bs rs), .slice (some ⟨g, 0, none⟩) lr.length c] w fun e w' => (∃ ao3 cap3, e = .returned (.agg (pairRow p bs (.slice ao3 (p.rs.length + lr.length) cap3))) ∧ PairAt w' (withL p lr) bs (.slice ao3 (p.rs.length + lr.length) cap3) ∧ ReadsAt w' (.slice ao3 (p.rs.length + lr.length) cap3) (p.rs ++ lr) (fun k => w.heap.size ≤ k)) ∧ Below w.heap.size w w' := by
  obtain ⟨ao, cap, hbse, _⟩ := id hpa.b
  subst hbse
  obtain ⟨ao2, cap2, hrse, _⟩ := id hpa.r
  subst hrse
  have HPA := Lib.hid hpa
  have HG := Lib.hid hg
  have hgw := lt_of_block hg
  clear hpa hg
  unfold pairRow
  go_enter Try.func41, Try.ntmps41
  obtain ⟨A2, hA2⟩ : ∃ A, A = ((w.alloc (.cells #[.slice ao p.bs.length cap, .int .i64 p.zl, .int .i64 p.zh, .int .i64 p.rl, .int .i64 p.rh, .slice ao2 p.rs.length cap2] 27)).alloc (.cells #[.slice none 0 0, .int .i64 0, .int .i64 0, .int .i64 0, .int .i64 0, .slice none 0 0] 27)).alloc (.cells #[] 44) := ⟨_, rfl⟩
  have hsA : A2.heap.size = w.heap.size + 3 := by rw [hA2]; simp
  have hbA : Below w.heap.size w A2 := by rw [hA2]; exact (((Below.refl _ _).alloc (Nat.le_refl _) _).alloc (by simp) _).alloc (by simp; omega) _
  have hr0 : A2.heap[w.heap.size]? = some (.cells #[.slice ao p.bs.length cap, .int .i64 p.zl, .int .i64 p.zh, .int .i64 p.rl, .int .i64 p.rh, .slice ao2 p.rs.length cap2] 27 (0, 0)) := by rw [hA2]; exact (hget_old _ _ _ (by simp; omega)).trans ((hget_old _ _ _ (by simp)).trans (heap_alloc_at _ _ _ rfl))
  have hr1 : A2.heap[w.heap.size + 1]? = some (.cells #[.slice none 0 0, .int .i64 0, .int .i64 0, .int .i64 0, .int .i64 0, .slice none 0 0] 27 (0, 0)) := by rw [hA2]; exact (hget_old _ _ _ (by simp)).trans (heap_alloc_at _ _ _ (by simp))
  have hr2 : A2.heap[w.heap.size + 1 + 1]? = some (.cells #[] 44 (0, 0)) := by rw [hA2]; exact heap_alloc_at _ _ _ (by simp)
  have HBA := Lib.hid hbA
  have HR0 := Lib.hid hr0
  have HR1 := Lib.hid hr1
  have HR2 := Lib.hid hr2
  have HPB := Lib.hid (HPA.out.later hbA)
  clear hbA hr0 hr1 hr2
  go_wp2_with (first
    | (at_builtin; rw [← hA2]; clear hA2; refine wpList_copy_reads rfl _ _ rfl (w.heap.size + 1 + 1) rfl HR2.out ao2 cap2 p.rs rfl _ HPB.out.r (by omega) ?_; intro v1 w1 hown1 hb1)
    | (at_builtin; refine wpList_append_m rfl _ _ 25 rfl (w.heap.size + 1 + 1) 44 5 40 _ underReads infoRead rfl (by decide) _ p.rs.length (p.rs.flatMap rdC) rfl hown1 ⟨g, 0, none⟩ lr.length c (lr.flatMap rdC) rfl (flat_length _) (news_block ((hb1.block g (by omega)).trans ((HBA.out.block g hgw).trans HG.out))) (rdC_ones _) (by omega) (by decide) (by have := hb1.size; omega) ?_; intro v2 w2 hown2 hg2 hb2; obtain ⟨g1, cap1, cur1, rfl, hgb1, hrow1, hle1, hcm1, hsz1, htk1⟩ := own_row hown2 (by omega); have q0 := (hb2.block w.heap.size (by omega)).trans ((hb1.block w.heap.size (by omega)).trans HR0.out); have q1 := (hb2.block (w.heap.size + 1) (by omega)).trans ((hb1.block (w.heap.size + 1) (by omega)).trans HR1.out); have e0 := cell_of_row _ _ 0 _ _ _ q0; have e1 := cell_of_row _ _ 1 _ _ _ q0; have e2 := cell_of_row _ _ 2 _ _ _ q0; have e3 := cell_of_row _ _ 3 _ _ _ q0; have e4 := cell_of_row _ _ 4 _ _ _ q0; have e5 := cell_of_row _ _ 5 _ _ _ q0; have e6 : ∀ k, w2.frozen? ⟨w.heap.size, k, none⟩ = false := fun k => frozen_of_row _ _ _ _ _ q0; have Q0 := Lib.hid q0; have Q1 := Lib.hid q1; clear q0 q1)
    | (refine wpList_storeA rfl 27 _ _ rfl (w.heap.size + 1) #[.slice ao p.bs.length cap, .int .i64 p.zl, .int .i64 p.zh, .int .i64 p.rl, .int .i64 p.rh, .slice (some ⟨g1, 0, none⟩) (p.rs.length + lr.length) cap1] rfl rfl 27 _ ((Below.heap_setCell _ _ _ _ (by simp)).trans Q1.out) rfl rfl (by simp [Value.oneCell']) ?_; intro wy hyr hyk hys; have HYR := Lib.hid hyr; have HYK := Lib.hid hyk; clear hyr hyk))
  clear e0 e1 e2 e3 e4 e5 e6
  have e0 := cell_of_row _ _ 0 _ _ _ HYR.out
  have e1 := cell_of_row _ _ 1 _ _ _ HYR.out
  have e2 := cell_of_row _ _ 2 _ _ _ HYR.out
  have e3 := cell_of_row _ _ 3 _ _ _ HYR.out
  have e4 := cell_of_row _ _ 4 _ _ _ HYR.out
  have e5 := cell_of_row _ _ 5 _ _ _ HYR.out
  have hz := hb1.size
  have hz2 := hb2.size
  have hb12 : Below w.heap.size w w2 := HBA.out.trans ((hb1.mono (by omega)).trans (hb2.mono (by omega)))
  have hset := hb12.setCell (p := ⟨w.heap.size, 5, none⟩) (by simp) (.slice (some ⟨g1, 0, none⟩) (p.rs.length + lr.length) cap1)
  have hlast := hset.trans (HYK.out.below hset.size (fun k h e => by have e7 : k = w.heap.size + 1 := e; omega))
  have hsp : ReadsAt w2 (.slice (some ⟨g1, 0, none⟩) (p.rs.length + lr.length) cap1) (p.rs ++ lr) (fun k => w.heap.size + 1 + 1 ≤ k) := by
    have := readsAt_of_owns (l := p.rs ++ lr) (w := w2) (base := w.heap.size + 1 + 1) (e := 44) (v := .slice (some ⟨g1, 0, none⟩) (p.rs.length + lr.length) cap1) (by rw [List.length_append, List.flatMap_append]; exact hown2)
    exact this
  have HSP := Lib.hid hsp
  have hk := HYK.out
  have hfin := HSP.out.later (W := wy) (by have := hk.size; simp at this; omega) (fun j hj hr => (hk.block j (by simp; omega) (fun e => by have e7 : j = w.heap.size + 1 := e; have e8 : w.heap.size + 1 + 1 ≤ j := hr; omega)).trans (Below.heap_setCell _ _ _ _ (by have e8 : w.heap.size + 1 + 1 ≤ j := hr; simp; omega)))
  refine bodyPost_ret (v := .agg (pairRow p (.slice ao p.bs.length cap) (.slice (some ⟨g1, 0, none⟩) (p.rs.length + lr.length) cap1))) (by simp [results, Try.results41, go_sem, pairRow, e0, e1, e2, e3, e4, e5]) rfl ⟨⟨_, _, rfl, ⟨(HPA.out.later hlast).b, hfin.low⟩, ?_⟩, hlast⟩
  obtain ⟨q1, q2, q3, q4, q5, q6⟩ := hfin
  refine ⟨q1, q2, q3, q4, q5, fun i hi => ?_⟩
  obtain ⟨b, off, f1, f2, f3⟩ := q6 i hi
  exact ⟨b, off, f1, by omega, f3⟩
/-- The same, with less said. -/
theorem with_any (p : PairD) (bs rs : Value) (lr : List RdD) (h1 : 0 < lr.length) (h2 : lr.length ≤ 2) (h8 : p.rs.length ≤ 100) (g c : Nat) (w : World) (hpa : PairAt w p bs rs) (hg : w.heap[g]? = some (.cells (lr.flatMap rdC).toArray 44 (0, 0))) :
    Calls Try.prog 41 #[.agg (pairRow p bs rs), .slice (some ⟨g, 0, none⟩) lr.length c] w fun e w' => (∃ ao3 cap3, e = .returned (.agg (pairRow p bs (.slice ao3 (p.rs.length + lr.length) cap3))) ∧ PairAt w' (withL p lr) bs (.slice ao3 (p.rs.length + lr.length) cap3)) ∧ Below w.heap.size w w' :=
  (with_own p bs rs lr h1 h2 h8 g c w hpa hg).mono fun _ _ ⟨⟨a, b, c, d, _⟩, e⟩ => ⟨⟨a, b, c, d⟩, e⟩

end Go.Proofs.Ytlgeggekmdoceaa

/- Regions in whatever order, by an invariant. Of any program. -/
namespace Go.Proofs.Ytlgeggekmdoceaa
set_option linter.unusedVariables false
set_option linter.unusedSimpArgs false
section
variable {P : Program} {md : Region.Mode} {ops : Array Oper} {Q : Exit → Act → World → Prop}
/-- One that may come up: what it waits for has come up. -/
theorem ready_waits {i j : Nat} {listed : Array Bool} (hi : i ∈ Region.ready md ops listed) (hw : Region.waitsFor md ops i j = true) : listed.getD j false = true := by
  obtain ⟨_, o, ho, hall⟩ := mem_ready.1 hi
  obtain ⟨o', ho', e, he, hb, hon⟩ := Region.waitsFor_spec hw
  have : o' = o := Option.some.inj (ho'.symm.trans ho)
  subst this
  rw [← hon]
  exact hall e he hb
/-- By an invariant: n operations, each of which keeps it, in whatever order; then the rest. -/
theorem wpAnyH_inv {S : World → Prop} {m : Nat} (Inv : Nat → Array Bool → Act → World → Prop)
    (hstep : ∀ n listed a w, Inv (n + 1) listed a w → Region.ready md ops listed ≠ [] ∧ ∀ i ∈ Region.ready md ops listed, wpOp P ops Q i (fun a' w' => S w' ∧ Inv n (listed.setIfInBounds i true) a' w') a w)
    (hbase : ∀ listed a w, Inv 0 listed a w → wpAnyH P md ops Q S m listed a w) : ∀ n listed a w, Inv n listed a w → wpAnyH P md ops Q S (m + n) listed a w
  | 0, listed, a, w, h => hbase listed a w h
  | n + 1, listed, a, w, h => by
    obtain ⟨h1, h2⟩ := hstep n listed a w h
    exact ⟨fun h0 => absurd h0 h1, fun i hi => wpOp_mono (fun a' w' h' => ⟨h'.1, wpAnyH_inv Inv hstep hbase n _ a' w' h'.2⟩) (h2 i hi)⟩
theorem wpOp_value {i : Nat} {o : Oper} {K : Act → World → Prop} {v : Value} {a : Act} {w w' : World} (ho : ops[i]? = some o) (hg : Region.wanted o (yielded ops a.tmps) = true) (hrun : (execOp a.eval o).run P w = .ok (.value v) w') (h : K (a.put o.dst v) w') : wpOp P ops Q i K a w := by
  unfold wpOp
  rw [ho]
  simp only [hg, if_true]
  left
  unfold Oper.wp
  rw [hrun]
  exact h
theorem wpOp_enter {i : Nat} {o : Oper} {f : FuncId} {args : Array Value} {K : Act → World → Prop} {a : Act} {w : World} (ho : ops[i]? = some o) (hg : Region.wanted o (yielded ops a.tmps) = true) (hrun : (execOp a.eval o).run P w = .ok (.enter f args) w)
    (h : Calls P f args w fun
      | .returned v, w' => K (a.put o.dst v) w'
      | .panicked c, w' => Q (.panic c) a w'
      | .outgrown, _ => LetsOut Q) : wpOp P ops Q i K a w := by
  unfold wpOp
  rw [ho]
  simp only [hg, if_true]
  left
  unfold Oper.wp
  rw [hrun]
  refine h.mono fun e w' he => ?_
  cases e <;> exact he
theorem put_same (a : Act) (d : Nat) (v u : Value) : (a.put (some d) v).put (some d) u = a.put (some d) u := by simp [Act.put]
theorem put_com (a : Act) (d e : Nat) (h : d ≠ e) (v u : Value) : (a.put (some d) v).put (some e) u = (a.put (some e) u).put (some d) v :=
  Act.put_comm a v u (fun k hk he => h ((Option.some.inj hk).trans (Option.some.inj he).symm))
theorem eval_other (a : Act) (d k : Nat) (h : k ≠ d) (v : Value) : (a.put (some d) v).eval (.tmp k) = a.eval (.tmp k) :=
  Act.eval_put (fun e he hk => h ((Operand.tmp.inj hk).trans (Option.some.inj he).symm))
theorem eval_own (a : Act) (d : Nat) (h : d < a.tmps.size) (v : Value) : (a.put (some d) v).eval (.tmp d) = v := by
  simp [Act.put, Act.eval, h]
theorem frame_in {p : Act → Prop} {a : Act} (h : ∀ a1, a1 = a → p a1) : p a := h a rfl
end

end Go.Proofs.Ytlgeggekmdoceaa

/- PairMore: what the parts of its walk share. -/
namespace Go.Proofs.Ytlgeggekmdoceaa
set_option linter.unusedVariables false
set_option linter.unusedSimpArgs false
open Go.RowKit Go.Shelf
attribute [local go_sem] Oper.semAt_some

/-- What is left of a function's text behind its first statements. -/
def dropC : Nat → Code → Code
  | 0, c => c
  | n + 1, .seq _ b => dropC n b
  | _ + 1, _ => .skip
noncomputable def moreC (n : Nat) : Code := dropC n (Try.f12.body.getD .skip)
def headOf : Code → Code
  | .seq a _ => a
  | c => c
noncomputable def headC (n : Nat) : Code := headOf (moreC n)
/-- The five boxes. -/
structure B5 (q8 q9 q10 q11 q12 : Nat) (r8 r9 r10 r11 r12 : Array Value) (w : World) : Prop where
  b8 : w.heap[q8]? = some (.cells r8 27 (0, 0))
  b9 : w.heap[q9]? = some (.cells r9 27 (0, 0))
  b10 : w.heap[q10]? = some (.cells r10 27 (0, 0))
  b11 : w.heap[q11]? = some (.cells r11 27 (0, 0))
  b12 : w.heap[q12]? = some (.cells r12 27 (0, 0))
structure Q5 (n m q8 q9 q10 q11 q12 : Nat) : Prop where
  ge : n ≤ q8 ∧ n ≤ q9 ∧ n ≤ q10 ∧ n ≤ q11 ∧ n ≤ q12
  lt : q8 < m ∧ q9 < m ∧ q10 < m ∧ q11 < m ∧ q12 < m
  n8 : q8 ≠ q9 ∧ q8 ≠ q10 ∧ q8 ≠ q11 ∧ q8 ≠ q12
  n9 : q9 ≠ q10 ∧ q9 ≠ q11 ∧ q9 ≠ q12
  n10 : q10 ≠ q11 ∧ q10 ≠ q12 ∧ q11 ≠ q12
section
variable {q8 q9 q10 q11 q12 : Nat} {r8 r9 r10 r11 r12 : Array Value} {w w' : World}
theorem B5.later (h : B5 q8 q9 q10 q11 q12 r8 r9 r10 r11 r12 w) {n m : Nat} (hq : Q5 n m q8 q9 q10 q11 q12) (hb : Below m w w') : B5 q8 q9 q10 q11 q12 r8 r9 r10 r11 r12 w' :=
  ⟨(hb.block _ hq.lt.1).trans h.b8, (hb.block _ hq.lt.2.1).trans h.b9, (hb.block _ hq.lt.2.2.1).trans h.b10, (hb.block _ hq.lt.2.2.2.1).trans h.b11, (hb.block _ hq.lt.2.2.2.2).trans h.b12⟩
theorem cells_set {w : World} {g k : Nat} {v : Value} {row : Array Value} {t : TypeId} {fr : Nat × Nat} (h : w.heap[g]? = some (.cells row t fr)) : (w.setCell ⟨g, k, none⟩ v).heap[g]? = some (.cells (row.setIfInBounds k v) t fr) := by
  simp [World.setCell, Array.getElem?_modify, h]
theorem B5.set9 (h : B5 q8 q9 q10 q11 q12 r8 r9 r10 r11 r12 w) {n m : Nat} (hq : Q5 n m q8 q9 q10 q11 q12) (k : Nat) (v : Value) : B5 q8 q9 q10 q11 q12 r8 (r9.setIfInBounds k v) r10 r11 r12 (w.setCell ⟨q9, k, none⟩ v) :=
  ⟨(Below.heap_setCell _ _ _ _ (by have := hq.n8; dsimp only; omega)).trans h.b8, cells_set h.b9, (Below.heap_setCell _ _ _ _ (by have := hq.n9; dsimp only; omega)).trans h.b10, (Below.heap_setCell _ _ _ _ (by have := hq.n9; dsimp only; omega)).trans h.b11, (Below.heap_setCell _ _ _ _ (by have := hq.n9; dsimp only; omega)).trans h.b12⟩
theorem B5.set10 (h : B5 q8 q9 q10 q11 q12 r8 r9 r10 r11 r12 w) {n m : Nat} (hq : Q5 n m q8 q9 q10 q11 q12) (k : Nat) (v : Value) : B5 q8 q9 q10 q11 q12 r8 r9 (r10.setIfInBounds k v) r11 r12 (w.setCell ⟨q10, k, none⟩ v) :=
  ⟨(Below.heap_setCell _ _ _ _ (by have := hq.n8; dsimp only; omega)).trans h.b8, (Below.heap_setCell _ _ _ _ (by have := hq.n9; dsimp only; omega)).trans h.b9, cells_set h.b10, (Below.heap_setCell _ _ _ _ (by have := hq.n10; dsimp only; omega)).trans h.b11, (Below.heap_setCell _ _ _ _ (by have := hq.n10; dsimp only; omega)).trans h.b12⟩
theorem B5.set11 (h : B5 q8 q9 q10 q11 q12 r8 r9 r10 r11 r12 w) {n m : Nat} (hq : Q5 n m q8 q9 q10 q11 q12) (k : Nat) (v : Value) : B5 q8 q9 q10 q11 q12 r8 r9 r10 (r11.setIfInBounds k v) r12 (w.setCell ⟨q11, k, none⟩ v) :=
  ⟨(Below.heap_setCell _ _ _ _ (by have := hq.n8; dsimp only; omega)).trans h.b8, (Below.heap_setCell _ _ _ _ (by have := hq.n9; dsimp only; omega)).trans h.b9, (Below.heap_setCell _ _ _ _ (by have := hq.n10; dsimp only; omega)).trans h.b10, cells_set h.b11, (Below.heap_setCell _ _ _ _ (by have := hq.n10; dsimp only; omega)).trans h.b12⟩
theorem B5.set12 (h : B5 q8 q9 q10 q11 q12 r8 r9 r10 r11 r12 w) {n m : Nat} (hq : Q5 n m q8 q9 q10 q11 q12) (k : Nat) (v : Value) : B5 q8 q9 q10 q11 q12 r8 r9 r10 r11 (r12.setIfInBounds k v) (w.setCell ⟨q12, k, none⟩ v) :=
  ⟨(Below.heap_setCell _ _ _ _ (by have := hq.n8; dsimp only; omega)).trans h.b8, (Below.heap_setCell _ _ _ _ (by have := hq.n9; dsimp only; omega)).trans h.b9, (Below.heap_setCell _ _ _ _ (by have := hq.n10; dsimp only; omega)).trans h.b10, (Below.heap_setCell _ _ _ _ (by have := hq.n10; dsimp only; omega)).trans h.b11, cells_set h.b12⟩
theorem Below.set {n : Nat} {w0 : World} (h : Below n w0 w) {g : Nat} (hg : n ≤ g) (k : Nat) (v : Value) : Below n w0 (w.setCell ⟨g, k, none⟩ v) := h.setCell (p := ⟨g, k, none⟩) hg v
theorem cell_set_self {w : World} {g k : Nat} {u v : Value} (h : w.cell? ⟨g, k, none⟩ = some u) : (w.setCell ⟨g, k, none⟩ v).cell? ⟨g, k, none⟩ = some v := by
  unfold World.cell? at h ⊢
  cases hh : w.heap[g]? with
  | none => rw [hh] at h; simp at h
  | some ob =>
    cases ob with
    | cells row t fr =>
      rw [hh] at h
      have hk : k < row.size := (Array.getElem?_eq_some_iff.1 h).1
      rw [cells_set hh]
      show (row.setIfInBounds k v)[k]? = some v
      simp [hk]
    | _ => rw [hh] at h; simp at h
theorem cell_set_other {w : World} {g k : Nat} {v : Value} {a : Addr} (h : a ≠ ⟨g, k, none⟩) : (w.setCell ⟨g, k, none⟩ v).cell? a = w.cell? a := World.cell?_setCell_other w _ a v (fun e => h e.symm)
/-- One end of one reading is another one. -/
theorem nar_reads {g cap i : Nat} {rs : List RdD} {Rd : Nat → Prop} (h : ReadsAt w (.slice (some ⟨g, 0, none⟩) rs.length cap) rs Rd) (hi : i < rs.length) (f : RdD → Int) :
    ReadsAt (w.setCell ⟨g, i * 5 + 3, none⟩ (.int .i64 (f rs[i]))) (.slice (some ⟨g, 0, none⟩) (rs.modify i fun r => { r with lo := f r }).length cap) (rs.modify i fun r => { r with lo := f r }) Rd := by
  obtain ⟨ao, cap', h1, h2, h3, h4⟩ := h
  injection h1 with h1a h1b h1c
  subst h1a h1c
  refine ⟨_, cap, rfl, by rw [List.length_modify]; exact h2, h3, fun j hj => ?_⟩
  have hj' : j < rs.length := by rw [List.length_modify] at hj; exact hj
  obtain ⟨b, off, e1, e2, e3, e4, e5, e6, e7, e8⟩ := h4 j hj'
  have e1 := Option.some.inj e1
  have eb : b = g := (congrArg Addr.block e1).symm
  have eo : off = 0 := (congrArg (fun x : Addr => x.off) e1).symm
  subst eb eo
  rw [List.getElem_modify]
  have hne : ∀ k, k ≠ i * 5 + 3 → ∀ u, w.cell? ⟨b, k, none⟩ = some u → (w.setCell ⟨b, i * 5 + 3, none⟩ (.int .i64 (f rs[i]))).cell? ⟨b, k, none⟩ = some u := fun k hk u hu => (cell_set_other (by intro e; injection e with _ e; exact hk e)).trans hu
  refine ⟨b, 0, rfl, e2, by simpa using e3, ?_⟩
  split
  · rename_i hij
    subst hij
    refine ⟨hne _ (by omega) _ e4, hne _ (by omega) _ e5, hne _ (by omega) _ e6, ?_, hne _ (by omega) _ e8⟩
    rw [show 0 + i * 5 + 3 = i * 5 + 3 by omega] at e7 ⊢
    exact cell_set_self e7
  · refine ⟨hne _ (by omega) _ e4, hne _ (by omega) _ e5, hne _ (by omega) _ e6, hne _ (by omega) _ e7, hne _ (by omega) _ e8⟩
end
theorem own_anyM {w : World} {base : Nat} {e : TypeId} {size : Nat} {v : Value} {n : Nat} {xs : List Value} (h : w.ownsRow base e size v n xs) : ∃ ao cap, v = .slice ao n cap := by
  rcases h.2 with ⟨h1, h2⟩ | ⟨g, cap, cur, h1, _⟩
  · exact ⟨none, 0, by rw [h1, h2]⟩
  · exact ⟨_, cap, h1⟩
theorem own_thruM {w W : World} {base b1 : Nat} {e : TypeId} {size : Nat} {v : Value} {n : Nat} {xs : List Value} (h : w.ownsRow base e size v n xs) (hk : Keeps (fun k => k = b1) w W) (hb : b1 < base) : W.ownsRow base e size v n xs := by
  obtain ⟨h1, h2⟩ := h
  exact ⟨h1, h2.imp id (fun ⟨g, cap, cur, a, b, c, d⟩ => ⟨g, cap, cur, a, b, (hk.block g (lt_of_block c) (by omega)).trans c, d⟩)⟩
theorem ReadsAt.rdM {W : World} {v : Value} {l : List RdD} {Rd Rd' : Nat → Prop} (h : ReadsAt W v l Rd) (hr : ∀ k, k < W.heap.size → Rd k → Rd' k) : ReadsAt W v l Rd' := by
  obtain ⟨ao, cap, h1, h2, h3, h4⟩ := h
  exact ⟨ao, cap, h1, h2, h3, fun i hi => by obtain ⟨b, off, e1, e2, e3⟩ := h4 i hi; exact ⟨b, off, e1, hr _ e3.1 e2, e3⟩⟩
/-- Two cells of a row. -/
def S2c (g k : Nat) (lo hi : Int) (w' : World) : Prop := w'.cell? ⟨g, k + 3, none⟩ = some (.int .i64 lo) ∧ w'.cell? ⟨g, k + 4, none⟩ = some (.int .i64 hi)
/-- Not one of the boxes. -/
def R5 (q8 q9 q10 q11 q12 : Nat) : Nat → Prop := fun k => k ≠ q8 ∧ k ≠ q9 ∧ k ≠ q10 ∧ k ≠ q11 ∧ k ≠ q12
theorem SpansAt.elemsM {W0 : World} {ao : Option Addr} {cap : Nat} {bs : List (Int × Int)} {Rd : Nat → Prop} (h : SpansAt W0 (.slice ao bs.length cap) bs Rd) (h0 : 0 < bs.length) :
    ∃ bb off, ao = some ⟨bb, off, none⟩ ∧ bb < W0.heap.size ∧ ∀ W' : World, W'.heap[bb]? = W0.heap[bb]? → ∀ i (hi : i < bs.length), W'.cell? ⟨bb, off + i * 2, none⟩ = some (.int .i64 bs[i].1) ∧ W'.cell? ⟨bb, off + i * 2 + 1, none⟩ = some (.int .i64 bs[i].2) := by
  obtain ⟨ao', cap', e1, _, _, h4⟩ := h
  have e3 : ao = ao' := by injection e1
  obtain ⟨bb, off, e2, _, hb, _⟩ := h4 0 h0
  refine ⟨bb, off, e3.trans e2, hb, fun W' hbw i hi => ?_⟩
  obtain ⟨b2, o2, f2, _, hb2, f3, f4⟩ := h4 i hi
  have f7 := Option.some.inj (e2.symm.trans f2)
  have fb : b2 = bb := (congrArg Addr.block f7).symm
  have fo : o2 = off := (congrArg (fun x : Addr => x.off) f7).symm
  subst fb fo
  exact ⟨(World.cell?_of_block (w := W0) (a := ⟨b2, o2 + i * 2, none⟩) hbw).trans f3, (World.cell?_of_block (w := W0) (a := ⟨b2, o2 + i * 2 + 1, none⟩) hbw).trans f4⟩
theorem own_posM {w : World} {base : Nat} {e : TypeId} {size : Nat} {v : Value} {n : Nat} {xs : List Value} (h : w.ownsRow base e size v (n + 1) xs) : ∃ g cap, v = .slice (some ⟨g, 0, none⟩) (n + 1) cap := own_pos h
/-- All is as it was, but for what three slices own. -/
def Old3 (zb tb ub : Value) (a W : World) : Prop := a.heap.size ≤ W.heap.size ∧ ∀ g, g < a.heap.size → zb.ownBlock ≠ some g → tb.ownBlock ≠ some g → ub.ownBlock ≠ some g → W.heap[g]? = a.heap[g]?
theorem Old3.refl (zb tb ub : Value) (a : World) : Old3 zb tb ub a a := ⟨Nat.le_refl _, fun _ _ _ _ _ => rfl⟩
theorem Old3.below {zb tb ub : Value} {a W W' : World} (h : Old3 zb tb ub a W) (hb : Below W.heap.size W W') : Old3 zb tb ub a W' :=
  ⟨Nat.le_trans h.1 hb.size, fun g h1 h2 h3 h4 => (hb.block g (by have := h.1; omega)).trans (h.2 g h1 h2 h3 h4)⟩
theorem Old3.grown {zb tb ub v : Value} {a W W' : World} (h : Old3 zb tb ub a W) (hg : W.grownBy W' v.ownBlock) (hv : v = zb ∨ v = tb ∨ v = ub) : Old3 zb tb ub a W' := by
  refine ⟨Nat.le_trans h.1 hg.size, fun g h1 h2 h3 h4 => (hg.block g (by have := h.1; omega) (fun e => ?_)).trans (h.2 g h1 h2 h3 h4)⟩
  rcases hv with rfl | rfl | rfl
  · exact h2 e.symm
  · exact h3 e.symm
  · exact h4 e.symm
/-- Two slices own nothing in common. -/
def Dis (v v' : Value) : Prop := ∀ k, v.ownBlock = some k → v'.ownBlock ≠ some k
theorem Dis.symm {v v' : Value} (h : Dis v v') : Dis v' v := fun k h1 h2 => h k h2 h1
theorem Dis.sep {v v' : Value} (h : Dis v v') : v.ownBlock = none ∨ v.ownBlock ≠ v'.ownBlock := by
  cases e : v.ownBlock with
  | none => exact .inl rfl
  | some k => exact .inr (fun h' => h k e h'.symm)
theorem Dis.next {v v' z : Value} {n : Nat} (h : Dis z v) (hat : v'.ownBlock = v.ownBlock ∨ v'.ownBlock = some n) (hz : ∀ k, z.ownBlock = some k → k < n) : Dis z v' := by
  intro k h1 h2
  rcases hat with e | e
  · exact h k h1 (e.symm.trans h2)
  · have h3 := hz k h1
    rw [e] at h2
    injection h2 with h2
    omega

theorem rev_at (p : PairD) (j : Nat) (hj : j < (revP p).bs.length) (h : j < p.bs.length) : (revP p).bs[j] = p.bs[p.bs.length - 1 - j]'(by omega) := by simp [revP]
theorem shift_at (p : PairD) (k : Int) (j : Nat) (hj : j < (shiftP p k).bs.length) (h : j < p.bs.length) : (shiftP p k).bs[j] = (p.bs[j].1 + k, p.bs[j].2 + k) := by simp [shiftP]
theorem neg_at (p : PairD) (j : Nat) (hj : j < (negP p).bs.length) (h : j < p.bs.length) : (negP p).bs[j] = (-p.bs[j].2, -p.bs[j].1) := by simp [negP]
theorem at_eq (l : List (Int × Int)) (a b : Nat) (h : a = b) (ha : a < l.length) (hb : b < l.length) : l[a] = l[b] := by subst h; rfl

/-! ### what is told, as calls -/
section
variable {q : PairD} {bs rs : Value} {c1 c2 er : Int}
theorem says_known {x : Int} (h : knownV q x = ((c1, c2), er)) : Gives q bs rs 15 [.int .i64 x] (.tuple #[.agg #[.int .i64 c1, .int .i64 c2], .int .i64 er]) := fun W hp => by
  have := knownV_any hp x; rw [h] at this; exact this
theorem says_differ {x y : Int} (h : differV q x y = ((c1, c2), er)) : Gives q bs rs 17 [.int .i64 x, .int .i64 y] (.tuple #[.agg #[.int .i64 c1, .int .i64 c2], .int .i64 er]) := fun W hp => by
  have := differV_any hp x y; rw [h] at this; exact this
theorem says_shows {m : Int} (h : showsV q m = ((c1, c2), er)) : Gives q bs rs 19 [.int .i64 m] (.tuple #[.agg #[.int .i64 c1, .int .i64 c2], .int .i64 er]) := fun W hp => by
  have := showsV_any hp m; rw [h] at this; exact this
theorem says_wrong (h : wrongV q = ((c1, c2), er)) : Gives q bs rs 27 [] (.tuple #[.int .i64 c1, .int .i64 c2, .int .i64 er]) := fun W hp => by
  have := wrongV_any hp; rw [h] at this; exact this
end
theorem BoxL.put {b : Nat} {x y : Int} {l : List (Nat × Int × Int)} {w0 w : World} (h : BoxL ((b, x, y) :: l) w0 w) (hb : w0.heap.size ≤ b) (hne : ∀ c ∈ l, c.1 ≠ b) (x' y' : Int) : BoxL ((b, x', y') :: l) w0 ((w.setCell ⟨b, 0, none⟩ (.int .i64 x')).setCell ⟨b, 1, none⟩ (.int .i64 y')) := by
  refine ⟨fun c hc => ?_, (h.2.setCell (p := ⟨b, 0, none⟩) hb _).setCell (p := ⟨b, 1, none⟩) hb _⟩
  rcases List.mem_cons.1 hc with rfl | hc
  · exact two_setCell (h.1 _ (List.mem_cons_self ..))
  · have := h.1 c (List.mem_cons_of_mem _ hc)
    exact (Below.heap_setCell _ _ _ _ (hne c hc)).trans ((Below.heap_setCell _ _ _ _ (hne c hc)).trans this)

end Go.Proofs.Ytlgeggekmdoceaa
