/- Texts Pd, Th, Tj in one file; each begins with a word on what it proves. -/
import Derived.Test.YtlgeggekmdoceaaKk

/- What PairEnds says (plain). -/
namespace Go.Proofs.Ytlgeggekmdoceaa
set_option linter.unusedVariables false
set_option linter.unusedSimpArgs false

/-- The pair in which a deviation is known. -/
def atB (p : PairD) (a : Nat) (k : Int) : PairD := { p with bs := p.bs.set a (k, k) }
section
variable {p : PairD} (hv : validB p = true) {a : Nat} (ha : a < p.bs.length) {k : Int} (hk : p.bs[a].1 ≤ k ∧ k ≤ p.bs[a].2)
include hv ha hk
theorem atB_valid : validB (atB p a k) = true := by
  have hp := OkP.of p hv
  have hb := hp.bs _ (List.getElem_mem ha)
  unfold validB at hv ⊢
  rw [Bool.and_eq_true, Bool.and_eq_true, Bool.and_eq_true] at hv ⊢
  obtain ⟨⟨⟨h1, h2⟩, h3⟩, h4⟩ := hv
  refine ⟨⟨⟨?_, ?_⟩, h3⟩, ?_⟩
  · unfold okHead atB at *
    dsimp only
    rw [List.length_set]
    exact h1
  · rw [List.all_eq_true] at h2 ⊢
    intro s hs
    rcases List.mem_or_eq_of_mem_set hs with h | h
    · exact h2 s h
    · rw [h]
      unfold okSp okSpan
      rw [decide_eq_true_eq]
      dsimp only
      omega
  · unfold atB
    dsimp only
    rw [List.length_set]
    exact h4
theorem mem_truA_atB (t : List Int × (Int × Int)) : t ∈ truA (atB p a k) ↔ t ∈ truA p ∧ t.1.getD a 0 = k := by
  rw [mem_truA (OkP.of _ (atB_valid hv ha hk)), mem_truA (OkP.of p hv)]
  have hlen : (atB p a k).bs.length = p.bs.length := List.length_set
  have e : ∀ (i : Nat) (hi : i < (atB p a k).bs.length) (hi' : i < p.bs.length), (atB p a k).bs[i] = if a = i then (k, k) else p.bs[i] := fun i hi hi' => List.getElem_set hi
  have hT : TruthP (atB p a k) (allR (atB p a k)) t.2 (fun i => t.1.getD i 0) ↔ TruthP p (allR p) t.2 (fun i => t.1.getD i 0) ∧ t.1.getD a 0 = k := by
    constructor
    · intro h
      have h2 : t.1.getD a 0 = k := by
        have := h.bs a (by omega)
        rw [e a (by omega) ha, if_pos rfl] at this
        dsimp only at this
        omega
      refine ⟨⟨h.mark, fun i hi => ?_, h.rs⟩, h2⟩
      by_cases he : a = i
      · subst he
        show p.bs[a].1 ≤ t.1.getD a 0 ∧ t.1.getD a 0 ≤ p.bs[a].2
        rw [h2]; exact hk
      · have := h.bs i (by omega)
        rw [e i (by omega) hi, if_neg he] at this
        exact this
    · rintro ⟨h, h2⟩
      refine ⟨h.mark, fun i hi => ?_, h.rs⟩
      rw [e i hi (by omega)]
      by_cases he : a = i
      · subst he
        rw [if_pos rfl]
        show k ≤ t.1.getD a 0 ∧ t.1.getD a 0 ≤ k
        rw [h2]
        exact ⟨Int.le_refl _, Int.le_refl _⟩
      · rw [if_neg he]
        exact h.bs i (by omega)
  rw [hT]
  show t.2 ∈ comps p.zl p.zh p.rl p.rh ∧ t.1.length = (p.bs.set a (k, k)).length ∧ _ ↔ _
  rw [List.length_set]
  constructor
  · rintro ⟨h1, h2, h3, h4⟩
    exact ⟨⟨h1, h2, h3⟩, h4⟩
  · rintro ⟨⟨h1, h2, h3⟩, h4⟩
    exact ⟨h1, h2, h3, h4⟩
end
/-- What the loop holds when the deviations less than k have been looked at. -/
structure EnI (p : PairD) (a b : Nat) (k lo hi : Int) : Prop where
  all : ∀ t ∈ truA p, t.1.getD a 0 < k → lo ≤ dif a b t ∧ dif a b t ≤ hi
  l : lo = 80 ∨ ∃ t ∈ truA p, dif a b t = lo
  h : hi = -80 ∨ ∃ t ∈ truA p, dif a b t = hi
theorem EnI.start {p : PairD} (hv : validB p = true) {a : Nat} (ha : a < p.bs.length) (b : Nat) : EnI p a b p.bs[a].1 80 (-80) :=
  ⟨fun t ht hk => by have := truA_at (OkP.of p hv) ht a ha; omega, .inl rfl, .inl rfl⟩
theorem dif_mark {p : PairD} (hp : OkP p) {t : List Int × (Int × Int)} (ht : t ∈ truA p) {b : Nat} : dif b 5 t = t.1.getD b 0 := by
  unfold dif
  rw [truA_out hp ht 5 hp.n5]
  omega
section
variable {p : PairD} (hv : validB p = true) {a b : Nat} (ha : a < p.bs.length) {k lo hi : Int} (hk : p.bs[a].1 ≤ k ∧ k ≤ p.bs[a].2)
include hv ha hk
theorem EnI.skip (h : EnI p a b k lo hi) (hn : truA (atB p a k) = []) : EnI p a b (k + 1) lo hi := ⟨fun t ht hd => by
  by_cases he : t.1.getD a 0 = k
  · have := (mem_truA_atB hv ha hk t).2 ⟨ht, he⟩
    rw [hn] at this
    exact absurd this (by simp)
  · exact h.all t ht (by omega), h.l, h.h⟩
theorem EnI.take (h : EnI p a b k lo hi) (hn : truA (atB p a k) ≠ []) : EnI p a b (k + 1) (min lo (k - (hullD (atB p a k) b 5).2)) (max hi (k - (hullD (atB p a k) b 5).1)) := by
  have hs := hullD_spec hn b 5
  have hpb := OkP.of _ (atB_valid hv ha hk)
  obtain ⟨⟨t1, m1, e1⟩, ⟨t2, m2, e2⟩, hall⟩ := hs
  generalize hullD (atB p a k) b 5 = S at *
  rw [dif_mark hpb m1] at e1
  rw [dif_mark hpb m2] at e2
  have n1 := (mem_truA_atB hv ha hk t1).1 m1
  have n2 := (mem_truA_atB hv ha hk t2).1 m2
  refine ⟨fun t ht hd => ?_, ?_, ?_⟩
  · by_cases he : t.1.getD a 0 = k
    · have hm := (mem_truA_atB hv ha hk t).2 ⟨ht, he⟩
      have := hall t hm
      rw [dif_mark hpb hm] at this
      unfold dif
      omega
    · have := h.all t ht (by omega)
      omega
  · rcases Int.le_total lo (k - S.2) with q | q
    · rw [Int.min_eq_left q]; exact h.l
    · rw [Int.min_eq_right q]
      exact .inr ⟨t2, n2.1, by unfold dif; omega⟩
  · rcases Int.le_total (k - S.1) hi with q | q
    · rw [Int.max_eq_left q]; exact h.h
    · rw [Int.max_eq_right q]
      exact .inr ⟨t1, n1.1, by unfold dif; omega⟩
theorem ends_yes (hn : truA (atB p a k) ≠ []) : (hullD p a 5).1 ≤ k ∧ k ≤ (hullD p a 5).2 := by
  obtain ⟨u, l, e⟩ := List.exists_cons_of_ne_nil hn
  obtain ⟨hu, hu2⟩ := (mem_truA_atB hv ha hk u).1 (by rw [e]; exact List.mem_cons_self)
  have hne : truA p ≠ [] := by intro h0; rw [h0] at hu; exact absurd hu (by simp)
  have := (hullD_spec hne a 5).all u hu
  rw [dif_mark (OkP.of p hv) hu] at this
  omega
theorem ends_no (hne : truA p ≠ []) (hn : truA (atB p a k) = []) : k ≠ (hullD p a 5).1 ∧ k ≠ (hullD p a 5).2 := by
  obtain ⟨⟨t1, m1, e1⟩, ⟨t2, m2, e2⟩, _⟩ := hullD_spec hne a 5
  rw [dif_mark (OkP.of p hv) m1] at e1
  rw [dif_mark (OkP.of p hv) m2] at e2
  constructor
  · intro h
    have := (mem_truA_atB hv ha hk t1).2 ⟨m1, by omega⟩
    rw [hn] at this; exact absurd this (by simp)
  · intro h
    have := (mem_truA_atB hv ha hk t2).2 ⟨m2, by omega⟩
    rw [hn] at this; exact absurd this (by simp)
end
theorem EnI.ends {p : PairD} (hv : validB p = true) (hne : truA p ≠ []) {a b : Nat} (ha : a < p.bs.length) {k lo hi : Int} (h : EnI p a b k lo hi) (hk : p.bs[a].2 < k) : hullD p a b = (lo, hi) := by
  have hp := OkP.of p hv
  have hall : ∀ t ∈ truA p, lo ≤ dif a b t ∧ dif a b t ≤ hi := fun t ht => h.all t ht (by have := truA_at hp ht a ha; omega)
  obtain ⟨u, l, e⟩ := List.exists_cons_of_ne_nil hne
  have hu : u ∈ truA p := by rw [e]; exact List.mem_cons_self
  have h1 := hall u hu
  have h2 := truA_20 hp hu a
  have h3 := truA_20 hp hu b
  have h4 : dif a b u = u.1.getD a 0 - u.1.getD b 0 := rfl
  refine (hullD_spec hne a b).eq ⟨?_, ?_, hall⟩
  · rcases h.l with q | q
    · omega
    · exact q
  · rcases h.h with q | q
    · omega
    · exact q

end Go.Proofs.Ytlgeggekmdoceaa

/- The laws' function at: a pair in which a deviation is known. -/
namespace Go.Proofs.Ytlgeggekmdoceaa
set_option linter.unusedVariables false
set_option linter.unusedSimpArgs false
open Go.RowKit Go.Shelf
attribute [local go_sem] Oper.semAt_some

theorem wp_store_at {P : Program} {o : Oper} {a : Act} {w : World} {K : Act → World → Prop} {Q : Exit → Act → World → Prop} (ty : TypeId) (x y : Operand) (ho : o.op = .store ty x y)
    (g off : Nat) (cells : Array Value) (hx : a.eval x = .pointer (some ⟨g, off, none⟩)) (hy : a.eval y = .agg cells)
    (t : TypeId) (cur : Array Value) (hg : w.heap[g]? = some (.cells cur t (0, 0))) (hi : (P.info? ty).map (·.size) = some cells.size)
    (hfit : off + cells.size ≤ cur.size) (h1 : cells.all (·.oneCell') = true)
    (h : ∀ w' cur', Seg cur cur' off cells.toList → w'.heap[g]? = some (.cells cur' t (0, 0)) → Keeps (fun k => k = g) w w' → w'.heap.size = w.heap.size → K (a.put o.dst undef) w') : o.wp P a w K Q := by
  unfold Oper.wp
  rw [run_store_at ty x y ho g off cells hx hy t cur hg hi hfit h1]
  exact h _ _ (seg_of cur off cells.toList (by simpa using hfit)) (setRow_heap _ _ _ _ _ _ hg) (keeps_setRow _ _ _) (by simp)
/-- An append of many to an own row. -/
theorem wpList_append_m {P : Program} {ops : Array Oper} {rest : List Oper} {o : Oper} {a : Act} {w : World} {Q : Exit → Act → World → Prop} (hgd : o.guard = none) (s x : Operand) (t : TypeId)
    (ho : o.op = .call { callee := .builtin .append, args := #[s, x], argTypes := #[t, t] })
    (base : Nat) (e : TypeId) (size bytes : Nat) (z : Value) (ht : P.underlying t = some (.slice e)) (hinfo : (P.info? e).map (fun i => (i.zero, i.size, i.bytes)) = some (some z, size, bytes)) (hzs : z.cells.size = size) (hsz : 0 < size)
    (v : Value) (n : Nat) (xs : List Value) (hs : a.eval s = v) (hown : w.ownsRow base e size v n xs)
    (ad : Addr) (m c : Nat) (news : List Value) (hx : a.eval x = .slice (some ad) m c) (hl : news.length = m * size) (hnews : ∀ (j : Nat) u, news[j]? = some u → w.cell? (ad.add j) = some u) (h1 : ∀ u ∈ news, u.oneCell' = true)
    (h63 : n + m ≤ 1000001) (hbytes : bytes ≤ 1000) (hbase : base ≤ w.heap.size)
    (h : ∀ v' w', w'.ownsRow base e size v' (n + m) (xs ++ news) → w.grownBy w' v.ownBlock → Below base w w' → wpList P ops Q rest (a.put o.dst v') w') : wpList P ops Q (o :: rest) a w := by
  obtain ⟨i, hi, hz, hsize, hby⟩ := info_parts hinfo
  refine wpList_append_own w hgd s x t ho base e i z size bytes ht hi hz hsize hby hzs hsz v n xs hs hown ad m c news hx hl hnews h1 (by unfold maxLen; omega) ?_ hbase ?_
  · have h2 : (n + m) * bytes ≤ 1000001 * 1000 := Nat.mul_le_mul h63 hbytes
    omega
  · intro v' w' hown' hgrow _
    exact h v' w' hown' hgrow ((Below.refl _ _).grown hgrow hbase (own_base hown))
theorem spC_length : ∀ (l : List (Int × Int)), (l.flatMap spC).length = l.length * 2
  | [] => rfl
  | r :: l => by rw [List.flatMap_cons, List.length_append, spC_length l, List.length_cons]; simp [spC]; omega
theorem spC_ones (l : List (Int × Int)) : ∀ u ∈ l.flatMap spC, u.oneCell' = true := by
  intro u hu
  obtain ⟨s, _, hs⟩ := List.mem_flatMap.1 hu
  simp [spC] at hs
  rcases hs with rfl | rfl <;> rfl
/-- The cells of a slice of spans. -/
theorem SpansAt.news {W : World} {b off cap : Nat} {l : List (Int × Int)} {Rd : Nat → Prop} (h : SpansAt W (.slice (some ⟨b, off, none⟩) l.length cap) l Rd) : ∀ (j : Nat) u, (l.flatMap spC)[j]? = some u → W.cell? ((⟨b, off, none⟩ : Addr).add j) = some u := by
  intro j u hu
  have hj : j < l.length * 2 := by rw [← spC_length]; exact (List.getElem?_eq_some_iff.1 hu).1
  obtain ⟨ao, cap', h1, _, _, h4⟩ := h
  obtain ⟨b', off', e1, _, _, e2, e3⟩ := h4 (j / 2) (by omega)
  have e0 : some (⟨b, off, none⟩ : Addr) = ao := by injection h1
  rw [e1] at e0
  have e0 := Option.some.inj e0
  have eb : b = b' := congrArg Addr.block e0
  have eo : off = off' := congrArg Addr.off e0
  subst eb eo
  have hf := flat_len spC 2 (fun _ => rfl) l (j / 2) (j % 2) (by omega) (by omega)
  rw [show j / 2 * 2 + j % 2 = j by omega, hu] at hf
  rw [show ((⟨b, off, none⟩ : Addr).add j) = ⟨b, off + j, none⟩ by simp [Addr.add]]
  rcases Nat.mod_two_eq_zero_or_one j with h0 | h0
  · rw [h0] at hf
    rw [hf, show off + j = off + j / 2 * 2 by omega, e2]
    rfl
  · rw [h0] at hf
    rw [hf, show off + j = off + j / 2 * 2 + 1 by omega, e3]
    rfl
/-- Spans in a row, from its beginning. -/
theorem spansAt_of_row {w : World} {g cap : Nat} {t : TypeId} {cur : Array Value} {l : List (Int × Int)} (h : w.heap[g]? = some (.cells cur t (0, 0))) (hc : l.length ≤ cap) (hm : cap ≤ maxLen) (hr : ∀ i (hi : i < l.length), cur[i * 2]? = some (.int .i64 l[i].1) ∧ cur[i * 2 + 1]? = some (.int .i64 l[i].2)) : SpansAt w (.slice (some ⟨g, 0, none⟩) l.length cap) l (fun k => k = g) := by
  refine ⟨_, cap, rfl, hc, hm, fun i hi => ⟨g, 0, rfl, rfl, lt_of_block h, ?_⟩⟩
  have := hr i hi
  rw [Nat.zero_add]
  exact ⟨by rw [cell_of_row _ _ _ _ _ _ h]; exact this.1, by rw [cell_of_row _ _ _ _ _ _ h]; exact this.2⟩
theorem SpansAt.pos {W : World} {v : Value} {l : List (Int × Int)} {Rd : Nat → Prop} (h : SpansAt W v l Rd) (h0 : 0 < l.length) : ∃ b off cap, v = .slice (some ⟨b, off, none⟩) l.length cap ∧ b < W.heap.size := by
  obtain ⟨ao, cap, h1, _, _, h4⟩ := h
  obtain ⟨b, off, e1, _, hb, _⟩ := h4 0 h0
  exact ⟨b, off, cap, by rw [h1, e1], hb⟩
theorem underSpans : Try.prog.underlying 22 = some (.slice 24) := by kernel_rfl
theorem infoSpans : (Try.prog.info? 24).map (fun i => (i.zero, i.size, i.bytes)) = some (some (.agg #[.int .i64 0, .int .i64 0]), 2, 16) := by kernel_rfl
theorem own_none {w : World} {base g : Nat} {e : TypeId} {size : Nat} (h : w.heap[g]? = some (.cells #[] e (0, 0))) (hb : base ≤ g) : w.ownsRow base e size (.slice (some ⟨g, 0, none⟩) 0 0) 0 [] :=
  ⟨by simp, .inr ⟨g, 0, #[], rfl, hb, h, Nat.le_refl _, by simp, by simp, by simp⟩⟩
theorem own_row {w : World} {base : Nat} {e : TypeId} {size : Nat} {v : Value} {n : Nat} {xs : List Value} (h : w.ownsRow base e size v n xs) (h0 : 0 < n) :
    ∃ g cap cur, v = .slice (some ⟨g, 0, none⟩) n cap ∧ base ≤ g ∧ w.heap[g]? = some (.cells cur e (0, 0)) ∧ n ≤ cap ∧ cap ≤ maxLen ∧ cur.size = cap * size ∧ cur.toList.take (n * size) = xs := by
  rcases h.2 with h1 | h1
  · omega
  · exact h1
theorem six_setCell {w : World} {b : Nat} {a0 a1 a2 a3 a4 a5 x : Value} {t : TypeId} {fr : Nat × Nat} (h : w.heap[b]? = some (.cells #[a0, a1, a2, a3, a4, a5] t fr)) : (w.setCell ⟨b, 0, none⟩ x).heap[b]? = some (.cells #[x, a1, a2, a3, a4, a5] t fr) := by
  simp [World.setCell, Array.getElem?_modify, h]
theorem duo_setCell {w : World} {b o : Nat} {cur : Array Value} {x y : Value} {t : TypeId} {fr : Nat × Nat} (h : w.heap[b]? = some (.cells cur t fr)) (ho : o + 1 < cur.size) :
    ∃ cur', ((w.setCell ⟨b, o, none⟩ x).setCell ⟨b, o + 1, none⟩ y).heap[b]? = some (.cells cur' t fr) ∧ cur'.size = cur.size ∧ cur'[o]? = some x ∧ cur'[o + 1]? = some y ∧ ∀ j, j ≠ o → j ≠ o + 1 → cur'[j]? = cur[j]? := by
  refine ⟨(cur.setIfInBounds o x).setIfInBounds (o + 1) y, by simp [World.setCell, Array.getElem?_modify, h], by simp, ?_, ?_, fun j h1 h2 => ?_⟩
  · rw [Array.getElem?_setIfInBounds_ne (by omega), Array.getElem?_setIfInBounds_self_of_lt (by omega)]
  · rw [Array.getElem?_setIfInBounds_self_of_lt (by simp; omega)]
  · rw [Array.getElem?_setIfInBounds_ne (by omega), Array.getElem?_setIfInBounds_ne (by omega)]
theorem row_spans {cur : Array Value} {l : List (Int × Int)} (h : cur.toList.take (l.length * 2) = l.flatMap spC) (i q : Nat) (hi : i < l.length) (hq : q < 2) : cur[i * 2 + q]? = (spC l[i])[q]? := by
  rw [← flat_len spC 2 (fun _ => rfl) l i q hi hq, ← h, List.getElem?_take_of_lt (by omega), Array.getElem?_toList]
set_option maxRecDepth 100000 in
set_option maxHeartbeats 2000000 in
theorem at_any (p : PairD) (bs rs : Value) (a : Nat) (ha : a < p.bs.length) (hn5 : p.bs.length ≤ 5) (k : Int) (w : World) (hpa : PairAt w p bs rs) :
    Calls Try.prog 40 #[.agg (pairRow p bs rs), .int .i64 a, .int .i64 k] w fun e w' => (∃ ao3 cap3, e = .returned (.agg (pairRow p (.slice ao3 p.bs.length cap3) rs)) ∧ PairAt w' (atB p a k) (.slice ao3 p.bs.length cap3) rs) ∧ Below w.heap.size w w' := by
  obtain ⟨b, off, cap, rfl, hbw⟩ := hpa.b.pos (by omega)
  obtain ⟨ao2, cap2, hrse, _⟩ := id hpa.r
  subst hrse
  have HPA := Lib.hid hpa
  have HNW := Lib.hid (hpa.b.news)
  clear hpa
  unfold pairRow
  go_enter Try.func40, Try.ntmps40
  obtain ⟨A2, hA2⟩ : ∃ A, A = ((w.alloc (.cells #[.slice (some ⟨b, off, none⟩) p.bs.length cap, .int .i64 p.zl, .int .i64 p.zh, .int .i64 p.rl, .int .i64 p.rh, .slice ao2 p.rs.length cap2] 27)).alloc (.cells #[.slice none 0 0, .int .i64 0, .int .i64 0, .int .i64 0, .int .i64 0, .slice none 0 0] 27)).alloc (.cells #[] 24) := ⟨_, rfl⟩
  have hsA : A2.heap.size = w.heap.size + 3 := by rw [hA2]; simp
  have hbA : Below w.heap.size w A2 := by rw [hA2]; exact (((Below.refl _ _).alloc (Nat.le_refl _) _).alloc (by simp) _).alloc (by simp; omega) _
  have hr0 : A2.heap[w.heap.size]? = some (.cells #[.slice (some ⟨b, off, none⟩) p.bs.length cap, .int .i64 p.zl, .int .i64 p.zh, .int .i64 p.rl, .int .i64 p.rh, .slice ao2 p.rs.length cap2] 27 (0, 0)) := by rw [hA2]; exact (hget_old _ _ _ (by simp; omega)).trans ((hget_old _ _ _ (by simp)).trans (heap_alloc_at _ _ _ rfl))
  have hr1 : A2.heap[w.heap.size + 1]? = some (.cells #[.slice none 0 0, .int .i64 0, .int .i64 0, .int .i64 0, .int .i64 0, .slice none 0 0] 27 (0, 0)) := by rw [hA2]; exact (hget_old _ _ _ (by simp)).trans (heap_alloc_at _ _ _ (by simp))
  have hr2 : A2.heap[w.heap.size + 1 + 1]? = some (.cells #[] 24 (0, 0)) := by rw [hA2]; exact heap_alloc_at _ _ _ (by simp)
  have HBA := Lib.hid hbA
  have HR0 := Lib.hid hr0
  have HR1 := Lib.hid hr1
  have HR2 := Lib.hid hr2
  clear hbA hr0 hr1 hr2
  go_wp2_with (first | (at_builtin; rw [← hA2]; clear hA2; refine wpList_append_m rfl _ _ 22 rfl (w.heap.size + 2) 24 2 16 _ underSpans infoSpans rfl (by decide) _ 0 [] rfl (own_none HR2.out (by omega)) ⟨b, off, none⟩ p.bs.length cap (p.bs.flatMap spC) rfl (spC_length _) (fun j u hu => (HBA.out.cell (lt_of_cell (HNW.out j u hu))).trans (HNW.out j u hu)) (spC_ones _) (by omega) (by decide) (by omega) ?_; intro v1 w1 hown1 hg1 hb1; rw [Nat.zero_add, List.nil_append] at hown1; obtain ⟨g1, cap1, cur1, rfl, hgb1, hrow1, hle1, hcm1, hsz1, htk1⟩ := own_row hown1 (by omega); have q0 := (hb1.block w.heap.size (by omega)).trans HR0.out; have e0 := cell_of_row _ _ 0 _ _ _ q0; have e6 : ∀ k, w1.frozen? ⟨w.heap.size, k, none⟩ = false := fun k => frozen_of_row _ _ _ _ _ q0))
  have hs1 := hb1.size
  obtain ⟨W2, hW2⟩ : ∃ W, W = w1.setCell ⟨w.heap.size, 0, none⟩ (.slice (some ⟨g1, 0, none⟩) p.bs.length cap1) := ⟨_, rfl⟩
  have z0 : W2.heap[w.heap.size]? = some (.cells #[.slice (some ⟨g1, 0, none⟩) p.bs.length cap1, .int .i64 p.zl, .int .i64 p.zh, .int .i64 p.rl, .int .i64 p.rh, .slice ao2 p.rs.length cap2] 27 (0, 0)) := by rw [hW2]; exact six_setCell q0
  have z1 : W2.heap[w.heap.size + 1]? = some (.cells #[.slice none 0 0, .int .i64 0, .int .i64 0, .int .i64 0, .int .i64 0, .slice none 0 0] 27 (0, 0)) := by rw [hW2]; exact (Below.heap_setCell _ _ _ _ (by simp)).trans ((hb1.block _ (by omega)).trans HR1.out)
  have z2 : W2.heap[g1]? = some (.cells cur1 24 (0, 0)) := by rw [hW2]; exact (Below.heap_setCell _ _ _ _ (by simp; omega)).trans hrow1
  have zb : Below w.heap.size w W2 := by rw [hW2]; exact (HBA.out.trans (hb1.mono (by omega))).setCell (by simp) _
  have hs2 : W2.heap.size = w1.heap.size := by rw [hW2]; simp
  rw [← hW2]
  clear hW2 e0 e6 q0 hrow1
  obtain ⟨u1, hu1⟩ : ∃ u, cur1[a * 2]? = some u := ⟨_, Array.getElem?_eq_getElem (by omega)⟩
  obtain ⟨u2, hu2⟩ : ∃ u, cur1[a * 2 + 1]? = some u := ⟨_, Array.getElem?_eq_getElem (by omega)⟩
  have HY3 : Hid (∀ (w3 : World) (v v' : Value), w3.cell? ⟨w.heap.size, 0, none⟩ = some (.slice (some ⟨g1, 0, none⟩) p.bs.length cap1) → ((w3.setCell ⟨g1, a * 2, none⟩ v).setCell ⟨g1, a * 2 + 1, none⟩ v').cell? ⟨w.heap.size, 0, none⟩ = some (.slice (some ⟨g1, 0, none⟩) p.bs.length cap1)) := fun w3 v v' h => by
    have hne : w.heap.size ≠ g1 := by omega
    unfold World.cell? at h ⊢
    rw [Below.heap_setCell _ _ _ _ hne, Below.heap_setCell _ _ _ _ hne]
    exact h
  have Z0 := Lib.hid z0
  have Z1 := Lib.hid z1
  have Z2 := Lib.hid z2
  have ZB := Lib.hid zb
  have HT1 := Lib.hid htk1
  have HS1 := Lib.hid hsz1
  have y0 : W2.drew.cell? ⟨w.heap.size, 0, none⟩ = some (.slice (some ⟨g1, 0, none⟩) p.bs.length cap1) := cell_of_row _ _ 0 _ _ _ z0
  clear z0 z1 z2 zb htk1 hsz1
  go_region_held3 (fun w' => w'.cell? ⟨w.heap.size, 0, none⟩ = some (.slice (some ⟨g1, 0, none⟩) p.bs.length cap1)) (first | exact y1 | exact y0 | exact HY3.out _ _ _ y1)
    (first | (go_at_call 33; refine (lspan_any k k _).mono ?_; rintro e w3 ⟨rfl, hb3⟩; have y1 : w3.cell? ⟨w.heap.size, 0, none⟩ = some (.slice (some ⟨g1, 0, none⟩) p.bs.length cap1) := (hb3.cell (lt_of_cell y0)).trans y0; have x0 : w3.heap[g1]? = some (.cells cur1 24 (0, 0)) := (hb3.block _ (lt_of_block Z2.out)).trans Z2.out; have x1 : w3.cell? ⟨g1, a * 2, none⟩ = some u1 := (cell_of_row _ _ _ _ _ _ x0).trans hu1; have x2 : w3.cell? ⟨g1, a * 2 + 1, none⟩ = some u2 := (cell_of_row _ _ _ _ _ _ x0).trans hu2; have x3 : ∀ k, w3.frozen? ⟨g1, k, none⟩ = false := fun k => frozen_of_row _ _ _ _ _ x0; have X0 := Lib.hid x0; clear x0; unfold spanV))
  obtain ⟨cur4, r1, r2, r3, r4, r5⟩ := duo_setCell (x := .int .i64 k) (y := .int .i64 k) X0.out (o := a * 2) (by have := HS1.out; omega)
  obtain ⟨W4, hW4⟩ : ∃ W, W = (w3.setCell ⟨g1, a * 2, none⟩ (.int .i64 k)).setCell ⟨g1, a * 2 + 1, none⟩ (.int .i64 k) := ⟨_, rfl⟩
  have hs3 := hb3.size
  have n0 : W4.heap[w.heap.size]? = some (.cells #[.slice (some ⟨g1, 0, none⟩) p.bs.length cap1, .int .i64 p.zl, .int .i64 p.zh, .int .i64 p.rl, .int .i64 p.rh, .slice ao2 p.rs.length cap2] 27 (0, 0)) := by
    rw [hW4, Below.heap_setCell _ _ _ _ (show w.heap.size ≠ g1 by omega), Below.heap_setCell _ _ _ _ (show w.heap.size ≠ g1 by omega)]
    exact (hb3.block _ (lt_of_block Z0.out)).trans Z0.out
  have n1 : W4.heap[w.heap.size + 1]? = some (.cells #[.slice none 0 0, .int .i64 0, .int .i64 0, .int .i64 0, .int .i64 0, .slice none 0 0] 27 (0, 0)) := by
    rw [hW4, Below.heap_setCell _ _ _ _ (show w.heap.size + 1 ≠ g1 by omega), Below.heap_setCell _ _ _ _ (show w.heap.size + 1 ≠ g1 by omega)]
    exact (hb3.block _ (lt_of_block Z1.out)).trans Z1.out
  rw [← hW4] at r1
  have nb : Below w.heap.size w W4 := by
    rw [hW4]
    exact ((ZB.out.trans ((show Below W2.heap.size W2 w3 from ⟨hb3.os, hb3.tape, hb3.output, hb3.size, hb3.block⟩).mono (by omega))).setCell (by simp; omega) _).setCell (by simp; omega) _
  have hl4 : W4.heap.size = w3.heap.size := by rw [hW4]; simp
  rw [← hW4]
  clear hW4 x1 x2 x3 y1 y0
  have e0 := cell_of_row _ _ 0 _ _ _ n0
  have e1 := cell_of_row _ _ 1 _ _ _ n0
  have e2 := cell_of_row _ _ 2 _ _ _ n0
  have e3 := cell_of_row _ _ 3 _ _ _ n0
  have e4 := cell_of_row _ _ 4 _ _ _ n0
  have e5 := cell_of_row _ _ 5 _ _ _ n0
  have N1 := Lib.hid n1
  have R1 := Lib.hid r1
  have NB := Lib.hid nb
  have hspan : SpansAt W4 (.slice (some ⟨g1, 0, none⟩) (p.bs.set a (k, k)).length cap1) (p.bs.set a (k, k)) (fun k => k = g1) := by
    refine spansAt_of_row r1 (by rw [List.length_set]; omega) hcm1 fun i hi => ?_
    rw [List.length_set] at hi
    by_cases he : a = i
    · subst he
      rw [List.getElem_set_self]
      exact ⟨r3, r4⟩
    · rw [List.getElem_set_ne he, r5 _ (by omega) (by omega), r5 _ (by omega) (by omega)]
      have f1 := row_spans HT1.out i 0 hi (by omega)
      have f2 := row_spans HT1.out i 1 hi (by omega)
      exact ⟨f1, f2⟩
  rw [List.length_set] at hspan
  have HSP := Lib.hid hspan
  clear n0 n1 r1 nb hspan r3 r4 r5
  go_wp2_with (first | (refine wpList_storeA rfl 27 _ _ rfl (w.heap.size + 1) #[.slice (some ⟨g1, 0, none⟩) p.bs.length cap1, .int .i64 p.zl, .int .i64 p.zh, .int .i64 p.rl, .int .i64 p.rh, .slice ao2 p.rs.length cap2] rfl rfl 27 _ N1.out rfl rfl (by simp [Value.oneCell']) ?_; intro wy hyr hyk hys; have HYR := Lib.hid hyr; have HYK := Lib.hid hyk; clear hyr hyk))
  clear e0 e1 e2 e3 e4 e5
  have e0 := cell_of_row _ _ 0 _ _ _ HYR.out
  have e1 := cell_of_row _ _ 1 _ _ _ HYR.out
  have e2 := cell_of_row _ _ 2 _ _ _ HYR.out
  have e3 := cell_of_row _ _ 3 _ _ _ HYR.out
  have e4 := cell_of_row _ _ 4 _ _ _ HYR.out
  have e5 := cell_of_row _ _ 5 _ _ _ HYR.out
  have hlast := NB.out.trans (HYK.out.below NB.out.size (fun k h => by omega))
  refine bodyPost_ret (v := .agg (pairRow p (.slice (some ⟨g1, 0, none⟩) p.bs.length cap1) (.slice ao2 p.rs.length cap2))) (by simp [results, Try.results40, go_sem, pairRow, e0, e1, e2, e3, e4, e5]) rfl ⟨⟨_, _, rfl, ?_, ?_⟩, hlast⟩
  · exact (HSP.out.later HYK.out.size (fun j hj hr => HYK.out.block j hj (by have e7 : j = g1 := hr; omega))).low
  · exact (HPA.out.later hlast).r

end Go.Proofs.Ytlgeggekmdoceaa

/- The laws' function with: a pair with readings more. -/
namespace Go.Proofs.Ytlgeggekmdoceaa
set_option linter.unusedVariables false
set_option linter.unusedSimpArgs false
open Go.RowKit Go.Shelf
attribute [local go_sem] Oper.semAt_some

/-- The pair with readings more. -/
def withL (p : PairD) (l : List RdD) : PairD := { p with rs := p.rs ++ l }
theorem rdC_ones (l : List RdD) : ∀ u ∈ l.flatMap rdC, u.oneCell' = true := by
  intro u hu
  obtain ⟨s, _, hs⟩ := List.mem_flatMap.1 hu
  simp [rdC] at hs
  rcases hs with rfl | rfl | rfl | rfl | rfl <;> rfl
/-- The cells of a slice of readings. -/
theorem ReadsAt.news {W : World} {ad : Addr} {cap : Nat} {l : List RdD} {Rd : Nat → Prop} (h : ReadsAt W (.slice (some ad) l.length cap) l Rd) : ∀ (j : Nat) u, (l.flatMap rdC)[j]? = some u → W.cell? (ad.add j) = some u := by
  intro j u hu
  have hj : j < l.length * 5 := by rw [← flat_length]; exact (List.getElem?_eq_some_iff.1 hu).1
  obtain ⟨ao, cap', h1, _, _, h4⟩ := h
  obtain ⟨b, off, e1, _, _, e2, e3, e4, e5, e6⟩ := h4 (j / 5) (by omega)
  have e0 : some ad = ao := by injection h1
  rw [e1] at e0
  have e0 := Option.some.inj e0
  subst e0
  have hf := flat_at l (j / 5) (j % 5) (by omega) (by omega)
  rw [show j / 5 * 5 + j % 5 = j by omega, hu] at hf
  rw [show ((⟨b, off, none⟩ : Addr).add j) = ⟨b, off + j, none⟩ by simp [Addr.add]]
  have hm : j % 5 = 0 ∨ j % 5 = 1 ∨ j % 5 = 2 ∨ j % 5 = 3 ∨ j % 5 = 4 := by omega
  rcases hm with h0 | h0 | h0 | h0 | h0 <;> rw [h0] at hf <;> rw [hf]
  · rw [show off + j = off + j / 5 * 5 by omega, e2]; rfl
  · rw [show off + j = off + j / 5 * 5 + 1 by omega, e3]; rfl
  · rw [show off + j = off + j / 5 * 5 + 2 by omega, e4]; rfl
  · rw [show off + j = off + j / 5 * 5 + 3 by omega, e5]; rfl
  · rw [show off + j = off + j / 5 * 5 + 4 by omega, e6]; rfl
theorem wpList_append_nil {ops : Array Oper} {rest : List Oper} {o : Oper} {a : Act} {w : World} {Q : Exit → Act → World → Prop} (hgd : o.guard = none) (s x : Operand) (t : TypeId)
    (ho : o.op = .call { callee := .builtin .append, args := #[s, x], argTypes := #[t, t] }) (e : TypeId) (size bytes : Nat) (z : Value) (ht : Try.prog.underlying t = some (.slice e)) (hinfo : (Try.prog.info? e).map (fun i => (i.zero, i.size, i.bytes)) = some (some z, size, bytes))
    (g : Nat) (hs : a.eval s = .slice (some ⟨g, 0, none⟩) 0 0) (m c : Nat) (hx : a.eval x = .slice none m c) (hm : m = 0) (h : wpList Try.prog ops Q rest (a.put o.dst (.slice (some ⟨g, 0, none⟩) 0 0)) w) : wpList Try.prog ops Q (o :: rest) a w :=
  wpList_plain hgd fun _ hK => wp_append_nil s x t ho e size bytes z ht hinfo g hs m c hx hm rfl (hK _ _ h)
/-- 'append([]T{}, l...)' of readings. -/
theorem wpList_copy_reads {ops : Array Oper} {rest : List Oper} {o : Oper} {a : Act} {w : World} {Q : Exit → Act → World → Prop} (hgd : o.guard = none) (s x : Operand)
    (ho : o.op = .call { callee := .builtin .append, args := #[s, x], argTypes := #[25, 25] })
    (g : Nat) (hs : a.eval s = .slice (some ⟨g, 0, none⟩) 0 0) (hg : w.heap[g]? = some (.cells #[] 44 (0, 0))) (ao : Option Addr) (cap : Nat) (l : List RdD) (hx : a.eval x = .slice ao l.length cap) (Rd : Nat → Prop) (hr : ReadsAt w (.slice ao l.length cap) l Rd) (hl : l.length ≤ 1000)
    (h : ∀ v' w', w'.ownsRow g 44 5 v' l.length (l.flatMap rdC) → Below g w w' → wpList Try.prog ops Q rest (a.put o.dst v') w') : wpList Try.prog ops Q (o :: rest) a w := by
  cases ao with
  | none =>
    have h0 : l.length = 0 := by
      obtain ⟨ao', cap', h1, _, _, h4⟩ := hr
      rcases Nat.eq_zero_or_pos l.length with k | k
      · exact k
      · obtain ⟨b, off, e1, _⟩ := h4 0 k
        have e0 : none = ao' := by injection h1
        rw [e1] at e0; cases e0
    have hnil : l = [] := List.length_eq_zero_iff.1 h0
    refine wpList_append_nil hgd s x _ ho 44 5 40 _ underReads infoRead g hs _ _ hx h0 (h _ _ ?_ (Below.refl _ _))
    rw [hnil]
    exact own_none hg (Nat.le_refl _)
  | some ad =>
    have hlt := lt_of_block hg
    refine wpList_append_m hgd s x _ ho g 44 5 40 _ underReads infoRead rfl (by decide) _ 0 [] hs (own_none hg (Nat.le_refl _)) ad l.length cap (l.flatMap rdC) hx (flat_length l) hr.news (rdC_ones l) (by omega) (by decide) (by omega) ?_
    intro v' w' hown _ hb
    rw [Nat.zero_add, List.nil_append] at hown
    exact h v' w' hown hb
theorem one5_setCell {w : World} {b : Nat} {a0 a1 a2 a3 a4 a5 x : Value} {t : TypeId} {fr : Nat × Nat} (h : w.heap[b]? = some (.cells #[a0, a1, a2, a3, a4, a5] t fr)) : (w.setCell ⟨b, 5, none⟩ x).heap[b]? = some (.cells #[a0, a1, a2, a3, a4, x] t fr) := by
  simp [World.setCell, Array.getElem?_modify, h]
set_option maxRecDepth 100000 in
set_option maxHeartbeats 2000000 in
theorem with_any (p : PairD) (bs rs : Value) (lr : List RdD) (h1 : 0 < lr.length) (h2 : lr.length ≤ 2) (h8 : p.rs.length ≤ 100) (g c : Nat) (w : World) (hpa : PairAt w p bs rs) (hg : w.heap[g]? = some (.cells (lr.flatMap rdC).toArray 44 (0, 0))) :
    Calls Try.prog 41 #[.agg (pairRow p bs rs), .slice (some ⟨g, 0, none⟩) lr.length c] w fun e w' => (∃ ao3 cap3, e = .returned (.agg (pairRow p bs (.slice ao3 (p.rs.length + lr.length) cap3))) ∧ PairAt w' (withL p lr) bs (.slice ao3 (p.rs.length + lr.length) cap3)) ∧ Below w.heap.size w w' := by
  obtain ⟨ao, cap, hbse, _⟩ := id hpa.b
  subst hbse
  obtain ⟨ao2, cap2, hrse, _⟩ := id hpa.r
  subst hrse
  have HPA := Lib.hid hpa
  have HG := Lib.hid hg
  have hgw := lt_of_block hg
  clear hpa hg
  unfold pairRow
  go_enter Try.func41, Try.ntmps41
  obtain ⟨A2, hA2⟩ : ∃ A, A = ((w.alloc (.cells #[.slice ao p.bs.length cap, .int .i64 p.zl, .int .i64 p.zh, .int .i64 p.rl, .int .i64 p.rh, .slice ao2 p.rs.length cap2] 27)).alloc (.cells #[.slice none 0 0, .int .i64 0, .int .i64 0, .int .i64 0, .int .i64 0, .slice none 0 0] 27)).alloc (.cells #[] 44) := ⟨_, rfl⟩
  have hsA : A2.heap.size = w.heap.size + 3 := by rw [hA2]; simp
  have hbA : Below w.heap.size w A2 := by rw [hA2]; exact (((Below.refl _ _).alloc (Nat.le_refl _) _).alloc (by simp) _).alloc (by simp; omega) _
  have hr0 : A2.heap[w.heap.size]? = some (.cells #[.slice ao p.bs.length cap, .int .i64 p.zl, .int .i64 p.zh, .int .i64 p.rl, .int .i64 p.rh, .slice ao2 p.rs.length cap2] 27 (0, 0)) := by rw [hA2]; exact (hget_old _ _ _ (by simp; omega)).trans ((hget_old _ _ _ (by simp)).trans (heap_alloc_at _ _ _ rfl))
  have hr1 : A2.heap[w.heap.size + 1]? = some (.cells #[.slice none 0 0, .int .i64 0, .int .i64 0, .int .i64 0, .int .i64 0, .slice none 0 0] 27 (0, 0)) := by rw [hA2]; exact (hget_old _ _ _ (by simp)).trans (heap_alloc_at _ _ _ (by simp))
  have hr2 : A2.heap[w.heap.size + 1 + 1]? = some (.cells #[] 44 (0, 0)) := by rw [hA2]; exact heap_alloc_at _ _ _ (by simp)
  have HBA := Lib.hid hbA
  have HR0 := Lib.hid hr0
  have HR1 := Lib.hid hr1
  have HR2 := Lib.hid hr2
  have HPB := Lib.hid (HPA.out.later hbA)
  clear hbA hr0 hr1 hr2
  go_wp2_with (first
    | (at_builtin; rw [← hA2]; clear hA2; refine wpList_copy_reads rfl _ _ rfl (w.heap.size + 1 + 1) rfl HR2.out ao2 cap2 p.rs rfl _ HPB.out.r (by omega) ?_; intro v1 w1 hown1 hb1)
    | (at_builtin; refine wpList_append_m rfl _ _ 25 rfl (w.heap.size + 1 + 1) 44 5 40 _ underReads infoRead rfl (by decide) _ p.rs.length (p.rs.flatMap rdC) rfl hown1 ⟨g, 0, none⟩ lr.length c (lr.flatMap rdC) rfl (flat_length _) (news_block ((hb1.block g (by omega)).trans ((HBA.out.block g hgw).trans HG.out))) (rdC_ones _) (by omega) (by decide) (by have := hb1.size; omega) ?_; intro v2 w2 hown2 hg2 hb2; obtain ⟨g1, cap1, cur1, rfl, hgb1, hrow1, hle1, hcm1, hsz1, htk1⟩ := own_row hown2 (by omega); have q0 := (hb2.block w.heap.size (by omega)).trans ((hb1.block w.heap.size (by omega)).trans HR0.out); have q1 := (hb2.block (w.heap.size + 1) (by omega)).trans ((hb1.block (w.heap.size + 1) (by omega)).trans HR1.out); have e0 := cell_of_row _ _ 0 _ _ _ q0; have e1 := cell_of_row _ _ 1 _ _ _ q0; have e2 := cell_of_row _ _ 2 _ _ _ q0; have e3 := cell_of_row _ _ 3 _ _ _ q0; have e4 := cell_of_row _ _ 4 _ _ _ q0; have e5 := cell_of_row _ _ 5 _ _ _ q0; have e6 : ∀ k, w2.frozen? ⟨w.heap.size, k, none⟩ = false := fun k => frozen_of_row _ _ _ _ _ q0; have Q0 := Lib.hid q0; have Q1 := Lib.hid q1; clear q0 q1)
    | (refine wpList_storeA rfl 27 _ _ rfl (w.heap.size + 1) #[.slice ao p.bs.length cap, .int .i64 p.zl, .int .i64 p.zh, .int .i64 p.rl, .int .i64 p.rh, .slice (some ⟨g1, 0, none⟩) (p.rs.length + lr.length) cap1] rfl rfl 27 _ ((Below.heap_setCell _ _ _ _ (by simp)).trans Q1.out) rfl rfl (by simp [Value.oneCell']) ?_; intro wy hyr hyk hys; have HYR := Lib.hid hyr; have HYK := Lib.hid hyk; clear hyr hyk))
  clear e0 e1 e2 e3 e4 e5 e6
  have e0 := cell_of_row _ _ 0 _ _ _ HYR.out
  have e1 := cell_of_row _ _ 1 _ _ _ HYR.out
  have e2 := cell_of_row _ _ 2 _ _ _ HYR.out
  have e3 := cell_of_row _ _ 3 _ _ _ HYR.out
  have e4 := cell_of_row _ _ 4 _ _ _ HYR.out
  have e5 := cell_of_row _ _ 5 _ _ _ HYR.out
  have hz := hb1.size
  have hz2 := hb2.size
  have hb12 : Below w.heap.size w w2 := HBA.out.trans ((hb1.mono (by omega)).trans (hb2.mono (by omega)))
  have hset := hb12.setCell (p := ⟨w.heap.size, 5, none⟩) (by simp) (.slice (some ⟨g1, 0, none⟩) (p.rs.length + lr.length) cap1)
  have hlast := hset.trans (HYK.out.below hset.size (fun k h e => by have e7 : k = w.heap.size + 1 := e; omega))
  have hsp : ReadsAt w2 (.slice (some ⟨g1, 0, none⟩) (p.rs.length + lr.length) cap1) (p.rs ++ lr) (fun k => w.heap.size + 1 + 1 ≤ k) := by
    have := readsAt_of_owns (l := p.rs ++ lr) (w := w2) (base := w.heap.size + 1 + 1) (e := 44) (v := .slice (some ⟨g1, 0, none⟩) (p.rs.length + lr.length) cap1) (by rw [List.length_append, List.flatMap_append]; exact hown2)
    exact this
  have HSP := Lib.hid hsp
  refine bodyPost_ret (v := .agg (pairRow p (.slice ao p.bs.length cap) (.slice (some ⟨g1, 0, none⟩) (p.rs.length + lr.length) cap1))) (by simp [results, Try.results41, go_sem, pairRow, e0, e1, e2, e3, e4, e5]) rfl ⟨⟨_, _, rfl, ?_, ?_⟩, hlast⟩
  · exact (HPA.out.later hlast).b
  · have hk := HYK.out
    exact (HSP.out.later (by have := hk.size; simp at this; omega) (fun j hj hr => (hk.block j (by simp; omega) (fun e => by have e7 : j = w.heap.size + 1 := e; have e8 : w.heap.size + 1 + 1 ≤ j := hr; omega)).trans (Below.heap_setCell _ _ _ _ (by have e8 : w.heap.size + 1 + 1 ≤ j := hr; simp; omega)))).low

end Go.Proofs.Ytlgeggekmdoceaa
