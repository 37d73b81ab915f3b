/- Texts Yx, Yz, Yy, Yza, Yzb, Yzc, Yzd, Yze, Yzf, Yzg in one file; each begins with a word on what it proves. -/
import Derived.Test.YtabbmihakoeegaaKn
import Derived.Test.YtabbmihakoeegaaKi
import Derived.Test.YtabbmihakoeegaaKk
import Derived.Test.YtabbmihakoeegaaKp
import Derived.Test.YtabbmihakoeegaaKm

/- PlanMore (plain): with a reading more, or one that is narrower, or a greater Wide. -/
namespace Go.Proofs.Ytabbmihakoeegaa
set_option linter.unusedVariables false
set_option linter.unusedSimpArgs false
open Go.RowKit Stab

theorem withR_atQ {p : PairD} {r : RdD} (i : Nat) (hi : i < p.rs.length) : (withR p r).rs[i]'(by unfold withR; simp; omega) = p.rs[i] := by
  unfold withR
  simp [List.getElem_append_left hi]
theorem truth_lessQ {p : PairD} {r : RdD} {s : Nat} {c : Int × Int} {x : Nat → Int} (h : TruthP (withR p r) s c x) : TruthP p s c x :=
  ⟨h.mark, h.bs, fun i hi hb => by
    have := h.rs i (by unfold withR; simp; omega) hb
    rw [withR_atQ i hi] at this
    exact this⟩
def narQ (p : PairD) (i : Nat) : PairD := { p with rs := p.rs.modify i fun r => { r with lo := min r.hi (r.lo + 1) } }
theorem truth_narQ {p : PairD} (hp : OkP p) {i s : Nat} {c : Int × Int} {x : Nat → Int} (h : TruthP (narQ p i) s c x) : TruthP p s c x := by
  refine ⟨h.mark, h.bs, fun j hj hb => ?_⟩
  have hl : (narQ p i).rs.length = p.rs.length := by unfold narQ; simp
  have h1 := h.rs j (by rw [hl]; exact hj) hb
  have he : (narQ p i).rs[j]'(by rw [hl]; exact hj) = if i = j then { p.rs[j] with lo := min p.rs[j].hi (p.rs[j].lo + 1) } else p.rs[j] := by
    unfold narQ
    simp only [List.getElem_modify]
  rw [he] at h1
  split at h1
  · have h2 := (hp.rs _ (List.getElem_mem hj)).2.2.2.2.2.2.2
    dsimp only at h1
    refine ⟨?_, h1.2⟩
    have h3 := h1.1
    by_cases e : p.rs[j].hi ≤ p.rs[j].lo + 1
    · omega
    · omega
  · exact h1
/-- The plan that is better. -/
structure MoreP (q x : PlanD) : Prop where
  len : q.prices.length ≤ x.prices.length
  bs : x.pr.bs.length = q.pr.bs.length
  wide : q.wide ≤ x.wide
  sub : ∀ s, s < 2 ^ q.prices.length → ∀ t ∈ truA (onlyP x.pr s), t ∈ truA (onlyP q.pr s)
def withQ (q : PlanD) (r : RdD) : PlanD := ⟨withR q.pr r, q.wide, q.prices ++ [1]⟩
def narrQ (q : PlanD) (i : Nat) : PlanD := ⟨narQ q.pr i, q.wide, q.prices⟩
def widQ (q : PlanD) (w : Int) : PlanD := ⟨q.pr, w, q.prices⟩
theorem with_more {q : PlanD} {r : RdD} (hq : OkQ q) (hx : OkQ (withQ q r)) : MoreP q (withQ q r) where
  len := by unfold withQ; simp
  bs := rfl
  wide := Int.le_refl _
  sub := fun s hs t ht => by
    rw [mem_truA (OkP.of _ (onlyP_valid _ s hx.pr)), only_truthP] at ht
    rw [mem_truA (OkP.of _ (onlyP_valid _ s hq.pr)), only_truthP]
    exact ⟨ht.1, ht.2.1, truth_lessQ ht.2.2⟩
theorem narr_more {q : PlanD} {i : Nat} (hq : OkQ q) (hx : OkQ (narrQ q i)) : MoreP q (narrQ q i) where
  len := Nat.le_refl _
  bs := rfl
  wide := Int.le_refl _
  sub := fun s hs t ht => by
    rw [mem_truA (OkP.of _ (onlyP_valid _ s hx.pr)), only_truthP] at ht
    rw [mem_truA (OkP.of _ (onlyP_valid _ s hq.pr)), only_truthP]
    exact ⟨ht.1, ht.2.1, truth_narQ (OkP.of _ hq.pr) ht.2.2⟩
theorem wid_more {q : PlanD} {w : Int} (hw : q.wide ≤ w) : MoreP q (widQ q w) where
  len := Nat.le_refl _
  bs := rfl
  wide := hw
  sub := fun s hs t ht => ht
theorem MoreP.pow {q x : PlanD} (h : MoreP q x) : 2 ^ q.prices.length ≤ 2 ^ x.prices.length := Nat.pow_le_pow_right (by decide) h.len
section
variable {q x : PlanD} (h : MoreP q x) (hq : OkQ q) (hx : OkQ x)
include h hq hx
theorem MoreP.truth (ht : truA x.pr ≠ []) : truA q.pr ≠ [] := by
  have h1 := truA_of_every hx ht (everyV q)
  intro e
  have h2 : truA (onlyP q.pr (everyV q)) = [] := by rw [everyV_is hq]; exact (truA_every hq.pr).2 e
  obtain ⟨t, htm⟩ := List.exists_mem_of_ne_nil _ h1
  have := h.sub (everyV q) everyV_lt t htm
  rw [h2] at this
  cases this
theorem MoreP.wid (ht : truA x.pr ≠ []) {s : Nat} (hs : s < 2 ^ q.prices.length) (b : Nat) : widB x.pr s b ≤ widB q.pr s b := by
  have h1 := truA_of_every hx ht s
  have h2 := truA_of_every hq (h.truth hq hx ht) s
  have h3 := hull_in (h.sub s hs) (hullD_spec h2 b 5) (hullD_spec h1 b 5)
  unfold widB
  rw [h.bs]
  split <;> omega
theorem MoreP.widest (ht : truA x.pr ≠ []) {s : Nat} (hs : s < 2 ^ q.prices.length) : widestV x.pr s ≤ widestV q.pr s :=
  widest_le.2 fun b hb => Int.le_trans (h.wid hq hx ht hs b) (widest_le.1 (Int.le_refl _) b hb)
theorem MoreP.enough (ht : truA x.pr ≠ []) {s : Nat} (hs : s < 2 ^ q.prices.length) (he : enoughV q s = true) : enoughV x s = true := by
  unfold enoughV at he ⊢
  rw [decide_eq_true_eq] at he ⊢
  exact Int.le_trans (h.widest hq hx ht hs) (Int.le_trans he h.wide)
theorem MoreP.every (ht : truA x.pr ≠ []) (he : enoughV q (everyV q) = true) : enoughV x (everyV x) = true :=
  enough_mono hx ht (every_sub hx (everyV q)) (h.enough hq hx ht everyV_lt he)
theorem MoreP.few (ht : truA x.pr ≠ []) (he : enoughV q (everyV q) = true) : ones (fewS x) ≤ ones (fewS q) := by
  have h1 := few_ok hq (h.truth hq hx ht) he
  have h2 := few_ok hx ht (h.every hq hx ht he)
  have hp := h.pow
  rcases h2.best (fewS q) (by have := h1.lt; omega) (h.enough hq hx ht h1.lt h1.en) with h3 | h3 <;> omega
theorem MoreP.best (ht : truA x.pr ≠ []) {m : Int} (h0 : 0 ≤ m) (h8 : m ≤ 8) : (bestPV x m).2 ≤ (bestPV q m).2 := by
  have h1 := best_ok hq (h.truth hq hx ht) h0 h8
  have h2 := best_ok hx ht h0 h8
  have hp := h.pow
  have h3 := h.widest hq hx ht h1.lt
  have h4 := h1.own
  rcases h2.best (bestPV q m).1 (by have := h1.lt; omega) h1.size with h5 | h5 <;> omega
end
end Go.Proofs.Ytabbmihakoeegaa

/- Copies of lists: append([]T{}, l...). -/
namespace Go.Proofs.Ytabbmihakoeegaa
set_option linter.unusedVariables false
set_option linter.unusedSimpArgs false
open Go.RowKit Go.Shelf
attribute [local go_sem] Oper.semAt_some

theorem wp_append_nilQ {w : World} {o : Oper} {a : Act} {K : Act → World → Prop} {Q : Exit → Act → World → Prop} (s x : Operand) (t : TypeId)
    (ho : o.op = .call { callee := .builtin .append, args := #[s, x], argTypes := #[t, t] }) (e : TypeId) (size bytes : Nat) (z : Value) (ht : Try.prog.underlying t = some (.slice e)) (hinfo : (Try.prog.info? e).map (fun i => (i.zero, i.size, i.bytes)) = some (some z, size, bytes))
    (g : Nat) (hs : a.eval s = .slice (some ⟨g, 0, none⟩) 0 0) (m c : Nat) (hx : a.eval x = .slice none m c) (hm : m = 0) (h : K (a.put o.dst (.slice (some ⟨g, 0, none⟩) 0 0)) w) : o.wp Try.prog a w K Q := by
  subst hm
  obtain ⟨i, hi, hz, hsize, hby⟩ := info_parts hinfo
  unfold Oper.wp execOp
  simp only [ho, resolve, invoke, builtin, Sem.run_bind, Sem.run_pure, Result.andThen_ok, List.map_toArray, List.map_cons, List.map_nil, hs, hx]
  have hr : (Builtin.append_ #[t, t] o.type #[.slice (some ⟨g, 0, none⟩) 0 0, .slice none 0 c]).run Try.prog w = .ok (.slice (some ⟨g, 0, none⟩) 0 0) w := by
    simp [Builtin.append_, run_underlying ht, sizeOf, typeInfo, hi, Builtin.lenOf, Builtin.firstCells, loadCells, loadCellsFrom, storeCells]
  rw [hr]
  exact h
theorem own_noneQ {w : World} {base g : Nat} {e : TypeId} {size : Nat} (h : w.heap[g]? = some (.cells #[] e (0, 0))) (hb : base ≤ g) : w.ownsRow base e size (.slice (some ⟨g, 0, none⟩) 0 0) 0 [] :=
  ⟨by simp, .inr ⟨g, 0, #[], rfl, hb, h, Nat.le_refl _, by simp, by simp, by simp⟩⟩
theorem own_sepQ {w : World} {base : Nat} {e e' : TypeId} {size size' : Nat} {v v' : Value} {n n' : Nat} {xs xs' : List Value} (h : w.ownsRow base e size v n xs) (h' : w.ownsRow base e' size' v' n' xs') (hne : e' ≠ e) : v.ownBlock = none ∨ v.ownBlock ≠ v'.ownBlock := by
  rcases h.2 with ⟨h1, _⟩ | ⟨g, cap, cur, h1, _, h3, _⟩
  · left; rw [h1]; rfl
  · right
    intro he
    have : v'.ownBlock = some g := by rw [← he, h1]; rfl
    rcases h'.2 with ⟨k1, _⟩ | ⟨g', cap', cur', k1, _, k3, _⟩
    · rw [k1] at this; cases this
    · have e1 : g' = g := by rw [k1] at this; exact Option.some.inj this
      subst e1
      rw [h3] at k3
      injection k3 with k3
      injection k3 with _ k4 _
      exact hne k4.symm
theorem onesQ (l : List Int) : ∀ u ∈ l.map (Value.int .i64), u.oneCell' = true := by
  intro u hu
  obtain ⟨s, _, rfl⟩ := List.mem_map.1 hu
  rfl
theorem NumsAt.newsQ {W : World} {ad : Addr} {cap : Nat} {l : List Int} {Rd : Nat → Prop} (h : NumsAt W (.slice (some ad) l.length cap) l Rd) : ∀ (j : Nat) u, (l.map (Value.int .i64))[j]? = some u → W.cell? (ad.add j) = some u := by
  intro j u hu
  have hj : j < l.length := by have := (List.getElem?_eq_some_iff.1 hu).1; rwa [List.length_map] at this
  obtain ⟨ao, cap', h1, _, _, h4⟩ := h
  obtain ⟨b, off, e1, _, _, e2⟩ := h4 j hj
  have e0 : some ad = ao := by injection h1
  rw [e1] at e0
  have e0 := Option.some.inj e0
  subst e0
  rw [show ((⟨b, off, none⟩ : Addr).add j) = ⟨b, off + j, none⟩ by simp [Addr.add], e2]
  rw [List.getElem?_map, List.getElem?_eq_getElem hj] at hu
  simpa using hu
theorem rdC_onesQ (l : List RdD) : ∀ u ∈ l.flatMap rdC, u.oneCell' = true := by
  intro u hu
  obtain ⟨s, _, hs⟩ := List.mem_flatMap.1 hu
  simp [rdC] at hs
  rcases hs with rfl | rfl | rfl | rfl | rfl <;> rfl
theorem ReadsAt.newsQ {W : World} {ad : Addr} {cap : Nat} {l : List RdD} {Rd : Nat → Prop} (h : ReadsAt W (.slice (some ad) l.length cap) l Rd) : ∀ (j : Nat) u, (l.flatMap rdC)[j]? = some u → W.cell? (ad.add j) = some u := by
  intro j u hu
  have hj : j < l.length * 5 := by rw [← flat_length]; exact (List.getElem?_eq_some_iff.1 hu).1
  obtain ⟨ao, cap', h1, _, _, h4⟩ := h
  obtain ⟨b, off, e1, _, _, e2, e3, e4, e5, e6⟩ := h4 (j / 5) (by omega)
  have e0 : some ad = ao := by injection h1
  rw [e1] at e0
  have e0 := Option.some.inj e0
  subst e0
  have hf := flat_at l (j / 5) (j % 5) (by omega) (by omega)
  rw [show j / 5 * 5 + j % 5 = j by omega, hu] at hf
  rw [show ((⟨b, off, none⟩ : Addr).add j) = ⟨b, off + j, none⟩ by simp [Addr.add]]
  have hm : j % 5 = 0 ∨ j % 5 = 1 ∨ j % 5 = 2 ∨ j % 5 = 3 ∨ j % 5 = 4 := by omega
  rcases hm with h0 | h0 | h0 | h0 | h0 <;> rw [h0] at hf <;> rw [hf]
  · rw [show off + j = off + j / 5 * 5 by omega, e2]; rfl
  · rw [show off + j = off + j / 5 * 5 + 1 by omega, e3]; rfl
  · rw [show off + j = off + j / 5 * 5 + 2 by omega, e4]; rfl
  · rw [show off + j = off + j / 5 * 5 + 3 by omega, e5]; rfl
  · rw [show off + j = off + j / 5 * 5 + 4 by omega, e6]; rfl
theorem spC_lengthQ : ∀ (l : List (Int × Int)), (l.flatMap spC).length = l.length * 2
  | [] => rfl
  | r :: l => by rw [List.flatMap_cons, List.length_append, spC_lengthQ l, List.length_cons]; simp [spC]; omega
theorem spC_onesQ (l : List (Int × Int)) : ∀ u ∈ l.flatMap spC, u.oneCell' = true := by
  intro u hu
  obtain ⟨s, _, hs⟩ := List.mem_flatMap.1 hu
  simp [spC] at hs
  rcases hs with rfl | rfl <;> rfl
theorem spC_at : ∀ (l : List (Int × Int)) (i q : Nat) (hi : i < l.length), q < 2 → (l.flatMap spC)[i * 2 + q]? = (spC l[i])[q]?
  | [], i, q, hi, _ => by simp at hi
  | r :: l, 0, q, _, hq => by
    rw [List.flatMap_cons, List.getElem?_append_left (by simp [spC]; omega)]
    simp
  | r :: l, i + 1, q, hi, hq => by
    have h5 : (spC r).length = 2 := rfl
    rw [List.flatMap_cons, List.getElem?_append_right (by rw [h5]; omega), h5, show (i + 1) * 2 + q - 2 = i * 2 + q by omega]
    simpa using spC_at l i q (by simpa using hi) hq
theorem SpansAt.newsQ {W : World} {ad : Addr} {cap : Nat} {l : List (Int × Int)} {Rd : Nat → Prop} (h : SpansAt W (.slice (some ad) l.length cap) l Rd) : ∀ (j : Nat) u, (l.flatMap spC)[j]? = some u → W.cell? (ad.add j) = some u := by
  intro j u hu
  have hj : j < l.length * 2 := by rw [← spC_lengthQ]; exact (List.getElem?_eq_some_iff.1 hu).1
  obtain ⟨ao, cap', h1, _, _, h4⟩ := h
  obtain ⟨b, off, e1, _, _, e2, e3⟩ := h4 (j / 2) (by omega)
  have e0 : some ad = ao := by injection h1
  rw [e1] at e0
  have e0 := Option.some.inj e0
  subst e0
  have hf := spC_at l (j / 2) (j % 2) (by omega) (by omega)
  rw [show j / 2 * 2 + j % 2 = j by omega, hu] at hf
  rw [show ((⟨b, off, none⟩ : Addr).add j) = ⟨b, off + j, none⟩ by simp [Addr.add]]
  rcases Nat.mod_two_eq_zero_or_one j with h0 | h0 <;> rw [h0] at hf <;> rw [hf]
  · rw [show off + j = off + j / 2 * 2 by omega, e2]; rfl
  · rw [show off + j = off + j / 2 * 2 + 1 by omega, e3]; rfl
theorem underSpansQ : Try.prog.underlying 22 = some (.slice 24) := by kernel_rfl
theorem infoSpansQ : (Try.prog.info? 24).map (fun i => (i.zero, i.size, i.bytes)) = some (some (.agg #[.int .i64 0, .int .i64 0]), 2, 16) := by kernel_rfl
theorem underReadsQ : Try.prog.underlying 25 = some (.slice 48) := by kernel_rfl
theorem len_none {α : Type} {l : List α} {ao' : Option Addr} {cap cap' : Nat} (h1 : Value.slice none l.length cap = .slice ao' l.length cap') (h4 : ∀ i (h : i < l.length), ∃ b off, ao' = some ⟨b, off, none⟩) : l = [] := by
  rcases Nat.eq_zero_or_pos l.length with k | k
  · exact List.length_eq_zero_iff.1 k
  · obtain ⟨b, off, e1⟩ := h4 0 k
    have e0 : none = ao' := by injection h1
    rw [e1] at e0; cases e0
theorem wp_copy_nums {o : Oper} {a : Act} {K : Act → World → Prop} {Q : Exit → Act → World → Prop} {w : World} (s x : Operand)
    (ho : o.op = .call { callee := .builtin .append, args := #[s, x], argTypes := #[28, 28] })
    (base g : Nat) (hs : a.eval s = .slice (some ⟨g, 0, none⟩) 0 0) (hown : w.ownsRow base 3 1 (.slice (some ⟨g, 0, none⟩) 0 0) 0 []) (ao : Option Addr) (cap : Nat) (l : List Int) (hx : a.eval x = .slice ao l.length cap) (Rd : Nat → Prop) (hr : NumsAt w (.slice ao l.length cap) l Rd) (hl : l.length ≤ 1000) (hb : base ≤ w.heap.size)
    (h : ∀ v' w', w'.ownsRow base 3 1 v' l.length (l.map (Value.int .i64)) → w.grownBy w' (some g) → K (a.put o.dst v') w') : o.wp Try.prog a w K Q := by
  cases ao with
  | none =>
    have hnil : l = [] := by
      obtain ⟨ao', cap', h1, _, _, h4⟩ := hr
      exact len_none h1 (fun i hi => by obtain ⟨b, off, e, _⟩ := h4 i hi; exact ⟨b, off, e⟩)
    subst hnil
    exact wp_append_nilQ s x _ ho 3 1 8 _ underInts infoInt g hs _ _ hx rfl (h _ _ hown ⟨rfl, rfl, rfl, Nat.le_refl _, fun _ _ _ => rfl⟩)
  | some ad =>
    refine wp_append_here s x _ ho base 3 1 8 _ underInts infoInt rfl (by decide) _ 0 [] hs hown ad l.length cap (l.map (Value.int .i64)) hx (by simp) hr.newsQ (by first | exact onesQ l | exact rdC_onesQ l | exact spC_onesQ l) (by omega) (by decide) hb ?_
    intro v' w' h1 h2 _
    rw [Nat.zero_add, List.nil_append] at h1
    exact h v' w' h1 h2
theorem wp_copy_readsQ {o : Oper} {a : Act} {K : Act → World → Prop} {Q : Exit → Act → World → Prop} {w : World} (s x : Operand)
    (ho : o.op = .call { callee := .builtin .append, args := #[s, x], argTypes := #[25, 25] })
    (base g : Nat) (hs : a.eval s = .slice (some ⟨g, 0, none⟩) 0 0) (hown : w.ownsRow base 48 5 (.slice (some ⟨g, 0, none⟩) 0 0) 0 []) (ao : Option Addr) (cap : Nat) (l : List RdD) (hx : a.eval x = .slice ao l.length cap) (Rd : Nat → Prop) (hr : ReadsAt w (.slice ao l.length cap) l Rd) (hl : l.length ≤ 1000) (hb : base ≤ w.heap.size)
    (h : ∀ v' w', w'.ownsRow base 48 5 v' l.length (l.flatMap rdC) → w.grownBy w' (some g) → K (a.put o.dst v') w') : o.wp Try.prog a w K Q := by
  cases ao with
  | none =>
    have hnil : l = [] := by
      obtain ⟨ao', cap', h1, _, _, h4⟩ := hr
      exact len_none h1 (fun i hi => by obtain ⟨b, off, e, _⟩ := h4 i hi; exact ⟨b, off, e⟩)
    subst hnil
    exact wp_append_nilQ s x _ ho 48 5 40 _ underReadsQ infoRead g hs _ _ hx rfl (h _ _ hown ⟨rfl, rfl, rfl, Nat.le_refl _, fun _ _ _ => rfl⟩)
  | some ad =>
    refine wp_append_here s x _ ho base 48 5 40 _ underReadsQ infoRead rfl (by decide) _ 0 [] hs hown ad l.length cap (l.flatMap rdC) hx (flat_length l) hr.newsQ (by first | exact onesQ l | exact rdC_onesQ l | exact spC_onesQ l) (by omega) (by decide) hb ?_
    intro v' w' h1 h2 _
    rw [Nat.zero_add, List.nil_append] at h1
    exact h v' w' h1 h2
theorem wp_copy_spans {o : Oper} {a : Act} {K : Act → World → Prop} {Q : Exit → Act → World → Prop} {w : World} (s x : Operand)
    (ho : o.op = .call { callee := .builtin .append, args := #[s, x], argTypes := #[22, 22] })
    (base g : Nat) (hs : a.eval s = .slice (some ⟨g, 0, none⟩) 0 0) (hown : w.ownsRow base 24 2 (.slice (some ⟨g, 0, none⟩) 0 0) 0 []) (ao : Option Addr) (cap : Nat) (l : List (Int × Int)) (hx : a.eval x = .slice ao l.length cap) (Rd : Nat → Prop) (hr : SpansAt w (.slice ao l.length cap) l Rd) (hl : l.length ≤ 1000) (hb : base ≤ w.heap.size)
    (h : ∀ v' w', w'.ownsRow base 24 2 v' l.length (l.flatMap spC) → w.grownBy w' (some g) → K (a.put o.dst v') w') : o.wp Try.prog a w K Q := by
  cases ao with
  | none =>
    have hnil : l = [] := by
      obtain ⟨ao', cap', h1, _, _, h4⟩ := hr
      exact len_none h1 (fun i hi => by obtain ⟨b, off, e, _⟩ := h4 i hi; exact ⟨b, off, e⟩)
    subst hnil
    exact wp_append_nilQ s x _ ho 24 2 16 _ underSpansQ infoSpansQ g hs _ _ hx rfl (h _ _ hown ⟨rfl, rfl, rfl, Nat.le_refl _, fun _ _ _ => rfl⟩)
  | some ad =>
    refine wp_append_here s x _ ho base 24 2 16 _ underSpansQ infoSpansQ rfl (by decide) _ 0 [] hs hown ad l.length cap (l.flatMap spC) hx (spC_lengthQ l) hr.newsQ (by first | exact onesQ l | exact rdC_onesQ l | exact spC_onesQ l) (by omega) (by decide) hb ?_
    intro v' w' h1 h2 _
    rw [Nat.zero_add, List.nil_append] at h1
    exact h v' w' h1 h2
end Go.Proofs.Ytabbmihakoeegaa

/- PlanMore: the walk, from the copies of the arguments on. -/
namespace Go.Proofs.Ytabbmihakoeegaa
set_option linter.unusedVariables false
set_option linter.unusedSimpArgs false
open Go.RowKit Go.Shelf
attribute [local go_sem] Oper.semAt_some

/-- What is left of a function's text behind its first statements. -/
def dropQ : Nat → Code → Code
  | 0, c => c
  | n + 1, .seq _ b => dropQ n b
  | _ + 1, _ => .skip
def headOfQ : Code → Code
  | .seq a _ => a
  | c => c
noncomputable def moreQ (n : Nat) : Code := dropQ n (Try.f7.body.getD .skip)
noncomputable def headQ (n : Nat) : Code := headOfQ (moreQ n)
theorem ReadsAt.elemsQ {W0 : World} {v : Value} {rs : List RdD} {Rd : Nat → Prop} (h : ReadsAt W0 v rs Rd) :
    ∃ ao cap, v = .slice ao rs.length cap ∧ (0 < rs.length → ∃ bb off, ao = some ⟨bb, off, none⟩ ∧ bb < W0.heap.size ∧ ∀ W' : World, W'.heap[bb]? = W0.heap[bb]? → ∀ i (hi : i < rs.length), W'.cell? ⟨bb, off + i * 5, none⟩ = some (.int .i64 rs[i].a) ∧ W'.cell? ⟨bb, off + i * 5 + 1, none⟩ = some (.int .i64 rs[i].b) ∧ W'.cell? ⟨bb, off + i * 5 + 2, none⟩ = some (.int .i64 rs[i].m) ∧ W'.cell? ⟨bb, off + i * 5 + 3, none⟩ = some (.int .i64 rs[i].lo) ∧ W'.cell? ⟨bb, off + i * 5 + 4, none⟩ = some (.int .i64 rs[i].hi)) := by
  obtain ⟨ao, cap, rfl, _, _, h4⟩ := h
  refine ⟨ao, cap, rfl, fun h0 => ?_⟩
  obtain ⟨bb, off, e2, _, hb, _⟩ := h4 0 h0
  refine ⟨bb, off, e2, hb, fun W' hbw i hi => ?_⟩
  obtain ⟨b2, o2, f2, _, hb2, f3, f4, f5, f6, f7⟩ := h4 i hi
  have f8 := Option.some.inj (e2.symm.trans f2)
  have fb : b2 = bb := (congrArg Addr.block f8).symm
  have fo : o2 = off := (congrArg (fun x : Addr => x.off) f8).symm
  subst fb fo
  exact ⟨(World.cell?_of_block (w := W0) (a := ⟨b2, o2 + i * 5, none⟩) hbw).trans f3, (World.cell?_of_block (w := W0) (a := ⟨b2, o2 + i * 5 + 1, none⟩) hbw).trans f4, (World.cell?_of_block (w := W0) (a := ⟨b2, o2 + i * 5 + 2, none⟩) hbw).trans f5, (World.cell?_of_block (w := W0) (a := ⟨b2, o2 + i * 5 + 3, none⟩) hbw).trans f6, (World.cell?_of_block (w := W0) (a := ⟨b2, o2 + i * 5 + 4, none⟩) hbw).trans f7⟩
theorem SpansAt.elemsQ {W0 : World} {v : Value} {bs : List (Int × Int)} {Rd : Nat → Prop} (h : SpansAt W0 v bs Rd) :
    ∃ ao cap, v = .slice ao bs.length cap ∧ (0 < bs.length → ∃ bb off, ao = some ⟨bb, off, none⟩ ∧ bb < W0.heap.size ∧ ∀ W' : World, W'.heap[bb]? = W0.heap[bb]? → ∀ i (hi : i < bs.length), W'.cell? ⟨bb, off + i * 2, none⟩ = some (.int .i64 bs[i].1) ∧ W'.cell? ⟨bb, off + i * 2 + 1, none⟩ = some (.int .i64 bs[i].2)) := by
  obtain ⟨ao, cap, rfl, _, _, h4⟩ := h
  refine ⟨ao, cap, rfl, fun h0 => ?_⟩
  obtain ⟨bb, off, e2, _, hb, _⟩ := h4 0 h0
  refine ⟨bb, off, e2, hb, fun W' hbw i hi => ?_⟩
  obtain ⟨b2, o2, f2, _, hb2, f3, f4⟩ := h4 i hi
  have f8 := Option.some.inj (e2.symm.trans f2)
  have fb : b2 = bb := (congrArg Addr.block f8).symm
  have fo : o2 = off := (congrArg (fun x : Addr => x.off) f8).symm
  subst fb fo
  exact ⟨(World.cell?_of_block (w := W0) (a := ⟨b2, o2 + i * 2, none⟩) hbw).trans f3, (World.cell?_of_block (w := W0) (a := ⟨b2, o2 + i * 2 + 1, none⟩) hbw).trans f4⟩
theorem NumsAt.elemsQ {W0 : World} {v : Value} {l : List Int} {Rd : Nat → Prop} (h : NumsAt W0 v l Rd) :
    ∃ ao cap, v = .slice ao l.length cap ∧ (0 < l.length → ∃ bb off, ao = some ⟨bb, off, none⟩ ∧ bb < W0.heap.size ∧ ∀ W' : World, W'.heap[bb]? = W0.heap[bb]? → ∀ i (hi : i < l.length), W'.cell? ⟨bb, off + i, none⟩ = some (.int .i64 l[i])) := by
  obtain ⟨ao, cap, rfl, _, _, h4⟩ := h
  refine ⟨ao, cap, rfl, fun h0 => ?_⟩
  obtain ⟨bb, off, e2, _, hb, _⟩ := h4 0 h0
  refine ⟨bb, off, e2, hb, fun W' hbw i hi => ?_⟩
  obtain ⟨b2, o2, f2, _, hb2, f3⟩ := h4 i hi
  have f8 := Option.some.inj (e2.symm.trans f2)
  have fb : b2 = bb := (congrArg Addr.block f8).symm
  have fo : o2 = off := (congrArg (fun x : Addr => x.off) f8).symm
  subst fb fo
  exact (World.cell?_of_block (w := W0) (a := ⟨b2, o2 + i, none⟩) hbw).trans f3
theorem below_drewQ {n : Nat} {a w : World} (h : Below n a w) (k : Nat) : Below n a (w.drewN k) := ⟨h.os, h.tape, h.output, h.size, h.block⟩
/-- What the statement says at its end. -/
theorem more_fin {q x : PlanD} (hv : validP q = true) (hx : validP x = true) (h : MoreP q x) {m : Int} (h0 : 0 ≤ m) (h8 : m ≤ 8) {s : Nat} (hs : s < 2 ^ q.prices.length) :
    (bestPlV x m = ((0, 0), 10) ∧ fewestV x = (0, 10)) ∨
    ((bestPlV x m).2 = 0 ∧ (bestPlV q m).2 = 0 ∧ (bestPlV x m).1.2 ≤ (bestPlV q m).1.2 ∧ ((fewestV q).2 = 0 → (fewestV x).2 = 0 ∧ ∃ a c : Nat, a < 256 ∧ c < 256 ∧ (fewestV q).1 = a ∧ (fewestV x).1 = c ∧ ones c ≤ ones a) ∧ (enoughC q s = true → enoughC x s = true)) := by
  have hq := OkQ.of hv
  have hxx := OkQ.of hx
  by_cases ht : truA x.pr = []
  · exact .inl ⟨best_no hx ht h0 h8, fewest_err (errE_no hx ht) (by decide)⟩
  · have htq := h.truth hq hxx ht
    refine .inr ⟨?_, ?_, ?_, fun he => ?_, fun he => ?_⟩
    · rw [best_yes hx ht h0 h8]
    · rw [best_yes hv htq h0 h8]
    · rw [best_yes hv htq h0 h8, best_yes hx ht h0 h8]
      exact h.best hq hxx ht h0 h8
    · cases hen : enoughV q (everyV q) with
      | false => rw [fewest_err (errE_none hv htq hen) (by decide)] at he; cases he
      | true =>
        have h1 := h.every hq hxx ht hen
        rw [fewest_ok (errE_ok hv htq hen), fewest_ok (errE_ok hx ht h1)]
        have p1 := (few_ok hq htq hen).lt
        have p2 := (few_ok hxx ht h1).lt
        have q1 := hq.p256
        have q2 := hxx.p256
        exact ⟨rfl, fewS q, fewS x, by omega, by omega, rfl, rfl, h.few hq hxx ht hen⟩
    · have hp := h.pow
      rw [enoughC_is hv htq hs] at he
      rw [enoughC_is hx ht (by omega)]
      exact h.enough hq hxx ht hs he
set_option maxRecDepth 100000 in
set_option maxHeartbeats 8000000 in
theorem pm_r (q x : PlanD) (bs rs ps bs2 rs2 ps2 v14 v15 v16 : Value) (y z : Int) (hy : 0 ≤ y ∧ y < 256) (hz : 0 ≤ z ∧ z < 256) (B X : Nat) (w : World) (hv : validP q = true) (hm : validP x = true → MoreP q x)
    (hpb : w.heap[B]? = some (.cells (planRow q bs rs ps) 30 (0, 0))) (hpa : PlanAt w q bs rs ps) (hxb : w.heap[X]? = some (.cells (planRow x bs2 rs2 ps2) 30 (0, 0))) (hxa : PlanAt w x bs2 rs2 ps2)
    (h14 : NumsAt w v14 q.prices (fun k => k < w.heap.size)) (h15 : ReadsAt w v15 q.pr.rs (fun k => k < w.heap.size)) (h16 : SpansAt w v16 q.pr.bs (fun k => k < w.heap.size))
    (R : Ending → World → Prop) (hR : ∀ w', Below w.heap.size w w' → R (.returned (.bool true)) w') (K : Act → World → Prop) (hK : ∀ a w, Code.wp Try.prog (moreQ 8) (bodyPost Try.prog Try.f7 R) a w → K a w) (u0 u1 u2 u6 u11 u13 u33 u34 u35 u36 u37 u38 u39 u40 u41 u42 u43 u44 u45 u46 u47 u48 u49 u50 u51 u52 u53 u54 u55 u56 u57 u58 u59 u60 u61 u62 u63 u64 u65 u66 u67 u68 u69 u70 u71 u72 u73 u74 u75 u76 u77 u78 u79 u80 u81 u82 u83 u84 u85 u86 u87 u88 u89 u90 u91 u92 u93 u94 u95 u96 u97 u98 u99 u100 u101 u102 u103 u104 u105 u106 u107 u108 u109 u110 u111 u112 u113 u114 u115 u116 u117 u118 u119 u120 u121 u122 : Value) :
    Code.wp Try.prog (headQ 7) (Exit.then K (bodyPost Try.prog Try.f7 R)) ⟨#[u0, u1, u2, .int .u8 y, .int .u8 z, .pointer (some ⟨B, 0, none⟩), u6, undef, undef, undef, .bool false, u11, .pointer (some ⟨X, 0, none⟩), u13, v14, v15, v16, undef, undef, undef, undef, undef, undef, undef, undef, undef, undef, undef, undef, undef, undef, undef, undef, u33, u34, u35, u36, u37, u38, u39, u40, u41, u42, u43, u44, u45, u46, u47, u48, u49, u50, u51, u52, u53, u54, u55, u56, u57, u58, u59, u60, u61, u62, u63, u64, u65, u66, u67, u68, u69, u70, u71, u72, u73, u74, u75, u76, u77, u78, u79, u80, u81, u82, u83, u84, u85, u86, u87, u88, u89, u90, u91, u92, u93, u94, u95, u96, u97, u98, u99, u100, u101, u102, u103, u104, u105, u106, u107, u108, u109, u110, u111, u112, u113, u114, u115, u116, u117, u118, u119, u120, u121, u122, undef, undef, undef, undef, undef, undef, undef, undef, undef, undef, undef, undef, undef, undef, undef, undef, undef, undef, undef, undef, undef, undef, undef, undef, undef, undef, undef, undef, undef, undef, undef, undef, undef, undef, undef, undef, undef, undef, undef, undef, undef, undef, undef, undef, undef, undef, undef, undef, undef, undef, undef, undef, undef, undef, undef, undef, undef, undef, undef, undef, undef, undef, undef, undef, undef, undef, undef, undef, undef, undef, undef, undef, undef, undef, undef, undef, undef, undef, undef, undef, undef, undef, undef, undef, undef, undef, undef, undef, undef, undef, undef, undef, undef, undef, undef, undef, undef, undef, undef, undef, undef, undef, undef, undef, undef, undef, undef, undef, undef, undef, undef, undef, undef, undef, undef, undef, undef, undef, undef, undef, undef, undef, undef, undef, undef, undef, undef, undef, undef, undef, undef, undef, undef, undef, undef, undef, undef, undef, undef, undef, undef, undef, undef, undef, undef, undef, undef, undef, undef, undef, undef, undef, undef, undef], []⟩ w := by
  conv => arg 2; whnf
  obtain ⟨aob, capb, hbv, _⟩ := id hpa.p.b
  obtain ⟨aor, capr, hrv, _⟩ := id hpa.p.r
  obtain ⟨aop, capp, hpv, _⟩ := id hpa.n
  obtain ⟨aob2, capb2, hbv2, _⟩ := id hxa.p.b
  obtain ⟨aor2, capr2, hrv2, _⟩ := id hxa.p.r
  obtain ⟨aop2, capp2, hpv2, _⟩ := id hxa.n
  subst hbv hrv hpv hbv2 hrv2 hpv2
  unfold planRow at hpb hxb
  have hpl := lt_of_block hpb
  have hxl := lt_of_block hxb
  have rows : ∀ W', Below w.heap.size w W' → (W'.cell? ⟨B, 0, none⟩ = some (.slice aob q.pr.bs.length capb) ∧ W'.cell? ⟨B, 1, none⟩ = some (.int .i64 q.pr.zl) ∧ W'.cell? ⟨B, 2, none⟩ = some (.int .i64 q.pr.zh) ∧
      W'.cell? ⟨B, 3, none⟩ = some (.int .i64 q.pr.rl) ∧ W'.cell? ⟨B, 4, none⟩ = some (.int .i64 q.pr.rh) ∧ W'.cell? ⟨B, 5, none⟩ = some (.slice aor q.pr.rs.length capr) ∧ W'.cell? ⟨B, 6, none⟩ = some (.int .i64 q.wide) ∧ W'.cell? ⟨B, 7, none⟩ = some (.slice aop q.prices.length capp)) := fun W' hb => by
    have q1 := (hb.block B hpl).trans hpb
    refine ⟨?_, ?_, ?_, ?_, ?_, ?_, ?_, ?_⟩ <;> (rw [cell_of_row _ _ _ _ _ _ q1]; rfl)
  have rowsx : ∀ W', Below w.heap.size w W' → (W'.cell? ⟨X, 0, none⟩ = some (.slice aob2 x.pr.bs.length capb2) ∧ W'.cell? ⟨X, 1, none⟩ = some (.int .i64 x.pr.zl) ∧ W'.cell? ⟨X, 2, none⟩ = some (.int .i64 x.pr.zh) ∧
      W'.cell? ⟨X, 3, none⟩ = some (.int .i64 x.pr.rl) ∧ W'.cell? ⟨X, 4, none⟩ = some (.int .i64 x.pr.rh) ∧ W'.cell? ⟨X, 5, none⟩ = some (.slice aor2 x.pr.rs.length capr2) ∧ W'.cell? ⟨X, 6, none⟩ = some (.int .i64 x.wide) ∧ W'.cell? ⟨X, 7, none⟩ = some (.slice aop2 x.prices.length capp2)) := fun W' hb => by
    have q1 := (hb.block X hxl).trans hxb
    refine ⟨?_, ?_, ?_, ?_, ?_, ?_, ?_, ?_⟩ <;> (rw [cell_of_row _ _ _ _ _ _ q1]; rfl)
  have ROWS := Lib.hid rows
  have ROWSX := Lib.hid rowsx
  have HRR := Lib.hid hR
  have HPX := Lib.hid hxa
  have HM := Lib.hid hm
  have HV := Lib.hid hv
  obtain ⟨a14, k14, rfl, e14⟩ := h14.elemsQ
  obtain ⟨a15, k15, rfl, e15⟩ := h15.elemsQ
  obtain ⟨a16, k16, rfl, e16⟩ := h16.elemsQ
  obtain ⟨aop', capp', he1, epp⟩ := hpa.n.elemsQ
  obtain ⟨rfl, -, rfl⟩ := Value.slice.inj he1
  obtain ⟨aor', capr', he2, epr⟩ := hpa.p.r.elemsQ
  obtain ⟨rfl, -, rfl⟩ := Value.slice.inj he2
  obtain ⟨aob', capb', he3, epb⟩ := hpa.p.b.elemsQ
  obtain ⟨rfl, -, rfl⟩ := Value.slice.inj he3
  have HPA := Lib.hid hpa
  have E14 := Lib.hid e14
  have E15 := Lib.hid e15
  have E16 := Lib.hid e16
  have EPP := Lib.hid epp
  have EPR := Lib.hid epr
  have EPB := Lib.hid epb
  have HB1 : Hid (Below w.heap.size w w) := Lib.hid (Below.refl _ _)
  have hq := OkQ.of hv
  have hm8 := hq.m8
  have h256 := hq.p256
  have hlen := hq.len
  have hev := @everyV_lt q
  have HQ := Lib.hid hq
  have HLEN := Lib.hid hlen
  obtain ⟨ev, hevs⟩ : ∃ s, s = everyV q := ⟨_, rfl⟩
  rw [← hevs] at hev
  have HEVS := Lib.hid hevs
  obtain ⟨m, hm9⟩ : ∃ m, y % 9 = m := ⟨_, rfl⟩
  have hm0 : 0 ≤ m := by omega
  have hm8' : m ≤ 8 := by omega
  have hwy : IntKind.i64.wrap y = y := IntWalk.i64_in _ (by omega)
  obtain ⟨zn, hzn⟩ : ∃ n : Nat, z = n := ⟨z.toNat, by omega⟩
  subst hzn
  have hand := i64_and_nat zn ev (by omega) (by omega)
  have hwz : IntKind.i64.wrap (zn : Int) = (zn : Int) := IntWalk.i64_in _ (by omega)
  have hsl : zn &&& ev < 2 ^ q.prices.length := Nat.lt_of_le_of_lt Nat.and_le_right hev
  obtain ⟨s, hs⟩ : ∃ o, o = zn &&& ev := ⟨_, rfl⟩
  rw [← hs] at hand hsl
  have HFIN := Lib.hid (fun hx => more_fin hv hx (hm hx) hm0 hm8' hsl)
  obtain ⟨⟨a, e1⟩, hf⟩ : ∃ v, fewestV q = v := ⟨_, rfl⟩
  obtain ⟨⟨⟨b0, b⟩, e2⟩, hbp⟩ : ∃ v, bestPlV q m = v := ⟨_, rfl⟩
  obtain ⟨wq, hwq⟩ : ∃ v, enoughC q (s : Int) = v := ⟨_, rfl⟩
  rw [hf, hbp, hwq] at HFIN
  have F1 := Lib.hid hf
  have F2 := Lib.hid hbp
  have F3 := Lib.hid hwq
  clear rows rowsx hR hxa hm hv h14 h15 h16 he1 he2 he3 epp epr epb e14 e15 e16 hpa hq hlen hevs hs hf hbp hwq hpb hxb
  obtain ⟨c0, c1, c2, c3, c4, c5, c6, c7⟩ := ROWS.out w HB1.out
  go_wp2_with fail
  refine (every8_any HQ.out.m8 _ (HPA.out.later HB1.out)).mono ?_
  rintro e w1 ⟨rfl, hb⟩
  have HB2 := Lib.hid (HB1.out.trans (hb.mono HB1.out.size))
  clear hb
  try dsimp only
  rw [← HEVS.out]
  clear c0 c1 c2 c3 c4 c5 c6 c7
  obtain ⟨c0, c1, c2, c3, c4, c5, c6, c7⟩ := ROWS.out w1 HB2.out
  go_wp2_with fail
  conv => arg 2; whnf
  go_wp2_with fail
  refine (fewestV_any (HPA.out.later HB2.out)).mono ?_
  rintro e w2 ⟨he, hb⟩
  rw [F1.out] at he
  try dsimp only at he
  subst he
  have HB3 := Lib.hid (HB2.out.trans (hb.mono HB2.out.size))
  clear hb
  try dsimp only
  clear c0 c1 c2 c3 c4 c5 c6 c7
  obtain ⟨c0, c1, c2, c3, c4, c5, c6, c7⟩ := ROWS.out w2 HB3.out
  go_wp2_with fail
  refine (bestPlV_any m (HPA.out.later HB3.out)).mono ?_
  rintro e w3 ⟨he, hb⟩
  rw [F2.out] at he
  try dsimp only at he
  subst he
  have HB4 := Lib.hid (HB3.out.trans (hb.mono HB3.out.size))
  clear hb
  try dsimp only
  clear c0 c1 c2 c3 c4 c5 c6 c7
  obtain ⟨c0, c1, c2, c3, c4, c5, c6, c7⟩ := ROWS.out w3 HB4.out
  go_wp2_with fail
  refine (enough8_any _ _ (HPA.out.later HB4.out)).mono ?_
  rintro e w4 ⟨he, hb⟩
  rw [F3.out] at he
  try dsimp only at he
  subst he
  have HB5 := Lib.hid (HB4.out.trans (hb.mono HB4.out.size))
  clear hb
  try dsimp only
  clear c0 c1 c2 c3 c4 c5 c6 c7
  obtain ⟨c0, c1, c2, c3, c4, c5, c6, c7⟩ := ROWS.out w4 HB5.out
  go_wp2_with fail
  refine (orderV_any (HPA.out.later HB5.out)).mono ?_
  rintro e w5 ⟨v, rfl, _, hb⟩
  have HB6 := Lib.hid (HB5.out.trans (hb.mono HB5.out.size))
  clear hb c0 c1 c2 c3 c4 c5 c6 c7
  try dsimp only
  go_wp2_with fail
  go_loopw [153] (fun iv wr => ∃ i : Nat, i ≤ q.prices.length ∧ iv = .int .i64 i ∧ Below w.heap.size w wr) (fun iv _ => q.prices.length - (intOf iv).toNat)
  case atStart => exact ⟨0, Nat.zero_le _, rfl, HB6.out⟩
  case round =>
    clear HB1 HB2 HB3 HB4 HB5 HB6
    obtain ⟨i, hi, rfl, hb⟩ := hrel
    have HB := Lib.hid hb
    by_cases hlt : i < q.prices.length
    case pos =>
      have hlti : (i : Int) < (q.prices.length : Int) := by omega
      have hltd : decide ((i : Int) < (q.prices.length : Int)) = true := decide_eq_true hlti
      have hlr : i < q.pr.rs.length := by rw [← HLEN.out]; exact hlt
      have hlri : (i : Int) < (q.pr.rs.length : Int) := by omega
      have hwi : IntKind.i64.wrap ((i : Int) + 1) = ((i + 1 : Nat) : Int) := by rw [IntWalk.i64_in _ (by omega)]; omega
      obtain ⟨b14, o14, rfl, hb14, g14⟩ := E14.out (by omega)
      obtain ⟨bp, op, rfl, hbp, gp⟩ := EPP.out (by omega)
      obtain ⟨b15, o15, rfl, hb15, g15⟩ := E15.out (by omega)
      obtain ⟨br, or, rfl, hbr, gr⟩ := EPR.out (by omega)
      obtain ⟨pr, hpr⟩ : ∃ x, x = q.prices[i] := ⟨_, rfl⟩
      obtain ⟨rd, hrd⟩ : ∃ x, x = q.pr.rs[i] := ⟨_, rfl⟩
      have e1 := g14 wr (hb.block _ hb14) i hlt
      have e2 := gp wr (hb.block _ hbp) i hlt
      have e3 := g15 wr (hb.block _ hb15) i hlr
      have e4 := gr wr (hb.block _ hbr) i hlr
      rw [← hpr] at e1 e2
      rw [← hrd] at e3 e4
      obtain ⟨e30, e31, e32, e33, e34⟩ := e3
      obtain ⟨e40, e41, e42, e43, e44⟩ := e4
      obtain ⟨-, -, -, -, -, c5, -, c7⟩ := ROWS.out wr hb
      clear g14 gp g15 gr hpr hrd hb
      go_wp2_with fail
      go_quiet (fail)
      go_wp2
      exact ⟨⟨i + 1, by omega, by first | rfl | (congr 1; omega), below_drewQ HB.out _⟩, by simp [intOf]; omega⟩
    case neg =>
      have hd : decide ((i : Int) < (q.prices.length : Int)) = false := decide_eq_false (by omega)
      rename World => w6
      clear hb
      go_wp2_with fail
      go_loopw [182] (fun jv wr => ∃ j : Nat, j ≤ q.pr.bs.length ∧ jv = .int .i64 j ∧ Below w.heap.size w wr) (fun jv _ => q.pr.bs.length - (intOf jv).toNat)
      case atStart => exact ⟨0, Nat.zero_le _, rfl, HB.out⟩
      case round =>
        clear HB
        obtain ⟨j, hj, rfl, hb⟩ := hrel
        have HB := Lib.hid hb
        have hn5 := (OkP.of _ HQ.out.pr).n5
        by_cases hlj : j < q.pr.bs.length
        case pos =>
          have hlti : (j : Int) < (q.pr.bs.length : Int) := by omega
          have hltd : decide ((j : Int) < (q.pr.bs.length : Int)) = true := decide_eq_true hlti
          have hwi : IntKind.i64.wrap ((j : Int) + 1) = ((j + 1 : Nat) : Int) := by rw [IntWalk.i64_in _ (by omega)]; omega
          obtain ⟨b16, o16, rfl, hb16, g16⟩ := E16.out (by omega)
          obtain ⟨bb, ob, rfl, hbb, gb⟩ := EPB.out (by omega)
          obtain ⟨sp, hsp⟩ : ∃ x, x = q.pr.bs[j] := ⟨_, rfl⟩
          have e1 := g16 wr (hb.block _ hb16) j hlj
          have e2 := gb wr (hb.block _ hbb) j hlj
          rw [← hsp] at e1 e2
          obtain ⟨e10, e11⟩ := e1
          obtain ⟨e20, e21⟩ := e2
          obtain ⟨c0, -, -, -, -, -, -, -⟩ := ROWS.out wr hb
          clear g16 gb hsp hb
          go_wp2_with fail
          go_quiet (fail)
          go_wp2
          exact ⟨⟨j + 1, by omega, by first | rfl | (congr 1; omega), below_drewQ HB.out _⟩, by simp [intOf]; omega⟩
        case neg =>
          have hd2 : decide ((j : Int) < (q.pr.bs.length : Int)) = false := decide_eq_false (by omega)
          clear hb
          try clear d0 d1 d2 d3 d4 d5 d6 d7
          obtain ⟨d0, d1, d2, d3, d4, d5, d6, d7⟩ := ROWSX.out wr HB.out
          go_wp2_with fail
          refine (plan8_any _ (HPX.out.later HB.out)).mono ?_
          rintro e w7 ⟨rfl, hb⟩
          have HB7 := Lib.hid (HB.out.trans (hb.mono HB.out.size))
          clear hb
          try dsimp only
          try clear d0 d1 d2 d3 d4 d5 d6 d7
          obtain ⟨d0, d1, d2, d3, d4, d5, d6, d7⟩ := ROWSX.out w7 HB7.out
          cases hvx : validP x with
          | false =>
            clear hvx
            go_wp2_with fail
            refine (awake_any _).mono ?_
            rintro e vz ⟨rfl, hb⟩
            have HBZ := Lib.hid (HB7.out.trans (hb.mono HB7.out.size))
            clear hb
            try dsimp only
            go_wp2
            exact HRR.out _ HBZ.out
          | true =>
          have HPV := Lib.hid (OkQ.of hvx).pr
          have hfin := HFIN.out hvx
          obtain ⟨⟨c, g⟩, hf⟩ : ∃ v, fewestV x = v := ⟨_, rfl⟩
          obtain ⟨⟨⟨d0', d⟩, h⟩, hbq⟩ : ∃ v, bestPlV x m = v := ⟨_, rfl⟩
          obtain ⟨wx, hwx⟩ : ∃ v, enoughC x (s : Int) = v := ⟨_, rfl⟩
          rw [hf, hbq, hwx] at hfin
          have G1 := Lib.hid hf
          have G2 := Lib.hid hbq
          have G3 := Lib.hid hwx
          clear hvx hf hbq hwx
          go_wp2_with fail
          refine (rpair_any (HPX.out.later HB7.out).p).mono ?_
          rintro e w8 ⟨he, hb⟩
          rw [HPV.out] at he
          subst he
          have HB8 := Lib.hid (HB7.out.trans (hb.mono HB7.out.size))
          clear hb
          try dsimp only
          try clear d0 d1 d2 d3 d4 d5 d6 d7
          obtain ⟨d0, d1, d2, d3, d4, d5, d6, d7⟩ := ROWSX.out w8 HB8.out
          go_wp2_with fail
          refine (fewestV_any (HPX.out.later HB8.out)).mono ?_
          rintro e w9 ⟨he, hb⟩
          rw [G1.out] at he
          try dsimp only at he
          subst he
          have HB9 := Lib.hid (HB8.out.trans (hb.mono HB8.out.size))
          clear hb
          try dsimp only
          try clear d0 d1 d2 d3 d4 d5 d6 d7
          obtain ⟨d0, d1, d2, d3, d4, d5, d6, d7⟩ := ROWSX.out w9 HB9.out
          go_wp2_with fail
          refine (bestPlV_any m (HPX.out.later HB9.out)).mono ?_
          rintro e wa ⟨he, hb⟩
          rw [G2.out] at he
          try dsimp only at he
          subst he
          have HBA := Lib.hid (HB9.out.trans (hb.mono HB9.out.size))
          clear hb
          try dsimp only
          try clear d0 d1 d2 d3 d4 d5 d6 d7
          obtain ⟨d0, d1, d2, d3, d4, d5, d6, d7⟩ := ROWSX.out wa HBA.out
          rcases hfin with ⟨hf1, hf2⟩ | ⟨f1, f2, f3, f4, f5⟩
          · simp only [Prod.mk.injEq] at hf1 hf2
            obtain ⟨⟨rfl, rfl⟩, rfl⟩ := hf1
            obtain ⟨rfl, rfl⟩ := hf2
            go_wp2_with fail
            refine (awake_any _).mono ?_
            rintro e vz ⟨rfl, hb⟩
            have HBZ := Lib.hid (HBA.out.trans (hb.mono HBA.out.size))
            clear hb
            try dsimp only
            go_wp2
            exact HRR.out _ HBZ.out
          · try dsimp only at f1 f2 f3 f4
            subst f1 f2
            have f3d : decide (b < d) = false := decide_eq_false (by omega)
            have f3n : ¬ b < d := by omega
            have F5 := Lib.hid f5
            clear f5
            by_cases he1 : e1 = 0
            · obtain ⟨hg0, an, cn, han, hcn, ea, ec, hac⟩ := f4 he1
              subst hg0 he1 ea ec
              have i1 : ¬ (an : Int) < 0 := by omega
              have i1d : decide ((an : Int) < 0) = false := decide_eq_false i1
              have i2 : ¬ (cn : Int) < 0 := by omega
              have i2d : decide ((cn : Int) < 0) = false := decide_eq_false i2
              have i3 : ¬ (ones an : Int) < (ones cn : Int) := by omega
              have i3d : decide ((ones an : Int) < (ones cn : Int)) = false := decide_eq_false i3
              have i4d : decide (ones an < ones cn) = false := decide_eq_false (by omega)
              have i5 : ones cn ≤ ones an := hac
              clear f4
              go_wp2_with fail
              refine (size8_any cn (by omega) _).mono ?_
              rintro e wz ⟨rfl, rfl⟩
              try dsimp only
              go_wp2_with fail
              refine (size8_any an (by omega) _).mono ?_
              rintro e wz ⟨rfl, rfl⟩
              dsimp only
              cases wq with
              | false =>
                go_wp2_with fail
                refine (awake_any _).mono ?_
                rintro e vz ⟨rfl, hb⟩
                have HBZ := Lib.hid (HBA.out.trans (hb.mono HBA.out.size))
                clear hb
                try dsimp only
                go_wp2
                exact HRR.out _ HBZ.out
              | true =>
                have F6 := Lib.hid (G3.out.trans (F5.out rfl))
                go_wp2_with fail
                refine (enough8_any _ _ (HPX.out.later HBA.out)).mono ?_
                rintro e wb ⟨he, hb⟩
                rw [F6.out] at he
                try dsimp only at he
                subst he
                have HBB := Lib.hid (HBA.out.trans (hb.mono HBA.out.size))
                clear hb
                try dsimp only
                go_wp2_with fail
                refine (awake_any _).mono ?_
                rintro e vz ⟨rfl, hb⟩
                have HBZ := Lib.hid (HBB.out.trans (hb.mono HBB.out.size))
                clear hb
                try dsimp only
                go_wp2
                exact HRR.out _ HBZ.out
            · have ge : (e1 == 0) = false := by rw [beq_eq_false_iff_ne]; exact he1
              clear f4
              cases wq with
              | false =>
                go_wp2_with fail
                refine (awake_any _).mono ?_
                rintro e vz ⟨rfl, hb⟩
                have HBZ := Lib.hid (HBA.out.trans (hb.mono HBA.out.size))
                clear hb
                try dsimp only
                go_wp2
                exact HRR.out _ HBZ.out
              | true =>
                have F6 := Lib.hid (G3.out.trans (F5.out rfl))
                go_wp2_with fail
                refine (enough8_any _ _ (HPX.out.later HBA.out)).mono ?_
                rintro e wb ⟨he, hb⟩
                rw [F6.out] at he
                try dsimp only at he
                subst he
                have HBB := Lib.hid (HBA.out.trans (hb.mono HBA.out.size))
                clear hb
                try dsimp only
                go_wp2_with fail
                refine (awake_any _).mono ?_
                rintro e vz ⟨rfl, hb⟩
                have HBZ := Lib.hid (HBB.out.trans (hb.mono HBB.out.size))
                clear hb
                try dsimp only
                go_wp2
                exact HRR.out _ HBZ.out
end Go.Proofs.Ytabbmihakoeegaa

/- PlanMore: the walk, the copies of the arguments, in whatever order. -/
namespace Go.Proofs.Ytabbmihakoeegaa
set_option linter.unusedVariables false
set_option linter.unusedSimpArgs false
open Go.RowKit Go.Shelf
attribute [local go_sem] Oper.semAt_some

def S12 (B : Nat) (bsv rsv psv : Value) (W : World) : Prop := W.cell? ⟨B, 0, none⟩ = some bsv ∧ W.cell? ⟨B, 5, none⟩ = some rsv ∧ W.cell? ⟨B, 7, none⟩ = some psv
set_option maxRecDepth 100000 in
set_option maxHeartbeats 16000000 in
theorem pm_q (q x : PlanD) (bs rs ps bs2 rs2 ps2 : Value) (y z : Int) (hy : 0 ≤ y ∧ y < 256) (hz : 0 ≤ z ∧ z < 256) (B X : Nat) (w : World) (hv : validP q = true) (hm : validP x = true → MoreP q x)
    (hpb : w.heap[B]? = some (.cells (planRow q bs rs ps) 30 (0, 0))) (hpa : PlanAt w q bs rs ps) (hxb : w.heap[X]? = some (.cells (planRow x bs2 rs2 ps2) 30 (0, 0))) (hxa : PlanAt w x bs2 rs2 ps2)
    (R : Ending → World → Prop) (hR : ∀ w', Below w.heap.size w w' → R (.returned (.bool true)) w') (K0 : Act → World → Prop) (hK0 : ∀ a w, Code.wp Try.prog (moreQ 7) (bodyPost Try.prog Try.f7 R) a w → K0 a w) (u0 u1 u2 u6 u11 u13 u33 u34 u35 u36 u37 u38 u39 u40 u41 u42 u43 u44 u45 u46 u47 u48 u49 u50 u51 u52 u53 u54 u55 u56 u57 u58 u59 u60 u61 u62 u63 u64 u65 u66 u67 u68 u69 u70 u71 u72 u73 u74 u75 u76 u77 u78 u79 u80 u81 u82 u83 u84 u85 u86 u87 u88 u89 u90 u91 u92 u93 u94 u95 u96 u97 u98 u99 u100 u101 u102 u103 u104 u105 u106 u107 u108 : Value) :
    Code.wp Try.prog (headQ 6) (Exit.then K0 (bodyPost Try.prog Try.f7 R)) ⟨#[u0, u1, u2, .int .u8 y, .int .u8 z, .pointer (some ⟨B, 0, none⟩), u6, undef, undef, undef, .bool false, u11, .pointer (some ⟨X, 0, none⟩), u13, undef, undef, undef, undef, undef, undef, undef, undef, undef, undef, undef, undef, undef, undef, undef, undef, undef, undef, undef, u33, u34, u35, u36, u37, u38, u39, u40, u41, u42, u43, u44, u45, u46, u47, u48, u49, u50, u51, u52, u53, u54, u55, u56, u57, u58, u59, u60, u61, u62, u63, u64, u65, u66, u67, u68, u69, u70, u71, u72, u73, u74, u75, u76, u77, u78, u79, u80, u81, u82, u83, u84, u85, u86, u87, u88, u89, u90, u91, u92, u93, u94, u95, u96, u97, u98, u99, u100, u101, u102, u103, u104, u105, u106, u107, u108, undef, undef, undef, undef, undef, undef, undef, undef, undef, undef, undef, undef, undef, undef, undef, undef, undef, undef, undef, undef, undef, undef, undef, undef, undef, undef, undef, undef, undef, undef, undef, undef, undef, undef, undef, undef, undef, undef, undef, undef, undef, undef, undef, undef, undef, undef, undef, undef, undef, undef, undef, undef, undef, undef, undef, undef, undef, undef, undef, undef, undef, undef, undef, undef, undef, undef, undef, undef, undef, undef, undef, undef, undef, undef, undef, undef, undef, undef, undef, undef, undef, undef, undef, undef, undef, undef, undef, undef, undef, undef, undef, undef, undef, undef, undef, undef, undef, undef, undef, undef, undef, undef, undef, undef, undef, undef, undef, undef, undef, undef, undef, undef, undef, undef, undef, undef, undef, undef, undef, undef, undef, undef, undef, undef, undef, undef, undef, undef, undef, undef, undef, undef, undef, undef, undef, undef, undef, undef, undef, undef, undef, undef, undef, undef, undef, undef, undef, undef, undef, undef, undef, undef, undef, undef, undef, undef, undef, undef, undef, undef, undef, undef, undef, undef, undef, undef, undef, undef], []⟩ w := by
  conv => arg 2; whnf
  have hq := OkQ.of hv
  have hm8 := hq.m8
  have hlen := hq.len
  have hn5 := (OkP.of _ hq.pr).n5
  have hpl := lt_of_block hpb
  have hxl := lt_of_block hxb
  have HEND := Lib.hid (fun v14 v15 v16 W (hb : Below w.heap.size w W) (h14 : NumsAt W v14 q.prices (fun k => k < W.heap.size)) (h15 : ReadsAt W v15 q.pr.rs (fun k => k < W.heap.size)) (h16 : SpansAt W v16 q.pr.bs (fun k => k < W.heap.size)) =>
    pm_r q x bs rs ps bs2 rs2 ps2 v14 v15 v16 y z hy hz B X W hv hm ((hb.block _ hpl).trans hpb) (hpa.later hb) ((hb.block _ hxl).trans hxb) (hxa.later hb) h14 h15 h16 R (fun w' h => hR w' (hb.trans (h.mono hb.size))))
  obtain ⟨aob, capb, hbv, _⟩ := id hpa.p.b
  obtain ⟨aor, capr, hrv, _⟩ := id hpa.p.r
  obtain ⟨aop, capp, hpv, _⟩ := id hpa.n
  subst hbv hrv hpv
  have HPA := Lib.hid hpa
  have HS12 : Hid (∀ W, Below w.heap.size w W → S12 B (.slice aob q.pr.bs.length capb) (.slice aor q.pr.rs.length capr) (.slice aop q.prices.length capp) W) := Lib.hid fun W h => by
    have h1 := (h.block B hpl).trans hpb
    exact ⟨cell_of_row _ _ 0 _ _ _ h1, cell_of_row _ _ 5 _ _ _ h1, cell_of_row _ _ 7 _ _ _ h1⟩
  have HBW : Hid (Below w.heap.size w w.drew) := Lib.hid (Below.refl _ _).drew
  have hlr : q.pr.rs.length ≤ 8 := by omega
  clear hpb hpa hxb hxa hm hv hR hlen hq
  go_wp2_with fail
  refine wp_region_tail 14 #[false, false, false, false, false, false, false, false, false, false, false, false, false, false, true, true, true] (S12 B (.slice aob q.pr.bs.length capb) (.slice aor q.pr.rs.length capr) (.slice aop q.prices.length capp)) (by kernel_rfl) (by kernel_rfl) (by rfl) (HS12.out _ HBW.out) fun hS => ?_
  obtain ⟨V0, hV0⟩ : ∃ x, x = w.drew := ⟨_, rfl⟩
  rw [← hV0] at HBW hS
  rw [← hV0]
  clear hV0
  refine wpAnyH_take (i := 1) (v := ?_) rfl (by kernel_rfl) (by kernel_rfl) (by kernel_rfl) (fun _ _ _ h => h) (Or.inl ⟨by rfl, ?_⟩) hS ?_
  rotate_left
  · (intro W hSw; obtain ⟨hq1, hq2, hq3⟩ := hSw; go_simp; try with_reducible rfl)
  try simp only [List.getElem_toArray, List.getElem_cons_succ, List.getElem_cons_zero, Act.put, List.setIfInBounds_toArray, List.set_cons_zero, List.set_cons_succ]
  refine wpAnyH_take (i := 2) (v := ?_) rfl (by kernel_rfl) (by kernel_rfl) (by kernel_rfl) (fun _ _ _ h => h) (Or.inl ⟨by rfl, ?_⟩) hS ?_
  rotate_left
  · (intro W hSw; obtain ⟨hq1, hq2, hq3⟩ := hSw; go_simp; try with_reducible rfl)
  try simp only [List.getElem_toArray, List.getElem_cons_succ, List.getElem_cons_zero, Act.put, List.setIfInBounds_toArray, List.set_cons_zero, List.set_cons_succ]
  refine wpAnyH_take (i := 5) (v := ?_) rfl (by kernel_rfl) (by kernel_rfl) (by kernel_rfl) (fun _ _ _ h => h) (Or.inl ⟨by rfl, ?_⟩) hS ?_
  rotate_left
  · (intro W hSw; obtain ⟨hq1, hq2, hq3⟩ := hSw; go_simp; try with_reducible rfl)
  try simp only [List.getElem_toArray, List.getElem_cons_succ, List.getElem_cons_zero, Act.put, List.setIfInBounds_toArray, List.set_cons_zero, List.set_cons_succ]
  refine wpAnyH_take (i := 6) (v := ?_) rfl (by kernel_rfl) (by kernel_rfl) (by kernel_rfl) (fun _ _ _ h => h) (Or.inl ⟨by rfl, ?_⟩) hS ?_
  rotate_left
  · (intro W hSw; obtain ⟨hq1, hq2, hq3⟩ := hSw; go_simp; try with_reducible rfl)
  try simp only [List.getElem_toArray, List.getElem_cons_succ, List.getElem_cons_zero, Act.put, List.setIfInBounds_toArray, List.set_cons_zero, List.set_cons_succ]
  refine wpAnyH_take (i := 7) (v := ?_) rfl (by kernel_rfl) (by kernel_rfl) (by kernel_rfl) (fun _ _ _ h => h) (Or.inl ⟨by rfl, ?_⟩) hS ?_
  rotate_left
  · (intro W hSw; obtain ⟨hq1, hq2, hq3⟩ := hSw; go_simp; try with_reducible rfl)
  try simp only [List.getElem_toArray, List.getElem_cons_succ, List.getElem_cons_zero, Act.put, List.setIfInBounds_toArray, List.set_cons_zero, List.set_cons_succ]
  refine wpAnyH_take (i := 10) (v := ?_) rfl (by kernel_rfl) (by kernel_rfl) (by kernel_rfl) (fun _ _ _ h => h) (Or.inl ⟨by rfl, ?_⟩) hS ?_
  rotate_left
  · (intro W hSw; obtain ⟨hq1, hq2, hq3⟩ := hSw; go_simp; try with_reducible rfl)
  try simp only [List.getElem_toArray, List.getElem_cons_succ, List.getElem_cons_zero, Act.put, List.setIfInBounds_toArray, List.set_cons_zero, List.set_cons_succ]
  refine wpAnyH_take (i := 11) (v := ?_) rfl (by kernel_rfl) (by kernel_rfl) (by kernel_rfl) (fun _ _ _ h => h) (Or.inl ⟨by rfl, ?_⟩) hS ?_
  rotate_left
  · (intro W hSw; obtain ⟨hq1, hq2, hq3⟩ := hSw; go_simp; try with_reducible rfl)
  try simp only [List.getElem_toArray, List.getElem_cons_succ, List.getElem_cons_zero, Act.put, List.setIfInBounds_toArray, List.set_cons_zero, List.set_cons_succ]
  refine wpAnyH_take (i := 12) (v := ?_) rfl (by kernel_rfl) (by kernel_rfl) (by kernel_rfl) (fun _ _ _ h => h) (Or.inl ⟨by rfl, ?_⟩) hS ?_
  rotate_left
  · (intro W hSw; obtain ⟨hq1, hq2, hq3⟩ := hSw; go_simp; try with_reducible rfl)
  try simp only [List.getElem_toArray, List.getElem_cons_succ, List.getElem_cons_zero, Act.put, List.setIfInBounds_toArray, List.set_cons_zero, List.set_cons_succ]
  refine wpAnyH_ready (rs := [0, 4, 9]) (by kernel_rfl) (by simp) ?_
  refine (AllReadyH.cons rfl (fun K hK => ?_) (AllReadyH.cons rfl (fun K hK => ?_) (AllReadyH.cons rfl (fun K hK => ?_) AllReadyH.nil)))
  · skip
    go_simp
    obtain ⟨V1, hU⟩ : ∃ x, x = (V0).alloc (.cells #[] 3) := ⟨_, rfl⟩
    obtain ⟨gI, hgi⟩ : ∃ k, k = (V0).heap.size := ⟨_, rfl⟩
    have hbU : Below (V0).heap.size V0 V1 := by rw [hU]; exact (Below.refl _ _).alloc (Nat.le_refl _) _
    have HI : Hid (World.ownsRow V1 w.heap.size 3 1 (.slice (some ⟨gI, 0, none⟩) 0 0) 0 []) := Lib.hid (by rw [hU, hgi]; exact own_noneQ (heap_alloc_at _ _ _ rfl) HBW.out.size)
    first | (replace HR := Lib.hid (own_below HR.out hbU)) | skip
    first | (replace HS := Lib.hid (own_below HS.out hbU)) | skip
    replace HBW := Lib.hid (HBW.out.trans (hbU.mono HBW.out.size))
    rw [← hgi, ← hU]
    clear hU hgi hbU
    refine hK.out _ _ (HS12.out _ HBW.out) (fun hS => ?_)
    clear hK K
    try simp only [List.getElem_toArray, List.getElem_cons_succ, List.getElem_cons_zero, Act.put, List.setIfInBounds_toArray, List.set_cons_zero, List.set_cons_succ]
    refine wpAnyH_ready (rs := [3, 4, 9]) (by kernel_rfl) (by simp) ?_
    refine (AllReadyH.cons rfl (fun K hK => ?_) (AllReadyH.cons rfl (fun K hK => ?_) (AllReadyH.cons rfl (fun K hK => ?_) AllReadyH.nil)))
    · skip
      rw [if_pos (by rfl)]
      refine wp_copy_nums (.tmp 109) (.tmp 111) rfl w.heap.size gI rfl HI.out aop capp q.prices rfl _ (HPA.out.later HBW.out).n (by omega) HBW.out.size ?_
      intro vI V2 howni hgrow
      first | (replace HR := Lib.hid (HR.out.kept hgrow (own_sepQ HR.out HI.out (by decide)))) | skip
      first | (replace HS := Lib.hid (HS.out.kept hgrow (own_sepQ HS.out HI.out (by decide)))) | skip
      replace HBW := Lib.hid (HBW.out.trans ((Below.refl _ _).grown hgrow HBW.out.size (own_base HI.out)))
      replace HI := Lib.hid howni
      clear howni hgrow
      refine hK.out _ _ (HS12.out _ HBW.out) (fun hS => ?_)
      clear hK K
      try simp only [List.getElem_toArray, List.getElem_cons_succ, List.getElem_cons_zero, Act.put, List.setIfInBounds_toArray, List.set_cons_zero, List.set_cons_succ]
      refine wpAnyH_ready (rs := [4, 9]) (by kernel_rfl) (by simp) ?_
      refine (AllReadyH.cons rfl (fun K hK => ?_) (AllReadyH.cons rfl (fun K hK => ?_) AllReadyH.nil))
      · skip
        go_simp
        obtain ⟨V3, hU⟩ : ∃ x, x = (V2).alloc (.cells #[] 48) := ⟨_, rfl⟩
        obtain ⟨gR, hgi⟩ : ∃ k, k = (V2).heap.size := ⟨_, rfl⟩
        have hbU : Below (V2).heap.size V2 V3 := by rw [hU]; exact (Below.refl _ _).alloc (Nat.le_refl _) _
        have HR : Hid (World.ownsRow V3 w.heap.size 48 5 (.slice (some ⟨gR, 0, none⟩) 0 0) 0 []) := Lib.hid (by rw [hU, hgi]; exact own_noneQ (heap_alloc_at _ _ _ rfl) HBW.out.size)
        first | (replace HI := Lib.hid (own_below HI.out hbU)) | skip
        first | (replace HS := Lib.hid (own_below HS.out hbU)) | skip
        replace HBW := Lib.hid (HBW.out.trans (hbU.mono HBW.out.size))
        rw [← hgi, ← hU]
        clear hU hgi hbU
        refine hK.out _ _ (HS12.out _ HBW.out) (fun hS => ?_)
        clear hK K
        try simp only [List.getElem_toArray, List.getElem_cons_succ, List.getElem_cons_zero, Act.put, List.setIfInBounds_toArray, List.set_cons_zero, List.set_cons_succ]
        refine wpAnyH_ready (rs := [8, 9]) (by kernel_rfl) (by simp) ?_
        refine (AllReadyH.cons rfl (fun K hK => ?_) (AllReadyH.cons rfl (fun K hK => ?_) AllReadyH.nil))
        · skip
          rw [if_pos (by rfl)]
          refine wp_copy_readsQ (.tmp 113) (.tmp 116) rfl w.heap.size gR rfl HR.out aor capr q.pr.rs rfl _ (HPA.out.later HBW.out).p.r (by omega) HBW.out.size ?_
          intro vR V4 howni hgrow
          first | (replace HI := Lib.hid (HI.out.kept hgrow (own_sepQ HI.out HR.out (by decide)))) | skip
          first | (replace HS := Lib.hid (HS.out.kept hgrow (own_sepQ HS.out HR.out (by decide)))) | skip
          replace HBW := Lib.hid (HBW.out.trans ((Below.refl _ _).grown hgrow HBW.out.size (own_base HR.out)))
          replace HR := Lib.hid howni
          clear howni hgrow
          refine hK.out _ _ (HS12.out _ HBW.out) (fun hS => ?_)
          clear hK K
          try simp only [List.getElem_toArray, List.getElem_cons_succ, List.getElem_cons_zero, Act.put, List.setIfInBounds_toArray, List.set_cons_zero, List.set_cons_succ]
          refine wpAnyH_ready (rs := [9]) (by kernel_rfl) (by simp) ?_
          refine (AllReadyH.cons rfl (fun K hK => ?_) AllReadyH.nil)
          go_simp
          obtain ⟨V5, hU⟩ : ∃ x, x = (V4).alloc (.cells #[] 24) := ⟨_, rfl⟩
          obtain ⟨gS, hgi⟩ : ∃ k, k = (V4).heap.size := ⟨_, rfl⟩
          have hbU : Below (V4).heap.size V4 V5 := by rw [hU]; exact (Below.refl _ _).alloc (Nat.le_refl _) _
          have HS : Hid (World.ownsRow V5 w.heap.size 24 2 (.slice (some ⟨gS, 0, none⟩) 0 0) 0 []) := Lib.hid (by rw [hU, hgi]; exact own_noneQ (heap_alloc_at _ _ _ rfl) HBW.out.size)
          first | (replace HI := Lib.hid (own_below HI.out hbU)) | skip
          first | (replace HR := Lib.hid (own_below HR.out hbU)) | skip
          replace HBW := Lib.hid (HBW.out.trans (hbU.mono HBW.out.size))
          rw [← hgi, ← hU]
          clear hU hgi hbU
          refine hK.out _ _ (HS12.out _ HBW.out) (fun hS => ?_)
          clear hK K
          try simp only [List.getElem_toArray, List.getElem_cons_succ, List.getElem_cons_zero, Act.put, List.setIfInBounds_toArray, List.set_cons_zero, List.set_cons_succ]
          refine wpAnyH_ready (rs := [13]) (by kernel_rfl) (by simp) ?_
          refine (AllReadyH.cons rfl (fun K hK => ?_) AllReadyH.nil)
          rw [if_pos (by rfl)]
          refine wp_copy_spans (.tmp 118) (.tmp 121) rfl w.heap.size gS rfl HS.out aob capb q.pr.bs rfl _ (HPA.out.later HBW.out).p.b (by omega) HBW.out.size ?_
          intro vS V6 howni hgrow
          first | (replace HI := Lib.hid (HI.out.kept hgrow (own_sepQ HI.out HS.out (by decide)))) | skip
          first | (replace HR := Lib.hid (HR.out.kept hgrow (own_sepQ HR.out HS.out (by decide)))) | skip
          replace HBW := Lib.hid (HBW.out.trans ((Below.refl _ _).grown hgrow HBW.out.size (own_base HS.out)))
          replace HS := Lib.hid howni
          clear howni hgrow
          refine hK.out _ _ (HS12.out _ HBW.out) (fun hS => ?_)
          clear hK K
          try simp only [List.getElem_toArray, List.getElem_cons_succ, List.getElem_cons_zero, Act.put, List.setIfInBounds_toArray, List.set_cons_zero, List.set_cons_succ]
          refine wpAnyH_done (by kernel_rfl) ?_ _
          unfold TailQ
          simp only [List.drop_succ_cons, List.drop_zero]
          clear hS
          go_wp2_with fail
          conv => arg 2; whnf
          go_upto_region 13 with fail
          refine HEND.out _ _ _ V6 HBW.out (nums_of_own rfl HI.out).low (readsAt_of_owns HR.out).low (spansAt_of_owns HS.out).low _ ?_ _ _ _ _ _ _ _ _ _ _ _ _ _ _ _ _ _ _ _ _ _ _ _ _ _ _ _ _ _ _ _ _ _ _ _ _ _ _ _ _ _ _ _ _ _ _ _ _ _ _ _ _ _ _ _ _ _ _ _ _ _ _ _ _ _ _ _ _ _ _ _ _ _ _ _ _ _ _ _ _ _ _ _ _ _ _ _ _ _ _ _ _ _ _ _ _
          assumption
        · skip
          go_simp
          obtain ⟨V7, hU⟩ : ∃ x, x = (V3).alloc (.cells #[] 24) := ⟨_, rfl⟩
          obtain ⟨gS, hgi⟩ : ∃ k, k = (V3).heap.size := ⟨_, rfl⟩
          have hbU : Below (V3).heap.size V3 V7 := by rw [hU]; exact (Below.refl _ _).alloc (Nat.le_refl _) _
          have HS : Hid (World.ownsRow V7 w.heap.size 24 2 (.slice (some ⟨gS, 0, none⟩) 0 0) 0 []) := Lib.hid (by rw [hU, hgi]; exact own_noneQ (heap_alloc_at _ _ _ rfl) HBW.out.size)
          first | (replace HI := Lib.hid (own_below HI.out hbU)) | skip
          first | (replace HR := Lib.hid (own_below HR.out hbU)) | skip
          replace HBW := Lib.hid (HBW.out.trans (hbU.mono HBW.out.size))
          rw [← hgi, ← hU]
          clear hU hgi hbU
          refine hK.out _ _ (HS12.out _ HBW.out) (fun hS => ?_)
          clear hK K
          try simp only [List.getElem_toArray, List.getElem_cons_succ, List.getElem_cons_zero, Act.put, List.setIfInBounds_toArray, List.set_cons_zero, List.set_cons_succ]
          refine wpAnyH_ready (rs := [8]) (by kernel_rfl) (by simp) ?_
          refine (AllReadyH.cons rfl (fun K hK => ?_) AllReadyH.nil)
          rw [if_pos (by rfl)]
          refine wp_copy_readsQ (.tmp 113) (.tmp 116) rfl w.heap.size gR rfl HR.out aor capr q.pr.rs rfl _ (HPA.out.later HBW.out).p.r (by omega) HBW.out.size ?_
          intro vR V8 howni hgrow
          first | (replace HI := Lib.hid (HI.out.kept hgrow (own_sepQ HI.out HR.out (by decide)))) | skip
          first | (replace HS := Lib.hid (HS.out.kept hgrow (own_sepQ HS.out HR.out (by decide)))) | skip
          replace HBW := Lib.hid (HBW.out.trans ((Below.refl _ _).grown hgrow HBW.out.size (own_base HR.out)))
          replace HR := Lib.hid howni
          clear howni hgrow
          refine hK.out _ _ (HS12.out _ HBW.out) (fun hS => ?_)
          clear hK K
          try simp only [List.getElem_toArray, List.getElem_cons_succ, List.getElem_cons_zero, Act.put, List.setIfInBounds_toArray, List.set_cons_zero, List.set_cons_succ]
          refine wpAnyH_ready (rs := [13]) (by kernel_rfl) (by simp) ?_
          refine (AllReadyH.cons rfl (fun K hK => ?_) AllReadyH.nil)
          rw [if_pos (by rfl)]
          refine wp_copy_spans (.tmp 118) (.tmp 121) rfl w.heap.size gS rfl HS.out aob capb q.pr.bs rfl _ (HPA.out.later HBW.out).p.b (by omega) HBW.out.size ?_
          intro vS V9 howni hgrow
          first | (replace HI := Lib.hid (HI.out.kept hgrow (own_sepQ HI.out HS.out (by decide)))) | skip
          first | (replace HR := Lib.hid (HR.out.kept hgrow (own_sepQ HR.out HS.out (by decide)))) | skip
          replace HBW := Lib.hid (HBW.out.trans ((Below.refl _ _).grown hgrow HBW.out.size (own_base HS.out)))
          replace HS := Lib.hid howni
          clear howni hgrow
          refine hK.out _ _ (HS12.out _ HBW.out) (fun hS => ?_)
          clear hK K
          try simp only [List.getElem_toArray, List.getElem_cons_succ, List.getElem_cons_zero, Act.put, List.setIfInBounds_toArray, List.set_cons_zero, List.set_cons_succ]
          refine wpAnyH_done (by kernel_rfl) ?_ _
          unfold TailQ
          simp only [List.drop_succ_cons, List.drop_zero]
          clear hS
          go_wp2_with fail
          conv => arg 2; whnf
          go_upto_region 13 with fail
          refine HEND.out _ _ _ V9 HBW.out (nums_of_own rfl HI.out).low (readsAt_of_owns HR.out).low (spansAt_of_owns HS.out).low _ ?_ _ _ _ _ _ _ _ _ _ _ _ _ _ _ _ _ _ _ _ _ _ _ _ _ _ _ _ _ _ _ _ _ _ _ _ _ _ _ _ _ _ _ _ _ _ _ _ _ _ _ _ _ _ _ _ _ _ _ _ _ _ _ _ _ _ _ _ _ _ _ _ _ _ _ _ _ _ _ _ _ _ _ _ _ _ _ _ _ _ _ _ _ _ _ _ _
          assumption
      · skip
        go_simp
        obtain ⟨V10, hU⟩ : ∃ x, x = (V2).alloc (.cells #[] 24) := ⟨_, rfl⟩
        obtain ⟨gS, hgi⟩ : ∃ k, k = (V2).heap.size := ⟨_, rfl⟩
        have hbU : Below (V2).heap.size V2 V10 := by rw [hU]; exact (Below.refl _ _).alloc (Nat.le_refl _) _
        have HS : Hid (World.ownsRow V10 w.heap.size 24 2 (.slice (some ⟨gS, 0, none⟩) 0 0) 0 []) := Lib.hid (by rw [hU, hgi]; exact own_noneQ (heap_alloc_at _ _ _ rfl) HBW.out.size)
        first | (replace HI := Lib.hid (own_below HI.out hbU)) | skip
        first | (replace HR := Lib.hid (own_below HR.out hbU)) | skip
        replace HBW := Lib.hid (HBW.out.trans (hbU.mono HBW.out.size))
        rw [← hgi, ← hU]
        clear hU hgi hbU
        refine hK.out _ _ (HS12.out _ HBW.out) (fun hS => ?_)
        clear hK K
        try simp only [List.getElem_toArray, List.getElem_cons_succ, List.getElem_cons_zero, Act.put, List.setIfInBounds_toArray, List.set_cons_zero, List.set_cons_succ]
        refine wpAnyH_ready (rs := [4]) (by kernel_rfl) (by simp) ?_
        refine (AllReadyH.cons rfl (fun K hK => ?_) AllReadyH.nil)
        go_simp
        obtain ⟨V11, hU⟩ : ∃ x, x = (V10).alloc (.cells #[] 48) := ⟨_, rfl⟩
        obtain ⟨gR, hgi⟩ : ∃ k, k = (V10).heap.size := ⟨_, rfl⟩
        have hbU : Below (V10).heap.size V10 V11 := by rw [hU]; exact (Below.refl _ _).alloc (Nat.le_refl _) _
        have HR : Hid (World.ownsRow V11 w.heap.size 48 5 (.slice (some ⟨gR, 0, none⟩) 0 0) 0 []) := Lib.hid (by rw [hU, hgi]; exact own_noneQ (heap_alloc_at _ _ _ rfl) HBW.out.size)
        first | (replace HI := Lib.hid (own_below HI.out hbU)) | skip
        first | (replace HS := Lib.hid (own_below HS.out hbU)) | skip
        replace HBW := Lib.hid (HBW.out.trans (hbU.mono HBW.out.size))
        rw [← hgi, ← hU]
        clear hU hgi hbU
        refine hK.out _ _ (HS12.out _ HBW.out) (fun hS => ?_)
        clear hK K
        try simp only [List.getElem_toArray, List.getElem_cons_succ, List.getElem_cons_zero, Act.put, List.setIfInBounds_toArray, List.set_cons_zero, List.set_cons_succ]
        refine wpAnyH_ready (rs := [8]) (by kernel_rfl) (by simp) ?_
        refine (AllReadyH.cons rfl (fun K hK => ?_) AllReadyH.nil)
        rw [if_pos (by rfl)]
        refine wp_copy_readsQ (.tmp 113) (.tmp 116) rfl w.heap.size gR rfl HR.out aor capr q.pr.rs rfl _ (HPA.out.later HBW.out).p.r (by omega) HBW.out.size ?_
        intro vR V12 howni hgrow
        first | (replace HI := Lib.hid (HI.out.kept hgrow (own_sepQ HI.out HR.out (by decide)))) | skip
        first | (replace HS := Lib.hid (HS.out.kept hgrow (own_sepQ HS.out HR.out (by decide)))) | skip
        replace HBW := Lib.hid (HBW.out.trans ((Below.refl _ _).grown hgrow HBW.out.size (own_base HR.out)))
        replace HR := Lib.hid howni
        clear howni hgrow
        refine hK.out _ _ (HS12.out _ HBW.out) (fun hS => ?_)
        clear hK K
        try simp only [List.getElem_toArray, List.getElem_cons_succ, List.getElem_cons_zero, Act.put, List.setIfInBounds_toArray, List.set_cons_zero, List.set_cons_succ]
        refine wpAnyH_ready (rs := [13]) (by kernel_rfl) (by simp) ?_
        refine (AllReadyH.cons rfl (fun K hK => ?_) AllReadyH.nil)
        rw [if_pos (by rfl)]
        refine wp_copy_spans (.tmp 118) (.tmp 121) rfl w.heap.size gS rfl HS.out aob capb q.pr.bs rfl _ (HPA.out.later HBW.out).p.b (by omega) HBW.out.size ?_
        intro vS V13 howni hgrow
        first | (replace HI := Lib.hid (HI.out.kept hgrow (own_sepQ HI.out HS.out (by decide)))) | skip
        first | (replace HR := Lib.hid (HR.out.kept hgrow (own_sepQ HR.out HS.out (by decide)))) | skip
        replace HBW := Lib.hid (HBW.out.trans ((Below.refl _ _).grown hgrow HBW.out.size (own_base HS.out)))
        replace HS := Lib.hid howni
        clear howni hgrow
        refine hK.out _ _ (HS12.out _ HBW.out) (fun hS => ?_)
        clear hK K
        try simp only [List.getElem_toArray, List.getElem_cons_succ, List.getElem_cons_zero, Act.put, List.setIfInBounds_toArray, List.set_cons_zero, List.set_cons_succ]
        refine wpAnyH_done (by kernel_rfl) ?_ _
        unfold TailQ
        simp only [List.drop_succ_cons, List.drop_zero]
        clear hS
        go_wp2_with fail
        conv => arg 2; whnf
        go_upto_region 13 with fail
        refine HEND.out _ _ _ V13 HBW.out (nums_of_own rfl HI.out).low (readsAt_of_owns HR.out).low (spansAt_of_owns HS.out).low _ ?_ _ _ _ _ _ _ _ _ _ _ _ _ _ _ _ _ _ _ _ _ _ _ _ _ _ _ _ _ _ _ _ _ _ _ _ _ _ _ _ _ _ _ _ _ _ _ _ _ _ _ _ _ _ _ _ _ _ _ _ _ _ _ _ _ _ _ _ _ _ _ _ _ _ _ _ _ _ _ _ _ _ _ _ _ _ _ _ _ _ _ _ _ _ _ _ _
        assumption
    · skip
      go_simp
      obtain ⟨V14, hU⟩ : ∃ x, x = (V1).alloc (.cells #[] 48) := ⟨_, rfl⟩
      obtain ⟨gR, hgi⟩ : ∃ k, k = (V1).heap.size := ⟨_, rfl⟩
      have hbU : Below (V1).heap.size V1 V14 := by rw [hU]; exact (Below.refl _ _).alloc (Nat.le_refl _) _
      have HR : Hid (World.ownsRow V14 w.heap.size 48 5 (.slice (some ⟨gR, 0, none⟩) 0 0) 0 []) := Lib.hid (by rw [hU, hgi]; exact own_noneQ (heap_alloc_at _ _ _ rfl) HBW.out.size)
      first | (replace HI := Lib.hid (own_below HI.out hbU)) | skip
      first | (replace HS := Lib.hid (own_below HS.out hbU)) | skip
      replace HBW := Lib.hid (HBW.out.trans (hbU.mono HBW.out.size))
      rw [← hgi, ← hU]
      clear hU hgi hbU
      refine hK.out _ _ (HS12.out _ HBW.out) (fun hS => ?_)
      clear hK K
      try simp only [List.getElem_toArray, List.getElem_cons_succ, List.getElem_cons_zero, Act.put, List.setIfInBounds_toArray, List.set_cons_zero, List.set_cons_succ]
      refine wpAnyH_ready (rs := [3, 9]) (by kernel_rfl) (by simp) ?_
      refine (AllReadyH.cons rfl (fun K hK => ?_) (AllReadyH.cons rfl (fun K hK => ?_) AllReadyH.nil))
      · skip
        rw [if_pos (by rfl)]
        refine wp_copy_nums (.tmp 109) (.tmp 111) rfl w.heap.size gI rfl HI.out aop capp q.prices rfl _ (HPA.out.later HBW.out).n (by omega) HBW.out.size ?_
        intro vI V15 howni hgrow
        first | (replace HR := Lib.hid (HR.out.kept hgrow (own_sepQ HR.out HI.out (by decide)))) | skip
        first | (replace HS := Lib.hid (HS.out.kept hgrow (own_sepQ HS.out HI.out (by decide)))) | skip
        replace HBW := Lib.hid (HBW.out.trans ((Below.refl _ _).grown hgrow HBW.out.size (own_base HI.out)))
        replace HI := Lib.hid howni
        clear howni hgrow
        refine hK.out _ _ (HS12.out _ HBW.out) (fun hS => ?_)
        clear hK K
        try simp only [List.getElem_toArray, List.getElem_cons_succ, List.getElem_cons_zero, Act.put, List.setIfInBounds_toArray, List.set_cons_zero, List.set_cons_succ]
        refine wpAnyH_ready (rs := [8, 9]) (by kernel_rfl) (by simp) ?_
        refine (AllReadyH.cons rfl (fun K hK => ?_) (AllReadyH.cons rfl (fun K hK => ?_) AllReadyH.nil))
        · skip
          rw [if_pos (by rfl)]
          refine wp_copy_readsQ (.tmp 113) (.tmp 116) rfl w.heap.size gR rfl HR.out aor capr q.pr.rs rfl _ (HPA.out.later HBW.out).p.r (by omega) HBW.out.size ?_
          intro vR V16 howni hgrow
          first | (replace HI := Lib.hid (HI.out.kept hgrow (own_sepQ HI.out HR.out (by decide)))) | skip
          first | (replace HS := Lib.hid (HS.out.kept hgrow (own_sepQ HS.out HR.out (by decide)))) | skip
          replace HBW := Lib.hid (HBW.out.trans ((Below.refl _ _).grown hgrow HBW.out.size (own_base HR.out)))
          replace HR := Lib.hid howni
          clear howni hgrow
          refine hK.out _ _ (HS12.out _ HBW.out) (fun hS => ?_)
          clear hK K
          try simp only [List.getElem_toArray, List.getElem_cons_succ, List.getElem_cons_zero, Act.put, List.setIfInBounds_toArray, List.set_cons_zero, List.set_cons_succ]
          refine wpAnyH_ready (rs := [9]) (by kernel_rfl) (by simp) ?_
          refine (AllReadyH.cons rfl (fun K hK => ?_) AllReadyH.nil)
          go_simp
          obtain ⟨V17, hU⟩ : ∃ x, x = (V16).alloc (.cells #[] 24) := ⟨_, rfl⟩
          obtain ⟨gS, hgi⟩ : ∃ k, k = (V16).heap.size := ⟨_, rfl⟩
          have hbU : Below (V16).heap.size V16 V17 := by rw [hU]; exact (Below.refl _ _).alloc (Nat.le_refl _) _
          have HS : Hid (World.ownsRow V17 w.heap.size 24 2 (.slice (some ⟨gS, 0, none⟩) 0 0) 0 []) := Lib.hid (by rw [hU, hgi]; exact own_noneQ (heap_alloc_at _ _ _ rfl) HBW.out.size)
          first | (replace HI := Lib.hid (own_below HI.out hbU)) | skip
          first | (replace HR := Lib.hid (own_below HR.out hbU)) | skip
          replace HBW := Lib.hid (HBW.out.trans (hbU.mono HBW.out.size))
          rw [← hgi, ← hU]
          clear hU hgi hbU
          refine hK.out _ _ (HS12.out _ HBW.out) (fun hS => ?_)
          clear hK K
          try simp only [List.getElem_toArray, List.getElem_cons_succ, List.getElem_cons_zero, Act.put, List.setIfInBounds_toArray, List.set_cons_zero, List.set_cons_succ]
          refine wpAnyH_ready (rs := [13]) (by kernel_rfl) (by simp) ?_
          refine (AllReadyH.cons rfl (fun K hK => ?_) AllReadyH.nil)
          rw [if_pos (by rfl)]
          refine wp_copy_spans (.tmp 118) (.tmp 121) rfl w.heap.size gS rfl HS.out aob capb q.pr.bs rfl _ (HPA.out.later HBW.out).p.b (by omega) HBW.out.size ?_
          intro vS V18 howni hgrow
          first | (replace HI := Lib.hid (HI.out.kept hgrow (own_sepQ HI.out HS.out (by decide)))) | skip
          first | (replace HR := Lib.hid (HR.out.kept hgrow (own_sepQ HR.out HS.out (by decide)))) | skip
          replace HBW := Lib.hid (HBW.out.trans ((Below.refl _ _).grown hgrow HBW.out.size (own_base HS.out)))
          replace HS := Lib.hid howni
          clear howni hgrow
          refine hK.out _ _ (HS12.out _ HBW.out) (fun hS => ?_)
          clear hK K
          try simp only [List.getElem_toArray, List.getElem_cons_succ, List.getElem_cons_zero, Act.put, List.setIfInBounds_toArray, List.set_cons_zero, List.set_cons_succ]
          refine wpAnyH_done (by kernel_rfl) ?_ _
          unfold TailQ
          simp only [List.drop_succ_cons, List.drop_zero]
          clear hS
          go_wp2_with fail
          conv => arg 2; whnf
          go_upto_region 13 with fail
          refine HEND.out _ _ _ V18 HBW.out (nums_of_own rfl HI.out).low (readsAt_of_owns HR.out).low (spansAt_of_owns HS.out).low _ ?_ _ _ _ _ _ _ _ _ _ _ _ _ _ _ _ _ _ _ _ _ _ _ _ _ _ _ _ _ _ _ _ _ _ _ _ _ _ _ _ _ _ _ _ _ _ _ _ _ _ _ _ _ _ _ _ _ _ _ _ _ _ _ _ _ _ _ _ _ _ _ _ _ _ _ _ _ _ _ _ _ _ _ _ _ _ _ _ _ _ _ _ _ _ _ _ _
          assumption
        · skip
          go_simp
          obtain ⟨V19, hU⟩ : ∃ x, x = (V15).alloc (.cells #[] 24) := ⟨_, rfl⟩
          obtain ⟨gS, hgi⟩ : ∃ k, k = (V15).heap.size := ⟨_, rfl⟩
          have hbU : Below (V15).heap.size V15 V19 := by rw [hU]; exact (Below.refl _ _).alloc (Nat.le_refl _) _
          have HS : Hid (World.ownsRow V19 w.heap.size 24 2 (.slice (some ⟨gS, 0, none⟩) 0 0) 0 []) := Lib.hid (by rw [hU, hgi]; exact own_noneQ (heap_alloc_at _ _ _ rfl) HBW.out.size)
          first | (replace HI := Lib.hid (own_below HI.out hbU)) | skip
          first | (replace HR := Lib.hid (own_below HR.out hbU)) | skip
          replace HBW := Lib.hid (HBW.out.trans (hbU.mono HBW.out.size))
          rw [← hgi, ← hU]
          clear hU hgi hbU
          refine hK.out _ _ (HS12.out _ HBW.out) (fun hS => ?_)
          clear hK K
          try simp only [List.getElem_toArray, List.getElem_cons_succ, List.getElem_cons_zero, Act.put, List.setIfInBounds_toArray, List.set_cons_zero, List.set_cons_succ]
          refine wpAnyH_ready (rs := [8]) (by kernel_rfl) (by simp) ?_
          refine (AllReadyH.cons rfl (fun K hK => ?_) AllReadyH.nil)
          rw [if_pos (by rfl)]
          refine wp_copy_readsQ (.tmp 113) (.tmp 116) rfl w.heap.size gR rfl HR.out aor capr q.pr.rs rfl _ (HPA.out.later HBW.out).p.r (by omega) HBW.out.size ?_
          intro vR V20 howni hgrow
          first | (replace HI := Lib.hid (HI.out.kept hgrow (own_sepQ HI.out HR.out (by decide)))) | skip
          first | (replace HS := Lib.hid (HS.out.kept hgrow (own_sepQ HS.out HR.out (by decide)))) | skip
          replace HBW := Lib.hid (HBW.out.trans ((Below.refl _ _).grown hgrow HBW.out.size (own_base HR.out)))
          replace HR := Lib.hid howni
          clear howni hgrow
          refine hK.out _ _ (HS12.out _ HBW.out) (fun hS => ?_)
          clear hK K
          try simp only [List.getElem_toArray, List.getElem_cons_succ, List.getElem_cons_zero, Act.put, List.setIfInBounds_toArray, List.set_cons_zero, List.set_cons_succ]
          refine wpAnyH_ready (rs := [13]) (by kernel_rfl) (by simp) ?_
          refine (AllReadyH.cons rfl (fun K hK => ?_) AllReadyH.nil)
          rw [if_pos (by rfl)]
          refine wp_copy_spans (.tmp 118) (.tmp 121) rfl w.heap.size gS rfl HS.out aob capb q.pr.bs rfl _ (HPA.out.later HBW.out).p.b (by omega) HBW.out.size ?_
          intro vS V21 howni hgrow
          first | (replace HI := Lib.hid (HI.out.kept hgrow (own_sepQ HI.out HS.out (by decide)))) | skip
          first | (replace HR := Lib.hid (HR.out.kept hgrow (own_sepQ HR.out HS.out (by decide)))) | skip
          replace HBW := Lib.hid (HBW.out.trans ((Below.refl _ _).grown hgrow HBW.out.size (own_base HS.out)))
          replace HS := Lib.hid howni
          clear howni hgrow
          refine hK.out _ _ (HS12.out _ HBW.out) (fun hS => ?_)
          clear hK K
          try simp only [List.getElem_toArray, List.getElem_cons_succ, List.getElem_cons_zero, Act.put, List.setIfInBounds_toArray, List.set_cons_zero, List.set_cons_succ]
          refine wpAnyH_done (by kernel_rfl) ?_ _
          unfold TailQ
          simp only [List.drop_succ_cons, List.drop_zero]
          clear hS
          go_wp2_with fail
          conv => arg 2; whnf
          go_upto_region 13 with fail
          refine HEND.out _ _ _ V21 HBW.out (nums_of_own rfl HI.out).low (readsAt_of_owns HR.out).low (spansAt_of_owns HS.out).low _ ?_ _ _ _ _ _ _ _ _ _ _ _ _ _ _ _ _ _ _ _ _ _ _ _ _ _ _ _ _ _ _ _ _ _ _ _ _ _ _ _ _ _ _ _ _ _ _ _ _ _ _ _ _ _ _ _ _ _ _ _ _ _ _ _ _ _ _ _ _ _ _ _ _ _ _ _ _ _ _ _ _ _ _ _ _ _ _ _ _ _ _ _ _ _ _ _ _
          assumption
      · skip
        go_simp
        obtain ⟨V22, hU⟩ : ∃ x, x = (V14).alloc (.cells #[] 24) := ⟨_, rfl⟩
        obtain ⟨gS, hgi⟩ : ∃ k, k = (V14).heap.size := ⟨_, rfl⟩
        have hbU : Below (V14).heap.size V14 V22 := by rw [hU]; exact (Below.refl _ _).alloc (Nat.le_refl _) _
        have HS : Hid (World.ownsRow V22 w.heap.size 24 2 (.slice (some ⟨gS, 0, none⟩) 0 0) 0 []) := Lib.hid (by rw [hU, hgi]; exact own_noneQ (heap_alloc_at _ _ _ rfl) HBW.out.size)
        first | (replace HI := Lib.hid (own_below HI.out hbU)) | skip
        first | (replace HR := Lib.hid (own_below HR.out hbU)) | skip
        replace HBW := Lib.hid (HBW.out.trans (hbU.mono HBW.out.size))
        rw [← hgi, ← hU]
        clear hU hgi hbU
        refine hK.out _ _ (HS12.out _ HBW.out) (fun hS => ?_)
        clear hK K
        try simp only [List.getElem_toArray, List.getElem_cons_succ, List.getElem_cons_zero, Act.put, List.setIfInBounds_toArray, List.set_cons_zero, List.set_cons_succ]
        refine wpAnyH_ready (rs := [3]) (by kernel_rfl) (by simp) ?_
        refine (AllReadyH.cons rfl (fun K hK => ?_) AllReadyH.nil)
        rw [if_pos (by rfl)]
        refine wp_copy_nums (.tmp 109) (.tmp 111) rfl w.heap.size gI rfl HI.out aop capp q.prices rfl _ (HPA.out.later HBW.out).n (by omega) HBW.out.size ?_
        intro vI V23 howni hgrow
        first | (replace HR := Lib.hid (HR.out.kept hgrow (own_sepQ HR.out HI.out (by decide)))) | skip
        first | (replace HS := Lib.hid (HS.out.kept hgrow (own_sepQ HS.out HI.out (by decide)))) | skip
        replace HBW := Lib.hid (HBW.out.trans ((Below.refl _ _).grown hgrow HBW.out.size (own_base HI.out)))
        replace HI := Lib.hid howni
        clear howni hgrow
        refine hK.out _ _ (HS12.out _ HBW.out) (fun hS => ?_)
        clear hK K
        try simp only [List.getElem_toArray, List.getElem_cons_succ, List.getElem_cons_zero, Act.put, List.setIfInBounds_toArray, List.set_cons_zero, List.set_cons_succ]
        refine wpAnyH_ready (rs := [8]) (by kernel_rfl) (by simp) ?_
        refine (AllReadyH.cons rfl (fun K hK => ?_) AllReadyH.nil)
        rw [if_pos (by rfl)]
        refine wp_copy_readsQ (.tmp 113) (.tmp 116) rfl w.heap.size gR rfl HR.out aor capr q.pr.rs rfl _ (HPA.out.later HBW.out).p.r (by omega) HBW.out.size ?_
        intro vR V24 howni hgrow
        first | (replace HI := Lib.hid (HI.out.kept hgrow (own_sepQ HI.out HR.out (by decide)))) | skip
        first | (replace HS := Lib.hid (HS.out.kept hgrow (own_sepQ HS.out HR.out (by decide)))) | skip
        replace HBW := Lib.hid (HBW.out.trans ((Below.refl _ _).grown hgrow HBW.out.size (own_base HR.out)))
        replace HR := Lib.hid howni
        clear howni hgrow
        refine hK.out _ _ (HS12.out _ HBW.out) (fun hS => ?_)
        clear hK K
        try simp only [List.getElem_toArray, List.getElem_cons_succ, List.getElem_cons_zero, Act.put, List.setIfInBounds_toArray, List.set_cons_zero, List.set_cons_succ]
        refine wpAnyH_ready (rs := [13]) (by kernel_rfl) (by simp) ?_
        refine (AllReadyH.cons rfl (fun K hK => ?_) AllReadyH.nil)
        rw [if_pos (by rfl)]
        refine wp_copy_spans (.tmp 118) (.tmp 121) rfl w.heap.size gS rfl HS.out aob capb q.pr.bs rfl _ (HPA.out.later HBW.out).p.b (by omega) HBW.out.size ?_
        intro vS V25 howni hgrow
        first | (replace HI := Lib.hid (HI.out.kept hgrow (own_sepQ HI.out HS.out (by decide)))) | skip
        first | (replace HR := Lib.hid (HR.out.kept hgrow (own_sepQ HR.out HS.out (by decide)))) | skip
        replace HBW := Lib.hid (HBW.out.trans ((Below.refl _ _).grown hgrow HBW.out.size (own_base HS.out)))
        replace HS := Lib.hid howni
        clear howni hgrow
        refine hK.out _ _ (HS12.out _ HBW.out) (fun hS => ?_)
        clear hK K
        try simp only [List.getElem_toArray, List.getElem_cons_succ, List.getElem_cons_zero, Act.put, List.setIfInBounds_toArray, List.set_cons_zero, List.set_cons_succ]
        refine wpAnyH_done (by kernel_rfl) ?_ _
        unfold TailQ
        simp only [List.drop_succ_cons, List.drop_zero]
        clear hS
        go_wp2_with fail
        conv => arg 2; whnf
        go_upto_region 13 with fail
        refine HEND.out _ _ _ V25 HBW.out (nums_of_own rfl HI.out).low (readsAt_of_owns HR.out).low (spansAt_of_owns HS.out).low _ ?_ _ _ _ _ _ _ _ _ _ _ _ _ _ _ _ _ _ _ _ _ _ _ _ _ _ _ _ _ _ _ _ _ _ _ _ _ _ _ _ _ _ _ _ _ _ _ _ _ _ _ _ _ _ _ _ _ _ _ _ _ _ _ _ _ _ _ _ _ _ _ _ _ _ _ _ _ _ _ _ _ _ _ _ _ _ _ _ _ _ _ _ _ _ _ _ _
        assumption
    · skip
      go_simp
      obtain ⟨V26, hU⟩ : ∃ x, x = (V1).alloc (.cells #[] 24) := ⟨_, rfl⟩
      obtain ⟨gS, hgi⟩ : ∃ k, k = (V1).heap.size := ⟨_, rfl⟩
      have hbU : Below (V1).heap.size V1 V26 := by rw [hU]; exact (Below.refl _ _).alloc (Nat.le_refl _) _
      have HS : Hid (World.ownsRow V26 w.heap.size 24 2 (.slice (some ⟨gS, 0, none⟩) 0 0) 0 []) := Lib.hid (by rw [hU, hgi]; exact own_noneQ (heap_alloc_at _ _ _ rfl) HBW.out.size)
      first | (replace HI := Lib.hid (own_below HI.out hbU)) | skip
      first | (replace HR := Lib.hid (own_below HR.out hbU)) | skip
      replace HBW := Lib.hid (HBW.out.trans (hbU.mono HBW.out.size))
      rw [← hgi, ← hU]
      clear hU hgi hbU
      refine hK.out _ _ (HS12.out _ HBW.out) (fun hS => ?_)
      clear hK K
      try simp only [List.getElem_toArray, List.getElem_cons_succ, List.getElem_cons_zero, Act.put, List.setIfInBounds_toArray, List.set_cons_zero, List.set_cons_succ]
      refine wpAnyH_ready (rs := [3, 4]) (by kernel_rfl) (by simp) ?_
      refine (AllReadyH.cons rfl (fun K hK => ?_) (AllReadyH.cons rfl (fun K hK => ?_) AllReadyH.nil))
      · skip
        rw [if_pos (by rfl)]
        refine wp_copy_nums (.tmp 109) (.tmp 111) rfl w.heap.size gI rfl HI.out aop capp q.prices rfl _ (HPA.out.later HBW.out).n (by omega) HBW.out.size ?_
        intro vI V27 howni hgrow
        first | (replace HR := Lib.hid (HR.out.kept hgrow (own_sepQ HR.out HI.out (by decide)))) | skip
        first | (replace HS := Lib.hid (HS.out.kept hgrow (own_sepQ HS.out HI.out (by decide)))) | skip
        replace HBW := Lib.hid (HBW.out.trans ((Below.refl _ _).grown hgrow HBW.out.size (own_base HI.out)))
        replace HI := Lib.hid howni
        clear howni hgrow
        refine hK.out _ _ (HS12.out _ HBW.out) (fun hS => ?_)
        clear hK K
        try simp only [List.getElem_toArray, List.getElem_cons_succ, List.getElem_cons_zero, Act.put, List.setIfInBounds_toArray, List.set_cons_zero, List.set_cons_succ]
        refine wpAnyH_ready (rs := [4]) (by kernel_rfl) (by simp) ?_
        refine (AllReadyH.cons rfl (fun K hK => ?_) AllReadyH.nil)
        go_simp
        obtain ⟨V28, hU⟩ : ∃ x, x = (V27).alloc (.cells #[] 48) := ⟨_, rfl⟩
        obtain ⟨gR, hgi⟩ : ∃ k, k = (V27).heap.size := ⟨_, rfl⟩
        have hbU : Below (V27).heap.size V27 V28 := by rw [hU]; exact (Below.refl _ _).alloc (Nat.le_refl _) _
        have HR : Hid (World.ownsRow V28 w.heap.size 48 5 (.slice (some ⟨gR, 0, none⟩) 0 0) 0 []) := Lib.hid (by rw [hU, hgi]; exact own_noneQ (heap_alloc_at _ _ _ rfl) HBW.out.size)
        first | (replace HI := Lib.hid (own_below HI.out hbU)) | skip
        first | (replace HS := Lib.hid (own_below HS.out hbU)) | skip
        replace HBW := Lib.hid (HBW.out.trans (hbU.mono HBW.out.size))
        rw [← hgi, ← hU]
        clear hU hgi hbU
        refine hK.out _ _ (HS12.out _ HBW.out) (fun hS => ?_)
        clear hK K
        try simp only [List.getElem_toArray, List.getElem_cons_succ, List.getElem_cons_zero, Act.put, List.setIfInBounds_toArray, List.set_cons_zero, List.set_cons_succ]
        refine wpAnyH_ready (rs := [8]) (by kernel_rfl) (by simp) ?_
        refine (AllReadyH.cons rfl (fun K hK => ?_) AllReadyH.nil)
        rw [if_pos (by rfl)]
        refine wp_copy_readsQ (.tmp 113) (.tmp 116) rfl w.heap.size gR rfl HR.out aor capr q.pr.rs rfl _ (HPA.out.later HBW.out).p.r (by omega) HBW.out.size ?_
        intro vR V29 howni hgrow
        first | (replace HI := Lib.hid (HI.out.kept hgrow (own_sepQ HI.out HR.out (by decide)))) | skip
        first | (replace HS := Lib.hid (HS.out.kept hgrow (own_sepQ HS.out HR.out (by decide)))) | skip
        replace HBW := Lib.hid (HBW.out.trans ((Below.refl _ _).grown hgrow HBW.out.size (own_base HR.out)))
        replace HR := Lib.hid howni
        clear howni hgrow
        refine hK.out _ _ (HS12.out _ HBW.out) (fun hS => ?_)
        clear hK K
        try simp only [List.getElem_toArray, List.getElem_cons_succ, List.getElem_cons_zero, Act.put, List.setIfInBounds_toArray, List.set_cons_zero, List.set_cons_succ]
        refine wpAnyH_ready (rs := [13]) (by kernel_rfl) (by simp) ?_
        refine (AllReadyH.cons rfl (fun K hK => ?_) AllReadyH.nil)
        rw [if_pos (by rfl)]
        refine wp_copy_spans (.tmp 118) (.tmp 121) rfl w.heap.size gS rfl HS.out aob capb q.pr.bs rfl _ (HPA.out.later HBW.out).p.b (by omega) HBW.out.size ?_
        intro vS V30 howni hgrow
        first | (replace HI := Lib.hid (HI.out.kept hgrow (own_sepQ HI.out HS.out (by decide)))) | skip
        first | (replace HR := Lib.hid (HR.out.kept hgrow (own_sepQ HR.out HS.out (by decide)))) | skip
        replace HBW := Lib.hid (HBW.out.trans ((Below.refl _ _).grown hgrow HBW.out.size (own_base HS.out)))
        replace HS := Lib.hid howni
        clear howni hgrow
        refine hK.out _ _ (HS12.out _ HBW.out) (fun hS => ?_)
        clear hK K
        try simp only [List.getElem_toArray, List.getElem_cons_succ, List.getElem_cons_zero, Act.put, List.setIfInBounds_toArray, List.set_cons_zero, List.set_cons_succ]
        refine wpAnyH_done (by kernel_rfl) ?_ _
        unfold TailQ
        simp only [List.drop_succ_cons, List.drop_zero]
        clear hS
        go_wp2_with fail
        conv => arg 2; whnf
        go_upto_region 13 with fail
        refine HEND.out _ _ _ V30 HBW.out (nums_of_own rfl HI.out).low (readsAt_of_owns HR.out).low (spansAt_of_owns HS.out).low _ ?_ _ _ _ _ _ _ _ _ _ _ _ _ _ _ _ _ _ _ _ _ _ _ _ _ _ _ _ _ _ _ _ _ _ _ _ _ _ _ _ _ _ _ _ _ _ _ _ _ _ _ _ _ _ _ _ _ _ _ _ _ _ _ _ _ _ _ _ _ _ _ _ _ _ _ _ _ _ _ _ _ _ _ _ _ _ _ _ _ _ _ _ _ _ _ _ _
        assumption
      · skip
        go_simp
        obtain ⟨V31, hU⟩ : ∃ x, x = (V26).alloc (.cells #[] 48) := ⟨_, rfl⟩
        obtain ⟨gR, hgi⟩ : ∃ k, k = (V26).heap.size := ⟨_, rfl⟩
        have hbU : Below (V26).heap.size V26 V31 := by rw [hU]; exact (Below.refl _ _).alloc (Nat.le_refl _) _
        have HR : Hid (World.ownsRow V31 w.heap.size 48 5 (.slice (some ⟨gR, 0, none⟩) 0 0) 0 []) := Lib.hid (by rw [hU, hgi]; exact own_noneQ (heap_alloc_at _ _ _ rfl) HBW.out.size)
        first | (replace HI := Lib.hid (own_below HI.out hbU)) | skip
        first | (replace HS := Lib.hid (own_below HS.out hbU)) | skip
        replace HBW := Lib.hid (HBW.out.trans (hbU.mono HBW.out.size))
        rw [← hgi, ← hU]
        clear hU hgi hbU
        refine hK.out _ _ (HS12.out _ HBW.out) (fun hS => ?_)
        clear hK K
        try simp only [List.getElem_toArray, List.getElem_cons_succ, List.getElem_cons_zero, Act.put, List.setIfInBounds_toArray, List.set_cons_zero, List.set_cons_succ]
        refine wpAnyH_ready (rs := [3]) (by kernel_rfl) (by simp) ?_
        refine (AllReadyH.cons rfl (fun K hK => ?_) AllReadyH.nil)
        rw [if_pos (by rfl)]
        refine wp_copy_nums (.tmp 109) (.tmp 111) rfl w.heap.size gI rfl HI.out aop capp q.prices rfl _ (HPA.out.later HBW.out).n (by omega) HBW.out.size ?_
        intro vI V32 howni hgrow
        first | (replace HR := Lib.hid (HR.out.kept hgrow (own_sepQ HR.out HI.out (by decide)))) | skip
        first | (replace HS := Lib.hid (HS.out.kept hgrow (own_sepQ HS.out HI.out (by decide)))) | skip
        replace HBW := Lib.hid (HBW.out.trans ((Below.refl _ _).grown hgrow HBW.out.size (own_base HI.out)))
        replace HI := Lib.hid howni
        clear howni hgrow
        refine hK.out _ _ (HS12.out _ HBW.out) (fun hS => ?_)
        clear hK K
        try simp only [List.getElem_toArray, List.getElem_cons_succ, List.getElem_cons_zero, Act.put, List.setIfInBounds_toArray, List.set_cons_zero, List.set_cons_succ]
        refine wpAnyH_ready (rs := [8]) (by kernel_rfl) (by simp) ?_
        refine (AllReadyH.cons rfl (fun K hK => ?_) AllReadyH.nil)
        rw [if_pos (by rfl)]
        refine wp_copy_readsQ (.tmp 113) (.tmp 116) rfl w.heap.size gR rfl HR.out aor capr q.pr.rs rfl _ (HPA.out.later HBW.out).p.r (by omega) HBW.out.size ?_
        intro vR V33 howni hgrow
        first | (replace HI := Lib.hid (HI.out.kept hgrow (own_sepQ HI.out HR.out (by decide)))) | skip
        first | (replace HS := Lib.hid (HS.out.kept hgrow (own_sepQ HS.out HR.out (by decide)))) | skip
        replace HBW := Lib.hid (HBW.out.trans ((Below.refl _ _).grown hgrow HBW.out.size (own_base HR.out)))
        replace HR := Lib.hid howni
        clear howni hgrow
        refine hK.out _ _ (HS12.out _ HBW.out) (fun hS => ?_)
        clear hK K
        try simp only [List.getElem_toArray, List.getElem_cons_succ, List.getElem_cons_zero, Act.put, List.setIfInBounds_toArray, List.set_cons_zero, List.set_cons_succ]
        refine wpAnyH_ready (rs := [13]) (by kernel_rfl) (by simp) ?_
        refine (AllReadyH.cons rfl (fun K hK => ?_) AllReadyH.nil)
        rw [if_pos (by rfl)]
        refine wp_copy_spans (.tmp 118) (.tmp 121) rfl w.heap.size gS rfl HS.out aob capb q.pr.bs rfl _ (HPA.out.later HBW.out).p.b (by omega) HBW.out.size ?_
        intro vS V34 howni hgrow
        first | (replace HI := Lib.hid (HI.out.kept hgrow (own_sepQ HI.out HS.out (by decide)))) | skip
        first | (replace HR := Lib.hid (HR.out.kept hgrow (own_sepQ HR.out HS.out (by decide)))) | skip
        replace HBW := Lib.hid (HBW.out.trans ((Below.refl _ _).grown hgrow HBW.out.size (own_base HS.out)))
        replace HS := Lib.hid howni
        clear howni hgrow
        refine hK.out _ _ (HS12.out _ HBW.out) (fun hS => ?_)
        clear hK K
        try simp only [List.getElem_toArray, List.getElem_cons_succ, List.getElem_cons_zero, Act.put, List.setIfInBounds_toArray, List.set_cons_zero, List.set_cons_succ]
        refine wpAnyH_done (by kernel_rfl) ?_ _
        unfold TailQ
        simp only [List.drop_succ_cons, List.drop_zero]
        clear hS
        go_wp2_with fail
        conv => arg 2; whnf
        go_upto_region 13 with fail
        refine HEND.out _ _ _ V34 HBW.out (nums_of_own rfl HI.out).low (readsAt_of_owns HR.out).low (spansAt_of_owns HS.out).low _ ?_ _ _ _ _ _ _ _ _ _ _ _ _ _ _ _ _ _ _ _ _ _ _ _ _ _ _ _ _ _ _ _ _ _ _ _ _ _ _ _ _ _ _ _ _ _ _ _ _ _ _ _ _ _ _ _ _ _ _ _ _ _ _ _ _ _ _ _ _ _ _ _ _ _ _ _ _ _ _ _ _ _ _ _ _ _ _ _ _ _ _ _ _ _ _ _ _
        assumption
  · skip
    go_simp
    obtain ⟨V35, hU⟩ : ∃ x, x = (V0).alloc (.cells #[] 48) := ⟨_, rfl⟩
    obtain ⟨gR, hgi⟩ : ∃ k, k = (V0).heap.size := ⟨_, rfl⟩
    have hbU : Below (V0).heap.size V0 V35 := by rw [hU]; exact (Below.refl _ _).alloc (Nat.le_refl _) _
    have HR : Hid (World.ownsRow V35 w.heap.size 48 5 (.slice (some ⟨gR, 0, none⟩) 0 0) 0 []) := Lib.hid (by rw [hU, hgi]; exact own_noneQ (heap_alloc_at _ _ _ rfl) HBW.out.size)
    first | (replace HI := Lib.hid (own_below HI.out hbU)) | skip
    first | (replace HS := Lib.hid (own_below HS.out hbU)) | skip
    replace HBW := Lib.hid (HBW.out.trans (hbU.mono HBW.out.size))
    rw [← hgi, ← hU]
    clear hU hgi hbU
    refine hK.out _ _ (HS12.out _ HBW.out) (fun hS => ?_)
    clear hK K
    try simp only [List.getElem_toArray, List.getElem_cons_succ, List.getElem_cons_zero, Act.put, List.setIfInBounds_toArray, List.set_cons_zero, List.set_cons_succ]
    refine wpAnyH_ready (rs := [0, 9]) (by kernel_rfl) (by simp) ?_
    refine (AllReadyH.cons rfl (fun K hK => ?_) (AllReadyH.cons rfl (fun K hK => ?_) AllReadyH.nil))
    · skip
      go_simp
      obtain ⟨V36, hU⟩ : ∃ x, x = (V35).alloc (.cells #[] 3) := ⟨_, rfl⟩
      obtain ⟨gI, hgi⟩ : ∃ k, k = (V35).heap.size := ⟨_, rfl⟩
      have hbU : Below (V35).heap.size V35 V36 := by rw [hU]; exact (Below.refl _ _).alloc (Nat.le_refl _) _
      have HI : Hid (World.ownsRow V36 w.heap.size 3 1 (.slice (some ⟨gI, 0, none⟩) 0 0) 0 []) := Lib.hid (by rw [hU, hgi]; exact own_noneQ (heap_alloc_at _ _ _ rfl) HBW.out.size)
      first | (replace HR := Lib.hid (own_below HR.out hbU)) | skip
      first | (replace HS := Lib.hid (own_below HS.out hbU)) | skip
      replace HBW := Lib.hid (HBW.out.trans (hbU.mono HBW.out.size))
      rw [← hgi, ← hU]
      clear hU hgi hbU
      refine hK.out _ _ (HS12.out _ HBW.out) (fun hS => ?_)
      clear hK K
      try simp only [List.getElem_toArray, List.getElem_cons_succ, List.getElem_cons_zero, Act.put, List.setIfInBounds_toArray, List.set_cons_zero, List.set_cons_succ]
      refine wpAnyH_ready (rs := [3, 9]) (by kernel_rfl) (by simp) ?_
      refine (AllReadyH.cons rfl (fun K hK => ?_) (AllReadyH.cons rfl (fun K hK => ?_) AllReadyH.nil))
      · skip
        rw [if_pos (by rfl)]
        refine wp_copy_nums (.tmp 109) (.tmp 111) rfl w.heap.size gI rfl HI.out aop capp q.prices rfl _ (HPA.out.later HBW.out).n (by omega) HBW.out.size ?_
        intro vI V37 howni hgrow
        first | (replace HR := Lib.hid (HR.out.kept hgrow (own_sepQ HR.out HI.out (by decide)))) | skip
        first | (replace HS := Lib.hid (HS.out.kept hgrow (own_sepQ HS.out HI.out (by decide)))) | skip
        replace HBW := Lib.hid (HBW.out.trans ((Below.refl _ _).grown hgrow HBW.out.size (own_base HI.out)))
        replace HI := Lib.hid howni
        clear howni hgrow
        refine hK.out _ _ (HS12.out _ HBW.out) (fun hS => ?_)
        clear hK K
        try simp only [List.getElem_toArray, List.getElem_cons_succ, List.getElem_cons_zero, Act.put, List.setIfInBounds_toArray, List.set_cons_zero, List.set_cons_succ]
        refine wpAnyH_ready (rs := [8, 9]) (by kernel_rfl) (by simp) ?_
        refine (AllReadyH.cons rfl (fun K hK => ?_) (AllReadyH.cons rfl (fun K hK => ?_) AllReadyH.nil))
        · skip
          rw [if_pos (by rfl)]
          refine wp_copy_readsQ (.tmp 113) (.tmp 116) rfl w.heap.size gR rfl HR.out aor capr q.pr.rs rfl _ (HPA.out.later HBW.out).p.r (by omega) HBW.out.size ?_
          intro vR V38 howni hgrow
          first | (replace HI := Lib.hid (HI.out.kept hgrow (own_sepQ HI.out HR.out (by decide)))) | skip
          first | (replace HS := Lib.hid (HS.out.kept hgrow (own_sepQ HS.out HR.out (by decide)))) | skip
          replace HBW := Lib.hid (HBW.out.trans ((Below.refl _ _).grown hgrow HBW.out.size (own_base HR.out)))
          replace HR := Lib.hid howni
          clear howni hgrow
          refine hK.out _ _ (HS12.out _ HBW.out) (fun hS => ?_)
          clear hK K
          try simp only [List.getElem_toArray, List.getElem_cons_succ, List.getElem_cons_zero, Act.put, List.setIfInBounds_toArray, List.set_cons_zero, List.set_cons_succ]
          refine wpAnyH_ready (rs := [9]) (by kernel_rfl) (by simp) ?_
          refine (AllReadyH.cons rfl (fun K hK => ?_) AllReadyH.nil)
          go_simp
          obtain ⟨V39, hU⟩ : ∃ x, x = (V38).alloc (.cells #[] 24) := ⟨_, rfl⟩
          obtain ⟨gS, hgi⟩ : ∃ k, k = (V38).heap.size := ⟨_, rfl⟩
          have hbU : Below (V38).heap.size V38 V39 := by rw [hU]; exact (Below.refl _ _).alloc (Nat.le_refl _) _
          have HS : Hid (World.ownsRow V39 w.heap.size 24 2 (.slice (some ⟨gS, 0, none⟩) 0 0) 0 []) := Lib.hid (by rw [hU, hgi]; exact own_noneQ (heap_alloc_at _ _ _ rfl) HBW.out.size)
          first | (replace HI := Lib.hid (own_below HI.out hbU)) | skip
          first | (replace HR := Lib.hid (own_below HR.out hbU)) | skip
          replace HBW := Lib.hid (HBW.out.trans (hbU.mono HBW.out.size))
          rw [← hgi, ← hU]
          clear hU hgi hbU
          refine hK.out _ _ (HS12.out _ HBW.out) (fun hS => ?_)
          clear hK K
          try simp only [List.getElem_toArray, List.getElem_cons_succ, List.getElem_cons_zero, Act.put, List.setIfInBounds_toArray, List.set_cons_zero, List.set_cons_succ]
          refine wpAnyH_ready (rs := [13]) (by kernel_rfl) (by simp) ?_
          refine (AllReadyH.cons rfl (fun K hK => ?_) AllReadyH.nil)
          rw [if_pos (by rfl)]
          refine wp_copy_spans (.tmp 118) (.tmp 121) rfl w.heap.size gS rfl HS.out aob capb q.pr.bs rfl _ (HPA.out.later HBW.out).p.b (by omega) HBW.out.size ?_
          intro vS V40 howni hgrow
          first | (replace HI := Lib.hid (HI.out.kept hgrow (own_sepQ HI.out HS.out (by decide)))) | skip
          first | (replace HR := Lib.hid (HR.out.kept hgrow (own_sepQ HR.out HS.out (by decide)))) | skip
          replace HBW := Lib.hid (HBW.out.trans ((Below.refl _ _).grown hgrow HBW.out.size (own_base HS.out)))
          replace HS := Lib.hid howni
          clear howni hgrow
          refine hK.out _ _ (HS12.out _ HBW.out) (fun hS => ?_)
          clear hK K
          try simp only [List.getElem_toArray, List.getElem_cons_succ, List.getElem_cons_zero, Act.put, List.setIfInBounds_toArray, List.set_cons_zero, List.set_cons_succ]
          refine wpAnyH_done (by kernel_rfl) ?_ _
          unfold TailQ
          simp only [List.drop_succ_cons, List.drop_zero]
          clear hS
          go_wp2_with fail
          conv => arg 2; whnf
          go_upto_region 13 with fail
          refine HEND.out _ _ _ V40 HBW.out (nums_of_own rfl HI.out).low (readsAt_of_owns HR.out).low (spansAt_of_owns HS.out).low _ ?_ _ _ _ _ _ _ _ _ _ _ _ _ _ _ _ _ _ _ _ _ _ _ _ _ _ _ _ _ _ _ _ _ _ _ _ _ _ _ _ _ _ _ _ _ _ _ _ _ _ _ _ _ _ _ _ _ _ _ _ _ _ _ _ _ _ _ _ _ _ _ _ _ _ _ _ _ _ _ _ _ _ _ _ _ _ _ _ _ _ _ _ _ _ _ _ _
          assumption
        · skip
          go_simp
          obtain ⟨V41, hU⟩ : ∃ x, x = (V37).alloc (.cells #[] 24) := ⟨_, rfl⟩
          obtain ⟨gS, hgi⟩ : ∃ k, k = (V37).heap.size := ⟨_, rfl⟩
          have hbU : Below (V37).heap.size V37 V41 := by rw [hU]; exact (Below.refl _ _).alloc (Nat.le_refl _) _
          have HS : Hid (World.ownsRow V41 w.heap.size 24 2 (.slice (some ⟨gS, 0, none⟩) 0 0) 0 []) := Lib.hid (by rw [hU, hgi]; exact own_noneQ (heap_alloc_at _ _ _ rfl) HBW.out.size)
          first | (replace HI := Lib.hid (own_below HI.out hbU)) | skip
          first | (replace HR := Lib.hid (own_below HR.out hbU)) | skip
          replace HBW := Lib.hid (HBW.out.trans (hbU.mono HBW.out.size))
          rw [← hgi, ← hU]
          clear hU hgi hbU
          refine hK.out _ _ (HS12.out _ HBW.out) (fun hS => ?_)
          clear hK K
          try simp only [List.getElem_toArray, List.getElem_cons_succ, List.getElem_cons_zero, Act.put, List.setIfInBounds_toArray, List.set_cons_zero, List.set_cons_succ]
          refine wpAnyH_ready (rs := [8]) (by kernel_rfl) (by simp) ?_
          refine (AllReadyH.cons rfl (fun K hK => ?_) AllReadyH.nil)
          rw [if_pos (by rfl)]
          refine wp_copy_readsQ (.tmp 113) (.tmp 116) rfl w.heap.size gR rfl HR.out aor capr q.pr.rs rfl _ (HPA.out.later HBW.out).p.r (by omega) HBW.out.size ?_
          intro vR V42 howni hgrow
          first | (replace HI := Lib.hid (HI.out.kept hgrow (own_sepQ HI.out HR.out (by decide)))) | skip
          first | (replace HS := Lib.hid (HS.out.kept hgrow (own_sepQ HS.out HR.out (by decide)))) | skip
          replace HBW := Lib.hid (HBW.out.trans ((Below.refl _ _).grown hgrow HBW.out.size (own_base HR.out)))
          replace HR := Lib.hid howni
          clear howni hgrow
          refine hK.out _ _ (HS12.out _ HBW.out) (fun hS => ?_)
          clear hK K
          try simp only [List.getElem_toArray, List.getElem_cons_succ, List.getElem_cons_zero, Act.put, List.setIfInBounds_toArray, List.set_cons_zero, List.set_cons_succ]
          refine wpAnyH_ready (rs := [13]) (by kernel_rfl) (by simp) ?_
          refine (AllReadyH.cons rfl (fun K hK => ?_) AllReadyH.nil)
          rw [if_pos (by rfl)]
          refine wp_copy_spans (.tmp 118) (.tmp 121) rfl w.heap.size gS rfl HS.out aob capb q.pr.bs rfl _ (HPA.out.later HBW.out).p.b (by omega) HBW.out.size ?_
          intro vS V43 howni hgrow
          first | (replace HI := Lib.hid (HI.out.kept hgrow (own_sepQ HI.out HS.out (by decide)))) | skip
          first | (replace HR := Lib.hid (HR.out.kept hgrow (own_sepQ HR.out HS.out (by decide)))) | skip
          replace HBW := Lib.hid (HBW.out.trans ((Below.refl _ _).grown hgrow HBW.out.size (own_base HS.out)))
          replace HS := Lib.hid howni
          clear howni hgrow
          refine hK.out _ _ (HS12.out _ HBW.out) (fun hS => ?_)
          clear hK K
          try simp only [List.getElem_toArray, List.getElem_cons_succ, List.getElem_cons_zero, Act.put, List.setIfInBounds_toArray, List.set_cons_zero, List.set_cons_succ]
          refine wpAnyH_done (by kernel_rfl) ?_ _
          unfold TailQ
          simp only [List.drop_succ_cons, List.drop_zero]
          clear hS
          go_wp2_with fail
          conv => arg 2; whnf
          go_upto_region 13 with fail
          refine HEND.out _ _ _ V43 HBW.out (nums_of_own rfl HI.out).low (readsAt_of_owns HR.out).low (spansAt_of_owns HS.out).low _ ?_ _ _ _ _ _ _ _ _ _ _ _ _ _ _ _ _ _ _ _ _ _ _ _ _ _ _ _ _ _ _ _ _ _ _ _ _ _ _ _ _ _ _ _ _ _ _ _ _ _ _ _ _ _ _ _ _ _ _ _ _ _ _ _ _ _ _ _ _ _ _ _ _ _ _ _ _ _ _ _ _ _ _ _ _ _ _ _ _ _ _ _ _ _ _ _ _
          assumption
      · skip
        go_simp
        obtain ⟨V44, hU⟩ : ∃ x, x = (V36).alloc (.cells #[] 24) := ⟨_, rfl⟩
        obtain ⟨gS, hgi⟩ : ∃ k, k = (V36).heap.size := ⟨_, rfl⟩
        have hbU : Below (V36).heap.size V36 V44 := by rw [hU]; exact (Below.refl _ _).alloc (Nat.le_refl _) _
        have HS : Hid (World.ownsRow V44 w.heap.size 24 2 (.slice (some ⟨gS, 0, none⟩) 0 0) 0 []) := Lib.hid (by rw [hU, hgi]; exact own_noneQ (heap_alloc_at _ _ _ rfl) HBW.out.size)
        first | (replace HI := Lib.hid (own_below HI.out hbU)) | skip
        first | (replace HR := Lib.hid (own_below HR.out hbU)) | skip
        replace HBW := Lib.hid (HBW.out.trans (hbU.mono HBW.out.size))
        rw [← hgi, ← hU]
        clear hU hgi hbU
        refine hK.out _ _ (HS12.out _ HBW.out) (fun hS => ?_)
        clear hK K
        try simp only [List.getElem_toArray, List.getElem_cons_succ, List.getElem_cons_zero, Act.put, List.setIfInBounds_toArray, List.set_cons_zero, List.set_cons_succ]
        refine wpAnyH_ready (rs := [3]) (by kernel_rfl) (by simp) ?_
        refine (AllReadyH.cons rfl (fun K hK => ?_) AllReadyH.nil)
        rw [if_pos (by rfl)]
        refine wp_copy_nums (.tmp 109) (.tmp 111) rfl w.heap.size gI rfl HI.out aop capp q.prices rfl _ (HPA.out.later HBW.out).n (by omega) HBW.out.size ?_
        intro vI V45 howni hgrow
        first | (replace HR := Lib.hid (HR.out.kept hgrow (own_sepQ HR.out HI.out (by decide)))) | skip
        first | (replace HS := Lib.hid (HS.out.kept hgrow (own_sepQ HS.out HI.out (by decide)))) | skip
        replace HBW := Lib.hid (HBW.out.trans ((Below.refl _ _).grown hgrow HBW.out.size (own_base HI.out)))
        replace HI := Lib.hid howni
        clear howni hgrow
        refine hK.out _ _ (HS12.out _ HBW.out) (fun hS => ?_)
        clear hK K
        try simp only [List.getElem_toArray, List.getElem_cons_succ, List.getElem_cons_zero, Act.put, List.setIfInBounds_toArray, List.set_cons_zero, List.set_cons_succ]
        refine wpAnyH_ready (rs := [8]) (by kernel_rfl) (by simp) ?_
        refine (AllReadyH.cons rfl (fun K hK => ?_) AllReadyH.nil)
        rw [if_pos (by rfl)]
        refine wp_copy_readsQ (.tmp 113) (.tmp 116) rfl w.heap.size gR rfl HR.out aor capr q.pr.rs rfl _ (HPA.out.later HBW.out).p.r (by omega) HBW.out.size ?_
        intro vR V46 howni hgrow
        first | (replace HI := Lib.hid (HI.out.kept hgrow (own_sepQ HI.out HR.out (by decide)))) | skip
        first | (replace HS := Lib.hid (HS.out.kept hgrow (own_sepQ HS.out HR.out (by decide)))) | skip
        replace HBW := Lib.hid (HBW.out.trans ((Below.refl _ _).grown hgrow HBW.out.size (own_base HR.out)))
        replace HR := Lib.hid howni
        clear howni hgrow
        refine hK.out _ _ (HS12.out _ HBW.out) (fun hS => ?_)
        clear hK K
        try simp only [List.getElem_toArray, List.getElem_cons_succ, List.getElem_cons_zero, Act.put, List.setIfInBounds_toArray, List.set_cons_zero, List.set_cons_succ]
        refine wpAnyH_ready (rs := [13]) (by kernel_rfl) (by simp) ?_
        refine (AllReadyH.cons rfl (fun K hK => ?_) AllReadyH.nil)
        rw [if_pos (by rfl)]
        refine wp_copy_spans (.tmp 118) (.tmp 121) rfl w.heap.size gS rfl HS.out aob capb q.pr.bs rfl _ (HPA.out.later HBW.out).p.b (by omega) HBW.out.size ?_
        intro vS V47 howni hgrow
        first | (replace HI := Lib.hid (HI.out.kept hgrow (own_sepQ HI.out HS.out (by decide)))) | skip
        first | (replace HR := Lib.hid (HR.out.kept hgrow (own_sepQ HR.out HS.out (by decide)))) | skip
        replace HBW := Lib.hid (HBW.out.trans ((Below.refl _ _).grown hgrow HBW.out.size (own_base HS.out)))
        replace HS := Lib.hid howni
        clear howni hgrow
        refine hK.out _ _ (HS12.out _ HBW.out) (fun hS => ?_)
        clear hK K
        try simp only [List.getElem_toArray, List.getElem_cons_succ, List.getElem_cons_zero, Act.put, List.setIfInBounds_toArray, List.set_cons_zero, List.set_cons_succ]
        refine wpAnyH_done (by kernel_rfl) ?_ _
        unfold TailQ
        simp only [List.drop_succ_cons, List.drop_zero]
        clear hS
        go_wp2_with fail
        conv => arg 2; whnf
        go_upto_region 13 with fail
        refine HEND.out _ _ _ V47 HBW.out (nums_of_own rfl HI.out).low (readsAt_of_owns HR.out).low (spansAt_of_owns HS.out).low _ ?_ _ _ _ _ _ _ _ _ _ _ _ _ _ _ _ _ _ _ _ _ _ _ _ _ _ _ _ _ _ _ _ _ _ _ _ _ _ _ _ _ _ _ _ _ _ _ _ _ _ _ _ _ _ _ _ _ _ _ _ _ _ _ _ _ _ _ _ _ _ _ _ _ _ _ _ _ _ _ _ _ _ _ _ _ _ _ _ _ _ _ _ _ _ _ _ _
        assumption
    · skip
      go_simp
      obtain ⟨V48, hU⟩ : ∃ x, x = (V35).alloc (.cells #[] 24) := ⟨_, rfl⟩
      obtain ⟨gS, hgi⟩ : ∃ k, k = (V35).heap.size := ⟨_, rfl⟩
      have hbU : Below (V35).heap.size V35 V48 := by rw [hU]; exact (Below.refl _ _).alloc (Nat.le_refl _) _
      have HS : Hid (World.ownsRow V48 w.heap.size 24 2 (.slice (some ⟨gS, 0, none⟩) 0 0) 0 []) := Lib.hid (by rw [hU, hgi]; exact own_noneQ (heap_alloc_at _ _ _ rfl) HBW.out.size)
      first | (replace HI := Lib.hid (own_below HI.out hbU)) | skip
      first | (replace HR := Lib.hid (own_below HR.out hbU)) | skip
      replace HBW := Lib.hid (HBW.out.trans (hbU.mono HBW.out.size))
      rw [← hgi, ← hU]
      clear hU hgi hbU
      refine hK.out _ _ (HS12.out _ HBW.out) (fun hS => ?_)
      clear hK K
      try simp only [List.getElem_toArray, List.getElem_cons_succ, List.getElem_cons_zero, Act.put, List.setIfInBounds_toArray, List.set_cons_zero, List.set_cons_succ]
      refine wpAnyH_ready (rs := [0]) (by kernel_rfl) (by simp) ?_
      refine (AllReadyH.cons rfl (fun K hK => ?_) AllReadyH.nil)
      go_simp
      obtain ⟨V49, hU⟩ : ∃ x, x = (V48).alloc (.cells #[] 3) := ⟨_, rfl⟩
      obtain ⟨gI, hgi⟩ : ∃ k, k = (V48).heap.size := ⟨_, rfl⟩
      have hbU : Below (V48).heap.size V48 V49 := by rw [hU]; exact (Below.refl _ _).alloc (Nat.le_refl _) _
      have HI : Hid (World.ownsRow V49 w.heap.size 3 1 (.slice (some ⟨gI, 0, none⟩) 0 0) 0 []) := Lib.hid (by rw [hU, hgi]; exact own_noneQ (heap_alloc_at _ _ _ rfl) HBW.out.size)
      first | (replace HR := Lib.hid (own_below HR.out hbU)) | skip
      first | (replace HS := Lib.hid (own_below HS.out hbU)) | skip
      replace HBW := Lib.hid (HBW.out.trans (hbU.mono HBW.out.size))
      rw [← hgi, ← hU]
      clear hU hgi hbU
      refine hK.out _ _ (HS12.out _ HBW.out) (fun hS => ?_)
      clear hK K
      try simp only [List.getElem_toArray, List.getElem_cons_succ, List.getElem_cons_zero, Act.put, List.setIfInBounds_toArray, List.set_cons_zero, List.set_cons_succ]
      refine wpAnyH_ready (rs := [3]) (by kernel_rfl) (by simp) ?_
      refine (AllReadyH.cons rfl (fun K hK => ?_) AllReadyH.nil)
      rw [if_pos (by rfl)]
      refine wp_copy_nums (.tmp 109) (.tmp 111) rfl w.heap.size gI rfl HI.out aop capp q.prices rfl _ (HPA.out.later HBW.out).n (by omega) HBW.out.size ?_
      intro vI V50 howni hgrow
      first | (replace HR := Lib.hid (HR.out.kept hgrow (own_sepQ HR.out HI.out (by decide)))) | skip
      first | (replace HS := Lib.hid (HS.out.kept hgrow (own_sepQ HS.out HI.out (by decide)))) | skip
      replace HBW := Lib.hid (HBW.out.trans ((Below.refl _ _).grown hgrow HBW.out.size (own_base HI.out)))
      replace HI := Lib.hid howni
      clear howni hgrow
      refine hK.out _ _ (HS12.out _ HBW.out) (fun hS => ?_)
      clear hK K
      try simp only [List.getElem_toArray, List.getElem_cons_succ, List.getElem_cons_zero, Act.put, List.setIfInBounds_toArray, List.set_cons_zero, List.set_cons_succ]
      refine wpAnyH_ready (rs := [8]) (by kernel_rfl) (by simp) ?_
      refine (AllReadyH.cons rfl (fun K hK => ?_) AllReadyH.nil)
      rw [if_pos (by rfl)]
      refine wp_copy_readsQ (.tmp 113) (.tmp 116) rfl w.heap.size gR rfl HR.out aor capr q.pr.rs rfl _ (HPA.out.later HBW.out).p.r (by omega) HBW.out.size ?_
      intro vR V51 howni hgrow
      first | (replace HI := Lib.hid (HI.out.kept hgrow (own_sepQ HI.out HR.out (by decide)))) | skip
      first | (replace HS := Lib.hid (HS.out.kept hgrow (own_sepQ HS.out HR.out (by decide)))) | skip
      replace HBW := Lib.hid (HBW.out.trans ((Below.refl _ _).grown hgrow HBW.out.size (own_base HR.out)))
      replace HR := Lib.hid howni
      clear howni hgrow
      refine hK.out _ _ (HS12.out _ HBW.out) (fun hS => ?_)
      clear hK K
      try simp only [List.getElem_toArray, List.getElem_cons_succ, List.getElem_cons_zero, Act.put, List.setIfInBounds_toArray, List.set_cons_zero, List.set_cons_succ]
      refine wpAnyH_ready (rs := [13]) (by kernel_rfl) (by simp) ?_
      refine (AllReadyH.cons rfl (fun K hK => ?_) AllReadyH.nil)
      rw [if_pos (by rfl)]
      refine wp_copy_spans (.tmp 118) (.tmp 121) rfl w.heap.size gS rfl HS.out aob capb q.pr.bs rfl _ (HPA.out.later HBW.out).p.b (by omega) HBW.out.size ?_
      intro vS V52 howni hgrow
      first | (replace HI := Lib.hid (HI.out.kept hgrow (own_sepQ HI.out HS.out (by decide)))) | skip
      first | (replace HR := Lib.hid (HR.out.kept hgrow (own_sepQ HR.out HS.out (by decide)))) | skip
      replace HBW := Lib.hid (HBW.out.trans ((Below.refl _ _).grown hgrow HBW.out.size (own_base HS.out)))
      replace HS := Lib.hid howni
      clear howni hgrow
      refine hK.out _ _ (HS12.out _ HBW.out) (fun hS => ?_)
      clear hK K
      try simp only [List.getElem_toArray, List.getElem_cons_succ, List.getElem_cons_zero, Act.put, List.setIfInBounds_toArray, List.set_cons_zero, List.set_cons_succ]
      refine wpAnyH_done (by kernel_rfl) ?_ _
      unfold TailQ
      simp only [List.drop_succ_cons, List.drop_zero]
      clear hS
      go_wp2_with fail
      conv => arg 2; whnf
      go_upto_region 13 with fail
      refine HEND.out _ _ _ V52 HBW.out (nums_of_own rfl HI.out).low (readsAt_of_owns HR.out).low (spansAt_of_owns HS.out).low _ ?_ _ _ _ _ _ _ _ _ _ _ _ _ _ _ _ _ _ _ _ _ _ _ _ _ _ _ _ _ _ _ _ _ _ _ _ _ _ _ _ _ _ _ _ _ _ _ _ _ _ _ _ _ _ _ _ _ _ _ _ _ _ _ _ _ _ _ _ _ _ _ _ _ _ _ _ _ _ _ _ _ _ _ _ _ _ _ _ _ _ _ _ _ _ _ _ _
      assumption
  · skip
    go_simp
    obtain ⟨V53, hU⟩ : ∃ x, x = (V0).alloc (.cells #[] 24) := ⟨_, rfl⟩
    obtain ⟨gS, hgi⟩ : ∃ k, k = (V0).heap.size := ⟨_, rfl⟩
    have hbU : Below (V0).heap.size V0 V53 := by rw [hU]; exact (Below.refl _ _).alloc (Nat.le_refl _) _
    have HS : Hid (World.ownsRow V53 w.heap.size 24 2 (.slice (some ⟨gS, 0, none⟩) 0 0) 0 []) := Lib.hid (by rw [hU, hgi]; exact own_noneQ (heap_alloc_at _ _ _ rfl) HBW.out.size)
    first | (replace HI := Lib.hid (own_below HI.out hbU)) | skip
    first | (replace HR := Lib.hid (own_below HR.out hbU)) | skip
    replace HBW := Lib.hid (HBW.out.trans (hbU.mono HBW.out.size))
    rw [← hgi, ← hU]
    clear hU hgi hbU
    refine hK.out _ _ (HS12.out _ HBW.out) (fun hS => ?_)
    clear hK K
    try simp only [List.getElem_toArray, List.getElem_cons_succ, List.getElem_cons_zero, Act.put, List.setIfInBounds_toArray, List.set_cons_zero, List.set_cons_succ]
    refine wpAnyH_ready (rs := [0, 4]) (by kernel_rfl) (by simp) ?_
    refine (AllReadyH.cons rfl (fun K hK => ?_) (AllReadyH.cons rfl (fun K hK => ?_) AllReadyH.nil))
    · skip
      go_simp
      obtain ⟨V54, hU⟩ : ∃ x, x = (V53).alloc (.cells #[] 3) := ⟨_, rfl⟩
      obtain ⟨gI, hgi⟩ : ∃ k, k = (V53).heap.size := ⟨_, rfl⟩
      have hbU : Below (V53).heap.size V53 V54 := by rw [hU]; exact (Below.refl _ _).alloc (Nat.le_refl _) _
      have HI : Hid (World.ownsRow V54 w.heap.size 3 1 (.slice (some ⟨gI, 0, none⟩) 0 0) 0 []) := Lib.hid (by rw [hU, hgi]; exact own_noneQ (heap_alloc_at _ _ _ rfl) HBW.out.size)
      first | (replace HR := Lib.hid (own_below HR.out hbU)) | skip
      first | (replace HS := Lib.hid (own_below HS.out hbU)) | skip
      replace HBW := Lib.hid (HBW.out.trans (hbU.mono HBW.out.size))
      rw [← hgi, ← hU]
      clear hU hgi hbU
      refine hK.out _ _ (HS12.out _ HBW.out) (fun hS => ?_)
      clear hK K
      try simp only [List.getElem_toArray, List.getElem_cons_succ, List.getElem_cons_zero, Act.put, List.setIfInBounds_toArray, List.set_cons_zero, List.set_cons_succ]
      refine wpAnyH_ready (rs := [3, 4]) (by kernel_rfl) (by simp) ?_
      refine (AllReadyH.cons rfl (fun K hK => ?_) (AllReadyH.cons rfl (fun K hK => ?_) AllReadyH.nil))
      · skip
        rw [if_pos (by rfl)]
        refine wp_copy_nums (.tmp 109) (.tmp 111) rfl w.heap.size gI rfl HI.out aop capp q.prices rfl _ (HPA.out.later HBW.out).n (by omega) HBW.out.size ?_
        intro vI V55 howni hgrow
        first | (replace HR := Lib.hid (HR.out.kept hgrow (own_sepQ HR.out HI.out (by decide)))) | skip
        first | (replace HS := Lib.hid (HS.out.kept hgrow (own_sepQ HS.out HI.out (by decide)))) | skip
        replace HBW := Lib.hid (HBW.out.trans ((Below.refl _ _).grown hgrow HBW.out.size (own_base HI.out)))
        replace HI := Lib.hid howni
        clear howni hgrow
        refine hK.out _ _ (HS12.out _ HBW.out) (fun hS => ?_)
        clear hK K
        try simp only [List.getElem_toArray, List.getElem_cons_succ, List.getElem_cons_zero, Act.put, List.setIfInBounds_toArray, List.set_cons_zero, List.set_cons_succ]
        refine wpAnyH_ready (rs := [4]) (by kernel_rfl) (by simp) ?_
        refine (AllReadyH.cons rfl (fun K hK => ?_) AllReadyH.nil)
        go_simp
        obtain ⟨V56, hU⟩ : ∃ x, x = (V55).alloc (.cells #[] 48) := ⟨_, rfl⟩
        obtain ⟨gR, hgi⟩ : ∃ k, k = (V55).heap.size := ⟨_, rfl⟩
        have hbU : Below (V55).heap.size V55 V56 := by rw [hU]; exact (Below.refl _ _).alloc (Nat.le_refl _) _
        have HR : Hid (World.ownsRow V56 w.heap.size 48 5 (.slice (some ⟨gR, 0, none⟩) 0 0) 0 []) := Lib.hid (by rw [hU, hgi]; exact own_noneQ (heap_alloc_at _ _ _ rfl) HBW.out.size)
        first | (replace HI := Lib.hid (own_below HI.out hbU)) | skip
        first | (replace HS := Lib.hid (own_below HS.out hbU)) | skip
        replace HBW := Lib.hid (HBW.out.trans (hbU.mono HBW.out.size))
        rw [← hgi, ← hU]
        clear hU hgi hbU
        refine hK.out _ _ (HS12.out _ HBW.out) (fun hS => ?_)
        clear hK K
        try simp only [List.getElem_toArray, List.getElem_cons_succ, List.getElem_cons_zero, Act.put, List.setIfInBounds_toArray, List.set_cons_zero, List.set_cons_succ]
        refine wpAnyH_ready (rs := [8]) (by kernel_rfl) (by simp) ?_
        refine (AllReadyH.cons rfl (fun K hK => ?_) AllReadyH.nil)
        rw [if_pos (by rfl)]
        refine wp_copy_readsQ (.tmp 113) (.tmp 116) rfl w.heap.size gR rfl HR.out aor capr q.pr.rs rfl _ (HPA.out.later HBW.out).p.r (by omega) HBW.out.size ?_
        intro vR V57 howni hgrow
        first | (replace HI := Lib.hid (HI.out.kept hgrow (own_sepQ HI.out HR.out (by decide)))) | skip
        first | (replace HS := Lib.hid (HS.out.kept hgrow (own_sepQ HS.out HR.out (by decide)))) | skip
        replace HBW := Lib.hid (HBW.out.trans ((Below.refl _ _).grown hgrow HBW.out.size (own_base HR.out)))
        replace HR := Lib.hid howni
        clear howni hgrow
        refine hK.out _ _ (HS12.out _ HBW.out) (fun hS => ?_)
        clear hK K
        try simp only [List.getElem_toArray, List.getElem_cons_succ, List.getElem_cons_zero, Act.put, List.setIfInBounds_toArray, List.set_cons_zero, List.set_cons_succ]
        refine wpAnyH_ready (rs := [13]) (by kernel_rfl) (by simp) ?_
        refine (AllReadyH.cons rfl (fun K hK => ?_) AllReadyH.nil)
        rw [if_pos (by rfl)]
        refine wp_copy_spans (.tmp 118) (.tmp 121) rfl w.heap.size gS rfl HS.out aob capb q.pr.bs rfl _ (HPA.out.later HBW.out).p.b (by omega) HBW.out.size ?_
        intro vS V58 howni hgrow
        first | (replace HI := Lib.hid (HI.out.kept hgrow (own_sepQ HI.out HS.out (by decide)))) | skip
        first | (replace HR := Lib.hid (HR.out.kept hgrow (own_sepQ HR.out HS.out (by decide)))) | skip
        replace HBW := Lib.hid (HBW.out.trans ((Below.refl _ _).grown hgrow HBW.out.size (own_base HS.out)))
        replace HS := Lib.hid howni
        clear howni hgrow
        refine hK.out _ _ (HS12.out _ HBW.out) (fun hS => ?_)
        clear hK K
        try simp only [List.getElem_toArray, List.getElem_cons_succ, List.getElem_cons_zero, Act.put, List.setIfInBounds_toArray, List.set_cons_zero, List.set_cons_succ]
        refine wpAnyH_done (by kernel_rfl) ?_ _
        unfold TailQ
        simp only [List.drop_succ_cons, List.drop_zero]
        clear hS
        go_wp2_with fail
        conv => arg 2; whnf
        go_upto_region 13 with fail
        refine HEND.out _ _ _ V58 HBW.out (nums_of_own rfl HI.out).low (readsAt_of_owns HR.out).low (spansAt_of_owns HS.out).low _ ?_ _ _ _ _ _ _ _ _ _ _ _ _ _ _ _ _ _ _ _ _ _ _ _ _ _ _ _ _ _ _ _ _ _ _ _ _ _ _ _ _ _ _ _ _ _ _ _ _ _ _ _ _ _ _ _ _ _ _ _ _ _ _ _ _ _ _ _ _ _ _ _ _ _ _ _ _ _ _ _ _ _ _ _ _ _ _ _ _ _ _ _ _ _ _ _ _
        assumption
      · skip
        go_simp
        obtain ⟨V59, hU⟩ : ∃ x, x = (V54).alloc (.cells #[] 48) := ⟨_, rfl⟩
        obtain ⟨gR, hgi⟩ : ∃ k, k = (V54).heap.size := ⟨_, rfl⟩
        have hbU : Below (V54).heap.size V54 V59 := by rw [hU]; exact (Below.refl _ _).alloc (Nat.le_refl _) _
        have HR : Hid (World.ownsRow V59 w.heap.size 48 5 (.slice (some ⟨gR, 0, none⟩) 0 0) 0 []) := Lib.hid (by rw [hU, hgi]; exact own_noneQ (heap_alloc_at _ _ _ rfl) HBW.out.size)
        first | (replace HI := Lib.hid (own_below HI.out hbU)) | skip
        first | (replace HS := Lib.hid (own_below HS.out hbU)) | skip
        replace HBW := Lib.hid (HBW.out.trans (hbU.mono HBW.out.size))
        rw [← hgi, ← hU]
        clear hU hgi hbU
        refine hK.out _ _ (HS12.out _ HBW.out) (fun hS => ?_)
        clear hK K
        try simp only [List.getElem_toArray, List.getElem_cons_succ, List.getElem_cons_zero, Act.put, List.setIfInBounds_toArray, List.set_cons_zero, List.set_cons_succ]
        refine wpAnyH_ready (rs := [3]) (by kernel_rfl) (by simp) ?_
        refine (AllReadyH.cons rfl (fun K hK => ?_) AllReadyH.nil)
        rw [if_pos (by rfl)]
        refine wp_copy_nums (.tmp 109) (.tmp 111) rfl w.heap.size gI rfl HI.out aop capp q.prices rfl _ (HPA.out.later HBW.out).n (by omega) HBW.out.size ?_
        intro vI V60 howni hgrow
        first | (replace HR := Lib.hid (HR.out.kept hgrow (own_sepQ HR.out HI.out (by decide)))) | skip
        first | (replace HS := Lib.hid (HS.out.kept hgrow (own_sepQ HS.out HI.out (by decide)))) | skip
        replace HBW := Lib.hid (HBW.out.trans ((Below.refl _ _).grown hgrow HBW.out.size (own_base HI.out)))
        replace HI := Lib.hid howni
        clear howni hgrow
        refine hK.out _ _ (HS12.out _ HBW.out) (fun hS => ?_)
        clear hK K
        try simp only [List.getElem_toArray, List.getElem_cons_succ, List.getElem_cons_zero, Act.put, List.setIfInBounds_toArray, List.set_cons_zero, List.set_cons_succ]
        refine wpAnyH_ready (rs := [8]) (by kernel_rfl) (by simp) ?_
        refine (AllReadyH.cons rfl (fun K hK => ?_) AllReadyH.nil)
        rw [if_pos (by rfl)]
        refine wp_copy_readsQ (.tmp 113) (.tmp 116) rfl w.heap.size gR rfl HR.out aor capr q.pr.rs rfl _ (HPA.out.later HBW.out).p.r (by omega) HBW.out.size ?_
        intro vR V61 howni hgrow
        first | (replace HI := Lib.hid (HI.out.kept hgrow (own_sepQ HI.out HR.out (by decide)))) | skip
        first | (replace HS := Lib.hid (HS.out.kept hgrow (own_sepQ HS.out HR.out (by decide)))) | skip
        replace HBW := Lib.hid (HBW.out.trans ((Below.refl _ _).grown hgrow HBW.out.size (own_base HR.out)))
        replace HR := Lib.hid howni
        clear howni hgrow
        refine hK.out _ _ (HS12.out _ HBW.out) (fun hS => ?_)
        clear hK K
        try simp only [List.getElem_toArray, List.getElem_cons_succ, List.getElem_cons_zero, Act.put, List.setIfInBounds_toArray, List.set_cons_zero, List.set_cons_succ]
        refine wpAnyH_ready (rs := [13]) (by kernel_rfl) (by simp) ?_
        refine (AllReadyH.cons rfl (fun K hK => ?_) AllReadyH.nil)
        rw [if_pos (by rfl)]
        refine wp_copy_spans (.tmp 118) (.tmp 121) rfl w.heap.size gS rfl HS.out aob capb q.pr.bs rfl _ (HPA.out.later HBW.out).p.b (by omega) HBW.out.size ?_
        intro vS V62 howni hgrow
        first | (replace HI := Lib.hid (HI.out.kept hgrow (own_sepQ HI.out HS.out (by decide)))) | skip
        first | (replace HR := Lib.hid (HR.out.kept hgrow (own_sepQ HR.out HS.out (by decide)))) | skip
        replace HBW := Lib.hid (HBW.out.trans ((Below.refl _ _).grown hgrow HBW.out.size (own_base HS.out)))
        replace HS := Lib.hid howni
        clear howni hgrow
        refine hK.out _ _ (HS12.out _ HBW.out) (fun hS => ?_)
        clear hK K
        try simp only [List.getElem_toArray, List.getElem_cons_succ, List.getElem_cons_zero, Act.put, List.setIfInBounds_toArray, List.set_cons_zero, List.set_cons_succ]
        refine wpAnyH_done (by kernel_rfl) ?_ _
        unfold TailQ
        simp only [List.drop_succ_cons, List.drop_zero]
        clear hS
        go_wp2_with fail
        conv => arg 2; whnf
        go_upto_region 13 with fail
        refine HEND.out _ _ _ V62 HBW.out (nums_of_own rfl HI.out).low (readsAt_of_owns HR.out).low (spansAt_of_owns HS.out).low _ ?_ _ _ _ _ _ _ _ _ _ _ _ _ _ _ _ _ _ _ _ _ _ _ _ _ _ _ _ _ _ _ _ _ _ _ _ _ _ _ _ _ _ _ _ _ _ _ _ _ _ _ _ _ _ _ _ _ _ _ _ _ _ _ _ _ _ _ _ _ _ _ _ _ _ _ _ _ _ _ _ _ _ _ _ _ _ _ _ _ _ _ _ _ _ _ _ _
        assumption
    · skip
      go_simp
      obtain ⟨V63, hU⟩ : ∃ x, x = (V53).alloc (.cells #[] 48) := ⟨_, rfl⟩
      obtain ⟨gR, hgi⟩ : ∃ k, k = (V53).heap.size := ⟨_, rfl⟩
      have hbU : Below (V53).heap.size V53 V63 := by rw [hU]; exact (Below.refl _ _).alloc (Nat.le_refl _) _
      have HR : Hid (World.ownsRow V63 w.heap.size 48 5 (.slice (some ⟨gR, 0, none⟩) 0 0) 0 []) := Lib.hid (by rw [hU, hgi]; exact own_noneQ (heap_alloc_at _ _ _ rfl) HBW.out.size)
      first | (replace HI := Lib.hid (own_below HI.out hbU)) | skip
      first | (replace HS := Lib.hid (own_below HS.out hbU)) | skip
      replace HBW := Lib.hid (HBW.out.trans (hbU.mono HBW.out.size))
      rw [← hgi, ← hU]
      clear hU hgi hbU
      refine hK.out _ _ (HS12.out _ HBW.out) (fun hS => ?_)
      clear hK K
      try simp only [List.getElem_toArray, List.getElem_cons_succ, List.getElem_cons_zero, Act.put, List.setIfInBounds_toArray, List.set_cons_zero, List.set_cons_succ]
      refine wpAnyH_ready (rs := [0]) (by kernel_rfl) (by simp) ?_
      refine (AllReadyH.cons rfl (fun K hK => ?_) AllReadyH.nil)
      go_simp
      obtain ⟨V64, hU⟩ : ∃ x, x = (V63).alloc (.cells #[] 3) := ⟨_, rfl⟩
      obtain ⟨gI, hgi⟩ : ∃ k, k = (V63).heap.size := ⟨_, rfl⟩
      have hbU : Below (V63).heap.size V63 V64 := by rw [hU]; exact (Below.refl _ _).alloc (Nat.le_refl _) _
      have HI : Hid (World.ownsRow V64 w.heap.size 3 1 (.slice (some ⟨gI, 0, none⟩) 0 0) 0 []) := Lib.hid (by rw [hU, hgi]; exact own_noneQ (heap_alloc_at _ _ _ rfl) HBW.out.size)
      first | (replace HR := Lib.hid (own_below HR.out hbU)) | skip
      first | (replace HS := Lib.hid (own_below HS.out hbU)) | skip
      replace HBW := Lib.hid (HBW.out.trans (hbU.mono HBW.out.size))
      rw [← hgi, ← hU]
      clear hU hgi hbU
      refine hK.out _ _ (HS12.out _ HBW.out) (fun hS => ?_)
      clear hK K
      try simp only [List.getElem_toArray, List.getElem_cons_succ, List.getElem_cons_zero, Act.put, List.setIfInBounds_toArray, List.set_cons_zero, List.set_cons_succ]
      refine wpAnyH_ready (rs := [3]) (by kernel_rfl) (by simp) ?_
      refine (AllReadyH.cons rfl (fun K hK => ?_) AllReadyH.nil)
      rw [if_pos (by rfl)]
      refine wp_copy_nums (.tmp 109) (.tmp 111) rfl w.heap.size gI rfl HI.out aop capp q.prices rfl _ (HPA.out.later HBW.out).n (by omega) HBW.out.size ?_
      intro vI V65 howni hgrow
      first | (replace HR := Lib.hid (HR.out.kept hgrow (own_sepQ HR.out HI.out (by decide)))) | skip
      first | (replace HS := Lib.hid (HS.out.kept hgrow (own_sepQ HS.out HI.out (by decide)))) | skip
      replace HBW := Lib.hid (HBW.out.trans ((Below.refl _ _).grown hgrow HBW.out.size (own_base HI.out)))
      replace HI := Lib.hid howni
      clear howni hgrow
      refine hK.out _ _ (HS12.out _ HBW.out) (fun hS => ?_)
      clear hK K
      try simp only [List.getElem_toArray, List.getElem_cons_succ, List.getElem_cons_zero, Act.put, List.setIfInBounds_toArray, List.set_cons_zero, List.set_cons_succ]
      refine wpAnyH_ready (rs := [8]) (by kernel_rfl) (by simp) ?_
      refine (AllReadyH.cons rfl (fun K hK => ?_) AllReadyH.nil)
      rw [if_pos (by rfl)]
      refine wp_copy_readsQ (.tmp 113) (.tmp 116) rfl w.heap.size gR rfl HR.out aor capr q.pr.rs rfl _ (HPA.out.later HBW.out).p.r (by omega) HBW.out.size ?_
      intro vR V66 howni hgrow
      first | (replace HI := Lib.hid (HI.out.kept hgrow (own_sepQ HI.out HR.out (by decide)))) | skip
      first | (replace HS := Lib.hid (HS.out.kept hgrow (own_sepQ HS.out HR.out (by decide)))) | skip
      replace HBW := Lib.hid (HBW.out.trans ((Below.refl _ _).grown hgrow HBW.out.size (own_base HR.out)))
      replace HR := Lib.hid howni
      clear howni hgrow
      refine hK.out _ _ (HS12.out _ HBW.out) (fun hS => ?_)
      clear hK K
      try simp only [List.getElem_toArray, List.getElem_cons_succ, List.getElem_cons_zero, Act.put, List.setIfInBounds_toArray, List.set_cons_zero, List.set_cons_succ]
      refine wpAnyH_ready (rs := [13]) (by kernel_rfl) (by simp) ?_
      refine (AllReadyH.cons rfl (fun K hK => ?_) AllReadyH.nil)
      rw [if_pos (by rfl)]
      refine wp_copy_spans (.tmp 118) (.tmp 121) rfl w.heap.size gS rfl HS.out aob capb q.pr.bs rfl _ (HPA.out.later HBW.out).p.b (by omega) HBW.out.size ?_
      intro vS V67 howni hgrow
      first | (replace HI := Lib.hid (HI.out.kept hgrow (own_sepQ HI.out HS.out (by decide)))) | skip
      first | (replace HR := Lib.hid (HR.out.kept hgrow (own_sepQ HR.out HS.out (by decide)))) | skip
      replace HBW := Lib.hid (HBW.out.trans ((Below.refl _ _).grown hgrow HBW.out.size (own_base HS.out)))
      replace HS := Lib.hid howni
      clear howni hgrow
      refine hK.out _ _ (HS12.out _ HBW.out) (fun hS => ?_)
      clear hK K
      try simp only [List.getElem_toArray, List.getElem_cons_succ, List.getElem_cons_zero, Act.put, List.setIfInBounds_toArray, List.set_cons_zero, List.set_cons_succ]
      refine wpAnyH_done (by kernel_rfl) ?_ _
      unfold TailQ
      simp only [List.drop_succ_cons, List.drop_zero]
      clear hS
      go_wp2_with fail
      conv => arg 2; whnf
      go_upto_region 13 with fail
      refine HEND.out _ _ _ V67 HBW.out (nums_of_own rfl HI.out).low (readsAt_of_owns HR.out).low (spansAt_of_owns HS.out).low _ ?_ _ _ _ _ _ _ _ _ _ _ _ _ _ _ _ _ _ _ _ _ _ _ _ _ _ _ _ _ _ _ _ _ _ _ _ _ _ _ _ _ _ _ _ _ _ _ _ _ _ _ _ _ _ _ _ _ _ _ _ _ _ _ _ _ _ _ _ _ _ _ _ _ _ _ _ _ _ _ _ _ _ _ _ _ _ _ _ _ _ _ _ _ _ _ _ _
      assumption
end Go.Proofs.Ytabbmihakoeegaa

/- PlanMore: the walk, the plan that is better. -/
namespace Go.Proofs.Ytabbmihakoeegaa
set_option linter.unusedVariables false
set_option linter.unusedSimpArgs false
open Go.RowKit Go.Shelf
attribute [local go_sem] Oper.semAt_some

theorem cells_setQ {w : World} {g k : Nat} {v : Value} {row : Array Value} {t : TypeId} {fr : Nat × Nat} (h : w.heap[g]? = some (.cells row t fr)) : (w.setCell ⟨g, k, none⟩ v).heap[g]? = some (.cells (row.setIfInBounds k v) t fr) := by
  simp [World.setCell, Array.getElem?_modify, h]
theorem cell_set_selfQ {w : World} {g k : Nat} {u v : Value} (h : w.cell? ⟨g, k, none⟩ = some u) : (w.setCell ⟨g, k, none⟩ v).cell? ⟨g, k, none⟩ = some v := by
  unfold World.cell? at h ⊢
  cases hh : w.heap[g]? with
  | none => rw [hh] at h; simp at h
  | some ob =>
    cases ob with
    | cells row t fr =>
      rw [hh] at h
      have hk : k < row.size := (Array.getElem?_eq_some_iff.1 h).1
      rw [cells_setQ hh]
      show (row.setIfInBounds k v)[k]? = some v
      simp [hk]
    | _ => rw [hh] at h; simp at h
theorem cell_set_otherQ {w : World} {g k : Nat} {v : Value} {a : Addr} (h : a ≠ ⟨g, k, none⟩) : (w.setCell ⟨g, k, none⟩ v).cell? a = w.cell? a := World.cell?_setCell_other w _ a v (fun e => h e.symm)
theorem nar_readsQ {w : World} {g cap i : Nat} {rs : List RdD} {Rd : Nat → Prop} (h : ReadsAt w (.slice (some ⟨g, 0, none⟩) rs.length cap) rs Rd) (hi : i < rs.length) (f : RdD → Int) :
    ReadsAt (w.setCell ⟨g, i * 5 + 3, none⟩ (.int .i64 (f rs[i]))) (.slice (some ⟨g, 0, none⟩) (rs.modify i fun r => { r with lo := f r }).length cap) (rs.modify i fun r => { r with lo := f r }) Rd := by
  obtain ⟨ao, cap', h1, h2, h3, h4⟩ := h
  injection h1 with h1a h1b h1c
  subst h1a h1c
  refine ⟨_, cap, rfl, by rw [List.length_modify]; exact h2, h3, fun j hj => ?_⟩
  have hj' : j < rs.length := by rw [List.length_modify] at hj; exact hj
  obtain ⟨b, off, e1, e2, e3, e4, e5, e6, e7, e8⟩ := h4 j hj'
  have e1 := Option.some.inj e1
  have eb : b = g := (congrArg Addr.block e1).symm
  have eo : off = 0 := (congrArg (fun x : Addr => x.off) e1).symm
  subst eb eo
  rw [List.getElem_modify]
  have hne : ∀ k, k ≠ i * 5 + 3 → ∀ u, w.cell? ⟨b, k, none⟩ = some u → (w.setCell ⟨b, i * 5 + 3, none⟩ (.int .i64 (f rs[i]))).cell? ⟨b, k, none⟩ = some u := fun k hk u hu => (cell_set_otherQ (by intro e; injection e with _ e; exact hk e)).trans hu
  refine ⟨b, 0, rfl, e2, by simpa using e3, ?_⟩
  split
  · rename_i hij
    subst hij
    refine ⟨hne _ (by omega) _ e4, hne _ (by omega) _ e5, hne _ (by omega) _ e6, ?_, hne _ (by omega) _ e8⟩
    rw [show 0 + i * 5 + 3 = i * 5 + 3 by omega] at e7 ⊢
    exact cell_set_selfQ e7
  · refine ⟨hne _ (by omega) _ e4, hne _ (by omega) _ e5, hne _ (by omega) _ e6, hne _ (by omega) _ e7, hne _ (by omega) _ e8⟩
set_option maxRecDepth 100000 in
set_option maxHeartbeats 16000000 in
theorem pm_wide (q : PlanD) (r : RdD) (bs rs ps vI vR : Value) (x y z : Int) (hx : 0 ≤ x ∧ x < 256) (hy : 0 ≤ y ∧ y < 256) (hz : 0 ≤ z ∧ z < 256) (B B1 : Nat) (w2 w : World) (hv : validP q = true) (hw : Below w2.heap.size w2 w)
    (hpb : w2.heap[B]? = some (.cells (planRow q bs rs ps) 30 (0, 0))) (hpa : PlanAt w2 q bs rs ps) (hxb : w.heap[w2.heap.size]? = some (.cells (planRow q bs vR vI) 30 (0, 0)))
    (hI : w.ownsRow (w2.heap.size + 1) 3 1 vI q.prices.length (q.prices.map (Value.int .i64))) (hR : w.ownsRow (w2.heap.size + 1) 48 5 vR q.pr.rs.length (q.pr.rs.flatMap rdC))
    (h3 : x % 3 ≠ 0 ∧ (x % 3 ≠ 1 ∨ q.prices.length = 0))
    (R : Ending → World → Prop) (hRR : ∀ w', Below w2.heap.size w2 w' → R (.returned (.bool true)) w') (u0 u1 u33 u34 u35 u36 u37 u38 u39 u40 u41 u42 u43 u44 u45 u46 u47 u48 u49 u50 u51 u52 : Value) :
    Code.wp Try.prog (moreQ 5) (bodyPost Try.prog Try.f7 R) ⟨#[u0, u1, .int .u8 x, .int .u8 y, .int .u8 z, .pointer (some ⟨B, 0, none⟩), .pointer (some ⟨B1, 0, none⟩), undef, undef, undef, .bool false, .int .i64 q.prices.length, .pointer (some ⟨w2.heap.size, 0, none⟩), undef, undef, undef, undef, undef, undef, undef, undef, undef, undef, undef, undef, undef, undef, undef, undef, undef, undef, undef, undef, u33, u34, u35, u36, u37, u38, u39, u40, u41, u42, u43, u44, u45, u46, u47, u48, u49, u50, u51, u52, undef, undef, undef, undef, undef, undef, undef, undef, undef, undef, undef, undef, undef, undef, undef, undef, undef, undef, undef, undef, undef, undef, undef, undef, undef, undef, undef, undef, undef, undef, undef, undef, undef, undef, undef, undef, undef, undef, undef, undef, undef, undef, undef, undef, undef, undef, undef, undef, undef, undef, undef, undef, undef, undef, undef, undef, undef, undef, undef, undef, undef, undef, undef, undef, undef, undef, undef, undef, undef, undef, undef, undef, undef, undef, undef, undef, undef, undef, undef, undef, undef, undef, undef, undef, undef, undef, undef, undef, undef, undef, undef, undef, undef, undef, undef, undef, undef, undef, undef, undef, undef, undef, undef, undef, undef, undef, undef, undef, undef, undef, undef, undef, undef, undef, undef, undef, undef, undef, undef, undef, undef, undef, undef, undef, undef, undef, undef, undef, undef, undef, undef, undef, undef, undef, undef, undef, undef, undef, undef, undef, undef, undef, undef, undef, undef, undef, undef, undef, undef, undef, undef, undef, undef, undef, undef, undef, undef, undef, undef, undef, undef, undef, undef, undef, undef, undef, undef, undef, undef, undef, undef, undef, undef, undef, undef, undef, undef, undef, undef, undef, undef, undef, undef, undef, undef, undef, undef, undef, undef, undef, undef, undef, undef, undef, undef, undef, undef, undef, undef, undef, undef, undef, undef, undef, undef, undef, undef, undef, undef, undef, undef, undef, undef, undef, undef, undef, undef, undef, undef, undef, undef, undef, undef, undef], []⟩ w := by
  conv => arg 2; whnf
  have hq := OkQ.of hv
  have hw0 := hq.w0
  have hw1 := hq.w1
  obtain ⟨k, hk⟩ : ∃ k, y % 5 = k := ⟨_, rfl⟩
  have hk0 : 0 ≤ k ∧ k < 5 := by omega
  have hwy : IntKind.i64.wrap y = y := IntWalk.i64_in _ (by omega)
  have hs1 : IntKind.i64.wrap (q.wide + 1) = q.wide + 1 := IntWalk.i64_in _ (by omega)
  have hs2 : IntKind.i64.wrap (q.wide + 1 + k) = q.wide + 1 + k := IntWalk.i64_in _ (by omega)
  have hpl := lt_of_block hpb
  have hxl := lt_of_block hxb
  have hsz := hw.size
  have c6 : w.cell? ⟨B, 6, none⟩ = some (.int .i64 q.wide) := by
    have h1 := (hw.block B hpl).trans hpb
    exact cell_of_row _ _ 6 _ _ _ h1
  have d6 : w.cell? ⟨w2.heap.size, 6, none⟩ = some (.int .i64 q.wide) := cell_of_row _ _ 6 _ _ _ hxb
  have f6 : w.frozen? ⟨w2.heap.size, 6, none⟩ = false := frozen_of_row _ _ 6 _ _ hxb
  have hR8 : ReadsAt w vR q.pr.rs (fun k => k < w.heap.size ∧ k ≠ w2.heap.size) := by
    have := readsAt_of_owns hR
    obtain ⟨ao, cap, h1, h2, h3, h4⟩ := this
    exact ⟨ao, cap, h1, h2, h3, fun i hi => by obtain ⟨b, off, e1, e2, e3⟩ := h4 i hi; exact ⟨b, off, e1, ⟨e3.1, by omega⟩, e3⟩⟩
  have hI8 : NumsAt w vI q.prices (fun k => k < w.heap.size ∧ k ≠ w2.heap.size) := by
    have := nums_of_own rfl hI
    obtain ⟨ao, cap, h1, h2, h3, h4⟩ := this
    exact ⟨ao, cap, h1, h2, h3, fun i hi => by obtain ⟨b, off, e1, e2, e3⟩ := h4 i hi; exact ⟨b, off, e1, ⟨e3.1, by omega⟩, e3⟩⟩
  have hbs := (hpa.p.b.later hw.size (fun k h1 h2 => hw.block k h1))
  have hrow : (w.setCell ⟨w2.heap.size, 6, none⟩ (.int .i64 (min 40 (q.wide + 1 + k)))).heap[w2.heap.size]? = some (.cells (planRow (widQ q (min 40 (q.wide + 1 + k))) bs vR vI) 30 (0, 0)) := (cells_setQ hxb).trans rfl
  have hbw : Below w2.heap.size w2 (w.setCell ⟨w2.heap.size, 6, none⟩ (.int .i64 (min 40 (q.wide + 1 + k)))) := hw.setCell (Nat.le_refl _) _
  have hszs : (w.setCell ⟨w2.heap.size, 6, none⟩ (.int .i64 (min 40 (q.wide + 1 + k)))).heap.size = w.heap.size := by simp [World.setCell]
  have hkeep : ∀ j, j < w.heap.size → j ≠ w2.heap.size → (w.setCell ⟨w2.heap.size, 6, none⟩ (.int .i64 (min 40 (q.wide + 1 + k)))).heap[j]? = w.heap[j]? := fun j h1 h2 => Below.heap_setCell _ _ _ _ (by dsimp only; omega)
  have hxa : PlanAt (w.setCell ⟨w2.heap.size, 6, none⟩ (.int .i64 (min 40 (q.wide + 1 + k)))) (widQ q (min 40 (q.wide + 1 + k))) bs vR vI :=
    ⟨⟨(hbs.later (by omega) (fun j h1 h2 => hkeep j h1 (by omega))).low, (hR8.later (by omega) (fun j h1 h2 => hkeep j h1 h2.2)).low⟩, (hI8.later (by omega) (fun j h1 h2 => hkeep j h1 h2.2)).low⟩
  have HEND := Lib.hid (pm_q q (widQ q (min 40 (q.wide + 1 + k))) bs rs ps bs vR vI y z hy hz B w2.heap.size _ hv (fun _ => wid_more (by omega)) ((hbw.block B hpl).trans hpb) (hpa.later hbw) hrow hxa R (fun w' h => hRR w' (hbw.trans (h.mono (by omega)))))
  have hx3 : (x % 3 == 0) = false := by rw [beq_eq_false_iff_ne]; exact h3.1
  clear hpb hpa hxb hI hR hR8 hI8 hbs hrow hxa hkeep hv hq
  by_cases h1 : x % 3 = 1
  · have hn : (q.prices.length : Int) = 0 := by omega
    have hn2 : ¬ (0 : Int) < (q.prices.length : Int) := by omega
    have hn3 : decide ((0 : Int) < (q.prices.length : Int)) = false := decide_eq_false hn2
    have hx1 : (x % 3 == 1) = true := by rw [h1]; rfl
    clear hn h3
    go_upto_region 12 with fail
    refine HEND.out _ ?_ _ _ _ _ _ _ _ _ _ _ _ _ _ _ _ _ _ _ _ _ _ _ _ _ _ _ _ _ _ _ _ _ _ _ _ _ _ _ _ _ _ _ _ _ _ _ _ _ _ _ _ _ _ _ _ _ _ _ _ _ _ _ _ _ _ _ _ _ _ _ _ _ _ _ _ _ _ _ _ _ _ _
    assumption
  · have hx1 : (x % 3 == 1) = false := by rw [beq_eq_false_iff_ne]; exact h1
    clear h3
    go_upto_region 12 with fail
    refine HEND.out _ ?_ _ _ _ _ _ _ _ _ _ _ _ _ _ _ _ _ _ _ _ _ _ _ _ _ _ _ _ _ _ _ _ _ _ _ _ _ _ _ _ _ _ _ _ _ _ _ _ _ _ _ _ _ _ _ _ _ _ _ _ _ _ _ _ _ _ _ _ _ _ _ _ _ _ _ _ _ _ _ _ _ _ _
    assumption
end Go.Proofs.Ytabbmihakoeegaa

/- PlanMore: the walk, a reading narrowed. -/
namespace Go.Proofs.Ytabbmihakoeegaa
set_option linter.unusedVariables false
set_option linter.unusedSimpArgs false
open Go.RowKit Go.Shelf
attribute [local go_sem] Oper.semAt_some

set_option maxRecDepth 100000 in
set_option maxHeartbeats 16000000 in
theorem pm_narr (q : PlanD) (r : RdD) (bs rs ps vI vR : Value) (x y z : Int) (hx : 0 ≤ x ∧ x < 256) (hy : 0 ≤ y ∧ y < 256) (hz : 0 ≤ z ∧ z < 256) (B B1 : Nat) (w2 w : World) (hv : validP q = true) (hw : Below w2.heap.size w2 w)
    (hpb : w2.heap[B]? = some (.cells (planRow q bs rs ps) 30 (0, 0))) (hpa : PlanAt w2 q bs rs ps) (hxb : w.heap[w2.heap.size]? = some (.cells (planRow q bs vR vI) 30 (0, 0)))
    (hI : w.ownsRow (w2.heap.size + 1) 3 1 vI q.prices.length (q.prices.map (Value.int .i64))) (hR : w.ownsRow (w2.heap.size + 1) 48 5 vR q.pr.rs.length (q.pr.rs.flatMap rdC))
    (h3 : x % 3 = 1 ∧ 0 < q.prices.length)
    (R : Ending → World → Prop) (hRR : ∀ w', Below w2.heap.size w2 w' → R (.returned (.bool true)) w') (u0 u1 u33 u34 u35 u36 u37 u38 u39 u40 u41 u42 u43 u44 u45 u46 u47 u48 u49 u50 u51 u52 : Value) :
    Code.wp Try.prog (moreQ 5) (bodyPost Try.prog Try.f7 R) ⟨#[u0, u1, .int .u8 x, .int .u8 y, .int .u8 z, .pointer (some ⟨B, 0, none⟩), .pointer (some ⟨B1, 0, none⟩), undef, undef, undef, .bool false, .int .i64 q.prices.length, .pointer (some ⟨w2.heap.size, 0, none⟩), undef, undef, undef, undef, undef, undef, undef, undef, undef, undef, undef, undef, undef, undef, undef, undef, undef, undef, undef, undef, u33, u34, u35, u36, u37, u38, u39, u40, u41, u42, u43, u44, u45, u46, u47, u48, u49, u50, u51, u52, undef, undef, undef, undef, undef, undef, undef, undef, undef, undef, undef, undef, undef, undef, undef, undef, undef, undef, undef, undef, undef, undef, undef, undef, undef, undef, undef, undef, undef, undef, undef, undef, undef, undef, undef, undef, undef, undef, undef, undef, undef, undef, undef, undef, undef, undef, undef, undef, undef, undef, undef, undef, undef, undef, undef, undef, undef, undef, undef, undef, undef, undef, undef, undef, undef, undef, undef, undef, undef, undef, undef, undef, undef, undef, undef, undef, undef, undef, undef, undef, undef, undef, undef, undef, undef, undef, undef, undef, undef, undef, undef, undef, undef, undef, undef, undef, undef, undef, undef, undef, undef, undef, undef, undef, undef, undef, undef, undef, undef, undef, undef, undef, undef, undef, undef, undef, undef, undef, undef, undef, undef, undef, undef, undef, undef, undef, undef, undef, undef, undef, undef, undef, undef, undef, undef, undef, undef, undef, undef, undef, undef, undef, undef, undef, undef, undef, undef, undef, undef, undef, undef, undef, undef, undef, undef, undef, undef, undef, undef, undef, undef, undef, undef, undef, undef, undef, undef, undef, undef, undef, undef, undef, undef, undef, undef, undef, undef, undef, undef, undef, undef, undef, undef, undef, undef, undef, undef, undef, undef, undef, undef, undef, undef, undef, undef, undef, undef, undef, undef, undef, undef, undef, undef, undef, undef, undef, undef, undef, undef, undef, undef, undef, undef, undef, undef, undef, undef, undef, undef, undef, undef, undef, undef, undef], []⟩ w := by
  conv => arg 2; whnf
  have hq := OkQ.of hv
  have hlen := hq.len
  have hm8 := hq.m8
  obtain ⟨i, hi⟩ : ∃ i : Nat, y % (q.prices.length : Int) = i := ⟨(y % (q.prices.length : Int)).toNat, by have := Int.emod_nonneg y (show (q.prices.length : Int) ≠ 0 by omega); omega⟩
  have hil : i < q.prices.length := by have := Int.emod_lt_of_pos y (show (0 : Int) < (q.prices.length : Int) by omega); omega
  have hir : i < q.pr.rs.length := by omega
  have hwy : IntKind.i64.wrap y = y := IntWalk.i64_in _ (by omega)
  have hpl := lt_of_block hpb
  have hxl := lt_of_block hxb
  have hsz := hw.size
  have d5 : w.cell? ⟨w2.heap.size, 5, none⟩ = some vR := cell_of_row _ _ 5 _ _ _ hxb
  have hok := (OkP.of _ hq.pr).rs _ (List.getElem_mem hir)
  have hR8 : ReadsAt w vR q.pr.rs (fun k => k < w.heap.size ∧ k ≠ w2.heap.size) := by
    have := readsAt_of_owns hR
    obtain ⟨ao, cap, h1, h2, h3, h4⟩ := this
    exact ⟨ao, cap, h1, h2, h3, fun i hi => by obtain ⟨b, off, e1, e2, e3⟩ := h4 i hi; exact ⟨b, off, e1, ⟨e3.1, by omega⟩, e3⟩⟩
  obtain ⟨gR, cpR, cuR, hvR, hgRb, hgR, hcR, _, _, _⟩ : ∃ g cap cur, vR = .slice (some ⟨g, 0, none⟩) q.pr.rs.length cap ∧ w2.heap.size + 1 ≤ g ∧ w.heap[g]? = some (.cells cur 48 (0, 0)) ∧ q.pr.rs.length ≤ cap ∧ cap ≤ maxLen ∧ cur.size = cap * 5 ∧ cur.toList.take (q.pr.rs.length * 5) = q.pr.rs.flatMap rdC := by
    rcases hR.2 with ⟨_, h0⟩ | h0
    · omega
    · exact h0
  subst hvR
  have hrd := hR8
  obtain ⟨ao, cap', h1, _, _, h4⟩ := hrd
  obtain ⟨b, off, e1, e2, e3, k0, k1, k2, k3, k4⟩ := h4 i hir
  have e0 : b = gR ∧ off = 0 := by
    injection h1 with h1 _ _
    rw [e1] at h1
    have h1 := Option.some.inj h1
    exact ⟨(congrArg Addr.block h1).symm, (congrArg (fun x : Addr => x.off) h1).symm⟩
  obtain ⟨rfl, rfl⟩ := e0
  clear h1 h4 e1 e2 e3 k0 k1 k2
  rw [show 0 + i * 5 = i * 5 by omega] at k3 k4
  have f3 : w.frozen? ⟨b, i * 5 + 3, none⟩ = false := frozen_of_row _ _ _ _ _ hgR
  have hx3 : (x % 3 == 0) = false := by rw [h3.1]; rfl
  have hx1 : (x % 3 == 1) = true := by rw [h3.1]; rfl
  have hn3 : decide ((0 : Int) < (q.prices.length : Int)) = true := decide_eq_true (by omega)
  have hn2 : (0 : Int) < (q.prices.length : Int) := by omega
  have hs1 : IntKind.i64.wrap (q.pr.rs[i].lo + 1) = q.pr.rs[i].lo + 1 := IntWalk.i64_in _ (by omega)
  have hbX : b ≠ w2.heap.size := by omega
  have hbs := (hpa.p.b.later hw.size (fun k h1 h2 => hw.block k h1))
  have hsep := own_sepQ hI hR (by decide)
  have HEND := Lib.hid (fun n => by
    obtain ⟨W, hW⟩ : ∃ x, x = (w.drewN n).setCell ⟨b, i * 5 + 3, none⟩ (.int .i64 (min q.pr.rs[i].hi (q.pr.rs[i].lo + 1))) := ⟨_, rfl⟩
    have hg : (w.drewN n).grownBy W (some b) := by
      rw [hW]
      exact ⟨rfl, rfl, rfl, by simp [World.setCell], fun k h1 h2 => Below.heap_setCell _ _ _ _ (by dsimp only; intro e; exact h2 (by rw [e]))⟩
    have hI' : W.ownsRow (w2.heap.size + 1) 3 1 vI q.prices.length (q.prices.map (Value.int .i64)) := World.ownsRow.kept (w := w.drewN n) hI hg hsep
    have hbw0 : Below w2.heap.size w2 (w.drewN n) := ⟨hw.os, hw.tape, hw.output, hw.size, hw.block⟩
    have hbw : Below w2.heap.size w2 W := by rw [hW]; exact hbw0.setCell (by dsimp only; omega) _
    have hszs : W.heap.size = w.heap.size := by rw [hW]; simp [World.setCell]
    have hnar := nar_readsQ (w := w.drewN n) (show ReadsAt (w.drewN n) (.slice (some ⟨b, 0, none⟩) q.pr.rs.length cpR) q.pr.rs _ from hR8) hir (fun r => min r.hi (r.lo + 1))
    rw [List.length_modify] at hnar
    rw [← hW] at hnar
    have hrow : W.heap[w2.heap.size]? = some (.cells (planRow (narrQ q i) bs (.slice (some ⟨b, 0, none⟩) q.pr.rs.length cpR) vI) 30 (0, 0)) := by
      rw [hW]
      exact (Below.heap_setCell _ _ _ _ (by dsimp only; omega)).trans hxb
    have hxa : PlanAt W (narrQ q i) bs (.slice (some ⟨b, 0, none⟩) q.pr.rs.length cpR) vI :=
      ⟨⟨(hpa.p.b.later hbw.size (fun k h1 h2 => hbw.block k h1)).low, hnar.low⟩, (nums_of_own rfl hI').low⟩
    have := pm_q q (narrQ q i) bs rs ps bs (.slice (some ⟨b, 0, none⟩) q.pr.rs.length cpR) vI y z hy hz B w2.heap.size W hv (fun h => narr_more hq (OkQ.of h)) ((hbw.block B hpl).trans hpb) (hpa.later hbw) hrow hxa R (fun w' h => hRR w' (hbw.trans (h.mono (by omega))))
    rw [hW] at this
    exact this)
  have HLEN := Lib.hid hlen
  have HOK := Lib.hid hok
  have HV := Lib.hid hv
  have HQ := Lib.hid hq
  clear hlen hok hv hq hm8 hR hI hcR hgRb h3
  go_upto_region 10 with fail
  go_quiet (fail)
  go_wp2_with fail
  refine wp_region_tail 13 #[false, false, false, false, false, false, false, false, false, false, false, false, false, true] (fun W => W.cell? ⟨b, i * 5 + 3, none⟩ = some (.int .i64 q.pr.rs[i].lo) ∧ W.cell? ⟨b, i * 5 + 4, none⟩ = some (.int .i64 q.pr.rs[i].hi)) (by kernel_rfl) (by kernel_rfl) (by rfl) ⟨k3, k4⟩ fun hS => ?_
  refine wpAnyH_take (i := 0) (v := ?_) rfl (by kernel_rfl) (by kernel_rfl) (by kernel_rfl) (fun _ _ _ h => h) (Or.inl ⟨by rfl, ?_⟩) hS ?_
  rotate_left
  · (intro W hSw; obtain ⟨hq1, hq2⟩ := hSw; go_simp; try with_reducible rfl)
  try simp only [List.getElem_toArray, List.getElem_cons_succ, List.getElem_cons_zero, Act.put, List.setIfInBounds_toArray, List.set_cons_zero, List.set_cons_succ]
  refine wpAnyH_take (i := 1) (v := ?_) rfl (by kernel_rfl) (by kernel_rfl) (by kernel_rfl) (fun _ _ _ h => h) (Or.inl ⟨by rfl, ?_⟩) hS ?_
  rotate_left
  · (intro W hSw; obtain ⟨hq1, hq2⟩ := hSw; go_simp; try with_reducible rfl)
  try simp only [List.getElem_toArray, List.getElem_cons_succ, List.getElem_cons_zero, Act.put, List.setIfInBounds_toArray, List.set_cons_zero, List.set_cons_succ]
  refine wpAnyH_take (i := 2) (v := ?_) rfl (by kernel_rfl) (by kernel_rfl) (by kernel_rfl) (fun _ _ _ h => h) (Or.inl ⟨by rfl, ?_⟩) hS ?_
  rotate_left
  · (intro W hSw; obtain ⟨hq1, hq2⟩ := hSw; go_simp; try with_reducible rfl)
  try simp only [List.getElem_toArray, List.getElem_cons_succ, List.getElem_cons_zero, Act.put, List.setIfInBounds_toArray, List.set_cons_zero, List.set_cons_succ]
  refine wpAnyH_take (i := 3) (v := ?_) rfl (by kernel_rfl) (by kernel_rfl) (by kernel_rfl) (fun _ _ _ h => h) (Or.inl ⟨by rfl, ?_⟩) hS ?_
  rotate_left
  · (intro W hSw; obtain ⟨hq1, hq2⟩ := hSw; go_simp; try with_reducible rfl)
  try simp only [List.getElem_toArray, List.getElem_cons_succ, List.getElem_cons_zero, Act.put, List.setIfInBounds_toArray, List.set_cons_zero, List.set_cons_succ]
  refine wpAnyH_take (i := 4) (v := ?_) rfl (by kernel_rfl) (by kernel_rfl) (by kernel_rfl) (fun _ _ _ h => h) (Or.inl ⟨by rfl, ?_⟩) hS ?_
  rotate_left
  · (intro W hSw; obtain ⟨hq1, hq2⟩ := hSw; go_simp; try with_reducible rfl)
  try simp only [List.getElem_toArray, List.getElem_cons_succ, List.getElem_cons_zero, Act.put, List.setIfInBounds_toArray, List.set_cons_zero, List.set_cons_succ]
  refine wpAnyH_take (i := 5) (v := ?_) rfl (by kernel_rfl) (by kernel_rfl) (by kernel_rfl) (fun _ _ _ h => h) (Or.inl ⟨by rfl, ?_⟩) hS ?_
  rotate_left
  · (intro W hSw; obtain ⟨hq1, hq2⟩ := hSw; go_simp; try with_reducible rfl)
  try simp only [List.getElem_toArray, List.getElem_cons_succ, List.getElem_cons_zero, Act.put, List.setIfInBounds_toArray, List.set_cons_zero, List.set_cons_succ]
  refine wpAnyH_take (i := 6) (v := ?_) rfl (by kernel_rfl) (by kernel_rfl) (by kernel_rfl) (fun _ _ _ h => h) (Or.inl ⟨by rfl, ?_⟩) hS ?_
  rotate_left
  · (intro W hSw; obtain ⟨hq1, hq2⟩ := hSw; go_simp; try with_reducible rfl)
  try simp only [List.getElem_toArray, List.getElem_cons_succ, List.getElem_cons_zero, Act.put, List.setIfInBounds_toArray, List.set_cons_zero, List.set_cons_succ]
  refine wpAnyH_take (i := 7) (v := ?_) rfl (by kernel_rfl) (by kernel_rfl) (by kernel_rfl) (fun _ _ _ h => h) (Or.inl ⟨by rfl, ?_⟩) hS ?_
  rotate_left
  · (intro W hSw; obtain ⟨hq1, hq2⟩ := hSw; go_simp; try with_reducible rfl)
  try simp only [List.getElem_toArray, List.getElem_cons_succ, List.getElem_cons_zero, Act.put, List.setIfInBounds_toArray, List.set_cons_zero, List.set_cons_succ]
  refine wpAnyH_take (i := 8) (v := ?_) rfl (by kernel_rfl) (by kernel_rfl) (by kernel_rfl) (fun _ _ _ h => h) (Or.inl ⟨by rfl, ?_⟩) hS ?_
  rotate_left
  · (intro W hSw; obtain ⟨hq1, hq2⟩ := hSw; go_simp; try with_reducible rfl)
  try simp only [List.getElem_toArray, List.getElem_cons_succ, List.getElem_cons_zero, Act.put, List.setIfInBounds_toArray, List.set_cons_zero, List.set_cons_succ]
  refine wpAnyH_take (i := 9) (v := ?_) rfl (by kernel_rfl) (by kernel_rfl) (by kernel_rfl) (fun _ _ _ h => h) (Or.inl ⟨by rfl, ?_⟩) hS ?_
  rotate_left
  · (intro W hSw; obtain ⟨hq1, hq2⟩ := hSw; go_simp; try with_reducible rfl)
  try simp only [List.getElem_toArray, List.getElem_cons_succ, List.getElem_cons_zero, Act.put, List.setIfInBounds_toArray, List.set_cons_zero, List.set_cons_succ]
  refine wpAnyH_take (i := 10) (v := ?_) rfl (by kernel_rfl) (by kernel_rfl) (by kernel_rfl) (fun _ _ _ h => h) (Or.inl ⟨by rfl, ?_⟩) hS ?_
  rotate_left
  · (intro W hSw; obtain ⟨hq1, hq2⟩ := hSw; go_simp; try with_reducible rfl)
  try simp only [List.getElem_toArray, List.getElem_cons_succ, List.getElem_cons_zero, Act.put, List.setIfInBounds_toArray, List.set_cons_zero, List.set_cons_succ]
  refine wpAnyH_take (i := 11) (v := ?_) rfl (by kernel_rfl) (by kernel_rfl) (by kernel_rfl) (fun _ _ _ h => h) (Or.inl ⟨by rfl, ?_⟩) hS ?_
  rotate_left
  · (intro W hSw; obtain ⟨hq1, hq2⟩ := hSw; go_simp; try with_reducible rfl)
  try simp only [List.getElem_toArray, List.getElem_cons_succ, List.getElem_cons_zero, Act.put, List.setIfInBounds_toArray, List.set_cons_zero, List.set_cons_succ]
  refine wpAnyH_take (i := 12) (v := ?_) rfl (by kernel_rfl) (by kernel_rfl) (by kernel_rfl) (fun _ _ _ h => h) (Or.inl ⟨by rfl, ?_⟩) hS ?_
  rotate_left
  · (intro W hSw; obtain ⟨hq1, hq2⟩ := hSw; go_simp; try with_reducible rfl)
  try simp only [List.getElem_toArray, List.getElem_cons_succ, List.getElem_cons_zero, Act.put, List.setIfInBounds_toArray, List.set_cons_zero, List.set_cons_succ]
  refine wpAnyH_done (by kernel_rfl) ?_ _
  unfold TailQ
  simp only [List.drop_succ_cons, List.drop_zero]
  clear hS
  go_wp2_with fail
  go_upto_region 12 with fail
  refine HEND.out _ _ ?_ _ _ _ _ _ _ _ _ _ _ _ _ _ _ _ _ _ _ _ _ _ _ _ _ _ _ _ _ _ _ _ _ _ _ _ _ _ _ _ _ _ _ _ _ _ _ _ _ _ _ _ _ _ _ _ _ _ _ _ _ _ _ _ _ _ _ _ _ _ _ _ _ _ _ _ _ _ _ _ _ _ _
  assumption
end Go.Proofs.Ytabbmihakoeegaa

/- PlanMore: the walk, a reading more. -/
namespace Go.Proofs.Ytabbmihakoeegaa
set_option linter.unusedVariables false
set_option linter.unusedSimpArgs false
open Go.RowKit Go.Shelf
attribute [local go_sem] Oper.semAt_some

def numC (l : List Int) : List Value := l.map (Value.int .i64)
def rdsC (l : List RdD) : List Value := l.flatMap rdC
theorem wp_app_nums {o : Oper} {a : Act} {K : Act → World → Prop} {Q : Exit → Act → World → Prop} {w : World} (s x : Operand)
    (ho : o.op = .call { callee := .builtin .append, args := #[s, x], argTypes := #[28, 28] })
    (base : Nat) (v : Value) (l0 l : List Int) (hs : a.eval s = v) (hown : w.ownsRow base 3 1 v l0.length (numC l0)) (ad : Addr) (cap : Nat) (hx : a.eval x = .slice (some ad) l.length cap) (Rd : Nat → Prop) (hr : NumsAt w (.slice (some ad) l.length cap) l Rd) (hl : l0.length + l.length ≤ 1000) (hb : base ≤ w.heap.size)
    (h : ∀ v' w', w'.ownsRow base 3 1 v' (l0 ++ l).length (numC (l0 ++ l)) → w.grownBy w' v.ownBlock → K (a.put o.dst v') w') : o.wp Try.prog a w K Q := by
  refine wp_append_here s x _ ho base 3 1 8 _ underInts infoInt rfl (by decide) v l0.length _ hs hown ad l.length cap (numC l) hx (by simp [numC]) hr.newsQ (onesQ l) (by omega) (by decide) hb ?_
  intro v' w' h1 h2 _
  refine h v' w' ?_ h2
  rw [List.length_append]
  have he : numC (l0 ++ l) = numC l0 ++ numC l := by simp [numC]
  rw [he]
  exact h1
theorem wp_app_reads {o : Oper} {a : Act} {K : Act → World → Prop} {Q : Exit → Act → World → Prop} {w : World} (s x : Operand)
    (ho : o.op = .call { callee := .builtin .append, args := #[s, x], argTypes := #[25, 25] })
    (base : Nat) (v : Value) (l0 l : List RdD) (hs : a.eval s = v) (hown : w.ownsRow base 48 5 v l0.length (rdsC l0)) (ad : Addr) (cap : Nat) (hx : a.eval x = .slice (some ad) l.length cap) (Rd : Nat → Prop) (hr : ReadsAt w (.slice (some ad) l.length cap) l Rd) (hl : l0.length + l.length ≤ 1000) (hb : base ≤ w.heap.size)
    (h : ∀ v' w', w'.ownsRow base 48 5 v' (l0 ++ l).length (rdsC (l0 ++ l)) → w.grownBy w' v.ownBlock → K (a.put o.dst v') w') : o.wp Try.prog a w K Q := by
  refine wp_append_here s x _ ho base 48 5 40 _ underReadsQ infoRead rfl (by decide) v l0.length _ hs hown ad l.length cap (rdsC l) hx (flat_length l) hr.newsQ (rdC_onesQ l) (by omega) (by decide) hb ?_
  intro v' w' h1 h2 _
  refine h v' w' ?_ h2
  rw [List.length_append]
  have he : rdsC (l0 ++ l) = rdsC l0 ++ rdsC l := by simp [rdsC]
  rw [he]
  exact h1
theorem own_one {w : World} {base g : Nat} {e : TypeId} {size : Nat} {xs : List Value} {row : Array Value} (h : w.heap[g]? = some (.cells row e (0, 0))) (hr : row.toList = xs) (hl : xs.length = 1 * size) (hb : base ≤ g) : w.ownsRow base e size (.slice (some ⟨g, 0, none⟩) 1 1) 1 xs := by
  subst hr
  refine ⟨hl, .inr ⟨g, 1, row, rfl, hb, h, Nat.le_refl _, by decide, by simpa using hl, ?_⟩⟩
  rw [List.take_of_length_le (by omega)]
def S8q (B1 X : Nat) (vI vR : Value) (r : RdD) (W : World) : Prop := W.cell? ⟨X, 7, none⟩ = some vI ∧ W.cell? ⟨X, 5, none⟩ = some vR ∧ W.cell? ⟨B1, 0, none⟩ = some (.int .i64 r.a) ∧ W.cell? ⟨B1, 1, none⟩ = some (.int .i64 r.b) ∧ W.cell? ⟨B1, 2, none⟩ = some (.int .i64 r.m) ∧ W.cell? ⟨B1, 3, none⟩ = some (.int .i64 r.lo) ∧ W.cell? ⟨B1, 4, none⟩ = some (.int .i64 r.hi)
set_option maxRecDepth 100000 in
set_option maxHeartbeats 16000000 in
theorem pm_with (q : PlanD) (r : RdD) (bs rs ps vI vR : Value) (x y z : Int) (hx : 0 ≤ x ∧ x < 256) (hy : 0 ≤ y ∧ y < 256) (hz : 0 ≤ z ∧ z < 256) (B B1 : Nat) (w2 w : World) (hv : validP q = true) (hw : Below w2.heap.size w2 w)
    (hpb : w2.heap[B]? = some (.cells (planRow q bs rs ps) 30 (0, 0))) (hpa : PlanAt w2 q bs rs ps) (hxb : w.heap[w2.heap.size]? = some (.cells (planRow q bs vR vI) 30 (0, 0)))
    (hI : w.ownsRow (w2.heap.size + 1) 3 1 vI q.prices.length (q.prices.map (Value.int .i64))) (hR : w.ownsRow (w2.heap.size + 1) 48 5 vR q.pr.rs.length (q.pr.rs.flatMap rdC))
    (h3 : x % 3 = 0) (hrb : w2.heap[B1]? = some (.cells #[.int .i64 r.a, .int .i64 r.b, .int .i64 r.m, .int .i64 r.lo, .int .i64 r.hi] 48 (0, 0)))
    (R : Ending → World → Prop) (hRR : ∀ w', Below w2.heap.size w2 w' → R (.returned (.bool true)) w') (u0 u1 u33 u34 u35 u36 u37 u38 u39 u40 u41 u42 u43 u44 u45 u46 u47 u48 u49 u50 u51 u52 : Value) :
    Code.wp Try.prog (moreQ 5) (bodyPost Try.prog Try.f7 R) ⟨#[u0, u1, .int .u8 x, .int .u8 y, .int .u8 z, .pointer (some ⟨B, 0, none⟩), .pointer (some ⟨B1, 0, none⟩), undef, undef, undef, .bool false, .int .i64 q.prices.length, .pointer (some ⟨w2.heap.size, 0, none⟩), undef, undef, undef, undef, undef, undef, undef, undef, undef, undef, undef, undef, undef, undef, undef, undef, undef, undef, undef, undef, u33, u34, u35, u36, u37, u38, u39, u40, u41, u42, u43, u44, u45, u46, u47, u48, u49, u50, u51, u52, undef, undef, undef, undef, undef, undef, undef, undef, undef, undef, undef, undef, undef, undef, undef, undef, undef, undef, undef, undef, undef, undef, undef, undef, undef, undef, undef, undef, undef, undef, undef, undef, undef, undef, undef, undef, undef, undef, undef, undef, undef, undef, undef, undef, undef, undef, undef, undef, undef, undef, undef, undef, undef, undef, undef, undef, undef, undef, undef, undef, undef, undef, undef, undef, undef, undef, undef, undef, undef, undef, undef, undef, undef, undef, undef, undef, undef, undef, undef, undef, undef, undef, undef, undef, undef, undef, undef, undef, undef, undef, undef, undef, undef, undef, undef, undef, undef, undef, undef, undef, undef, undef, undef, undef, undef, undef, undef, undef, undef, undef, undef, undef, undef, undef, undef, undef, undef, undef, undef, undef, undef, undef, undef, undef, undef, undef, undef, undef, undef, undef, undef, undef, undef, undef, undef, undef, undef, undef, undef, undef, undef, undef, undef, undef, undef, undef, undef, undef, undef, undef, undef, undef, undef, undef, undef, undef, undef, undef, undef, undef, undef, undef, undef, undef, undef, undef, undef, undef, undef, undef, undef, undef, undef, undef, undef, undef, undef, undef, undef, undef, undef, undef, undef, undef, undef, undef, undef, undef, undef, undef, undef, undef, undef, undef, undef, undef, undef, undef, undef, undef, undef, undef, undef, undef, undef, undef, undef, undef, undef, undef, undef, undef, undef, undef, undef, undef, undef, undef, undef, undef, undef, undef, undef, undef], []⟩ w := by
  conv => arg 2; whnf
  have hq := OkQ.of hv
  have hlen := hq.len
  have hm8 := hq.m8
  have hpl := lt_of_block hpb
  have hbl := lt_of_block hrb
  have hxl := lt_of_block hxb
  have hsz := hw.size
  have HEND := Lib.hid (fun (V : World) (vI2 vR2 : Value) (hb : Below (w2.heap.size + 1) w V) (hI2 : World.ownsRow V (w2.heap.size + 1) 3 1 vI2 (q.prices ++ [1]).length (numC (q.prices ++ [1]))) (hR2 : World.ownsRow V (w2.heap.size + 1) 48 5 vR2 (q.pr.rs ++ [r]).length (rdsC (q.pr.rs ++ [r]))) => by
    obtain ⟨W, hW⟩ : ∃ x, x = (V.setCell ⟨w2.heap.size, 7, none⟩ vI2).setCell ⟨w2.heap.size, 5, none⟩ vR2 := ⟨_, rfl⟩
    have hbw0 : Below w2.heap.size w2 V := hw.trans (hb.mono (by omega))
    have hbw : Below w2.heap.size w2 W := by rw [hW]; exact (hbw0.setCell (Nat.le_refl _) _).setCell (Nat.le_refl _) _
    have hsV := hb.size
    have hszs : W.heap.size = V.heap.size := by rw [hW]; simp [World.setCell]
    have hkeep : ∀ k, k ≠ w2.heap.size → W.heap[k]? = V.heap[k]? := fun k hk => by rw [hW]; exact (Below.heap_setCell _ _ _ _ (by dsimp only; omega)).trans (Below.heap_setCell _ _ _ _ (by dsimp only; omega))
    have hrow : W.heap[w2.heap.size]? = some (.cells (planRow (withQ q r) bs vR2 vI2) 30 (0, 0)) := by
      have h1 : V.heap[w2.heap.size]? = _ := (hb.block w2.heap.size (by omega)).trans hxb
      rw [hW]
      exact (cells_setQ (cells_setQ h1)).trans rfl
    have hR3 : ReadsAt W vR2 (q.pr.rs ++ [r]) (fun k => w2.heap.size + 1 ≤ k) := (readsAt_of_owns hR2).later (by omega) (fun k h1 h2 => hkeep k (by omega))
    have hI3 : NumsAt W vI2 (q.prices ++ [1]) (fun k => w2.heap.size + 1 ≤ k) := (nums_of_own rfl hI2).later (by omega) (fun k h1 h2 => hkeep k (by omega))
    have hxa : PlanAt W (withQ q r) bs vR2 vI2 :=
      ⟨⟨(hpa.p.b.later hbw.size (fun k h1 h2 => hbw.block k h1)).low, hR3.low⟩, hI3.low⟩
    have := pm_q q (withQ q r) bs rs ps bs vR2 vI2 y z hy hz B w2.heap.size W hv (fun h => with_more hq (OkQ.of h)) ((hbw.block B hpl).trans hpb) (hpa.later hbw) hrow hxa R (fun w' h => hRR w' (hbw.trans (h.mono (by omega))))
    rw [hW] at this
    exact this)
  have HS8 : Hid (∀ W, Below (w2.heap.size + 1) w W → S8q B1 w2.heap.size vI vR r W) := Lib.hid fun W h => by
    have h1 := (h.block w2.heap.size (by omega)).trans hxb
    have h2 := (h.block B1 (by omega)).trans ((hw.block B1 hbl).trans hrb)
    exact ⟨cell_of_row _ _ 7 _ _ _ h1, cell_of_row _ _ 5 _ _ _ h1, cell_of_row _ _ 0 _ _ _ h2, cell_of_row _ _ 1 _ _ _ h2, cell_of_row _ _ 2 _ _ _ h2, cell_of_row _ _ 3 _ _ _ h2, cell_of_row _ _ 4 _ _ _ h2⟩
  have HF5 : Hid (∀ W, Below (w2.heap.size + 1) w W → W.frozen? ⟨w2.heap.size, 5, none⟩ = false) := Lib.hid fun W h => frozen_of_row _ _ _ _ _ ((h.block w2.heap.size (by omega)).trans hxb)
  have HF7 : Hid (∀ W, Below (w2.heap.size + 1) w W → W.frozen? ⟨w2.heap.size, 7, none⟩ = false) := Lib.hid fun W h => frozen_of_row _ _ _ _ _ ((h.block w2.heap.size (by omega)).trans hxb)
  have HBW : Hid (Below (w2.heap.size + 1) w w.drew) := Lib.hid (Below.refl _ _).drew
  have HI : Hid (World.ownsRow w.drew (w2.heap.size + 1) 3 1 vI q.prices.length (numC q.prices)) := Lib.hid hI
  have HR : Hid (World.ownsRow w.drew (w2.heap.size + 1) 48 5 vR q.pr.rs.length (rdsC q.pr.rs)) := Lib.hid hR
  have hx3 : (x % 3 == 0) = true := by rw [h3]; rfl
  have hlr : q.pr.rs.length ≤ 8 := by omega
  have hlp : q.prices.length ≤ 8 := by omega
  clear hpb hpa hxb hI hR hv hq hrb hlen hm8 h3
  go_upto_region 8 with fail
  refine wp_region_tail 11 #[false, false, false, false, false, false, false, false, false, false, false, true, true, true, true] (S8q B1 w2.heap.size vI vR r) (by kernel_rfl) (by kernel_rfl) (by rfl) (HS8.out _ HBW.out) fun hS => ?_
  obtain ⟨V0, hV0⟩ : ∃ x, x = w.drew := ⟨_, rfl⟩
  rw [← hV0] at HBW hS HI HR
  rw [← hV0]
  clear hV0
  refine wpAnyH_take (i := 0) (v := ?_) rfl (by kernel_rfl) (by kernel_rfl) (by kernel_rfl) (fun _ _ _ h => h) (Or.inl ⟨by rfl, ?_⟩) hS ?_
  rotate_left
  · (intro W hSw; obtain ⟨hq1, hq2, hq3, hq4, hq5, hq6, hq7⟩ := hSw; go_simp; try with_reducible rfl)
  try simp only [List.getElem_toArray, List.getElem_cons_succ, List.getElem_cons_zero, Act.put, List.setIfInBounds_toArray, List.set_cons_zero, List.set_cons_succ]
  refine wpAnyH_take (i := 1) (v := ?_) rfl (by kernel_rfl) (by kernel_rfl) (by kernel_rfl) (fun _ _ _ h => h) (Or.inl ⟨by rfl, ?_⟩) hS ?_
  rotate_left
  · (intro W hSw; obtain ⟨hq1, hq2, hq3, hq4, hq5, hq6, hq7⟩ := hSw; go_simp; try with_reducible rfl)
  try simp only [List.getElem_toArray, List.getElem_cons_succ, List.getElem_cons_zero, Act.put, List.setIfInBounds_toArray, List.set_cons_zero, List.set_cons_succ]
  refine wpAnyH_take (i := 4) (v := ?_) rfl (by kernel_rfl) (by kernel_rfl) (by kernel_rfl) (fun _ _ _ h => h) (Or.inl ⟨by rfl, ?_⟩) hS ?_
  rotate_left
  · (intro W hSw; obtain ⟨hq1, hq2, hq3, hq4, hq5, hq6, hq7⟩ := hSw; go_simp; try with_reducible rfl)
  try simp only [List.getElem_toArray, List.getElem_cons_succ, List.getElem_cons_zero, Act.put, List.setIfInBounds_toArray, List.set_cons_zero, List.set_cons_succ]
  refine wpAnyH_take (i := 5) (v := ?_) rfl (by kernel_rfl) (by kernel_rfl) (by kernel_rfl) (fun _ _ _ h => h) (Or.inl ⟨by rfl, ?_⟩) hS ?_
  rotate_left
  · (intro W hSw; obtain ⟨hq1, hq2, hq3, hq4, hq5, hq6, hq7⟩ := hSw; go_simp; try with_reducible rfl)
  try simp only [List.getElem_toArray, List.getElem_cons_succ, List.getElem_cons_zero, Act.put, List.setIfInBounds_toArray, List.set_cons_zero, List.set_cons_succ]
  refine wpAnyH_take (i := 6) (v := ?_) rfl (by kernel_rfl) (by kernel_rfl) (by kernel_rfl) (fun _ _ _ h => h) (Or.inl ⟨by rfl, ?_⟩) hS ?_
  rotate_left
  · (intro W hSw; obtain ⟨hq1, hq2, hq3, hq4, hq5, hq6, hq7⟩ := hSw; go_simp; try with_reducible rfl)
  try simp only [List.getElem_toArray, List.getElem_cons_succ, List.getElem_cons_zero, Act.put, List.setIfInBounds_toArray, List.set_cons_zero, List.set_cons_succ]
  refine wpAnyH_take (i := 7) (v := ?_) rfl (by kernel_rfl) (by kernel_rfl) (by kernel_rfl) (fun _ _ _ h => h) (Or.inl ⟨by rfl, ?_⟩) hS ?_
  rotate_left
  · (intro W hSw; obtain ⟨hq1, hq2, hq3, hq4, hq5, hq6, hq7⟩ := hSw; go_simp; try with_reducible rfl)
  try simp only [List.getElem_toArray, List.getElem_cons_succ, List.getElem_cons_zero, Act.put, List.setIfInBounds_toArray, List.set_cons_zero, List.set_cons_succ]
  refine wpAnyH_ready (rs := [2, 8]) (by kernel_rfl) (by simp) ?_
  refine (AllReadyH.cons rfl (fun K hK => ?_) (AllReadyH.cons rfl (fun K hK => ?_) AllReadyH.nil))
  · skip
    go_simp
    obtain ⟨V1, hU⟩ : ∃ x, x = (V0).alloc (.cells #[.int .i64 1] 3) := ⟨_, rfl⟩
    obtain ⟨gI, hgi⟩ : ∃ k, k = (V0).heap.size := ⟨_, rfl⟩
    have hbU : Below (V0).heap.size V0 V1 := by rw [hU]; exact (Below.refl _ _).alloc (Nat.le_refl _) _
    have HNI : Hid (World.ownsRow V1 (w2.heap.size + 1) 3 1 (.slice (some ⟨gI, 0, none⟩) 1 1) 1 [.int .i64 1]) := Lib.hid (by rw [hU, hgi]; exact own_one (heap_alloc_at _ _ _ rfl) rfl rfl (by have := HBW.out.size; omega))
    replace HI := Lib.hid (own_below HI.out hbU)
    replace HR := Lib.hid (own_below HR.out hbU)
    first | (replace HNR := Lib.hid (own_below HNR.out hbU)) | skip
    replace HBW := Lib.hid (HBW.out.trans (hbU.mono (by have := HBW.out.size; omega)))
    rw [← hgi, ← hU]
    clear hU hgi hbU
    refine hK.out _ _ (HS8.out _ HBW.out) (fun hS => ?_)
    clear hK K
    try simp only [List.getElem_toArray, List.getElem_cons_succ, List.getElem_cons_zero, Act.put, List.setIfInBounds_toArray, List.set_cons_zero, List.set_cons_succ]
    refine wpAnyH_ready (rs := [3, 8]) (by kernel_rfl) (by simp) ?_
    refine (AllReadyH.cons rfl (fun K hK => ?_) (AllReadyH.cons rfl (fun K hK => ?_) AllReadyH.nil))
    · skip
      refine wp_app_nums (.tmp 67) (.tmp 68) rfl (w2.heap.size + 1) vI q.prices [1] rfl HI.out ⟨gI, 0, none⟩ 1 rfl _ (nums_of_own (l := [1]) rfl HNI.out) (by simp; omega) (by have := HBW.out.size; omega) ?_
      intro vI2 V2 howni hgrow
      obtain ⟨aI, cI, hvI, _⟩ := id (nums_of_own (l := q.prices ++ [1]) rfl howni)
      replace hvI : vI2 = .slice aI (q.prices.length + 1) cI := hvI.trans (by rw [List.length_append]; rfl)
      subst hvI
      clear HNI
      replace HR := Lib.hid (HR.out.kept hgrow (own_sepQ HR.out HI.out (by decide)))
      first | (replace HNR := Lib.hid (HNR.out.kept hgrow (own_sepQ HNR.out HI.out (by decide)))) | skip
      replace HBW := Lib.hid (HBW.out.trans ((Below.refl _ _).grown hgrow (by have := HBW.out.size; omega) (own_base HI.out)))
      replace HI := Lib.hid howni
      clear howni hgrow
      refine hK.out _ _ (HS8.out _ HBW.out) (fun hS => ?_)
      clear hK K
      try simp only [List.getElem_toArray, List.getElem_cons_succ, List.getElem_cons_zero, Act.put, List.setIfInBounds_toArray, List.set_cons_zero, List.set_cons_succ]
      refine wpAnyH_take (i := 10) (v := ?_) rfl (by kernel_rfl) (by kernel_rfl) (by kernel_rfl) (fun _ _ _ h => h) (Or.inl ⟨by rfl, ?_⟩) hS ?_
      rotate_left
      · (intro W hSw; obtain ⟨hq1, hq2, hq3, hq4, hq5, hq6, hq7⟩ := hSw; go_simp; try with_reducible rfl)
      try simp only [List.getElem_toArray, List.getElem_cons_succ, List.getElem_cons_zero, Act.put, List.setIfInBounds_toArray, List.set_cons_zero, List.set_cons_succ]
      refine wpAnyH_ready (rs := [8]) (by kernel_rfl) (by simp) ?_
      refine AllReadyH.cons rfl (fun K hK => ?_) AllReadyH.nil
      go_simp
      obtain ⟨V3, hU⟩ : ∃ x, x = (V2).alloc (.cells #[.int .i64 r.a, .int .i64 r.b, .int .i64 r.m, .int .i64 r.lo, .int .i64 r.hi] 48) := ⟨_, rfl⟩
      obtain ⟨gR, hgi⟩ : ∃ k, k = (V2).heap.size := ⟨_, rfl⟩
      have hbU : Below (V2).heap.size V2 V3 := by rw [hU]; exact (Below.refl _ _).alloc (Nat.le_refl _) _
      have HNR : Hid (World.ownsRow V3 (w2.heap.size + 1) 48 5 (.slice (some ⟨gR, 0, none⟩) 1 1) 1 (rdC r)) := Lib.hid (by rw [hU, hgi]; exact own_one (heap_alloc_at _ _ _ rfl) rfl rfl (by have := HBW.out.size; omega))
      replace HI := Lib.hid (own_below HI.out hbU)
      replace HR := Lib.hid (own_below HR.out hbU)
      first | (replace HNI := Lib.hid (own_below HNI.out hbU)) | skip
      replace HBW := Lib.hid (HBW.out.trans (hbU.mono (by have := HBW.out.size; omega)))
      rw [← hgi, ← hU]
      clear hU hgi hbU
      refine hK.out _ _ (HS8.out _ HBW.out) (fun hS => ?_)
      clear hK K
      try simp only [List.getElem_toArray, List.getElem_cons_succ, List.getElem_cons_zero, Act.put, List.setIfInBounds_toArray, List.set_cons_zero, List.set_cons_succ]
      refine wpAnyH_ready (rs := [9]) (by kernel_rfl) (by simp) ?_
      refine AllReadyH.cons rfl (fun K hK => ?_) AllReadyH.nil
      refine wp_app_reads (.tmp 72) (.tmp 74) rfl (w2.heap.size + 1) vR q.pr.rs [r] rfl HR.out ⟨gR, 0, none⟩ 1 rfl _ (readsAt_of_owns (l := [r]) HNR.out) (by simp; omega) (by have := HBW.out.size; omega) ?_
      intro vR2 V4 howni hgrow
      obtain ⟨aR, cR, hvR, _⟩ := id (readsAt_of_owns (l := q.pr.rs ++ [r]) howni)
      replace hvR : vR2 = .slice aR (q.pr.rs.length + 1) cR := hvR.trans (by rw [List.length_append]; rfl)
      subst hvR
      clear HNR
      replace HI := Lib.hid (HI.out.kept hgrow (own_sepQ HI.out HR.out (by decide)))
      replace HBW := Lib.hid (HBW.out.trans ((Below.refl _ _).grown hgrow (by have := HBW.out.size; omega) (own_base HR.out)))
      replace HR := Lib.hid howni
      clear howni hgrow
      refine hK.out _ _ (HS8.out _ HBW.out) (fun hS => ?_)
      clear hK K
      try simp only [List.getElem_toArray, List.getElem_cons_succ, List.getElem_cons_zero, Act.put, List.setIfInBounds_toArray, List.set_cons_zero, List.set_cons_succ]
      refine wpAnyH_done (by kernel_rfl) ?_ _
      unfold TailQ
      simp only [List.drop_succ_cons, List.drop_zero]
      clear hS
      have f5 := HF5.out _ HBW.out
      have f7 := HF7.out _ HBW.out
      obtain ⟨c7, c5, _⟩ := HS8.out _ HBW.out
      have HGO := Lib.hid (HEND.out V4 _ _ HBW.out HI.out HR.out)
      clear HI HR HBW
      go_wp2_with fail
      go_upto_region 12 with fail
      refine HGO.out _ ?_ _ _ _ _ _ _ _ _ _ _ _ _ _ _ _ _ _ _ _ _ _ _ _ _ _ _ _ _ _ _ _ _ _ _ _ _ _ _ _ _ _ _ _ _ _ _ _ _ _ _ _ _ _ _ _ _ _ _ _ _ _ _ _ _ _ _ _ _ _ _ _ _ _ _ _ _ _ _ _ _ _ _
      assumption
    · skip
      go_simp
      obtain ⟨V5, hU⟩ : ∃ x, x = (V1).alloc (.cells #[.int .i64 r.a, .int .i64 r.b, .int .i64 r.m, .int .i64 r.lo, .int .i64 r.hi] 48) := ⟨_, rfl⟩
      obtain ⟨gR, hgi⟩ : ∃ k, k = (V1).heap.size := ⟨_, rfl⟩
      have hbU : Below (V1).heap.size V1 V5 := by rw [hU]; exact (Below.refl _ _).alloc (Nat.le_refl _) _
      have HNR : Hid (World.ownsRow V5 (w2.heap.size + 1) 48 5 (.slice (some ⟨gR, 0, none⟩) 1 1) 1 (rdC r)) := Lib.hid (by rw [hU, hgi]; exact own_one (heap_alloc_at _ _ _ rfl) rfl rfl (by have := HBW.out.size; omega))
      replace HI := Lib.hid (own_below HI.out hbU)
      replace HR := Lib.hid (own_below HR.out hbU)
      first | (replace HNI := Lib.hid (own_below HNI.out hbU)) | skip
      replace HBW := Lib.hid (HBW.out.trans (hbU.mono (by have := HBW.out.size; omega)))
      rw [← hgi, ← hU]
      clear hU hgi hbU
      refine hK.out _ _ (HS8.out _ HBW.out) (fun hS => ?_)
      clear hK K
      try simp only [List.getElem_toArray, List.getElem_cons_succ, List.getElem_cons_zero, Act.put, List.setIfInBounds_toArray, List.set_cons_zero, List.set_cons_succ]
      refine wpAnyH_ready (rs := [3]) (by kernel_rfl) (by simp) ?_
      refine AllReadyH.cons rfl (fun K hK => ?_) AllReadyH.nil
      refine wp_app_nums (.tmp 67) (.tmp 68) rfl (w2.heap.size + 1) vI q.prices [1] rfl HI.out ⟨gI, 0, none⟩ 1 rfl _ (nums_of_own (l := [1]) rfl HNI.out) (by simp; omega) (by have := HBW.out.size; omega) ?_
      intro vI2 V6 howni hgrow
      obtain ⟨aI, cI, hvI, _⟩ := id (nums_of_own (l := q.prices ++ [1]) rfl howni)
      replace hvI : vI2 = .slice aI (q.prices.length + 1) cI := hvI.trans (by rw [List.length_append]; rfl)
      subst hvI
      clear HNI
      replace HR := Lib.hid (HR.out.kept hgrow (own_sepQ HR.out HI.out (by decide)))
      first | (replace HNR := Lib.hid (HNR.out.kept hgrow (own_sepQ HNR.out HI.out (by decide)))) | skip
      replace HBW := Lib.hid (HBW.out.trans ((Below.refl _ _).grown hgrow (by have := HBW.out.size; omega) (own_base HI.out)))
      replace HI := Lib.hid howni
      clear howni hgrow
      refine hK.out _ _ (HS8.out _ HBW.out) (fun hS => ?_)
      clear hK K
      try simp only [List.getElem_toArray, List.getElem_cons_succ, List.getElem_cons_zero, Act.put, List.setIfInBounds_toArray, List.set_cons_zero, List.set_cons_succ]
      refine wpAnyH_take (i := 10) (v := ?_) rfl (by kernel_rfl) (by kernel_rfl) (by kernel_rfl) (fun _ _ _ h => h) (Or.inl ⟨by rfl, ?_⟩) hS ?_
      rotate_left
      · (intro W hSw; obtain ⟨hq1, hq2, hq3, hq4, hq5, hq6, hq7⟩ := hSw; go_simp; try with_reducible rfl)
      try simp only [List.getElem_toArray, List.getElem_cons_succ, List.getElem_cons_zero, Act.put, List.setIfInBounds_toArray, List.set_cons_zero, List.set_cons_succ]
      refine wpAnyH_ready (rs := [9]) (by kernel_rfl) (by simp) ?_
      refine AllReadyH.cons rfl (fun K hK => ?_) AllReadyH.nil
      refine wp_app_reads (.tmp 72) (.tmp 74) rfl (w2.heap.size + 1) vR q.pr.rs [r] rfl HR.out ⟨gR, 0, none⟩ 1 rfl _ (readsAt_of_owns (l := [r]) HNR.out) (by simp; omega) (by have := HBW.out.size; omega) ?_
      intro vR2 V7 howni hgrow
      obtain ⟨aR, cR, hvR, _⟩ := id (readsAt_of_owns (l := q.pr.rs ++ [r]) howni)
      replace hvR : vR2 = .slice aR (q.pr.rs.length + 1) cR := hvR.trans (by rw [List.length_append]; rfl)
      subst hvR
      clear HNR
      replace HI := Lib.hid (HI.out.kept hgrow (own_sepQ HI.out HR.out (by decide)))
      replace HBW := Lib.hid (HBW.out.trans ((Below.refl _ _).grown hgrow (by have := HBW.out.size; omega) (own_base HR.out)))
      replace HR := Lib.hid howni
      clear howni hgrow
      refine hK.out _ _ (HS8.out _ HBW.out) (fun hS => ?_)
      clear hK K
      try simp only [List.getElem_toArray, List.getElem_cons_succ, List.getElem_cons_zero, Act.put, List.setIfInBounds_toArray, List.set_cons_zero, List.set_cons_succ]
      refine wpAnyH_done (by kernel_rfl) ?_ _
      unfold TailQ
      simp only [List.drop_succ_cons, List.drop_zero]
      clear hS
      have f5 := HF5.out _ HBW.out
      have f7 := HF7.out _ HBW.out
      obtain ⟨c7, c5, _⟩ := HS8.out _ HBW.out
      have HGO := Lib.hid (HEND.out V7 _ _ HBW.out HI.out HR.out)
      clear HI HR HBW
      go_wp2_with fail
      go_upto_region 12 with fail
      refine HGO.out _ ?_ _ _ _ _ _ _ _ _ _ _ _ _ _ _ _ _ _ _ _ _ _ _ _ _ _ _ _ _ _ _ _ _ _ _ _ _ _ _ _ _ _ _ _ _ _ _ _ _ _ _ _ _ _ _ _ _ _ _ _ _ _ _ _ _ _ _ _ _ _ _ _ _ _ _ _ _ _ _ _ _ _ _
      assumption
  · skip
    go_simp
    obtain ⟨V8, hU⟩ : ∃ x, x = (V0).alloc (.cells #[.int .i64 r.a, .int .i64 r.b, .int .i64 r.m, .int .i64 r.lo, .int .i64 r.hi] 48) := ⟨_, rfl⟩
    obtain ⟨gR, hgi⟩ : ∃ k, k = (V0).heap.size := ⟨_, rfl⟩
    have hbU : Below (V0).heap.size V0 V8 := by rw [hU]; exact (Below.refl _ _).alloc (Nat.le_refl _) _
    have HNR : Hid (World.ownsRow V8 (w2.heap.size + 1) 48 5 (.slice (some ⟨gR, 0, none⟩) 1 1) 1 (rdC r)) := Lib.hid (by rw [hU, hgi]; exact own_one (heap_alloc_at _ _ _ rfl) rfl rfl (by have := HBW.out.size; omega))
    replace HI := Lib.hid (own_below HI.out hbU)
    replace HR := Lib.hid (own_below HR.out hbU)
    first | (replace HNI := Lib.hid (own_below HNI.out hbU)) | skip
    replace HBW := Lib.hid (HBW.out.trans (hbU.mono (by have := HBW.out.size; omega)))
    rw [← hgi, ← hU]
    clear hU hgi hbU
    refine hK.out _ _ (HS8.out _ HBW.out) (fun hS => ?_)
    clear hK K
    try simp only [List.getElem_toArray, List.getElem_cons_succ, List.getElem_cons_zero, Act.put, List.setIfInBounds_toArray, List.set_cons_zero, List.set_cons_succ]
    refine wpAnyH_ready (rs := [2]) (by kernel_rfl) (by simp) ?_
    refine AllReadyH.cons rfl (fun K hK => ?_) AllReadyH.nil
    go_simp
    obtain ⟨V9, hU⟩ : ∃ x, x = (V8).alloc (.cells #[.int .i64 1] 3) := ⟨_, rfl⟩
    obtain ⟨gI, hgi⟩ : ∃ k, k = (V8).heap.size := ⟨_, rfl⟩
    have hbU : Below (V8).heap.size V8 V9 := by rw [hU]; exact (Below.refl _ _).alloc (Nat.le_refl _) _
    have HNI : Hid (World.ownsRow V9 (w2.heap.size + 1) 3 1 (.slice (some ⟨gI, 0, none⟩) 1 1) 1 [.int .i64 1]) := Lib.hid (by rw [hU, hgi]; exact own_one (heap_alloc_at _ _ _ rfl) rfl rfl (by have := HBW.out.size; omega))
    replace HI := Lib.hid (own_below HI.out hbU)
    replace HR := Lib.hid (own_below HR.out hbU)
    first | (replace HNR := Lib.hid (own_below HNR.out hbU)) | skip
    replace HBW := Lib.hid (HBW.out.trans (hbU.mono (by have := HBW.out.size; omega)))
    rw [← hgi, ← hU]
    clear hU hgi hbU
    refine hK.out _ _ (HS8.out _ HBW.out) (fun hS => ?_)
    clear hK K
    try simp only [List.getElem_toArray, List.getElem_cons_succ, List.getElem_cons_zero, Act.put, List.setIfInBounds_toArray, List.set_cons_zero, List.set_cons_succ]
    refine wpAnyH_ready (rs := [3]) (by kernel_rfl) (by simp) ?_
    refine AllReadyH.cons rfl (fun K hK => ?_) AllReadyH.nil
    refine wp_app_nums (.tmp 67) (.tmp 68) rfl (w2.heap.size + 1) vI q.prices [1] rfl HI.out ⟨gI, 0, none⟩ 1 rfl _ (nums_of_own (l := [1]) rfl HNI.out) (by simp; omega) (by have := HBW.out.size; omega) ?_
    intro vI2 V10 howni hgrow
    obtain ⟨aI, cI, hvI, _⟩ := id (nums_of_own (l := q.prices ++ [1]) rfl howni)
    replace hvI : vI2 = .slice aI (q.prices.length + 1) cI := hvI.trans (by rw [List.length_append]; rfl)
    subst hvI
    clear HNI
    replace HR := Lib.hid (HR.out.kept hgrow (own_sepQ HR.out HI.out (by decide)))
    first | (replace HNR := Lib.hid (HNR.out.kept hgrow (own_sepQ HNR.out HI.out (by decide)))) | skip
    replace HBW := Lib.hid (HBW.out.trans ((Below.refl _ _).grown hgrow (by have := HBW.out.size; omega) (own_base HI.out)))
    replace HI := Lib.hid howni
    clear howni hgrow
    refine hK.out _ _ (HS8.out _ HBW.out) (fun hS => ?_)
    clear hK K
    try simp only [List.getElem_toArray, List.getElem_cons_succ, List.getElem_cons_zero, Act.put, List.setIfInBounds_toArray, List.set_cons_zero, List.set_cons_succ]
    refine wpAnyH_take (i := 10) (v := ?_) rfl (by kernel_rfl) (by kernel_rfl) (by kernel_rfl) (fun _ _ _ h => h) (Or.inl ⟨by rfl, ?_⟩) hS ?_
    rotate_left
    · (intro W hSw; obtain ⟨hq1, hq2, hq3, hq4, hq5, hq6, hq7⟩ := hSw; go_simp; try with_reducible rfl)
    try simp only [List.getElem_toArray, List.getElem_cons_succ, List.getElem_cons_zero, Act.put, List.setIfInBounds_toArray, List.set_cons_zero, List.set_cons_succ]
    refine wpAnyH_ready (rs := [9]) (by kernel_rfl) (by simp) ?_
    refine AllReadyH.cons rfl (fun K hK => ?_) AllReadyH.nil
    refine wp_app_reads (.tmp 72) (.tmp 74) rfl (w2.heap.size + 1) vR q.pr.rs [r] rfl HR.out ⟨gR, 0, none⟩ 1 rfl _ (readsAt_of_owns (l := [r]) HNR.out) (by simp; omega) (by have := HBW.out.size; omega) ?_
    intro vR2 V11 howni hgrow
    obtain ⟨aR, cR, hvR, _⟩ := id (readsAt_of_owns (l := q.pr.rs ++ [r]) howni)
    replace hvR : vR2 = .slice aR (q.pr.rs.length + 1) cR := hvR.trans (by rw [List.length_append]; rfl)
    subst hvR
    clear HNR
    replace HI := Lib.hid (HI.out.kept hgrow (own_sepQ HI.out HR.out (by decide)))
    replace HBW := Lib.hid (HBW.out.trans ((Below.refl _ _).grown hgrow (by have := HBW.out.size; omega) (own_base HR.out)))
    replace HR := Lib.hid howni
    clear howni hgrow
    refine hK.out _ _ (HS8.out _ HBW.out) (fun hS => ?_)
    clear hK K
    try simp only [List.getElem_toArray, List.getElem_cons_succ, List.getElem_cons_zero, Act.put, List.setIfInBounds_toArray, List.set_cons_zero, List.set_cons_succ]
    refine wpAnyH_done (by kernel_rfl) ?_ _
    unfold TailQ
    simp only [List.drop_succ_cons, List.drop_zero]
    clear hS
    have f5 := HF5.out _ HBW.out
    have f7 := HF7.out _ HBW.out
    obtain ⟨c7, c5, _⟩ := HS8.out _ HBW.out
    have HGO := Lib.hid (HEND.out V11 _ _ HBW.out HI.out HR.out)
    clear HI HR HBW
    go_wp2_with fail
    go_upto_region 12 with fail
    refine HGO.out _ ?_ _ _ _ _ _ _ _ _ _ _ _ _ _ _ _ _ _ _ _ _ _ _ _ _ _ _ _ _ _ _ _ _ _ _ _ _ _ _ _ _ _ _ _ _ _ _ _ _ _ _ _ _ _ _ _ _ _ _ _ _ _ _ _ _ _ _ _ _ _ _ _ _ _ _ _ _ _ _ _ _ _ _
    assumption
end Go.Proofs.Ytabbmihakoeegaa

/- PlanMore: the walk, the copies of the plan's lists in the other plan. -/
namespace Go.Proofs.Ytabbmihakoeegaa
set_option linter.unusedVariables false
set_option linter.unusedSimpArgs false
open Go.RowKit Go.Shelf
attribute [local go_sem] Oper.semAt_some

set_option maxRecDepth 100000 in
set_option maxHeartbeats 16000000 in
theorem pm_5 (q : PlanD) (r : RdD) (bs rs ps : Value) (x y z : Int) (hx : 0 ≤ x ∧ x < 256) (hy : 0 ≤ y ∧ y < 256) (hz : 0 ≤ z ∧ z < 256) (B B1 : Nat) (w2 w : World) (hv : validP q = true) (hw : Below w2.heap.size w2 w)
    (hpb : w2.heap[B]? = some (.cells (planRow q bs rs ps) 30 (0, 0))) (hpa : PlanAt w2 q bs rs ps) (hxb : w.heap[w2.heap.size]? = some (.cells (planRow q bs rs ps) 30 (0, 0)))
    (hrb : w2.heap[B1]? = some (.cells #[.int .i64 r.a, .int .i64 r.b, .int .i64 r.m, .int .i64 r.lo, .int .i64 r.hi] 48 (0, 0)))
    (R : Ending → World → Prop) (hRR : ∀ w', Below w2.heap.size w2 w' → R (.returned (.bool true)) w') (K0 : Act → World → Prop) (hK0 : ∀ a w, Code.wp Try.prog (moreQ 5) (bodyPost Try.prog Try.f7 R) a w → K0 a w) (u0 u1 u33 u34 u35 u36 u37 u38 u39 u40 : Value) :
    Code.wp Try.prog (headQ 4) (Exit.then K0 (bodyPost Try.prog Try.f7 R)) ⟨#[u0, u1, .int .u8 x, .int .u8 y, .int .u8 z, .pointer (some ⟨B, 0, none⟩), .pointer (some ⟨B1, 0, none⟩), undef, undef, undef, .bool false, .int .i64 q.prices.length, .pointer (some ⟨w2.heap.size, 0, none⟩), undef, undef, undef, undef, undef, undef, undef, undef, undef, undef, undef, undef, undef, undef, undef, undef, undef, undef, undef, undef, u33, u34, u35, u36, u37, u38, u39, u40, undef, undef, undef, undef, undef, undef, undef, undef, undef, undef, undef, undef, undef, undef, undef, undef, undef, undef, undef, undef, undef, undef, undef, undef, undef, undef, undef, undef, undef, undef, undef, undef, undef, undef, undef, undef, undef, undef, undef, undef, undef, undef, undef, undef, undef, undef, undef, undef, undef, undef, undef, undef, undef, undef, undef, undef, undef, undef, undef, undef, undef, undef, undef, undef, undef, undef, undef, undef, undef, undef, undef, undef, undef, undef, undef, undef, undef, undef, undef, undef, undef, undef, undef, undef, undef, undef, undef, undef, undef, undef, undef, undef, undef, undef, undef, undef, undef, undef, undef, undef, undef, undef, undef, undef, undef, undef, undef, undef, undef, undef, undef, undef, undef, undef, undef, undef, undef, undef, undef, undef, undef, undef, undef, undef, undef, undef, undef, undef, undef, undef, undef, undef, undef, undef, undef, undef, undef, undef, undef, undef, undef, undef, undef, undef, undef, undef, undef, undef, undef, undef, undef, undef, undef, undef, undef, undef, undef, undef, undef, undef, undef, undef, undef, undef, undef, undef, undef, undef, undef, undef, undef, undef, undef, undef, undef, undef, undef, undef, undef, undef, undef, undef, undef, undef, undef, undef, undef, undef, undef, undef, undef, undef, undef, undef, undef, undef, undef, undef, undef, undef, undef, undef, undef, undef, undef, undef, undef, undef, undef, undef, undef, undef, undef, undef, undef, undef, undef, undef, undef, undef, undef, undef, undef, undef, undef, undef, undef, undef, undef, undef, undef, undef, undef, undef, undef, undef], []⟩ w := by
  conv => arg 2; whnf
  have hq := OkQ.of hv
  have hlen := hq.len
  have hm8 := hq.m8
  have hpl := lt_of_block hpb
  have hxl := lt_of_block hxb
  have hsz := hw.size
  obtain ⟨aob, capb, hbv, _⟩ := id hpa.p.b
  obtain ⟨aor, capr, hrv, _⟩ := id hpa.p.r
  obtain ⟨aop, capp, hpv, _⟩ := id hpa.n
  subst hbv hrv hpv
  have HEND : Hid (∀ (V : World) (vI vR : Value), Below (w2.heap.size + 1) w V → World.ownsRow V (w2.heap.size + 1) 3 1 vI q.prices.length (q.prices.map (Value.int .i64)) → World.ownsRow V (w2.heap.size + 1) 48 5 vR q.pr.rs.length (q.pr.rs.flatMap rdC) →
      ∀ (u0 u1 u33 u34 u35 u36 u37 u38 u39 u40 u41 u42 u43 u44 u45 u46 u47 u48 u49 u50 u51 u52 : Value), Code.wp Try.prog (moreQ 5) (bodyPost Try.prog Try.f7 R) ⟨#[u0, u1, .int .u8 x, .int .u8 y, .int .u8 z, .pointer (some ⟨B, 0, none⟩), .pointer (some ⟨B1, 0, none⟩), undef, undef, undef, .bool false, .int .i64 q.prices.length, .pointer (some ⟨w2.heap.size, 0, none⟩), undef, undef, undef, undef, undef, undef, undef, undef, undef, undef, undef, undef, undef, undef, undef, undef, undef, undef, undef, undef, u33, u34, u35, u36, u37, u38, u39, u40, u41, u42, u43, u44, u45, u46, u47, u48, u49, u50, u51, u52, undef, undef, undef, undef, undef, undef, undef, undef, undef, undef, undef, undef, undef, undef, undef, undef, undef, undef, undef, undef, undef, undef, undef, undef, undef, undef, undef, undef, undef, undef, undef, undef, undef, undef, undef, undef, undef, undef, undef, undef, undef, undef, undef, undef, undef, undef, undef, undef, undef, undef, undef, undef, undef, undef, undef, undef, undef, undef, undef, undef, undef, undef, undef, undef, undef, undef, undef, undef, undef, undef, undef, undef, undef, undef, undef, undef, undef, undef, undef, undef, undef, undef, undef, undef, undef, undef, undef, undef, undef, undef, undef, undef, undef, undef, undef, undef, undef, undef, undef, undef, undef, undef, undef, undef, undef, undef, undef, undef, undef, undef, undef, undef, undef, undef, undef, undef, undef, undef, undef, undef, undef, undef, undef, undef, undef, undef, undef, undef, undef, undef, undef, undef, undef, undef, undef, undef, undef, undef, undef, undef, undef, undef, undef, undef, undef, undef, undef, undef, undef, undef, undef, undef, undef, undef, undef, undef, undef, undef, undef, undef, undef, undef, undef, undef, undef, undef, undef, undef, undef, undef, undef, undef, undef, undef, undef, undef, undef, undef, undef, undef, undef, undef, undef, undef, undef, undef, undef, undef, undef, undef, undef, undef, undef, undef, undef, undef, undef, undef, undef, undef, undef, undef, undef, undef, undef, undef, undef, undef, undef, undef, undef, undef, undef, undef, undef, undef, undef, undef, undef, undef, undef, undef, undef, undef], []⟩ ((V.setCell ⟨w2.heap.size, 7, none⟩ vI).setCell ⟨w2.heap.size, 5, none⟩ vR)) := Lib.hid (by
    intro V vI vR hb hI2 hR2 u0 u1 u33 u34 u35 u36 u37 u38 u39 u40 u41 u42 u43 u44 u45 u46 u47 u48 u49 u50 u51 u52
    obtain ⟨W, hW⟩ : ∃ x, x = (V.setCell ⟨w2.heap.size, 7, none⟩ vI).setCell ⟨w2.heap.size, 5, none⟩ vR := ⟨_, rfl⟩
    have hbw0 : Below w2.heap.size w2 V := hw.trans (hb.mono (by omega))
    have hbw : Below w2.heap.size w2 W := by rw [hW]; exact (hbw0.setCell (Nat.le_refl _) _).setCell (Nat.le_refl _) _
    have hszs : W.heap.size = V.heap.size := by rw [hW]; simp [World.setCell]
    have hkeep : ∀ k, k ≠ w2.heap.size → W.heap[k]? = V.heap[k]? := fun k hk => by rw [hW]; exact (Below.heap_setCell _ _ _ _ (by dsimp only; omega)).trans (Below.heap_setCell _ _ _ _ (by dsimp only; omega))
    have hg : V.grownBy W (some w2.heap.size) := by
      refine ⟨by rw [hW]; rfl, by rw [hW]; rfl, by rw [hW]; rfl, by omega, fun k h1 h2 => hkeep k (fun e => h2 (by rw [e]))⟩
    have hI3 := hI2.kept hg (Or.inr (fun e => by have := own_base hI2 _ e; omega))
    have hR3 := hR2.kept hg (Or.inr (fun e => by have := own_base hR2 _ e; omega))
    have hrow : W.heap[w2.heap.size]? = some (.cells (planRow q (.slice aob q.pr.bs.length capb) vR vI) 30 (0, 0)) := by
      have h1 : V.heap[w2.heap.size]? = _ := (hb.block w2.heap.size (by omega)).trans hxb
      rw [hW]
      exact (cells_setQ (cells_setQ h1)).trans rfl
    rw [← hW]
    by_cases h0 : x % 3 = 0
    · exact pm_with q r _ _ _ vI vR x y z hx hy hz B B1 w2 W hv hbw hpb hpa hrow hI3 hR3 h0 hrb R hRR _ _ _ _ _ _ _ _ _ _ _ _ _ _ _ _ _ _ _ _ _ _
    by_cases h1 : x % 3 = 1 ∧ 0 < q.prices.length
    · exact pm_narr q r _ _ _ vI vR x y z hx hy hz B B1 w2 W hv hbw hpb hpa hrow hI3 hR3 h1 R hRR _ _ _ _ _ _ _ _ _ _ _ _ _ _ _ _ _ _ _ _ _ _
    · exact pm_wide q r _ _ _ vI vR x y z hx hy hz B B1 w2 W hv hbw hpb hpa hrow hI3 hR3 ⟨h0, by omega⟩ R hRR _ _ _ _ _ _ _ _ _ _ _ _ _ _ _ _ _ _ _ _ _ _)
  have HPA := Lib.hid hpa
  have HWW := Lib.hid hw
  have HS12 : Hid (∀ W, Below (w2.heap.size + 1) w W → S12 B (.slice aob q.pr.bs.length capb) (.slice aor q.pr.rs.length capr) (.slice aop q.prices.length capp) W) := Lib.hid fun W h => by
    have h1 := (h.block B (by omega)).trans ((hw.block B hpl).trans hpb)
    exact ⟨cell_of_row _ _ 0 _ _ _ h1, cell_of_row _ _ 5 _ _ _ h1, cell_of_row _ _ 7 _ _ _ h1⟩
  have HC57 : Hid (∀ W, Below (w2.heap.size + 1) w W → W.cell? ⟨w2.heap.size, 7, none⟩ = some (.slice aop q.prices.length capp) ∧ W.cell? ⟨w2.heap.size, 5, none⟩ = some (.slice aor q.pr.rs.length capr)) := Lib.hid fun W h => by
    have h1 := (h.block w2.heap.size (by omega)).trans hxb
    exact ⟨cell_of_row _ _ 7 _ _ _ h1, cell_of_row _ _ 5 _ _ _ h1⟩
  have HF5 : Hid (∀ W, Below (w2.heap.size + 1) w W → W.frozen? ⟨w2.heap.size, 5, none⟩ = false) := Lib.hid fun W h => frozen_of_row _ _ _ _ _ ((h.block w2.heap.size (by omega)).trans hxb)
  have HF7 : Hid (∀ W, Below (w2.heap.size + 1) w W → W.frozen? ⟨w2.heap.size, 7, none⟩ = false) := Lib.hid fun W h => frozen_of_row _ _ _ _ _ ((h.block w2.heap.size (by omega)).trans hxb)
  have HBW : Hid (Below (w2.heap.size + 1) w w.drew) := Lib.hid (Below.refl _ _).drew
  have hlr : q.pr.rs.length ≤ 8 := by omega
  have hlp : q.prices.length ≤ 8 := by omega
  clear hpb hpa hxb hv hq hrb hlen hm8 hRR hw hx hy hz
  go_wp2_with fail
  refine wp_region_tail 10 #[false, false, false, false, false, false, false, false, false, false, true, true, true, true] (S12 B (.slice aob q.pr.bs.length capb) (.slice aor q.pr.rs.length capr) (.slice aop q.prices.length capp)) (by kernel_rfl) (by kernel_rfl) (by rfl) (HS12.out _ HBW.out) fun hS => ?_
  obtain ⟨V0, hV0⟩ : ∃ x, x = w.drew := ⟨_, rfl⟩
  rw [← hV0] at HBW hS
  rw [← hV0]
  clear hV0
  refine wpAnyH_take (i := 1) (v := ?_) rfl (by kernel_rfl) (by kernel_rfl) (by kernel_rfl) (fun _ _ _ h => h) (Or.inl ⟨by rfl, ?_⟩) hS ?_
  rotate_left
  · (intro W hSw; obtain ⟨hq1, hq2, hq3⟩ := hSw; go_simp; try with_reducible rfl)
  try simp only [List.getElem_toArray, List.getElem_cons_succ, List.getElem_cons_zero, Act.put, List.setIfInBounds_toArray, List.set_cons_zero, List.set_cons_succ]
  refine wpAnyH_take (i := 2) (v := ?_) rfl (by kernel_rfl) (by kernel_rfl) (by kernel_rfl) (fun _ _ _ h => h) (Or.inl ⟨by rfl, ?_⟩) hS ?_
  rotate_left
  · (intro W hSw; obtain ⟨hq1, hq2, hq3⟩ := hSw; go_simp; try with_reducible rfl)
  try simp only [List.getElem_toArray, List.getElem_cons_succ, List.getElem_cons_zero, Act.put, List.setIfInBounds_toArray, List.set_cons_zero, List.set_cons_succ]
  refine wpAnyH_take (i := 5) (v := ?_) rfl (by kernel_rfl) (by kernel_rfl) (by kernel_rfl) (fun _ _ _ h => h) (Or.inl ⟨by rfl, ?_⟩) hS ?_
  rotate_left
  · (intro W hSw; obtain ⟨hq1, hq2, hq3⟩ := hSw; go_simp; try with_reducible rfl)
  try simp only [List.getElem_toArray, List.getElem_cons_succ, List.getElem_cons_zero, Act.put, List.setIfInBounds_toArray, List.set_cons_zero, List.set_cons_succ]
  refine wpAnyH_take (i := 6) (v := ?_) rfl (by kernel_rfl) (by kernel_rfl) (by kernel_rfl) (fun _ _ _ h => h) (Or.inl ⟨by rfl, ?_⟩) hS ?_
  rotate_left
  · (intro W hSw; obtain ⟨hq1, hq2, hq3⟩ := hSw; go_simp; try with_reducible rfl)
  try simp only [List.getElem_toArray, List.getElem_cons_succ, List.getElem_cons_zero, Act.put, List.setIfInBounds_toArray, List.set_cons_zero, List.set_cons_succ]
  refine wpAnyH_take (i := 7) (v := ?_) rfl (by kernel_rfl) (by kernel_rfl) (by kernel_rfl) (fun _ _ _ h => h) (Or.inl ⟨by rfl, ?_⟩) hS ?_
  rotate_left
  · (intro W hSw; obtain ⟨hq1, hq2, hq3⟩ := hSw; go_simp; try with_reducible rfl)
  try simp only [List.getElem_toArray, List.getElem_cons_succ, List.getElem_cons_zero, Act.put, List.setIfInBounds_toArray, List.set_cons_zero, List.set_cons_succ]
  refine wpAnyH_ready (rs := [0, 4]) (by kernel_rfl) (by simp) ?_
  refine (AllReadyH.cons rfl (fun K hK => ?_) (AllReadyH.cons rfl (fun K hK => ?_) AllReadyH.nil))
  · skip
    go_simp
    obtain ⟨V1, hU⟩ : ∃ x, x = (V0).alloc (.cells #[] 3) := ⟨_, rfl⟩
    obtain ⟨gI, hgi⟩ : ∃ k, k = (V0).heap.size := ⟨_, rfl⟩
    have hbU : Below (V0).heap.size V0 V1 := by rw [hU]; exact (Below.refl _ _).alloc (Nat.le_refl _) _
    have HI : Hid (World.ownsRow V1 (w2.heap.size + 1) 3 1 (.slice (some ⟨gI, 0, none⟩) 0 0) 0 []) := Lib.hid (by rw [hU, hgi]; exact own_noneQ (heap_alloc_at _ _ _ rfl) (by have := HBW.out.size; omega))
    first | (replace HR := Lib.hid (own_below HR.out hbU)) | skip
    replace HBW := Lib.hid (HBW.out.trans (hbU.mono (by have := HBW.out.size; omega)))
    rw [← hgi, ← hU]
    clear hU hgi hbU
    refine hK.out _ _ (HS12.out _ HBW.out) (fun hS => ?_)
    clear hK K
    try simp only [List.getElem_toArray, List.getElem_cons_succ, List.getElem_cons_zero, Act.put, List.setIfInBounds_toArray, List.set_cons_zero, List.set_cons_succ]
    refine wpAnyH_ready (rs := [3, 4]) (by kernel_rfl) (by simp) ?_
    refine (AllReadyH.cons rfl (fun K hK => ?_) (AllReadyH.cons rfl (fun K hK => ?_) AllReadyH.nil))
    · skip
      rw [if_pos (by rfl)]
      refine wp_copy_nums (.tmp 41) (.tmp 43) rfl (w2.heap.size + 1) gI rfl HI.out aop capp q.prices rfl _ (HPA.out.later (HWW.out.trans (HBW.out.mono (by omega)))).n (by omega) (by have := HBW.out.size; omega) ?_
      intro vI V2 howni hgrow
      obtain ⟨aI, cI, hvI, _⟩ := id (nums_of_own (l := q.prices) rfl howni)
      subst hvI
      first | (replace HR := Lib.hid (HR.out.kept hgrow (own_sepQ HR.out HI.out (by decide)))) | skip
      replace HBW := Lib.hid (HBW.out.trans ((Below.refl _ _).grown hgrow (by have := HBW.out.size; omega) (own_base HI.out)))
      replace HI := Lib.hid howni
      clear howni hgrow
      refine hK.out _ _ (HS12.out _ HBW.out) (fun hS => ?_)
      clear hK K
      try simp only [List.getElem_toArray, List.getElem_cons_succ, List.getElem_cons_zero, Act.put, List.setIfInBounds_toArray, List.set_cons_zero, List.set_cons_succ]
      refine wpAnyH_take (i := 9) (v := ?_) rfl (by kernel_rfl) (by kernel_rfl) (by kernel_rfl) (fun _ _ _ h => h) (Or.inl ⟨by rfl, ?_⟩) hS ?_
      rotate_left
      · (intro W hSw; obtain ⟨hq1, hq2, hq3⟩ := hSw; go_simp; try with_reducible rfl)
      try simp only [List.getElem_toArray, List.getElem_cons_succ, List.getElem_cons_zero, Act.put, List.setIfInBounds_toArray, List.set_cons_zero, List.set_cons_succ]
      refine wpAnyH_ready (rs := [4]) (by kernel_rfl) (by simp) ?_
      refine AllReadyH.cons rfl (fun K hK => ?_) AllReadyH.nil
      go_simp
      obtain ⟨V3, hU⟩ : ∃ x, x = (V2).alloc (.cells #[] 48) := ⟨_, rfl⟩
      obtain ⟨gR, hgi⟩ : ∃ k, k = (V2).heap.size := ⟨_, rfl⟩
      have hbU : Below (V2).heap.size V2 V3 := by rw [hU]; exact (Below.refl _ _).alloc (Nat.le_refl _) _
      have HR : Hid (World.ownsRow V3 (w2.heap.size + 1) 48 5 (.slice (some ⟨gR, 0, none⟩) 0 0) 0 []) := Lib.hid (by rw [hU, hgi]; exact own_noneQ (heap_alloc_at _ _ _ rfl) (by have := HBW.out.size; omega))
      first | (replace HI := Lib.hid (own_below HI.out hbU)) | skip
      replace HBW := Lib.hid (HBW.out.trans (hbU.mono (by have := HBW.out.size; omega)))
      rw [← hgi, ← hU]
      clear hU hgi hbU
      refine hK.out _ _ (HS12.out _ HBW.out) (fun hS => ?_)
      clear hK K
      try simp only [List.getElem_toArray, List.getElem_cons_succ, List.getElem_cons_zero, Act.put, List.setIfInBounds_toArray, List.set_cons_zero, List.set_cons_succ]
      refine wpAnyH_ready (rs := [8]) (by kernel_rfl) (by simp) ?_
      refine AllReadyH.cons rfl (fun K hK => ?_) AllReadyH.nil
      rw [if_pos (by rfl)]
      refine wp_copy_readsQ (.tmp 45) (.tmp 48) rfl (w2.heap.size + 1) gR rfl HR.out aor capr q.pr.rs rfl _ (HPA.out.later (HWW.out.trans (HBW.out.mono (by omega)))).p.r (by omega) (by have := HBW.out.size; omega) ?_
      intro vR V4 howni hgrow
      obtain ⟨aR, cR, hvR, _⟩ := id (readsAt_of_owns (l := q.pr.rs) howni)
      subst hvR
      first | (replace HI := Lib.hid (HI.out.kept hgrow (own_sepQ HI.out HR.out (by decide)))) | skip
      replace HBW := Lib.hid (HBW.out.trans ((Below.refl _ _).grown hgrow (by have := HBW.out.size; omega) (own_base HR.out)))
      replace HR := Lib.hid howni
      clear howni hgrow
      refine hK.out _ _ (HS12.out _ HBW.out) (fun hS => ?_)
      clear hK K
      try simp only [List.getElem_toArray, List.getElem_cons_succ, List.getElem_cons_zero, Act.put, List.setIfInBounds_toArray, List.set_cons_zero, List.set_cons_succ]
      refine wpAnyH_done (by kernel_rfl) ?_ _
      unfold TailQ
      simp only [List.drop_succ_cons, List.drop_zero]
      clear hS
      have f5 := HF5.out _ HBW.out
      have f7 := HF7.out _ HBW.out
      obtain ⟨c7, c5⟩ := HC57.out _ HBW.out
      have HGO := Lib.hid (HEND.out V4 _ _ HBW.out HI.out HR.out)
      clear HI HR HBW
      go_wp2_with fail
      refine HGO.out _ _ _ _ _ _ _ _ _ _ _ _ _ _ _ _ _ _ _ _ _ _
    · skip
      go_simp
      obtain ⟨V5, hU⟩ : ∃ x, x = (V1).alloc (.cells #[] 48) := ⟨_, rfl⟩
      obtain ⟨gR, hgi⟩ : ∃ k, k = (V1).heap.size := ⟨_, rfl⟩
      have hbU : Below (V1).heap.size V1 V5 := by rw [hU]; exact (Below.refl _ _).alloc (Nat.le_refl _) _
      have HR : Hid (World.ownsRow V5 (w2.heap.size + 1) 48 5 (.slice (some ⟨gR, 0, none⟩) 0 0) 0 []) := Lib.hid (by rw [hU, hgi]; exact own_noneQ (heap_alloc_at _ _ _ rfl) (by have := HBW.out.size; omega))
      first | (replace HI := Lib.hid (own_below HI.out hbU)) | skip
      replace HBW := Lib.hid (HBW.out.trans (hbU.mono (by have := HBW.out.size; omega)))
      rw [← hgi, ← hU]
      clear hU hgi hbU
      refine hK.out _ _ (HS12.out _ HBW.out) (fun hS => ?_)
      clear hK K
      try simp only [List.getElem_toArray, List.getElem_cons_succ, List.getElem_cons_zero, Act.put, List.setIfInBounds_toArray, List.set_cons_zero, List.set_cons_succ]
      refine wpAnyH_ready (rs := [3]) (by kernel_rfl) (by simp) ?_
      refine AllReadyH.cons rfl (fun K hK => ?_) AllReadyH.nil
      rw [if_pos (by rfl)]
      refine wp_copy_nums (.tmp 41) (.tmp 43) rfl (w2.heap.size + 1) gI rfl HI.out aop capp q.prices rfl _ (HPA.out.later (HWW.out.trans (HBW.out.mono (by omega)))).n (by omega) (by have := HBW.out.size; omega) ?_
      intro vI V6 howni hgrow
      obtain ⟨aI, cI, hvI, _⟩ := id (nums_of_own (l := q.prices) rfl howni)
      subst hvI
      first | (replace HR := Lib.hid (HR.out.kept hgrow (own_sepQ HR.out HI.out (by decide)))) | skip
      replace HBW := Lib.hid (HBW.out.trans ((Below.refl _ _).grown hgrow (by have := HBW.out.size; omega) (own_base HI.out)))
      replace HI := Lib.hid howni
      clear howni hgrow
      refine hK.out _ _ (HS12.out _ HBW.out) (fun hS => ?_)
      clear hK K
      try simp only [List.getElem_toArray, List.getElem_cons_succ, List.getElem_cons_zero, Act.put, List.setIfInBounds_toArray, List.set_cons_zero, List.set_cons_succ]
      refine wpAnyH_take (i := 9) (v := ?_) rfl (by kernel_rfl) (by kernel_rfl) (by kernel_rfl) (fun _ _ _ h => h) (Or.inl ⟨by rfl, ?_⟩) hS ?_
      rotate_left
      · (intro W hSw; obtain ⟨hq1, hq2, hq3⟩ := hSw; go_simp; try with_reducible rfl)
      try simp only [List.getElem_toArray, List.getElem_cons_succ, List.getElem_cons_zero, Act.put, List.setIfInBounds_toArray, List.set_cons_zero, List.set_cons_succ]
      refine wpAnyH_ready (rs := [8]) (by kernel_rfl) (by simp) ?_
      refine AllReadyH.cons rfl (fun K hK => ?_) AllReadyH.nil
      rw [if_pos (by rfl)]
      refine wp_copy_readsQ (.tmp 45) (.tmp 48) rfl (w2.heap.size + 1) gR rfl HR.out aor capr q.pr.rs rfl _ (HPA.out.later (HWW.out.trans (HBW.out.mono (by omega)))).p.r (by omega) (by have := HBW.out.size; omega) ?_
      intro vR V7 howni hgrow
      obtain ⟨aR, cR, hvR, _⟩ := id (readsAt_of_owns (l := q.pr.rs) howni)
      subst hvR
      first | (replace HI := Lib.hid (HI.out.kept hgrow (own_sepQ HI.out HR.out (by decide)))) | skip
      replace HBW := Lib.hid (HBW.out.trans ((Below.refl _ _).grown hgrow (by have := HBW.out.size; omega) (own_base HR.out)))
      replace HR := Lib.hid howni
      clear howni hgrow
      refine hK.out _ _ (HS12.out _ HBW.out) (fun hS => ?_)
      clear hK K
      try simp only [List.getElem_toArray, List.getElem_cons_succ, List.getElem_cons_zero, Act.put, List.setIfInBounds_toArray, List.set_cons_zero, List.set_cons_succ]
      refine wpAnyH_done (by kernel_rfl) ?_ _
      unfold TailQ
      simp only [List.drop_succ_cons, List.drop_zero]
      clear hS
      have f5 := HF5.out _ HBW.out
      have f7 := HF7.out _ HBW.out
      obtain ⟨c7, c5⟩ := HC57.out _ HBW.out
      have HGO := Lib.hid (HEND.out V7 _ _ HBW.out HI.out HR.out)
      clear HI HR HBW
      go_wp2_with fail
      refine HGO.out _ _ _ _ _ _ _ _ _ _ _ _ _ _ _ _ _ _ _ _ _ _
  · skip
    go_simp
    obtain ⟨V8, hU⟩ : ∃ x, x = (V0).alloc (.cells #[] 48) := ⟨_, rfl⟩
    obtain ⟨gR, hgi⟩ : ∃ k, k = (V0).heap.size := ⟨_, rfl⟩
    have hbU : Below (V0).heap.size V0 V8 := by rw [hU]; exact (Below.refl _ _).alloc (Nat.le_refl _) _
    have HR : Hid (World.ownsRow V8 (w2.heap.size + 1) 48 5 (.slice (some ⟨gR, 0, none⟩) 0 0) 0 []) := Lib.hid (by rw [hU, hgi]; exact own_noneQ (heap_alloc_at _ _ _ rfl) (by have := HBW.out.size; omega))
    first | (replace HI := Lib.hid (own_below HI.out hbU)) | skip
    replace HBW := Lib.hid (HBW.out.trans (hbU.mono (by have := HBW.out.size; omega)))
    rw [← hgi, ← hU]
    clear hU hgi hbU
    refine hK.out _ _ (HS12.out _ HBW.out) (fun hS => ?_)
    clear hK K
    try simp only [List.getElem_toArray, List.getElem_cons_succ, List.getElem_cons_zero, Act.put, List.setIfInBounds_toArray, List.set_cons_zero, List.set_cons_succ]
    refine wpAnyH_ready (rs := [0]) (by kernel_rfl) (by simp) ?_
    refine AllReadyH.cons rfl (fun K hK => ?_) AllReadyH.nil
    go_simp
    obtain ⟨V9, hU⟩ : ∃ x, x = (V8).alloc (.cells #[] 3) := ⟨_, rfl⟩
    obtain ⟨gI, hgi⟩ : ∃ k, k = (V8).heap.size := ⟨_, rfl⟩
    have hbU : Below (V8).heap.size V8 V9 := by rw [hU]; exact (Below.refl _ _).alloc (Nat.le_refl _) _
    have HI : Hid (World.ownsRow V9 (w2.heap.size + 1) 3 1 (.slice (some ⟨gI, 0, none⟩) 0 0) 0 []) := Lib.hid (by rw [hU, hgi]; exact own_noneQ (heap_alloc_at _ _ _ rfl) (by have := HBW.out.size; omega))
    first | (replace HR := Lib.hid (own_below HR.out hbU)) | skip
    replace HBW := Lib.hid (HBW.out.trans (hbU.mono (by have := HBW.out.size; omega)))
    rw [← hgi, ← hU]
    clear hU hgi hbU
    refine hK.out _ _ (HS12.out _ HBW.out) (fun hS => ?_)
    clear hK K
    try simp only [List.getElem_toArray, List.getElem_cons_succ, List.getElem_cons_zero, Act.put, List.setIfInBounds_toArray, List.set_cons_zero, List.set_cons_succ]
    refine wpAnyH_ready (rs := [3]) (by kernel_rfl) (by simp) ?_
    refine AllReadyH.cons rfl (fun K hK => ?_) AllReadyH.nil
    rw [if_pos (by rfl)]
    refine wp_copy_nums (.tmp 41) (.tmp 43) rfl (w2.heap.size + 1) gI rfl HI.out aop capp q.prices rfl _ (HPA.out.later (HWW.out.trans (HBW.out.mono (by omega)))).n (by omega) (by have := HBW.out.size; omega) ?_
    intro vI V10 howni hgrow
    obtain ⟨aI, cI, hvI, _⟩ := id (nums_of_own (l := q.prices) rfl howni)
    subst hvI
    first | (replace HR := Lib.hid (HR.out.kept hgrow (own_sepQ HR.out HI.out (by decide)))) | skip
    replace HBW := Lib.hid (HBW.out.trans ((Below.refl _ _).grown hgrow (by have := HBW.out.size; omega) (own_base HI.out)))
    replace HI := Lib.hid howni
    clear howni hgrow
    refine hK.out _ _ (HS12.out _ HBW.out) (fun hS => ?_)
    clear hK K
    try simp only [List.getElem_toArray, List.getElem_cons_succ, List.getElem_cons_zero, Act.put, List.setIfInBounds_toArray, List.set_cons_zero, List.set_cons_succ]
    refine wpAnyH_take (i := 9) (v := ?_) rfl (by kernel_rfl) (by kernel_rfl) (by kernel_rfl) (fun _ _ _ h => h) (Or.inl ⟨by rfl, ?_⟩) hS ?_
    rotate_left
    · (intro W hSw; obtain ⟨hq1, hq2, hq3⟩ := hSw; go_simp; try with_reducible rfl)
    try simp only [List.getElem_toArray, List.getElem_cons_succ, List.getElem_cons_zero, Act.put, List.setIfInBounds_toArray, List.set_cons_zero, List.set_cons_succ]
    refine wpAnyH_ready (rs := [8]) (by kernel_rfl) (by simp) ?_
    refine AllReadyH.cons rfl (fun K hK => ?_) AllReadyH.nil
    rw [if_pos (by rfl)]
    refine wp_copy_readsQ (.tmp 45) (.tmp 48) rfl (w2.heap.size + 1) gR rfl HR.out aor capr q.pr.rs rfl _ (HPA.out.later (HWW.out.trans (HBW.out.mono (by omega)))).p.r (by omega) (by have := HBW.out.size; omega) ?_
    intro vR V11 howni hgrow
    obtain ⟨aR, cR, hvR, _⟩ := id (readsAt_of_owns (l := q.pr.rs) howni)
    subst hvR
    first | (replace HI := Lib.hid (HI.out.kept hgrow (own_sepQ HI.out HR.out (by decide)))) | skip
    replace HBW := Lib.hid (HBW.out.trans ((Below.refl _ _).grown hgrow (by have := HBW.out.size; omega) (own_base HR.out)))
    replace HR := Lib.hid howni
    clear howni hgrow
    refine hK.out _ _ (HS12.out _ HBW.out) (fun hS => ?_)
    clear hK K
    try simp only [List.getElem_toArray, List.getElem_cons_succ, List.getElem_cons_zero, Act.put, List.setIfInBounds_toArray, List.set_cons_zero, List.set_cons_succ]
    refine wpAnyH_done (by kernel_rfl) ?_ _
    unfold TailQ
    simp only [List.drop_succ_cons, List.drop_zero]
    clear hS
    have f5 := HF5.out _ HBW.out
    have f7 := HF7.out _ HBW.out
    obtain ⟨c7, c5⟩ := HC57.out _ HBW.out
    have HGO := Lib.hid (HEND.out V11 _ _ HBW.out HI.out HR.out)
    clear HI HR HBW
    go_wp2_with fail
    refine HGO.out _ _ _ _ _ _ _ _ _ _ _ _ _ _ _ _ _ _ _ _ _ _
end Go.Proofs.Ytabbmihakoeegaa

/- PlanMore, walked. -/
namespace Go.Proofs.Ytabbmihakoeegaa
set_option linter.unusedVariables false
set_option linter.unusedSimpArgs false
open Go.RowKit Go.Shelf
attribute [local go_sem] Oper.semAt_some

set_option maxRecDepth 100000 in
set_option maxHeartbeats 8000000 in
theorem moreq_any (q : PlanD) (bs rs ps : Value) (r : RdD) (x y z : Int) (hx : 0 ≤ x ∧ x < 256) (hy : 0 ≤ y ∧ y < 256) (hz : 0 ≤ z ∧ z < 256) (w : World) (hpa : PlanAt w q bs rs ps) :
    Calls Try.prog 7 #[.agg (planRow q bs rs ps), .agg #[.int .i64 r.a, .int .i64 r.b, .int .i64 r.m, .int .i64 r.lo, .int .i64 r.hi], .int .u8 x, .int .u8 y, .int .u8 z] w fun e w' => e = .returned (.bool true) ∧ Below w.heap.size w w' := by
  obtain ⟨aob, capb, hbv, _⟩ := id hpa.p.b
  obtain ⟨aor, capr, hrv, _⟩ := id hpa.p.r
  obtain ⟨aop, capp, hpv, _⟩ := id hpa.n
  subst hbv hrv hpv
  obtain ⟨W0, hW0⟩ : ∃ W0, W0 = (w.alloc (.cells (planRow q (.slice aob q.pr.bs.length capb) (.slice aor q.pr.rs.length capr) (.slice aop q.prices.length capp)) 30 (0, 0))).alloc (.cells #[.int .i64 r.a, .int .i64 r.b, .int .i64 r.m, .int .i64 r.lo, .int .i64 r.hi] 48 (0, 0)) := ⟨_, rfl⟩
  have hb0 : Below w.heap.size w W0 := by rw [hW0]; exact ((Below.refl _ _).alloc (Nat.le_refl _) _).alloc (by simp) _
  have hr1 : W0.heap[w.heap.size]? = some (.cells (planRow q (.slice aob q.pr.bs.length capb) (.slice aor q.pr.rs.length capr) (.slice aop q.prices.length capp)) 30 (0, 0)) := by
    rw [hW0, ((Below.refl (w.heap.size + 1) _).alloc (by simp) _).block _ (by omega)]
    exact heap_alloc_at _ _ _ rfl
  have hr2 : W0.heap[w.heap.size + 1]? = some (.cells #[.int .i64 r.a, .int .i64 r.b, .int .i64 r.m, .int .i64 r.lo, .int .i64 r.hi] 48 (0, 0)) := by rw [hW0]; exact heap_alloc_at _ _ _ (by simp)
  have hsw : W0.heap.size = w.heap.size + 2 := by rw [hW0]; simp
  have HB0 := Lib.hid hb0
  have HR1 := Lib.hid hr1
  have HR2 := Lib.hid hr2
  have HPA := Lib.hid (hpa.later hb0)
  have rows : ∀ W', Below W0.heap.size W0 W' → (W'.cell? ⟨w.heap.size, 0, none⟩ = some (.slice aob q.pr.bs.length capb) ∧ W'.cell? ⟨w.heap.size, 1, none⟩ = some (.int .i64 q.pr.zl) ∧ W'.cell? ⟨w.heap.size, 2, none⟩ = some (.int .i64 q.pr.zh) ∧
      W'.cell? ⟨w.heap.size, 3, none⟩ = some (.int .i64 q.pr.rl) ∧ W'.cell? ⟨w.heap.size, 4, none⟩ = some (.int .i64 q.pr.rh) ∧ W'.cell? ⟨w.heap.size, 5, none⟩ = some (.slice aor q.pr.rs.length capr) ∧ W'.cell? ⟨w.heap.size, 6, none⟩ = some (.int .i64 q.wide) ∧ W'.cell? ⟨w.heap.size, 7, none⟩ = some (.slice aop q.prices.length capp)) := fun W' hb => by
    have q1 := (hb.block w.heap.size (by omega)).trans hr1
    unfold planRow at q1
    refine ⟨?_, ?_, ?_, ?_, ?_, ?_, ?_, ?_⟩ <;> (rw [cell_of_row _ _ _ _ _ _ q1]; rfl)
  have ROWS := Lib.hid rows
  clear rows hb0 hr1 hr2 hpa
  unfold planRow at hW0 ⊢
  obtain ⟨c0, c1, c2, c3, c4, c5, c6, c7⟩ := ROWS.out W0 (Below.refl _ _)
  have HB1 : Hid (Below W0.heap.size W0 W0) := Lib.hid (Below.refl _ _)
  go_enter Try.func7, Try.ntmps7
  go_wp2_with fail
  rw [← hW0]
  clear hW0
  refine (fine8_any W0 HPA.out).mono ?_
  rintro e w1 ⟨rfl, hb⟩
  have HB2 := Lib.hid (HB1.out.trans (hb.mono HB1.out.size))
  clear hb
  try dsimp only
  clear c0 c1 c2 c3 c4 c5 c6 c7
  obtain ⟨c0, c1, c2, c3, c4, c5, c6, c7⟩ := ROWS.out w1 HB2.out
  cases hf : fineQ q with
  | false =>
    go_wp2_with fail
    refine (awake_any _).mono ?_
    rintro e vz ⟨rfl, hb⟩
    have HBZ := Lib.hid (HB2.out.trans (hb.mono HB2.out.size))
    clear hb
    try dsimp only
    go_wp2
    go_ret
    exact ⟨rfl, HB0.out.trans (HBZ.out.mono HB0.out.size)⟩
  | true =>
  have hv : validP q = true := by unfold fineQ at hf; rw [Bool.and_eq_true] at hf; exact hf.2
  have hm8 := (OkQ.of hv).m8
  clear hf
  have hs1 := HB2.out.size
  have HGO := Lib.hid (fun W hW hxb => pm_5 q r _ _ _ x y z hx hy hz w.heap.size (w.heap.size + 1) w1 W hv hW ((HB2.out.block w.heap.size (by omega)).trans HR1.out) (HPA.out.later HB2.out) hxb ((HB2.out.block (w.heap.size + 1) (by omega)).trans HR2.out) (fun e w' => e = .returned (.bool true) ∧ Below w.heap.size w w') (fun w' h => ⟨rfl, HB0.out.trans ((HB2.out.trans (h.mono hs1)).mono HB0.out.size)⟩))
  go_upto_region 5 with fail
  refine HGO.out _ ?_ ?_ _ ?_ _ _ _ _ _ _ _ _ _ _
  · exact (Below.refl _ _).alloc (Nat.le_refl _) _
  · exact heap_alloc_at _ _ _ rfl
  · assumption
end Go.Proofs.Ytabbmihakoeegaa

/- PlanMore: whatever the plan, the reading and the numbers: the law returns true. No conditions. -/
namespace Go.Proofs.Ytabbmihakoeegaa
set_option linter.unusedVariables false
set_option linter.unusedSimpArgs false
open Go.ChangeShapes Go.WideShapes Go.ChangeAt Go.RowKit

section
variable {H : Type} {enc : TypeId × Value → H} {w : World} {base : Nat} {spare : Nat → Bool} {held : Bool}
theorem trodAll_fiveQ {P : Program} {t t' t'' t3 t4 : TypeId} {args : Array Value} {ds : List (DataW H)} {ps : List MemPlace} (h : DataW.TrodAll enc P w base spare held [t, t', t'', t3, t4] args.toList ds ps) :
    ∃ v v' v'' v3 v4 d d' d'' d3 d4 p p' p'' p3 p4, args = #[v, v', v'', v3, v4] ∧ ds = [d, d', d'', d3, d4] ∧ ps = p ++ p' ++ p'' ++ p3 ++ p4 ∧ DataW.Trod enc P w base spare held t v d p ∧ DataW.Trod enc P w base spare held t' v' d' p' ∧ DataW.Trod enc P w base spare held t'' v'' d'' p'' ∧ DataW.Trod enc P w base spare held t3 v3 d3 p3 ∧ DataW.Trod enc P w base spare held t4 v4 d4 p4 := by
  obtain ⟨v, vs, d, ds', p, q, hargs, rfl, rfl, hd, hrest⟩ := trodAll_cons h
  obtain ⟨v', vs', d', ds'', p', q', rfl, rfl, rfl, hd', hrest'⟩ := trodAll_cons hrest
  obtain ⟨v'', vs'', d'', ds''', p'', q'', rfl, rfl, rfl, hd'', hrest''⟩ := trodAll_cons hrest'
  obtain ⟨v3, vs3, d3, ds3, p3, q3, rfl, rfl, rfl, hd3, hrest3⟩ := trodAll_cons hrest''
  obtain ⟨v4, vs4, d4, ds4, p4, q4, rfl, rfl, rfl, hd4, hrest4⟩ := trodAll_cons hrest3
  obtain ⟨rfl, rfl, rfl⟩ := trodAll_nil hrest4
  exact ⟨v, v', v'', v3, v4, d, d', d'', d3, d4, p, p', p'', p3, p4, by cases args; simp_all, rfl, by simp, hd, hd', hd'', hd3, hd4⟩
set_option maxRecDepth 100000 in
theorem open_readQ {r : Reach} {b0 : Nat} {v : Value} {d : DataW H} {ps : List MemPlace} (hv : Value.okWide Try.prog w r b0 48 v) (h : DataW.Trod enc Try.prog w base spare held 48 v d ps) : ∃ x : RdD, v = .agg #[.int .i64 x.a, .int .i64 x.b, .int .i64 x.m, .int .i64 x.lo, .int .i64 x.hi] := by
  obtain ⟨cs, rfl, hsz⟩ := okWide_struct Try.underlying48 hv
  obtain ⟨l⟩ := cs
  obtain ⟨fuel, hf⟩ := h
  obtain ⟨x, hx⟩ := open_readV hf
  refine ⟨x, ?_⟩
  have h1 : l = rdC x := by simpa [Value.cells] using hx
  rw [h1]; rfl
end
set_option maxRecDepth 100000 in
theorem planMore_lifted (os : Os) (started : os.Started) (H : Type) (enc : TypeId × Value → H) :
    ReturnsInHanded {} Try.checked os 7 .any (Rows.planMoreSpec.pre6 enc Try.prog Try.f7 Rows.planMoreRow.domain false) (Rows.planMoreSpec.post enc Try.prog Try.f7 false true false false) := by
  refine returnsInHanded_of_change (C := Try.checked) own_knob started (by kernel_rfl) Try.func7
    (ChangeSpec.witness6 (enc := enc) (C := Try.checked) false ⟨#[], #[.agg #[.slice none 0 0, .int .i64 0, .int .i64 0, .int .i64 0, .int .i64 0, .slice none 0 0, .int .i64 0, .slice none 0 0], .agg #[.int .i64 0, .int .i64 0, .int .i64 0, .int .i64 0, .int .i64 0], .int .u8 0, .int .u8 0, .int .u8 0], []⟩ 8 (by kernel_rfl) (by kernel_rfl) (by kernel_rfl) (by kernel_rfl)) ?_
  intro W base args ds gs before hval0 hW hcnd _
  have hval : ∀ (j : Nat) t v, Try.f7.params[j]? = some t → args[j]? = some v → Value.okWide Try.prog W .any base t v := hval0
  have hW' := hW
  obtain ⟨p, q, hA0, hV, rfl, hfz, hnd⟩ := hW
  have hA : DataW.TrodAll enc Try.prog W 0 (fun _ => true) true Try.f7.params.toList args.toList ds p := hA0
  rw [Try.params7] at hA hval
  obtain ⟨rfl, rfl⟩ := trodVars_none hV
  clear hA0 hval0
  simp only [List.append_nil] at hW'
  have hst := hA
  obtain ⟨v0, v1, v2, v3, v4, d0, d1, d2, d3, d4, p0, p1, p2, p3, p4, rfl, rfl, rfl, h0, h1, h2, h3, h4⟩ := trodAll_fiveQ hA
  obtain ⟨qd, bs, rs, pv, rfl, hpa⟩ := open_plan (hval 0 _ _ rfl rfl) h0
  obtain ⟨rd, rfl⟩ := open_readQ (hval 1 _ _ rfl rfl) h1
  obtain ⟨x, rfl, _, _, hx⟩ := Go.ChangeShapes.open_int under_u8 (hval 2 _ _ rfl rfl) h2
  obtain ⟨y, rfl, _, _, hy⟩ := Go.ChangeShapes.open_int under_u8 (hval 3 _ _ rfl rfl) h3
  obtain ⟨z, rfl, _, _, hz⟩ := Go.ChangeShapes.open_int under_u8 (hval 4 _ _ rfl rfl) h4
  refine (moreq_any qd bs rs pv rd x y z (u8_range hx) (u8_range hy) (u8_range hz) W hpa).mono fun e W' ⟨he, hb⟩ => ?_
  subst he
  exact ⟨_, rfl, lawEnd hW' rfl hst rfl (by decide +kernel) rfl rfl hb⟩
theorem planMore_over : Rows.planMoreRow.holds Try.pinned (OpenSpec.ofChange Rows.planMoreSpec) :=
  OpenClaim.holds_of_wide 7 Try.f7 rfl rfl rfl rfl rfl rfl rfl ⟨rfl, rfl, rfl, rfl, rfl⟩ rfl rfl rfl rfl rfl (by kernel_rfl) Try.func7 (by kernel_rfl)
    (of_decide_eq_true (by kernel_rfl)) (by unfold Func.isWrapper; first | (rw [if_pos (by decide +kernel)]; kernel_rfl) | (rw [if_neg (by decide +kernel)]; exact ⟨rfl, rfl⟩))
    (fun os started H enc _ => planMore_lifted os started H enc)
/-- The statement. -/
theorem plan_more : Rows.PlanMoreSaid := planMore_over

end Go.Proofs.Ytabbmihakoeegaa
