/- Texts Hi, Hj, Hk in one file; each begins with a word on what it proves. -/
import Derived.Test.YtbmfphiecllggaaDoorTie
import Derived.Test.YtbmfphiecllggaaDoorCards
import Derived.SevenTiedAt
import Derived.Test.YtbmfphiecllggaaDoorKh
import Derived.Test.YtbmfphiecllggaaDoorKj
import Derived.Test.YtbmfphiecllggaaDoorKn
import Derived.Test.YtbmfphiecllggaaDoorKg

/- Most and Why, in plain words. -/
namespace Go.Proofs.YtbmfphiecllggaaDoor
set_option linter.unusedVariables false
set_option linter.unusedSimpArgs false
open Stab

theorem can_iff (j : JobD) (s : Nat) : canD j s = true ↔ ∃ l, PlanJ (selJ (rightsD j) s) (allD j) l := by
  unfold canD scoreD
  cases h : scoreJ 8 (selJ (rightsD j) s) (allD j) with
  | none => exact ⟨fun h => (by cases h), fun ⟨l, hl⟩ => absurd hl ((score_specJ 8 _ _).1 h l)⟩
  | some x => exact ⟨fun _ => ⟨_, ((score_specJ 8 _ _).2 x h).1⟩, fun _ => rfl⟩
theorem bit0_odd (s : Nat) : s.testBit 0 = decide (s % 2 = 1) := by
  rw [Nat.testBit_zero]
theorem bit_half (s i : Nat) : (s / 2).testBit i = s.testBit (i + 1) := by rw [Nat.testBit_succ]
theorem plan_sub : ∀ (Rs : List (List Nat)) (s t av : Nat) (l : List Nat), PlanJ (selJ Rs t) av l → (∀ i, s.testBit i = true → t.testBit i = true) → ∃ l', PlanJ (selJ Rs s) av l'
  | [], _, _, _, _, _, _ => ⟨[], rfl⟩
  | R :: Rs, s, t, av, l, h, hs => by
    have h0 := hs 0
    rw [bit0_odd, bit0_odd, decide_eq_true_eq, decide_eq_true_eq] at h0
    have h2 : ∀ i, (s / 2).testBit i = true → (t / 2).testBit i = true := fun i hi => by rw [bit_half] at hi ⊢; exact hs _ hi
    rw [selJ] at h
    rw [selJ]
    by_cases ht : t % 2 = 1
    · rw [if_pos ht] at h
      obtain ⟨x, l1, rfl, h3, h4, h5⟩ := h
      obtain ⟨l', hl'⟩ := plan_sub Rs (s / 2) (t / 2) _ l1 h5 h2
      by_cases hs1 : s % 2 = 1
      · rw [if_pos hs1]; exact ⟨x :: l', x, l', rfl, h3, h4, hl'⟩
      · rw [if_neg hs1]
        refine ⟨l', hl'.more rfl (fun i h h' x hx => hx) ((subJ_iff _ _).2 fun i hi => ?_)⟩
        rw [afterJ_bit, Bool.and_eq_true] at hi
        exact hi.1
    · rw [if_neg ht] at h
      rw [if_neg (fun e => ht (h0 e))]
      exact plan_sub Rs (s / 2) (t / 2) av l h h2
theorem can_sub {j : JobD} {s t : Nat} (h : canD j t = true) (hs : ∀ i, s.testBit i = true → t.testBit i = true) : canD j s = true := by
  rw [can_iff] at h ⊢
  obtain ⟨l, hl⟩ := h
  exact plan_sub _ s t _ l hl hs
theorem can_zero (j : JobD) : canD j 0 = true := by
  rw [can_iff]
  have : ∀ Rs : List (List Nat), selJ Rs 0 = [] := fun Rs => by
    induction Rs with
    | nil => rfl
    | cons R Rs ih => rw [selJ]; simpa using ih
  rw [this]
  exact ⟨[], rfl⟩
theorem can_all {j : JobD} (h : canD j (everyD j) = true) {s : Nat} (hs : s < 2 ^ j.ws.length) : canD j s = true :=
  can_sub h fun i hi => by
    unfold everyD
    rw [Nat.testBit_two_pow_sub_one, decide_eq_true_eq]
    apply Classical.byContradiction
    intro hn
    have := Nat.testBit_lt_two_pow (Nat.lt_of_lt_of_le hs (Nat.pow_le_pow_right (by decide) (by omega : j.ws.length ≤ i)))
    rw [this] at hi; cases hi
theorem fold_most (j : JobD) : ∀ (l : List Nat) (b : Nat), Srt ltM l → (∀ s ∈ l, sizeJ 4 b ≤ sizeJ 4 s ∧ (sizeJ 4 b = sizeJ 4 s → b ≤ s)) → canD j b = true →
    canD j (l.foldl (stepM j) b) = true ∧ (∀ s ∈ l, canD j s = true → sizeJ 4 s ≤ sizeJ 4 (l.foldl (stepM j) b) ∧ (sizeJ 4 s = sizeJ 4 (l.foldl (stepM j) b) → l.foldl (stepM j) b ≤ s)) ∧ sizeJ 4 b ≤ sizeJ 4 (l.foldl (stepM j) b) ∧ (sizeJ 4 b = sizeJ 4 (l.foldl (stepM j) b) → l.foldl (stepM j) b ≤ b)
  | [], b, _, _, hb => ⟨hb, fun s hs => (by cases hs), Nat.le_refl _, fun _ => Nat.le_refl _⟩
  | s :: l, b, hsr, hbl, hb => by
    obtain ⟨h1, h2⟩ := List.pairwise_cons.1 hsr
    have hbs := hbl s List.mem_cons_self
    rw [List.foldl_cons]
    by_cases hc : sizeJ 4 b < sizeJ 4 s ∧ canD j s = true
    · have hst : stepM j b s = s := by unfold stepM; rw [if_pos (by rw [Bool.and_eq_true, decide_eq_true_eq]; exact hc)]
      rw [hst]
      obtain ⟨g1, g2, g3, g4⟩ := fold_most j l s h2 (fun t ht => by have := (ltM_iff _ _).1 (h1 t ht); omega) hc.2
      refine ⟨g1, fun t ht hct => ?_, by omega, fun e => by omega⟩
      rcases List.mem_cons.1 ht with rfl | ht
      · exact ⟨g3, g4⟩
      · exact g2 t ht hct
    · have hst : stepM j b s = b := by unfold stepM; rw [if_neg (by rw [Bool.and_eq_true, decide_eq_true_eq]; exact hc)]
      rw [hst]
      obtain ⟨g1, g2, g3, g4⟩ := fold_most j l b h2 (fun t ht => hbl t (List.mem_cons_of_mem _ ht)) hb
      refine ⟨g1, fun t ht hct => ?_, g3, g4⟩
      rcases List.mem_cons.1 ht with rfl | ht
      · have h3 : ¬ sizeJ 4 b < sizeJ 4 t := fun h => hc ⟨h, hct⟩
        refine ⟨by omega, fun e => ?_⟩
        have h5 := g4 (by omega)
        have h6 := hbs.2 (by omega)
        omega
      · exact g2 t ht hct
theorem sizeJ_zero : ∀ n, sizeJ n 0 = 0
  | 0 => rfl
  | n + 1 => by rw [sizeJ, sizeJ_zero n]; simp
theorem setsM_srt (j : JobD) : Srt ltM (setsM j) := sort_srt _ List.nodup_range
theorem mem_setsM {j : JobD} {s : Nat} (h : s < 2 ^ j.ws.length) : s ∈ setsM j := (sort_perm lessM _).mem_iff.2 (List.mem_range.2 h)
/-- The most: one that can, and of all that can none is more, or as many and less. -/
theorem most_facts {j : JobD} (hv : validJb j = true) : ∃ b : Nat, mostD j = ((((sizeJ 4 b : Nat) : Int), ((b : Nat) : Int)), 0) ∧ b < 2 ^ j.ws.length ∧ canD j b = true ∧ ∀ s, s < 2 ^ j.ws.length → canD j s = true → sizeJ 4 s ≤ sizeJ 4 b ∧ (sizeJ 4 s = sizeJ 4 b → b ≤ s) := by
  obtain ⟨h1, h2, _⟩ := fold_most j (setsM j) 0 (setsM_srt j) (fun s _ => by rw [sizeJ_zero]; omega) (can_zero j)
  refine ⟨(setsM j).foldl (stepM j) 0, ?_, foldM_lt _ _ (Nat.two_pow_pos _) (fun s hs => setsM_lt s hs), h1, fun s hs hc => h2 s (mem_setsM hs) hc⟩
  unfold mostD
  rw [errD_ok hv, if_neg (by decide)]
  rfl
theorem find_first {l : List Nat} {p : Nat → Bool} {s : Nat} (hsr : Srt ltM l) (h : l.find? p = some s) : p s = true ∧ ∀ t ∈ l, p t = true → t = s ∨ ltM s t := by
  induction l with
  | nil => cases h
  | cons x l ih =>
    obtain ⟨h1, h2⟩ := List.pairwise_cons.1 hsr
    rw [List.find?_cons] at h
    cases hx : p x with
    | true =>
      rw [hx] at h
      obtain rfl : x = s := Option.some.inj h
      refine ⟨hx, fun t ht _ => ?_⟩
      rcases List.mem_cons.1 ht with rfl | ht
      · exact .inl rfl
      · exact .inr (h1 t ht)
    | false =>
      rw [hx] at h
      obtain ⟨g1, g2⟩ := ih h2 h
      refine ⟨g1, fun t ht hpt => ?_⟩
      rcases List.mem_cons.1 ht with rfl | ht
      · rw [hx] at hpt; cases hpt
      · exact g2 t ht hpt
/-- Why not: nothing, or the first that cannot. -/
theorem why_facts {j : JobD} (hv : validJb j = true) : (canD j (everyD j) = true ∧ whyD j = (0, 4)) ∨ (canD j (everyD j) = false ∧ ∃ s : Nat, whyD j = (((s : Nat) : Int), 0) ∧ s < 2 ^ j.ws.length ∧ canD j s = false ∧ ∀ t, t < 2 ^ j.ws.length → canD j t = false → sizeJ 4 s ≤ sizeJ 4 t ∧ (sizeJ 4 s = sizeJ 4 t → s ≤ t)) := by
  have hev : everyD j < 2 ^ j.ws.length := by have := Nat.two_pow_pos j.ws.length; unfold everyD; omega
  unfold whyD
  rw [errD_ok hv, if_neg (by decide)]
  cases h : (setsM j).find? (fun s => !canD j s) with
  | none =>
    have h1 := List.find?_eq_none.1 h _ (mem_setsM hev)
    exact .inl ⟨by simpa using h1, rfl⟩
  | some s =>
    obtain ⟨h1, h2⟩ := find_first (setsM_srt j) h
    have hs : s < 2 ^ j.ws.length := setsM_lt s (List.mem_of_find?_eq_some h)
    have h1 : canD j s = false := by simpa using h1
    refine .inr ⟨?_, s, rfl, hs, h1, fun t ht hc => ?_⟩
    · cases he : canD j (everyD j) with
      | false => rfl
      | true => rw [can_all he hs] at h1; cases h1
    · rcases h2 t (mem_setsM ht) (by rw [hc]; rfl) with rfl | h3
      · exact ⟨Nat.le_refl _, fun _ => Nat.le_refl _⟩
      · have := (ltM_iff _ _).1 h3; omega
theorem size_le4 : ∀ n < 5, ∀ b < 2 ^ n, sizeJ 4 b ≤ n ∧ (sizeJ 4 b = n → b = 2 ^ n - 1) := by decide +kernel
theorem size_every : ∀ n < 5, sizeJ 4 (2 ^ n - 1) = n := by decide +kernel
theorem size_less : ∀ s < 16, ∀ i < 4, s.testBit i = true → sizeJ 4 (afterJ s (2 ^ i)) < sizeJ 4 s := by decide +kernel
end Go.Proofs.YtbmfphiecllggaaDoor

/- JobMost, walked. -/
namespace Go.Proofs.YtbmfphiecllggaaDoor
set_option linter.unusedVariables false
set_option linter.unusedSimpArgs false
open Go.RowKit Go.Shelf
attribute [local go_sem] Oper.semAt_some

/-- What the drawn region reads: the job. -/
def SM (x : Nat) (v0 v3 : Value) (f1 f2 : Int) (Y : World) : Prop :=
  Y.cell? ⟨x, 0, none⟩ = some v0 ∧ Y.cell? ⟨x, 1, none⟩ = some (.int .i64 f1) ∧ Y.cell? ⟨x, 2, none⟩ = some (.int .i64 f2) ∧ Y.cell? ⟨x, 3, none⟩ = some v3
theorem SM.below {x : Nat} {v0 v3 : Value} {f1 f2 : Int} {Y Y' : World} (h : SM x v0 v3 f1 f2 Y) (hb : Below Y.heap.size Y Y') : SM x v0 v3 f1 f2 Y' :=
  ⟨cell_below h.1 hb, cell_below h.2.1 hb, cell_below h.2.2.1 hb, cell_below h.2.2.2 hb⟩
set_option maxRecDepth 100000 in
set_option maxHeartbeats 8000000 in
theorem lmost_any (j : JobD) (bs ws : Value) (x : Int) (hx : 0 ≤ x ∧ x < 256) (w : World) (hbs : SpansAt w bs j.st.bs (fun k => k < w.heap.size)) (hws : SpansAt w ws j.ws (fun k => k < w.heap.size)) (htz : TabZ w) :
    Calls Tryd.prog 7 #[jobV j bs ws, .int .u8 x] w fun e w' => e = .returned (.bool true) ∧ Below w.heap.size w w' := by
  obtain ⟨xn, rfl⟩ : ∃ n : Nat, x = n := ⟨x.toNat, by omega⟩
  have HBS := Lib.hid hbs
  have HWS := Lib.hid hws
  have HTZ := Lib.hid htz
  have h1z := htz.lt
  obtain ⟨ao, cap, hv1, _⟩ := id hbs
  obtain ⟨ao2, cap2, hv2, _⟩ := id hws
  subst hv1 hv2
  obtain ⟨nb, hnb⟩ : ∃ n, n = j.st.bs.length := ⟨_, rfl⟩
  obtain ⟨nw, hnw⟩ : ∃ n, n = j.ws.length := ⟨_, rfl⟩
  rw [← hnb] at HBS
  rw [← hnw] at HWS
  unfold jobV
  rw [← hnb, ← hnw]
  have HNB := Lib.hid hnb
  have HNW := Lib.hid hnw
  clear hbs hws htz hnb hnw
  obtain ⟨fl, hfl⟩ : ∃ x, x = j.st.film.1 := ⟨_, rfl⟩
  obtain ⟨fh, hfh⟩ : ∃ x, x = j.st.film.2 := ⟨_, rfl⟩
  rw [← hfl, ← hfh]
  have HFL := Lib.hid (And.intro hfl hfh)
  clear hfl hfh
  have HJV := Lib.hid (show jobV j (.slice ao nb cap) (.slice ao2 nw cap2) = .agg #[.slice ao nb cap, .int .i64 fl, .int .i64 fh, .slice ao2 nw cap2] by unfold jobV; rw [← HFL.out.1, ← HFL.out.2])
  have HBw0 := Lib.hid (Below.alloc' w (.cells #[.slice ao nb cap, .int .i64 fl, .int .i64 fh, .slice ao2 nw cap2] 28))
  have HXw0 := Lib.hid (show (w.alloc (.cells #[.slice ao nb cap, .int .i64 fl, .int .i64 fh, .slice ao2 nw cap2] 28)).heap[w.heap.size]? = some (.cells #[.slice ao nb cap, .int .i64 fl, .int .i64 fh, .slice ao2 nw cap2] 28 (0, 0)) from heap_alloc_at _ _ _ rfl)
  go_enter Tryd.func7, Tryd.ntmps7
  go_wp2_with fail
  have hc := fine_any j (.slice ao nb cap) (.slice ao2 nw cap2) _ (HBS.out.later HBw0.out.size (fun k h1 _ => HBw0.out.block k h1)).low9 (HWS.out.later HBw0.out.size (fun k h1 _ => HBw0.out.block k h1)).low9
  rw [HJV.out] at hc
  refine hc.mono ?_
  rintro e w1 ⟨rfl, hb⟩
  clear hc
  dsimp only
  have HXw1 := Lib.hid ((hb.block _ (lt_of_block HXw0.out)).trans HXw0.out)
  have HBw1 := Lib.hid (HBw0.out.trans (hb.mono HBw0.out.size))
  clear hb
  cases hv : validJb j with
  | false =>
    clear hv
    go_wp2_with fail
    refine (lawake_any _ (HTZ.out.below HBw1.out h1z)).mono ?_
    rintro e w9 ⟨rfl, hb9⟩
    dsimp only
    have HB9 := Lib.hid (HBw1.out.trans (hb9.mono HBw1.out.size))
    clear hb9
    go_wp2_with fail
    go_ret
    exact ⟨rfl, HB9.out⟩
  | true =>
    have HV := Lib.hid hv
    have hnw4 : nw ≤ 4 := by rw [HNW.out]; exact (validJb_parts hv).2.1
    have hnb8 : nb ≤ 8 := by rw [HNB.out]; exact (validSt_parts (validJb_parts hv).1).1
    have hp16 : 2 ^ nw ≤ 16 := (Nat.pow_le_pow_right (by decide) hnw4 : _ ≤ 2 ^ 4)
    obtain ⟨b, hmo, hb2, hbc, hbm⟩ := most_facts hv
    rw [← HNW.out] at hb2 hbm
    obtain ⟨ev, hev⟩ : ∃ x, x = everyD j := ⟨_, rfl⟩
    have hev1 : ev + 1 = 2 ^ nw := by have := Nat.two_pow_pos nw; rw [hev]; unfold everyD; rw [← HNW.out]; omega
    obtain ⟨mm, hmm⟩ : ∃ x, x = sizeJ 4 b := ⟨_, rfl⟩
    rw [← hmm] at hmo hbm
    have HEV := Lib.hid hev
    have HMM := Lib.hid hmm
    have HMO := Lib.hid hmo
    have HBM := Lib.hid (And.intro hbc hbm)
    clear hv hev hmm hmo hbc hbm
    have c0 : w1.cell? ⟨w.heap.size, 0, none⟩ = some (.slice ao nb cap) := by rw [cell_of_row _ _ _ _ _ _ HXw1.out]; rfl
    have c1 : w1.cell? ⟨w.heap.size, 1, none⟩ = some (.int .i64 fl) := by rw [cell_of_row _ _ _ _ _ _ HXw1.out]; rfl
    have c2 : w1.cell? ⟨w.heap.size, 2, none⟩ = some (.int .i64 fh) := by rw [cell_of_row _ _ _ _ _ _ HXw1.out]; rfl
    have c3 : w1.cell? ⟨w.heap.size, 3, none⟩ = some (.slice ao2 nw cap2) := by rw [cell_of_row _ _ _ _ _ _ HXw1.out]; rfl
    go_wp2_with fail
    have hc := Most_any j (.slice ao nb cap) (.slice ao2 nw cap2) w1 (HBS.out.later HBw1.out.size (fun k h1 _ => HBw1.out.block k h1)).low9 (HWS.out.later HBw1.out.size (fun k h1 _ => HBw1.out.block k h1)).low9 (HTZ.out.below HBw1.out h1z)
    rw [HJV.out] at hc
    refine hc.mono ?_
    rw [HMO.out]
    rintro e w2 ⟨rfl, hb⟩
    clear hc c0 c1 c2 c3
    dsimp only
    have HXw2 := Lib.hid ((hb.block _ (lt_of_block HXw1.out)).trans HXw1.out)
    have HBw2 := Lib.hid (HBw1.out.trans (hb.mono HBw1.out.size))
    clear hb
    have c0 : w2.cell? ⟨w.heap.size, 0, none⟩ = some (.slice ao nb cap) := by rw [cell_of_row _ _ _ _ _ _ HXw2.out]; rfl
    have c1 : w2.cell? ⟨w.heap.size, 1, none⟩ = some (.int .i64 fl) := by rw [cell_of_row _ _ _ _ _ _ HXw2.out]; rfl
    have c2 : w2.cell? ⟨w.heap.size, 2, none⟩ = some (.int .i64 fh) := by rw [cell_of_row _ _ _ _ _ _ HXw2.out]; rfl
    have c3 : w2.cell? ⟨w.heap.size, 3, none⟩ = some (.slice ao2 nw cap2) := by rw [cell_of_row _ _ _ _ _ _ HXw2.out]; rfl
    go_wp2_with fail
    have hc := Why_any j (.slice ao nb cap) (.slice ao2 nw cap2) w2 (HBS.out.later HBw2.out.size (fun k h1 _ => HBw2.out.block k h1)).low9 (HWS.out.later HBw2.out.size (fun k h1 _ => HBw2.out.block k h1)).low9 (HTZ.out.below HBw2.out h1z)
    rw [HJV.out] at hc
    refine hc.mono ?_
    rintro e w3 ⟨rfl, hb⟩
    clear hc c0 c1 c2 c3
    dsimp only
    have HXw3 := Lib.hid ((hb.block _ (lt_of_block HXw2.out)).trans HXw2.out)
    have HBw3 := Lib.hid (HBw2.out.trans (hb.mono HBw2.out.size))
    clear hb
    have c0 : w3.cell? ⟨w.heap.size, 0, none⟩ = some (.slice ao nb cap) := by rw [cell_of_row _ _ _ _ _ _ HXw3.out]; rfl
    have c1 : w3.cell? ⟨w.heap.size, 1, none⟩ = some (.int .i64 fl) := by rw [cell_of_row _ _ _ _ _ _ HXw3.out]; rfl
    have c2 : w3.cell? ⟨w.heap.size, 2, none⟩ = some (.int .i64 fh) := by rw [cell_of_row _ _ _ _ _ _ HXw3.out]; rfl
    have c3 : w3.cell? ⟨w.heap.size, 3, none⟩ = some (.slice ao2 nw cap2) := by rw [cell_of_row _ _ _ _ _ _ HXw3.out]; rfl
    have hwf := why_facts HV.out
    rw [← HEV.out, ← HNW.out] at hwf
    obtain ⟨wy, hwy⟩ : ∃ x, x = whyD j := ⟨_, rfl⟩
    rw [← hwy] at hwf ⊢
    have HWF := Lib.hid hwf
    clear hwf hwy
    go_wp2_with fail
    have hc := r12every_any j (by rw [← HNW.out]; omega) (.slice ao nb cap) (.slice ao2 nw cap2) w3 (HWS.out.later HBw3.out.size (fun k h1 _ => HBw3.out.block k h1)).low9
    rw [HJV.out, ← HEV.out] at hc
    refine hc.mono ?_
    rintro e w4 ⟨rfl, hb⟩
    clear hc c0 c1 c2 c3
    dsimp only
    have HXw4 := Lib.hid ((hb.block _ (lt_of_block HXw3.out)).trans HXw3.out)
    have HBw4 := Lib.hid (HBw3.out.trans (hb.mono HBw3.out.size))
    clear hb
    have c0 : w4.cell? ⟨w.heap.size, 0, none⟩ = some (.slice ao nb cap) := by rw [cell_of_row _ _ _ _ _ _ HXw4.out]; rfl
    have c1 : w4.cell? ⟨w.heap.size, 1, none⟩ = some (.int .i64 fl) := by rw [cell_of_row _ _ _ _ _ _ HXw4.out]; rfl
    have c2 : w4.cell? ⟨w.heap.size, 2, none⟩ = some (.int .i64 fh) := by rw [cell_of_row _ _ _ _ _ _ HXw4.out]; rfl
    have c3 : w4.cell? ⟨w.heap.size, 3, none⟩ = some (.slice ao2 nw cap2) := by rw [cell_of_row _ _ _ _ _ _ HXw4.out]; rfl
    obtain ⟨ow, how⟩ : ∃ x, x = xn &&& ev := ⟨_, rfl⟩
    have hcx : IntKind.i64.wrap (xn : Int) = (xn : Int) := IntWalk.i64_in _ (by omega)
    have hand := and_i64 xn ev (by omega) (by omega)
    rw [← how] at hand
    have how2 : ow ≤ ev := by rw [how]; exact Nat.and_le_right
    clear how
    go_wp2_with fail
    have hc := lcan_any j HV.out ow (by omega) (.slice ao nb cap) (.slice ao2 nw cap2) w4 (HBS.out.later HBw4.out.size (fun k h1 _ => HBw4.out.block k h1)).low9 (HWS.out.later HBw4.out.size (fun k h1 _ => HBw4.out.block k h1)).low9 (HTZ.out.below HBw4.out h1z)
    rw [HJV.out] at hc
    refine hc.mono ?_
    rintro e w5 ⟨rfl, hb⟩
    clear hc c0 c1 c2 c3
    dsimp only
    have HXw5 := Lib.hid ((hb.block _ (lt_of_block HXw4.out)).trans HXw4.out)
    have HBw5 := Lib.hid (HBw4.out.trans (hb.mono HBw4.out.size))
    clear hb
    have c0 : w5.cell? ⟨w.heap.size, 0, none⟩ = some (.slice ao nb cap) := by rw [cell_of_row _ _ _ _ _ _ HXw5.out]; rfl
    have c1 : w5.cell? ⟨w.heap.size, 1, none⟩ = some (.int .i64 fl) := by rw [cell_of_row _ _ _ _ _ _ HXw5.out]; rfl
    have c2 : w5.cell? ⟨w.heap.size, 2, none⟩ = some (.int .i64 fh) := by rw [cell_of_row _ _ _ _ _ _ HXw5.out]; rfl
    have c3 : w5.cell? ⟨w.heap.size, 3, none⟩ = some (.slice ao2 nw cap2) := by rw [cell_of_row _ _ _ _ _ _ HXw5.out]; rfl
    have egS := enters_of (P := Tryd.prog) Tryd.func24 (by kernel_rfl) rfl
    have hb0 : ¬ (b : Int) < 0 := by omega
    have hevb : ¬ (ev : Int) < (b : Int) := by omega
    have hsz := size_le4 nw (by omega) b hb2
    rw [← HMM.out] at hsz
    rcases HWF.out with ⟨hce, hwe⟩ | ⟨hce, s, hwe, hs2, hsc, hsm⟩
    · rw [hwe]
      have HCE := Lib.hid hce
      have hmw : nw = mm := by
        have h1 := (HBM.out.2 ev (by omega) hce).1
        rw [show ev = 2 ^ nw - 1 by omega, size_every nw (by omega)] at h1
        omega
      subst hmw
      clear hce hwe HWF hsz
      cases hco : canD j ow with
      | false =>
        clear hco
        go_wp2_with fail
        refine (r4size_any b (by omega) _).mono ?_
        rintro e w' ⟨rfl, rfl⟩
        rw [size_four b (by omega)]
        rw [← HMM.out]
        go_wp2_with fail
        have hc := lcan_any j HV.out b (by omega) (.slice ao nb cap) (.slice ao2 nw cap2) w5 (HBS.out.later HBw5.out.size (fun k h1 _ => HBw5.out.block k h1)).low9 (HWS.out.later HBw5.out.size (fun k h1 _ => HBw5.out.block k h1)).low9 (HTZ.out.below HBw5.out h1z)
        rw [HJV.out] at hc
        refine hc.mono ?_
        rintro e w6 ⟨rfl, hb⟩
        clear hc c0 c1 c2 c3
        dsimp only
        have HXw6 := Lib.hid ((hb.block _ (lt_of_block HXw5.out)).trans HXw5.out)
        have HBw6 := Lib.hid (HBw5.out.trans (hb.mono HBw5.out.size))
        clear hb
        have c0 : w6.cell? ⟨w.heap.size, 0, none⟩ = some (.slice ao nb cap) := by rw [cell_of_row _ _ _ _ _ _ HXw6.out]; rfl
        have c1 : w6.cell? ⟨w.heap.size, 1, none⟩ = some (.int .i64 fl) := by rw [cell_of_row _ _ _ _ _ _ HXw6.out]; rfl
        have c2 : w6.cell? ⟨w.heap.size, 2, none⟩ = some (.int .i64 fh) := by rw [cell_of_row _ _ _ _ _ _ HXw6.out]; rfl
        have c3 : w6.cell? ⟨w.heap.size, 3, none⟩ = some (.slice ao2 nw cap2) := by rw [cell_of_row _ _ _ _ _ _ HXw6.out]; rfl
        rw [HBM.out.1]
        go_wp2_with fail
        have hc := lcan_any j HV.out ev (by omega) (.slice ao nb cap) (.slice ao2 nw cap2) w6 (HBS.out.later HBw6.out.size (fun k h1 _ => HBw6.out.block k h1)).low9 (HWS.out.later HBw6.out.size (fun k h1 _ => HBw6.out.block k h1)).low9 (HTZ.out.below HBw6.out h1z)
        rw [HJV.out] at hc
        refine hc.mono ?_
        rintro e w7 ⟨rfl, hb⟩
        clear hc c0 c1 c2 c3
        dsimp only
        have HXw7 := Lib.hid ((hb.block _ (lt_of_block HXw6.out)).trans HXw6.out)
        have HBw7 := Lib.hid (HBw6.out.trans (hb.mono HBw6.out.size))
        clear hb
        have c0 : w7.cell? ⟨w.heap.size, 0, none⟩ = some (.slice ao nb cap) := by rw [cell_of_row _ _ _ _ _ _ HXw7.out]; rfl
        have c1 : w7.cell? ⟨w.heap.size, 1, none⟩ = some (.int .i64 fl) := by rw [cell_of_row _ _ _ _ _ _ HXw7.out]; rfl
        have c2 : w7.cell? ⟨w.heap.size, 2, none⟩ = some (.int .i64 fh) := by rw [cell_of_row _ _ _ _ _ _ HXw7.out]; rfl
        have c3 : w7.cell? ⟨w.heap.size, 3, none⟩ = some (.slice ao2 nw cap2) := by rw [cell_of_row _ _ _ _ _ _ HXw7.out]; rfl
        rw [HCE.out]
        go_wp2_with fail
        refine (lawake_any _ (HTZ.out.below HBw7.out h1z)).mono ?_
        rintro e w9 ⟨rfl, hb9⟩
        dsimp only
        have HB9 := Lib.hid (HBw7.out.trans (hb9.mono HBw7.out.size))
        clear hb9
        go_wp2_with fail
        go_ret
        exact ⟨rfl, HB9.out⟩
      | true =>
        obtain ⟨h1, h2⟩ := HBM.out.2 ow (by omega) hco
        obtain ⟨so, hso⟩ : ∃ x, x = sizeJ 4 ow := ⟨_, rfl⟩
        rw [← hso] at h1 h2
        have HSO := Lib.hid hso
        have hs1 : ¬ (nw : Int) < (so : Int) := by omega
        clear hco hso
        by_cases hse : so = nw
        · have hob : ¬ (ow : Int) < (b : Int) := by have := h2 hse; omega
          clear h1 h2
          have hse := hse.symm
          subst hse
          go_wp2_with fail
          refine (r4size_any b (by omega) _).mono ?_
          rintro e w' ⟨rfl, rfl⟩
          rw [size_four b (by omega)]
          rw [← HMM.out]
          go_wp2_with fail
          have hc := lcan_any j HV.out b (by omega) (.slice ao nb cap) (.slice ao2 nw cap2) w5 (HBS.out.later HBw5.out.size (fun k h1 _ => HBw5.out.block k h1)).low9 (HWS.out.later HBw5.out.size (fun k h1 _ => HBw5.out.block k h1)).low9 (HTZ.out.below HBw5.out h1z)
          rw [HJV.out] at hc
          refine hc.mono ?_
          rintro e w6 ⟨rfl, hb⟩
          clear hc c0 c1 c2 c3
          dsimp only
          have HXw6 := Lib.hid ((hb.block _ (lt_of_block HXw5.out)).trans HXw5.out)
          have HBw6 := Lib.hid (HBw5.out.trans (hb.mono HBw5.out.size))
          clear hb
          have c0 : w6.cell? ⟨w.heap.size, 0, none⟩ = some (.slice ao nb cap) := by rw [cell_of_row _ _ _ _ _ _ HXw6.out]; rfl
          have c1 : w6.cell? ⟨w.heap.size, 1, none⟩ = some (.int .i64 fl) := by rw [cell_of_row _ _ _ _ _ _ HXw6.out]; rfl
          have c2 : w6.cell? ⟨w.heap.size, 2, none⟩ = some (.int .i64 fh) := by rw [cell_of_row _ _ _ _ _ _ HXw6.out]; rfl
          have c3 : w6.cell? ⟨w.heap.size, 3, none⟩ = some (.slice ao2 nw cap2) := by rw [cell_of_row _ _ _ _ _ _ HXw6.out]; rfl
          rw [HBM.out.1]
          go_wp2_with fail
          have hc := lcan_any j HV.out ev (by omega) (.slice ao nb cap) (.slice ao2 nw cap2) w6 (HBS.out.later HBw6.out.size (fun k h1 _ => HBw6.out.block k h1)).low9 (HWS.out.later HBw6.out.size (fun k h1 _ => HBw6.out.block k h1)).low9 (HTZ.out.below HBw6.out h1z)
          rw [HJV.out] at hc
          refine hc.mono ?_
          rintro e w7 ⟨rfl, hb⟩
          clear hc c0 c1 c2 c3
          dsimp only
          have HXw7 := Lib.hid ((hb.block _ (lt_of_block HXw6.out)).trans HXw6.out)
          have HBw7 := Lib.hid (HBw6.out.trans (hb.mono HBw6.out.size))
          clear hb
          have c0 : w7.cell? ⟨w.heap.size, 0, none⟩ = some (.slice ao nb cap) := by rw [cell_of_row _ _ _ _ _ _ HXw7.out]; rfl
          have c1 : w7.cell? ⟨w.heap.size, 1, none⟩ = some (.int .i64 fl) := by rw [cell_of_row _ _ _ _ _ _ HXw7.out]; rfl
          have c2 : w7.cell? ⟨w.heap.size, 2, none⟩ = some (.int .i64 fh) := by rw [cell_of_row _ _ _ _ _ _ HXw7.out]; rfl
          have c3 : w7.cell? ⟨w.heap.size, 3, none⟩ = some (.slice ao2 nw cap2) := by rw [cell_of_row _ _ _ _ _ _ HXw7.out]; rfl
          rw [HCE.out]
          go_wp2_with fail
          refine (r4size_any ow (by omega) _).mono ?_
          rintro e w' ⟨rfl, rfl⟩
          rw [size_four ow (by omega)]
          rw [← HSO.out]
          go_wp2_with fail
          refine (r4size_any ow (by omega) _).mono ?_
          rintro e w' ⟨rfl, rfl⟩
          rw [size_four ow (by omega)]
          rw [← HSO.out]
          go_wp2_with fail
          refine (lawake_any _ (HTZ.out.below HBw7.out h1z)).mono ?_
          rintro e w9 ⟨rfl, hb9⟩
          dsimp only
          have HB9 := Lib.hid (HBw7.out.trans (hb9.mono HBw7.out.size))
          clear hb9
          go_wp2_with fail
          go_ret
          exact ⟨rfl, HB9.out⟩
        · have hse2 : ¬ (so : Int) = (nw : Int) := by omega
          have hse3 : ((so : Int) == (nw : Int)) = false := by rw [beq_eq_false_iff_ne]; omega
          clear h1 h2 hse
          go_wp2_with fail
          refine (r4size_any b (by omega) _).mono ?_
          rintro e w' ⟨rfl, rfl⟩
          rw [size_four b (by omega)]
          rw [← HMM.out]
          go_wp2_with fail
          have hc := lcan_any j HV.out b (by omega) (.slice ao nb cap) (.slice ao2 nw cap2) w5 (HBS.out.later HBw5.out.size (fun k h1 _ => HBw5.out.block k h1)).low9 (HWS.out.later HBw5.out.size (fun k h1 _ => HBw5.out.block k h1)).low9 (HTZ.out.below HBw5.out h1z)
          rw [HJV.out] at hc
          refine hc.mono ?_
          rintro e w6 ⟨rfl, hb⟩
          clear hc c0 c1 c2 c3
          dsimp only
          have HXw6 := Lib.hid ((hb.block _ (lt_of_block HXw5.out)).trans HXw5.out)
          have HBw6 := Lib.hid (HBw5.out.trans (hb.mono HBw5.out.size))
          clear hb
          have c0 : w6.cell? ⟨w.heap.size, 0, none⟩ = some (.slice ao nb cap) := by rw [cell_of_row _ _ _ _ _ _ HXw6.out]; rfl
          have c1 : w6.cell? ⟨w.heap.size, 1, none⟩ = some (.int .i64 fl) := by rw [cell_of_row _ _ _ _ _ _ HXw6.out]; rfl
          have c2 : w6.cell? ⟨w.heap.size, 2, none⟩ = some (.int .i64 fh) := by rw [cell_of_row _ _ _ _ _ _ HXw6.out]; rfl
          have c3 : w6.cell? ⟨w.heap.size, 3, none⟩ = some (.slice ao2 nw cap2) := by rw [cell_of_row _ _ _ _ _ _ HXw6.out]; rfl
          rw [HBM.out.1]
          go_wp2_with fail
          have hc := lcan_any j HV.out ev (by omega) (.slice ao nb cap) (.slice ao2 nw cap2) w6 (HBS.out.later HBw6.out.size (fun k h1 _ => HBw6.out.block k h1)).low9 (HWS.out.later HBw6.out.size (fun k h1 _ => HBw6.out.block k h1)).low9 (HTZ.out.below HBw6.out h1z)
          rw [HJV.out] at hc
          refine hc.mono ?_
          rintro e w7 ⟨rfl, hb⟩
          clear hc c0 c1 c2 c3
          dsimp only
          have HXw7 := Lib.hid ((hb.block _ (lt_of_block HXw6.out)).trans HXw6.out)
          have HBw7 := Lib.hid (HBw6.out.trans (hb.mono HBw6.out.size))
          clear hb
          have c0 : w7.cell? ⟨w.heap.size, 0, none⟩ = some (.slice ao nb cap) := by rw [cell_of_row _ _ _ _ _ _ HXw7.out]; rfl
          have c1 : w7.cell? ⟨w.heap.size, 1, none⟩ = some (.int .i64 fl) := by rw [cell_of_row _ _ _ _ _ _ HXw7.out]; rfl
          have c2 : w7.cell? ⟨w.heap.size, 2, none⟩ = some (.int .i64 fh) := by rw [cell_of_row _ _ _ _ _ _ HXw7.out]; rfl
          have c3 : w7.cell? ⟨w.heap.size, 3, none⟩ = some (.slice ao2 nw cap2) := by rw [cell_of_row _ _ _ _ _ _ HXw7.out]; rfl
          rw [HCE.out]
          go_wp2_with fail
          refine (r4size_any ow (by omega) _).mono ?_
          rintro e w' ⟨rfl, rfl⟩
          rw [size_four ow (by omega)]
          rw [← HSO.out]
          go_wp2_with fail
          refine (r4size_any ow (by omega) _).mono ?_
          rintro e w' ⟨rfl, rfl⟩
          rw [size_four ow (by omega)]
          rw [← HSO.out]
          go_wp2_with fail
          refine (lawake_any _ (HTZ.out.below HBw7.out h1z)).mono ?_
          rintro e w9 ⟨rfl, hb9⟩
          dsimp only
          have HB9 := Lib.hid (HBw7.out.trans (hb9.mono HBw7.out.size))
          clear hb9
          go_wp2_with fail
          go_ret
          exact ⟨rfl, HB9.out⟩
    · rw [hwe]
      have HCE := Lib.hid hce
      have hmw : ¬ (mm : Int) = (nw : Int) := by
        intro h
        have := hsz.2 (by omega)
        rw [show b = ev by omega, hce] at HBM
        exact absurd HBM.out.1 (by simp)
      have hmw2 : ((mm : Int) == (nw : Int)) = false := by rw [beq_eq_false_iff_ne]; exact hmw
      have hs1 : 1 ≤ s := by
        apply Classical.byContradiction
        intro h
        rw [show s = 0 by omega, can_zero] at hsc
        cases hsc
      have hsI : ¬ (s : Int) < 1 := by omega
      have hsE : ¬ (ev : Int) < (s : Int) := by omega
      have hab : afterJ s b ≠ 0 := by
        intro h
        have h3 : subJ s b = true := by rw [sub_afterJ]; exact decide_eq_true h
        rw [can_sub HBM.out.1 ((subJ_iff _ _).1 h3)] at hsc
        cases hsc
      have hae : ¬ ((afterJ s b : Nat) : Int) = 0 := by omega
      have hab2 := andn_i64 s b (by omega) (by omega)
      obtain ⟨ab, habe⟩ : ∃ x, x = afterJ s b := ⟨_, rfl⟩
      rw [← habe] at hae hab2
      have hae3 : ((ab : Int) == 0) = false := by rw [beq_eq_false_iff_ne]; exact hae
      have HSM := Lib.hid (And.intro hsc hsm)
      clear hce hwe HWF hsz hab habe hsc hsm
      cases hco : canD j ow with
      | false =>
        obtain ⟨k1, k2⟩ := HSM.out.2 ow (by omega) hco
        clear hco
        go_wp2_with fail
        refine (r4size_any b (by omega) _).mono ?_
        rintro e w' ⟨rfl, rfl⟩
        rw [size_four b (by omega)]
        rw [← HMM.out]
        go_wp2_with fail
        have hc := lcan_any j HV.out b (by omega) (.slice ao nb cap) (.slice ao2 nw cap2) w5 (HBS.out.later HBw5.out.size (fun k h1 _ => HBw5.out.block k h1)).low9 (HWS.out.later HBw5.out.size (fun k h1 _ => HBw5.out.block k h1)).low9 (HTZ.out.below HBw5.out h1z)
        rw [HJV.out] at hc
        refine hc.mono ?_
        rintro e w6 ⟨rfl, hb⟩
        clear hc c0 c1 c2 c3
        dsimp only
        have HXw6 := Lib.hid ((hb.block _ (lt_of_block HXw5.out)).trans HXw5.out)
        have HBw6 := Lib.hid (HBw5.out.trans (hb.mono HBw5.out.size))
        clear hb
        have c0 : w6.cell? ⟨w.heap.size, 0, none⟩ = some (.slice ao nb cap) := by rw [cell_of_row _ _ _ _ _ _ HXw6.out]; rfl
        have c1 : w6.cell? ⟨w.heap.size, 1, none⟩ = some (.int .i64 fl) := by rw [cell_of_row _ _ _ _ _ _ HXw6.out]; rfl
        have c2 : w6.cell? ⟨w.heap.size, 2, none⟩ = some (.int .i64 fh) := by rw [cell_of_row _ _ _ _ _ _ HXw6.out]; rfl
        have c3 : w6.cell? ⟨w.heap.size, 3, none⟩ = some (.slice ao2 nw cap2) := by rw [cell_of_row _ _ _ _ _ _ HXw6.out]; rfl
        rw [HBM.out.1]
        go_wp2_with fail
        have hc := lcan_any j HV.out ev (by omega) (.slice ao nb cap) (.slice ao2 nw cap2) w6 (HBS.out.later HBw6.out.size (fun k h1 _ => HBw6.out.block k h1)).low9 (HWS.out.later HBw6.out.size (fun k h1 _ => HBw6.out.block k h1)).low9 (HTZ.out.below HBw6.out h1z)
        rw [HJV.out] at hc
        refine hc.mono ?_
        rintro e w7 ⟨rfl, hb⟩
        clear hc c0 c1 c2 c3
        dsimp only
        have HXw7 := Lib.hid ((hb.block _ (lt_of_block HXw6.out)).trans HXw6.out)
        have HBw7 := Lib.hid (HBw6.out.trans (hb.mono HBw6.out.size))
        clear hb
        have c0 : w7.cell? ⟨w.heap.size, 0, none⟩ = some (.slice ao nb cap) := by rw [cell_of_row _ _ _ _ _ _ HXw7.out]; rfl
        have c1 : w7.cell? ⟨w.heap.size, 1, none⟩ = some (.int .i64 fl) := by rw [cell_of_row _ _ _ _ _ _ HXw7.out]; rfl
        have c2 : w7.cell? ⟨w.heap.size, 2, none⟩ = some (.int .i64 fh) := by rw [cell_of_row _ _ _ _ _ _ HXw7.out]; rfl
        have c3 : w7.cell? ⟨w.heap.size, 3, none⟩ = some (.slice ao2 nw cap2) := by rw [cell_of_row _ _ _ _ _ _ HXw7.out]; rfl
        rw [HCE.out]
        go_wp2_with fail
        have hc := lcan_any j HV.out s (by omega) (.slice ao nb cap) (.slice ao2 nw cap2) w7 (HBS.out.later HBw7.out.size (fun k h1 _ => HBw7.out.block k h1)).low9 (HWS.out.later HBw7.out.size (fun k h1 _ => HBw7.out.block k h1)).low9 (HTZ.out.below HBw7.out h1z)
        rw [HJV.out] at hc
        refine hc.mono ?_
        rintro e w8 ⟨rfl, hb⟩
        clear hc c0 c1 c2 c3
        dsimp only
        have HXw8 := Lib.hid ((hb.block _ (lt_of_block HXw7.out)).trans HXw7.out)
        have HBw8 := Lib.hid (HBw7.out.trans (hb.mono HBw7.out.size))
        clear hb
        have c0 : w8.cell? ⟨w.heap.size, 0, none⟩ = some (.slice ao nb cap) := by rw [cell_of_row _ _ _ _ _ _ HXw8.out]; rfl
        have c1 : w8.cell? ⟨w.heap.size, 1, none⟩ = some (.int .i64 fl) := by rw [cell_of_row _ _ _ _ _ _ HXw8.out]; rfl
        have c2 : w8.cell? ⟨w.heap.size, 2, none⟩ = some (.int .i64 fh) := by rw [cell_of_row _ _ _ _ _ _ HXw8.out]; rfl
        have c3 : w8.cell? ⟨w.heap.size, 3, none⟩ = some (.slice ao2 nw cap2) := by rw [cell_of_row _ _ _ _ _ _ HXw8.out]; rfl
        rw [HSM.out.1]
        go_wp2_with fail
        clear c0 c1 c2 c3
        go_loopw [137] (fun iv wr => ∃ i : Nat, i ≤ nw ∧ iv = .int .i64 i ∧ Below w8.heap.size w8 wr) (fun iv _ => nw - (intOf iv).toNat)
        case atStart => exact ⟨0, Nat.zero_le _, rfl, Below.refl _ _⟩
        case round =>
          obtain ⟨i, hi, rfl, hb⟩ := hrel
          have HXwr := Lib.hid ((hb.block _ (lt_of_block HXw8.out)).trans HXw8.out)
          have HBwr := Lib.hid (HBw8.out.trans (hb.mono HBw8.out.size))
          have HB8 := Lib.hid hb
          clear hb
          by_cases hlt : i < nw
          · have hw : IntKind.i64.wrap ((i : Int) + 1) = ((i + 1 : Nat) : Int) := by rw [IntWalk.i64_in _ (by omega)]; omega
            have hlti : (i : Int) < (nw : Int) := by omega
            have hi0 : 0 ≤ (i : Int) := by omega
            have hb1 := bit1_i64 ⟨i, by omega⟩ ⟨s, by omega⟩
            dsimp only at hb1
            go_upto_region 19 with fail
            have hS0 : SM w.heap.size (.slice ao nb cap) (.slice ao2 nw cap2) fl fh wr := ⟨by rw [cell_of_row _ _ _ _ _ _ HXwr.out]; rfl, by rw [cell_of_row _ _ _ _ _ _ HXwr.out]; rfl, by rw [cell_of_row _ _ _ _ _ _ HXwr.out]; rfl, by rw [cell_of_row _ _ _ _ _ _ HXwr.out]; rfl⟩
            refine wp_region_held_drew (S := SM w.heap.size (.slice ao nb cap) (.slice ao2 nw cap2) fl fh) (by kernel_rfl) (hS0.below (Below.refl _ _).drew) fun hS => ?_
            obtain ⟨D, hD⟩ : ∃ D, D = wr.drew := ⟨_, rfl⟩
            have hAD : Below wr.heap.size wr D := by rw [hD]; exact (Below.refl _ _).drew
            rw [← hD] at hS ⊢
            have HXD := Lib.hid ((hAD.block _ (lt_of_block HXwr.out)).trans HXwr.out)
            have HBD := Lib.hid (HBwr.out.trans (hAD.mono HBwr.out.size))
            have HB8D := Lib.hid (HB8.out.trans (hAD.mono HB8.out.size))
            clear hD hAD hS0
            cases hbit : s.testBit i with
            | false =>
              rw [hbit] at hb1
              clear hbit
              refine wpAnyH_take (i := 0) (v := ?_) rfl (by kernel_rfl) (by kernel_rfl) (by kernel_rfl) (fun _ _ _ h => h) (Or.inl ⟨by rfl, ?_⟩) hS ?_
              rotate_left
              · (intro W hSw; obtain ⟨q0, q1, q2, q3⟩ := hSw; go_simp; try with_reducible rfl)
              try simp only [List.getElem_toArray, List.getElem_cons_succ, List.getElem_cons_zero, Act.put, List.setIfInBounds_toArray, List.set_cons_zero, List.set_cons_succ]
              refine wpAnyH_take (i := 1) (v := ?_) rfl (by kernel_rfl) (by kernel_rfl) (by kernel_rfl) (fun _ _ _ h => h) (Or.inl ⟨by rfl, ?_⟩) hS ?_
              rotate_left
              · (intro W hSw; obtain ⟨q0, q1, q2, q3⟩ := hSw; go_simp; try with_reducible rfl)
              try simp only [List.getElem_toArray, List.getElem_cons_succ, List.getElem_cons_zero, Act.put, List.setIfInBounds_toArray, List.set_cons_zero, List.set_cons_succ]
              refine wpAnyH_take (i := 2) (v := ?_) rfl (by kernel_rfl) (by kernel_rfl) (by kernel_rfl) (fun _ _ _ h => h) (Or.inl ⟨by rfl, ?_⟩) hS ?_
              rotate_left
              · (intro W hSw; obtain ⟨q0, q1, q2, q3⟩ := hSw; go_simp; try with_reducible rfl)
              try simp only [List.getElem_toArray, List.getElem_cons_succ, List.getElem_cons_zero, Act.put, List.setIfInBounds_toArray, List.set_cons_zero, List.set_cons_succ]
              refine wpAnyH_take (i := 3) (v := ?_) rfl (by kernel_rfl) (by kernel_rfl) (by kernel_rfl) (fun _ _ _ h => h) (Or.inl ⟨by rfl, ?_⟩) hS ?_
              rotate_left
              · (intro W hSw; obtain ⟨q0, q1, q2, q3⟩ := hSw; go_simp; try with_reducible rfl)
              try simp only [List.getElem_toArray, List.getElem_cons_succ, List.getElem_cons_zero, Act.put, List.setIfInBounds_toArray, List.set_cons_zero, List.set_cons_succ]
              refine wpAnyH_take (i := 4) (v := ?_) rfl (by kernel_rfl) (by kernel_rfl) (by kernel_rfl) (fun _ _ _ h => h) (Or.inl ⟨by rfl, ?_⟩) hS ?_
              rotate_left
              · (intro W hSw; obtain ⟨q0, q1, q2, q3⟩ := hSw; go_simp; try with_reducible rfl)
              try simp only [List.getElem_toArray, List.getElem_cons_succ, List.getElem_cons_zero, Act.put, List.setIfInBounds_toArray, List.set_cons_zero, List.set_cons_succ]
              refine wpAnyH_take (i := 5) (v := ?_) rfl (by kernel_rfl) (by kernel_rfl) (by kernel_rfl) (fun _ _ _ h => h) (Or.inl ⟨by rfl, ?_⟩) hS ?_
              rotate_left
              · (intro W hSw; obtain ⟨q0, q1, q2, q3⟩ := hSw; go_simp; try with_reducible rfl)
              try simp only [List.getElem_toArray, List.getElem_cons_succ, List.getElem_cons_zero, Act.put, List.setIfInBounds_toArray, List.set_cons_zero, List.set_cons_succ]
              refine wpAnyH_take (i := 6) (v := undef) rfl (by kernel_rfl) (by kernel_rfl) (by kernel_rfl) (fun _ _ _ h => h) (Or.inr ⟨by rfl, rfl⟩) hS ?_
              try simp only [List.getElem_toArray, List.getElem_cons_succ, List.getElem_cons_zero, Act.put, List.setIfInBounds_toArray, List.set_cons_zero, List.set_cons_succ]
              refine wpAnyH_take (i := 7) (v := undef) rfl (by kernel_rfl) (by kernel_rfl) (by kernel_rfl) (fun _ _ _ h => h) (Or.inr ⟨by rfl, rfl⟩) hS ?_
              try simp only [List.getElem_toArray, List.getElem_cons_succ, List.getElem_cons_zero, Act.put, List.setIfInBounds_toArray, List.set_cons_zero, List.set_cons_succ]
              refine wpAnyH_take (i := 8) (v := undef) rfl (by kernel_rfl) (by kernel_rfl) (by kernel_rfl) (fun _ _ _ h => h) (Or.inr ⟨by rfl, rfl⟩) hS ?_
              try simp only [List.getElem_toArray, List.getElem_cons_succ, List.getElem_cons_zero, Act.put, List.setIfInBounds_toArray, List.set_cons_zero, List.set_cons_succ]
              refine wpAnyH_take (i := 9) (v := undef) rfl (by kernel_rfl) (by kernel_rfl) (by kernel_rfl) (fun _ _ _ h => h) (Or.inr ⟨by rfl, rfl⟩) hS ?_
              try simp only [List.getElem_toArray, List.getElem_cons_succ, List.getElem_cons_zero, Act.put, List.setIfInBounds_toArray, List.set_cons_zero, List.set_cons_succ]
              refine wpAnyH_take (i := 10) (v := undef) rfl (by kernel_rfl) (by kernel_rfl) (by kernel_rfl) (fun _ _ _ h => h) (Or.inr ⟨by rfl, rfl⟩) hS ?_
              try simp only [List.getElem_toArray, List.getElem_cons_succ, List.getElem_cons_zero, Act.put, List.setIfInBounds_toArray, List.set_cons_zero, List.set_cons_succ]
              refine wpAnyH_take (i := 11) (v := undef) rfl (by kernel_rfl) (by kernel_rfl) (by kernel_rfl) (fun _ _ _ h => h) (Or.inr ⟨by rfl, rfl⟩) hS ?_
              try simp only [List.getElem_toArray, List.getElem_cons_succ, List.getElem_cons_zero, Act.put, List.setIfInBounds_toArray, List.set_cons_zero, List.set_cons_succ]
              refine wpAnyH_take (i := 12) (v := undef) rfl (by kernel_rfl) (by kernel_rfl) (by kernel_rfl) (fun _ _ _ h => h) (Or.inr ⟨by rfl, rfl⟩) hS ?_
              try simp only [List.getElem_toArray, List.getElem_cons_succ, List.getElem_cons_zero, Act.put, List.setIfInBounds_toArray, List.set_cons_zero, List.set_cons_succ]
              refine wpAnyH_take (i := 13) (v := ?_) rfl (by kernel_rfl) (by kernel_rfl) (by kernel_rfl) (fun _ _ _ h => h) (Or.inl ⟨by rfl, ?_⟩) hS ?_
              rotate_left
              · (intro W hSw; obtain ⟨q0, q1, q2, q3⟩ := hSw; go_simp; try with_reducible rfl)
              try simp only [List.getElem_toArray, List.getElem_cons_succ, List.getElem_cons_zero, Act.put, List.setIfInBounds_toArray, List.set_cons_zero, List.set_cons_succ]
              refine wpAnyH_done (by kernel_rfl) ?_ _
              try simp only [List.getElem_toArray, List.getElem_cons_succ, List.getElem_cons_zero, Act.put, List.setIfInBounds_toArray, List.set_cons_zero, List.set_cons_succ]
              clear hS
              go_wp2_with fail
              exact ⟨⟨i + 1, hlt, by push_cast; rfl, HB8D.out⟩, by simp [intOf]; omega⟩
            | true =>
              have hle := size_less s (by omega) i (by omega) hbit
              rw [hbit] at hb1
              have hs8 := shl_one ⟨i, by omega⟩
              dsimp only at hs8
              have hPle : 2 ^ i ≤ 8 := (Nat.pow_le_pow_right (by decide) (by omega : i ≤ 3) : _ ≤ 2 ^ 3)
              have haf8 : afterJ s (2 ^ i) < 2 ^ nw := afterJ_lt nw s (2 ^ i) hs2
              have hcn : canD j (afterJ s (2 ^ i)) = true := by
                cases h : canD j (afterJ s (2 ^ i)) with
                | true => rfl
                | false => have := (HSM.out.2 _ haf8 h).1; omega
              have hand9 := andn_i64 s (2 ^ i) (by omega) (by omega)
              obtain ⟨af, haf⟩ : ∃ x, x = afterJ s (2 ^ i) := ⟨_, rfl⟩
              rw [← haf] at haf8 hcn hand9
              obtain ⟨P, hP⟩ : ∃ P, P = 2 ^ i := ⟨_, rfl⟩
              rw [← hP] at hs8 hand9
              have hs9 : wrap64 (2 ^ i) = (P : Int) := by rw [← hs8]
              have hP2 : (2 : Int) ^ i = (P : Int) := by rw [hP]; simp
              have hP8 : P ≤ 8 := by rw [hP]; exact hPle
              have hs10 : IntKind.i64.wrap (2 ^ i) = (P : Int) := by rw [hP2]; exact IntWalk.i64_in _ (by omega)
              have HCN := Lib.hid hcn
              clear hle hPle haf hcn hP hs8 hbit hP2 hP8
              refine wpAnyH_take (i := 0) (v := ?_) rfl (by kernel_rfl) (by kernel_rfl) (by kernel_rfl) (fun _ _ _ h => h) (Or.inl ⟨by rfl, ?_⟩) hS ?_
              rotate_left
              · (intro W hSw; obtain ⟨q0, q1, q2, q3⟩ := hSw; go_simp; try with_reducible rfl)
              try simp only [List.getElem_toArray, List.getElem_cons_succ, List.getElem_cons_zero, Act.put, List.setIfInBounds_toArray, List.set_cons_zero, List.set_cons_succ]
              refine wpAnyH_take (i := 1) (v := ?_) rfl (by kernel_rfl) (by kernel_rfl) (by kernel_rfl) (fun _ _ _ h => h) (Or.inl ⟨by rfl, ?_⟩) hS ?_
              rotate_left
              · (intro W hSw; obtain ⟨q0, q1, q2, q3⟩ := hSw; go_simp; try with_reducible rfl)
              try simp only [List.getElem_toArray, List.getElem_cons_succ, List.getElem_cons_zero, Act.put, List.setIfInBounds_toArray, List.set_cons_zero, List.set_cons_succ]
              refine wpAnyH_take (i := 2) (v := ?_) rfl (by kernel_rfl) (by kernel_rfl) (by kernel_rfl) (fun _ _ _ h => h) (Or.inl ⟨by rfl, ?_⟩) hS ?_
              rotate_left
              · (intro W hSw; obtain ⟨q0, q1, q2, q3⟩ := hSw; go_simp; try with_reducible rfl)
              try simp only [List.getElem_toArray, List.getElem_cons_succ, List.getElem_cons_zero, Act.put, List.setIfInBounds_toArray, List.set_cons_zero, List.set_cons_succ]
              refine wpAnyH_take (i := 3) (v := ?_) rfl (by kernel_rfl) (by kernel_rfl) (by kernel_rfl) (fun _ _ _ h => h) (Or.inl ⟨by rfl, ?_⟩) hS ?_
              rotate_left
              · (intro W hSw; obtain ⟨q0, q1, q2, q3⟩ := hSw; go_simp; try with_reducible rfl)
              try simp only [List.getElem_toArray, List.getElem_cons_succ, List.getElem_cons_zero, Act.put, List.setIfInBounds_toArray, List.set_cons_zero, List.set_cons_succ]
              refine wpAnyH_take (i := 4) (v := ?_) rfl (by kernel_rfl) (by kernel_rfl) (by kernel_rfl) (fun _ _ _ h => h) (Or.inl ⟨by rfl, ?_⟩) hS ?_
              rotate_left
              · (intro W hSw; obtain ⟨q0, q1, q2, q3⟩ := hSw; go_simp; try with_reducible rfl)
              try simp only [List.getElem_toArray, List.getElem_cons_succ, List.getElem_cons_zero, Act.put, List.setIfInBounds_toArray, List.set_cons_zero, List.set_cons_succ]
              refine wpAnyH_take (i := 5) (v := ?_) rfl (by kernel_rfl) (by kernel_rfl) (by kernel_rfl) (fun _ _ _ h => h) (Or.inl ⟨by rfl, ?_⟩) hS ?_
              rotate_left
              · (intro W hSw; obtain ⟨q0, q1, q2, q3⟩ := hSw; go_simp; try with_reducible rfl)
              try simp only [List.getElem_toArray, List.getElem_cons_succ, List.getElem_cons_zero, Act.put, List.setIfInBounds_toArray, List.set_cons_zero, List.set_cons_succ]
              refine wpAnyH_take (i := 6) (v := ?_) rfl (by kernel_rfl) (by kernel_rfl) (by kernel_rfl) (fun _ _ _ h => h) (Or.inl ⟨by rfl, ?_⟩) hS ?_
              rotate_left
              · (intro W hSw; obtain ⟨q0, q1, q2, q3⟩ := hSw; go_simp; try with_reducible rfl)
              try simp only [List.getElem_toArray, List.getElem_cons_succ, List.getElem_cons_zero, Act.put, List.setIfInBounds_toArray, List.set_cons_zero, List.set_cons_succ]
              refine wpAnyH_take (i := 7) (v := ?_) rfl (by kernel_rfl) (by kernel_rfl) (by kernel_rfl) (fun _ _ _ h => h) (Or.inl ⟨by rfl, ?_⟩) hS ?_
              rotate_left
              · (intro W hSw; obtain ⟨q0, q1, q2, q3⟩ := hSw; go_simp; try with_reducible rfl)
              try simp only [List.getElem_toArray, List.getElem_cons_succ, List.getElem_cons_zero, Act.put, List.setIfInBounds_toArray, List.set_cons_zero, List.set_cons_succ]
              refine wpAnyH_take (i := 8) (v := ?_) rfl (by kernel_rfl) (by kernel_rfl) (by kernel_rfl) (fun _ _ _ h => h) (Or.inl ⟨by rfl, ?_⟩) hS ?_
              rotate_left
              · (intro W hSw; obtain ⟨q0, q1, q2, q3⟩ := hSw; go_simp; try with_reducible rfl)
              try simp only [List.getElem_toArray, List.getElem_cons_succ, List.getElem_cons_zero, Act.put, List.setIfInBounds_toArray, List.set_cons_zero, List.set_cons_succ]
              refine wpAnyH_take (i := 9) (v := ?_) rfl (by kernel_rfl) (by kernel_rfl) (by kernel_rfl) (fun _ _ _ h => h) (Or.inl ⟨by rfl, ?_⟩) hS ?_
              rotate_left
              · (intro W hSw; obtain ⟨q0, q1, q2, q3⟩ := hSw; go_simp; try with_reducible rfl)
              try simp only [List.getElem_toArray, List.getElem_cons_succ, List.getElem_cons_zero, Act.put, List.setIfInBounds_toArray, List.set_cons_zero, List.set_cons_succ]
              refine wpAnyH_take (i := 10) (v := ?_) rfl (by kernel_rfl) (by kernel_rfl) (by kernel_rfl) (fun _ _ _ h => h) (Or.inl ⟨by rfl, ?_⟩) hS ?_
              rotate_left
              · (intro W hSw; obtain ⟨q0, q1, q2, q3⟩ := hSw; go_simp; try with_reducible rfl)
              try simp only [List.getElem_toArray, List.getElem_cons_succ, List.getElem_cons_zero, Act.put, List.setIfInBounds_toArray, List.set_cons_zero, List.set_cons_succ]
              have hc := lcan_any j HV.out af (by omega) (.slice ao nb cap) (.slice ao2 nw cap2) D (HBS.out.later HBD.out.size (fun k h1 _ => HBD.out.block k h1)).low9 (HWS.out.later HBD.out.size (fun k h1 _ => HBD.out.block k h1)).low9 (HTZ.out.below HBD.out h1z)
              rw [HJV.out, HCN.out] at hc
              refine wpAnyH_call (k := 11) (by kernel_rfl) rfl rfl (f := 37) (args := #[.agg #[.slice ao nb cap, .int .i64 fl, .int .i64 fh, .slice ao2 nw cap2], .int .i64 af]) (by simp [execOp, go_sem, Act.eval, Act.put]) ?_
              refine hc.mono ?_
              rintro e w9 ⟨rfl, hb⟩
              dsimp only
              have HB89 := Lib.hid (HB8D.out.trans (hb.mono HB8D.out.size))
              have hS9 := hS.below hb
              clear hc hb hS
              refine ⟨hS9, ?_⟩
              have hS := hS9
              clear hS9
              try simp only [List.getElem_toArray, List.getElem_cons_succ, List.getElem_cons_zero, Act.put, List.setIfInBounds_toArray, List.set_cons_zero, List.set_cons_succ]
              refine wpAnyH_take (i := 12) (v := ?_) rfl (by kernel_rfl) (by kernel_rfl) (by kernel_rfl) (fun _ _ _ h => h) (Or.inl ⟨by rfl, ?_⟩) hS ?_
              rotate_left
              · (intro W hSw; obtain ⟨q0, q1, q2, q3⟩ := hSw; go_simp; try with_reducible rfl)
              try simp only [List.getElem_toArray, List.getElem_cons_succ, List.getElem_cons_zero, Act.put, List.setIfInBounds_toArray, List.set_cons_zero, List.set_cons_succ]
              refine wpAnyH_take (i := 13) (v := ?_) rfl (by kernel_rfl) (by kernel_rfl) (by kernel_rfl) (fun _ _ _ h => h) (Or.inl ⟨by rfl, ?_⟩) hS ?_
              rotate_left
              · (intro W hSw; obtain ⟨q0, q1, q2, q3⟩ := hSw; go_simp; try with_reducible rfl)
              try simp only [List.getElem_toArray, List.getElem_cons_succ, List.getElem_cons_zero, Act.put, List.setIfInBounds_toArray, List.set_cons_zero, List.set_cons_succ]
              refine wpAnyH_done (by kernel_rfl) ?_ _
              try simp only [List.getElem_toArray, List.getElem_cons_succ, List.getElem_cons_zero, Act.put, List.setIfInBounds_toArray, List.set_cons_zero, List.set_cons_succ]
              clear hS
              go_wp2_with fail
              exact ⟨⟨i + 1, hlt, by push_cast; rfl, HB89.out⟩, by simp [intOf]; omega⟩
          · have hin : nw = i := by omega
            subst hin
            have hlti : ¬ (nw : Int) < (nw : Int) := by omega
            clear hlt
            go_wp2_with fail
            refine (r4size_any ow (by omega) _).mono ?_
            rintro e w' ⟨rfl, rfl⟩
            rw [size_four ow (by omega)]
            go_wp2_with fail
            refine (r4size_any s (by omega) _).mono ?_
            rintro e w' ⟨rfl, rfl⟩
            rw [size_four s (by omega)]
            obtain ⟨so, hso⟩ : ∃ x, x = sizeJ 4 ow := ⟨_, rfl⟩
            obtain ⟨sw, hsw⟩ : ∃ x, x = sizeJ 4 s := ⟨_, rfl⟩
            rw [← hso, ← hsw] at k1 k2
            rw [← hso, ← hsw]
            have HSW := Lib.hid (And.intro hso hsw)
            clear hso hsw
            by_cases hgt : sw < so
            · have hgi : (sw : Int) < (so : Int) := by omega
              clear hgt k1 k2
              go_wp2_with fail
              refine (lawake_any _ (HTZ.out.below HBwr.out h1z)).mono ?_
              rintro e w9 ⟨rfl, hb9⟩
              dsimp only
              have HB9 := Lib.hid (HBwr.out.trans (hb9.mono HBwr.out.size))
              clear hb9
              go_wp2_with fail
              go_ret
              exact ⟨rfl, HB9.out⟩
            · have hgi : ¬ (sw : Int) < (so : Int) := by omega
              have hsoe : so = sw := by omega
              have hso9 : (s : Int) ≤ (ow : Int) := by have := k2 hsoe.symm; omega
              clear hgt k1 k2
              subst hsoe
              go_wp2_with fail
              refine (r4size_any ow (by omega) _).mono ?_
              rintro e w' ⟨rfl, rfl⟩
              rw [size_four ow (by omega)]
              rw [← HSW.out.1]
              go_wp2_with fail
              refine (r4size_any s (by omega) _).mono ?_
              rintro e w' ⟨rfl, rfl⟩
              rw [size_four s (by omega)]
              rw [← HSW.out.2]
              go_wp2_with fail
              refine (lawake_any _ (HTZ.out.below HBwr.out h1z)).mono ?_
              rintro e w9 ⟨rfl, hb9⟩
              dsimp only
              have HB9 := Lib.hid (HBwr.out.trans (hb9.mono HBwr.out.size))
              clear hb9
              go_wp2_with fail
              go_ret
              exact ⟨rfl, HB9.out⟩
      | true =>
        obtain ⟨h1, h2⟩ := HBM.out.2 ow (by omega) hco
        obtain ⟨so, hso⟩ : ∃ x, x = sizeJ 4 ow := ⟨_, rfl⟩
        rw [← hso] at h1 h2
        have HSO := Lib.hid hso
        have hs1 : ¬ (mm : Int) < (so : Int) := by omega
        clear hco hso
        by_cases hse : so = mm
        · have hob : ¬ (ow : Int) < (b : Int) := by have := h2 hse; omega
          clear h1 h2
          have hse := hse.symm
          subst hse
          go_wp2_with fail
          refine (r4size_any b (by omega) _).mono ?_
          rintro e w' ⟨rfl, rfl⟩
          rw [size_four b (by omega)]
          rw [← HMM.out]
          go_wp2_with fail
          have hc := lcan_any j HV.out b (by omega) (.slice ao nb cap) (.slice ao2 nw cap2) w5 (HBS.out.later HBw5.out.size (fun k h1 _ => HBw5.out.block k h1)).low9 (HWS.out.later HBw5.out.size (fun k h1 _ => HBw5.out.block k h1)).low9 (HTZ.out.below HBw5.out h1z)
          rw [HJV.out] at hc
          refine hc.mono ?_
          rintro e w6 ⟨rfl, hb⟩
          clear hc c0 c1 c2 c3
          dsimp only
          have HXw6 := Lib.hid ((hb.block _ (lt_of_block HXw5.out)).trans HXw5.out)
          have HBw6 := Lib.hid (HBw5.out.trans (hb.mono HBw5.out.size))
          clear hb
          have c0 : w6.cell? ⟨w.heap.size, 0, none⟩ = some (.slice ao nb cap) := by rw [cell_of_row _ _ _ _ _ _ HXw6.out]; rfl
          have c1 : w6.cell? ⟨w.heap.size, 1, none⟩ = some (.int .i64 fl) := by rw [cell_of_row _ _ _ _ _ _ HXw6.out]; rfl
          have c2 : w6.cell? ⟨w.heap.size, 2, none⟩ = some (.int .i64 fh) := by rw [cell_of_row _ _ _ _ _ _ HXw6.out]; rfl
          have c3 : w6.cell? ⟨w.heap.size, 3, none⟩ = some (.slice ao2 nw cap2) := by rw [cell_of_row _ _ _ _ _ _ HXw6.out]; rfl
          rw [HBM.out.1]
          go_wp2_with fail
          have hc := lcan_any j HV.out ev (by omega) (.slice ao nb cap) (.slice ao2 nw cap2) w6 (HBS.out.later HBw6.out.size (fun k h1 _ => HBw6.out.block k h1)).low9 (HWS.out.later HBw6.out.size (fun k h1 _ => HBw6.out.block k h1)).low9 (HTZ.out.below HBw6.out h1z)
          rw [HJV.out] at hc
          refine hc.mono ?_
          rintro e w7 ⟨rfl, hb⟩
          clear hc c0 c1 c2 c3
          dsimp only
          have HXw7 := Lib.hid ((hb.block _ (lt_of_block HXw6.out)).trans HXw6.out)
          have HBw7 := Lib.hid (HBw6.out.trans (hb.mono HBw6.out.size))
          clear hb
          have c0 : w7.cell? ⟨w.heap.size, 0, none⟩ = some (.slice ao nb cap) := by rw [cell_of_row _ _ _ _ _ _ HXw7.out]; rfl
          have c1 : w7.cell? ⟨w.heap.size, 1, none⟩ = some (.int .i64 fl) := by rw [cell_of_row _ _ _ _ _ _ HXw7.out]; rfl
          have c2 : w7.cell? ⟨w.heap.size, 2, none⟩ = some (.int .i64 fh) := by rw [cell_of_row _ _ _ _ _ _ HXw7.out]; rfl
          have c3 : w7.cell? ⟨w.heap.size, 3, none⟩ = some (.slice ao2 nw cap2) := by rw [cell_of_row _ _ _ _ _ _ HXw7.out]; rfl
          rw [HCE.out]
          go_wp2_with fail
          refine (r4size_any ow (by omega) _).mono ?_
          rintro e w' ⟨rfl, rfl⟩
          rw [size_four ow (by omega)]
          rw [← HSO.out]
          go_wp2_with fail
          refine (r4size_any ow (by omega) _).mono ?_
          rintro e w' ⟨rfl, rfl⟩
          rw [size_four ow (by omega)]
          rw [← HSO.out]
          go_wp2_with fail
          have hc := lcan_any j HV.out s (by omega) (.slice ao nb cap) (.slice ao2 nw cap2) w7 (HBS.out.later HBw7.out.size (fun k h1 _ => HBw7.out.block k h1)).low9 (HWS.out.later HBw7.out.size (fun k h1 _ => HBw7.out.block k h1)).low9 (HTZ.out.below HBw7.out h1z)
          rw [HJV.out] at hc
          refine hc.mono ?_
          rintro e w8 ⟨rfl, hb⟩
          clear hc c0 c1 c2 c3
          dsimp only
          have HXw8 := Lib.hid ((hb.block _ (lt_of_block HXw7.out)).trans HXw7.out)
          have HBw8 := Lib.hid (HBw7.out.trans (hb.mono HBw7.out.size))
          clear hb
          have c0 : w8.cell? ⟨w.heap.size, 0, none⟩ = some (.slice ao nb cap) := by rw [cell_of_row _ _ _ _ _ _ HXw8.out]; rfl
          have c1 : w8.cell? ⟨w.heap.size, 1, none⟩ = some (.int .i64 fl) := by rw [cell_of_row _ _ _ _ _ _ HXw8.out]; rfl
          have c2 : w8.cell? ⟨w.heap.size, 2, none⟩ = some (.int .i64 fh) := by rw [cell_of_row _ _ _ _ _ _ HXw8.out]; rfl
          have c3 : w8.cell? ⟨w.heap.size, 3, none⟩ = some (.slice ao2 nw cap2) := by rw [cell_of_row _ _ _ _ _ _ HXw8.out]; rfl
          rw [HSM.out.1]
          go_wp2_with fail
          clear c0 c1 c2 c3
          go_loopw [137] (fun iv wr => ∃ i : Nat, i ≤ nw ∧ iv = .int .i64 i ∧ Below w8.heap.size w8 wr) (fun iv _ => nw - (intOf iv).toNat)
          case atStart => exact ⟨0, Nat.zero_le _, rfl, Below.refl _ _⟩
          case round =>
            obtain ⟨i, hi, rfl, hb⟩ := hrel
            have HXwr := Lib.hid ((hb.block _ (lt_of_block HXw8.out)).trans HXw8.out)
            have HBwr := Lib.hid (HBw8.out.trans (hb.mono HBw8.out.size))
            have HB8 := Lib.hid hb
            clear hb
            by_cases hlt : i < nw
            · have hw : IntKind.i64.wrap ((i : Int) + 1) = ((i + 1 : Nat) : Int) := by rw [IntWalk.i64_in _ (by omega)]; omega
              have hlti : (i : Int) < (nw : Int) := by omega
              have hi0 : 0 ≤ (i : Int) := by omega
              have hb1 := bit1_i64 ⟨i, by omega⟩ ⟨s, by omega⟩
              dsimp only at hb1
              go_upto_region 19 with fail
              have hS0 : SM w.heap.size (.slice ao nb cap) (.slice ao2 nw cap2) fl fh wr := ⟨by rw [cell_of_row _ _ _ _ _ _ HXwr.out]; rfl, by rw [cell_of_row _ _ _ _ _ _ HXwr.out]; rfl, by rw [cell_of_row _ _ _ _ _ _ HXwr.out]; rfl, by rw [cell_of_row _ _ _ _ _ _ HXwr.out]; rfl⟩
              refine wp_region_held_drew (S := SM w.heap.size (.slice ao nb cap) (.slice ao2 nw cap2) fl fh) (by kernel_rfl) (hS0.below (Below.refl _ _).drew) fun hS => ?_
              obtain ⟨D, hD⟩ : ∃ D, D = wr.drew := ⟨_, rfl⟩
              have hAD : Below wr.heap.size wr D := by rw [hD]; exact (Below.refl _ _).drew
              rw [← hD] at hS ⊢
              have HXD := Lib.hid ((hAD.block _ (lt_of_block HXwr.out)).trans HXwr.out)
              have HBD := Lib.hid (HBwr.out.trans (hAD.mono HBwr.out.size))
              have HB8D := Lib.hid (HB8.out.trans (hAD.mono HB8.out.size))
              clear hD hAD hS0
              cases hbit : s.testBit i with
              | false =>
                rw [hbit] at hb1
                clear hbit
                refine wpAnyH_take (i := 0) (v := ?_) rfl (by kernel_rfl) (by kernel_rfl) (by kernel_rfl) (fun _ _ _ h => h) (Or.inl ⟨by rfl, ?_⟩) hS ?_
                rotate_left
                · (intro W hSw; obtain ⟨q0, q1, q2, q3⟩ := hSw; go_simp; try with_reducible rfl)
                try simp only [List.getElem_toArray, List.getElem_cons_succ, List.getElem_cons_zero, Act.put, List.setIfInBounds_toArray, List.set_cons_zero, List.set_cons_succ]
                refine wpAnyH_take (i := 1) (v := ?_) rfl (by kernel_rfl) (by kernel_rfl) (by kernel_rfl) (fun _ _ _ h => h) (Or.inl ⟨by rfl, ?_⟩) hS ?_
                rotate_left
                · (intro W hSw; obtain ⟨q0, q1, q2, q3⟩ := hSw; go_simp; try with_reducible rfl)
                try simp only [List.getElem_toArray, List.getElem_cons_succ, List.getElem_cons_zero, Act.put, List.setIfInBounds_toArray, List.set_cons_zero, List.set_cons_succ]
                refine wpAnyH_take (i := 2) (v := ?_) rfl (by kernel_rfl) (by kernel_rfl) (by kernel_rfl) (fun _ _ _ h => h) (Or.inl ⟨by rfl, ?_⟩) hS ?_
                rotate_left
                · (intro W hSw; obtain ⟨q0, q1, q2, q3⟩ := hSw; go_simp; try with_reducible rfl)
                try simp only [List.getElem_toArray, List.getElem_cons_succ, List.getElem_cons_zero, Act.put, List.setIfInBounds_toArray, List.set_cons_zero, List.set_cons_succ]
                refine wpAnyH_take (i := 3) (v := ?_) rfl (by kernel_rfl) (by kernel_rfl) (by kernel_rfl) (fun _ _ _ h => h) (Or.inl ⟨by rfl, ?_⟩) hS ?_
                rotate_left
                · (intro W hSw; obtain ⟨q0, q1, q2, q3⟩ := hSw; go_simp; try with_reducible rfl)
                try simp only [List.getElem_toArray, List.getElem_cons_succ, List.getElem_cons_zero, Act.put, List.setIfInBounds_toArray, List.set_cons_zero, List.set_cons_succ]
                refine wpAnyH_take (i := 4) (v := ?_) rfl (by kernel_rfl) (by kernel_rfl) (by kernel_rfl) (fun _ _ _ h => h) (Or.inl ⟨by rfl, ?_⟩) hS ?_
                rotate_left
                · (intro W hSw; obtain ⟨q0, q1, q2, q3⟩ := hSw; go_simp; try with_reducible rfl)
                try simp only [List.getElem_toArray, List.getElem_cons_succ, List.getElem_cons_zero, Act.put, List.setIfInBounds_toArray, List.set_cons_zero, List.set_cons_succ]
                refine wpAnyH_take (i := 5) (v := ?_) rfl (by kernel_rfl) (by kernel_rfl) (by kernel_rfl) (fun _ _ _ h => h) (Or.inl ⟨by rfl, ?_⟩) hS ?_
                rotate_left
                · (intro W hSw; obtain ⟨q0, q1, q2, q3⟩ := hSw; go_simp; try with_reducible rfl)
                try simp only [List.getElem_toArray, List.getElem_cons_succ, List.getElem_cons_zero, Act.put, List.setIfInBounds_toArray, List.set_cons_zero, List.set_cons_succ]
                refine wpAnyH_take (i := 6) (v := undef) rfl (by kernel_rfl) (by kernel_rfl) (by kernel_rfl) (fun _ _ _ h => h) (Or.inr ⟨by rfl, rfl⟩) hS ?_
                try simp only [List.getElem_toArray, List.getElem_cons_succ, List.getElem_cons_zero, Act.put, List.setIfInBounds_toArray, List.set_cons_zero, List.set_cons_succ]
                refine wpAnyH_take (i := 7) (v := undef) rfl (by kernel_rfl) (by kernel_rfl) (by kernel_rfl) (fun _ _ _ h => h) (Or.inr ⟨by rfl, rfl⟩) hS ?_
                try simp only [List.getElem_toArray, List.getElem_cons_succ, List.getElem_cons_zero, Act.put, List.setIfInBounds_toArray, List.set_cons_zero, List.set_cons_succ]
                refine wpAnyH_take (i := 8) (v := undef) rfl (by kernel_rfl) (by kernel_rfl) (by kernel_rfl) (fun _ _ _ h => h) (Or.inr ⟨by rfl, rfl⟩) hS ?_
                try simp only [List.getElem_toArray, List.getElem_cons_succ, List.getElem_cons_zero, Act.put, List.setIfInBounds_toArray, List.set_cons_zero, List.set_cons_succ]
                refine wpAnyH_take (i := 9) (v := undef) rfl (by kernel_rfl) (by kernel_rfl) (by kernel_rfl) (fun _ _ _ h => h) (Or.inr ⟨by rfl, rfl⟩) hS ?_
                try simp only [List.getElem_toArray, List.getElem_cons_succ, List.getElem_cons_zero, Act.put, List.setIfInBounds_toArray, List.set_cons_zero, List.set_cons_succ]
                refine wpAnyH_take (i := 10) (v := undef) rfl (by kernel_rfl) (by kernel_rfl) (by kernel_rfl) (fun _ _ _ h => h) (Or.inr ⟨by rfl, rfl⟩) hS ?_
                try simp only [List.getElem_toArray, List.getElem_cons_succ, List.getElem_cons_zero, Act.put, List.setIfInBounds_toArray, List.set_cons_zero, List.set_cons_succ]
                refine wpAnyH_take (i := 11) (v := undef) rfl (by kernel_rfl) (by kernel_rfl) (by kernel_rfl) (fun _ _ _ h => h) (Or.inr ⟨by rfl, rfl⟩) hS ?_
                try simp only [List.getElem_toArray, List.getElem_cons_succ, List.getElem_cons_zero, Act.put, List.setIfInBounds_toArray, List.set_cons_zero, List.set_cons_succ]
                refine wpAnyH_take (i := 12) (v := undef) rfl (by kernel_rfl) (by kernel_rfl) (by kernel_rfl) (fun _ _ _ h => h) (Or.inr ⟨by rfl, rfl⟩) hS ?_
                try simp only [List.getElem_toArray, List.getElem_cons_succ, List.getElem_cons_zero, Act.put, List.setIfInBounds_toArray, List.set_cons_zero, List.set_cons_succ]
                refine wpAnyH_take (i := 13) (v := ?_) rfl (by kernel_rfl) (by kernel_rfl) (by kernel_rfl) (fun _ _ _ h => h) (Or.inl ⟨by rfl, ?_⟩) hS ?_
                rotate_left
                · (intro W hSw; obtain ⟨q0, q1, q2, q3⟩ := hSw; go_simp; try with_reducible rfl)
                try simp only [List.getElem_toArray, List.getElem_cons_succ, List.getElem_cons_zero, Act.put, List.setIfInBounds_toArray, List.set_cons_zero, List.set_cons_succ]
                refine wpAnyH_done (by kernel_rfl) ?_ _
                try simp only [List.getElem_toArray, List.getElem_cons_succ, List.getElem_cons_zero, Act.put, List.setIfInBounds_toArray, List.set_cons_zero, List.set_cons_succ]
                clear hS
                go_wp2_with fail
                exact ⟨⟨i + 1, hlt, by push_cast; rfl, HB8D.out⟩, by simp [intOf]; omega⟩
              | true =>
                have hle := size_less s (by omega) i (by omega) hbit
                rw [hbit] at hb1
                have hs8 := shl_one ⟨i, by omega⟩
                dsimp only at hs8
                have hPle : 2 ^ i ≤ 8 := (Nat.pow_le_pow_right (by decide) (by omega : i ≤ 3) : _ ≤ 2 ^ 3)
                have haf8 : afterJ s (2 ^ i) < 2 ^ nw := afterJ_lt nw s (2 ^ i) hs2
                have hcn : canD j (afterJ s (2 ^ i)) = true := by
                  cases h : canD j (afterJ s (2 ^ i)) with
                  | true => rfl
                  | false => have := (HSM.out.2 _ haf8 h).1; omega
                have hand9 := andn_i64 s (2 ^ i) (by omega) (by omega)
                obtain ⟨af, haf⟩ : ∃ x, x = afterJ s (2 ^ i) := ⟨_, rfl⟩
                rw [← haf] at haf8 hcn hand9
                obtain ⟨P, hP⟩ : ∃ P, P = 2 ^ i := ⟨_, rfl⟩
                rw [← hP] at hs8 hand9
                have hs9 : wrap64 (2 ^ i) = (P : Int) := by rw [← hs8]
                have hP2 : (2 : Int) ^ i = (P : Int) := by rw [hP]; simp
                have hP8 : P ≤ 8 := by rw [hP]; exact hPle
                have hs10 : IntKind.i64.wrap (2 ^ i) = (P : Int) := by rw [hP2]; exact IntWalk.i64_in _ (by omega)
                have HCN := Lib.hid hcn
                clear hle hPle haf hcn hP hs8 hbit hP2 hP8
                refine wpAnyH_take (i := 0) (v := ?_) rfl (by kernel_rfl) (by kernel_rfl) (by kernel_rfl) (fun _ _ _ h => h) (Or.inl ⟨by rfl, ?_⟩) hS ?_
                rotate_left
                · (intro W hSw; obtain ⟨q0, q1, q2, q3⟩ := hSw; go_simp; try with_reducible rfl)
                try simp only [List.getElem_toArray, List.getElem_cons_succ, List.getElem_cons_zero, Act.put, List.setIfInBounds_toArray, List.set_cons_zero, List.set_cons_succ]
                refine wpAnyH_take (i := 1) (v := ?_) rfl (by kernel_rfl) (by kernel_rfl) (by kernel_rfl) (fun _ _ _ h => h) (Or.inl ⟨by rfl, ?_⟩) hS ?_
                rotate_left
                · (intro W hSw; obtain ⟨q0, q1, q2, q3⟩ := hSw; go_simp; try with_reducible rfl)
                try simp only [List.getElem_toArray, List.getElem_cons_succ, List.getElem_cons_zero, Act.put, List.setIfInBounds_toArray, List.set_cons_zero, List.set_cons_succ]
                refine wpAnyH_take (i := 2) (v := ?_) rfl (by kernel_rfl) (by kernel_rfl) (by kernel_rfl) (fun _ _ _ h => h) (Or.inl ⟨by rfl, ?_⟩) hS ?_
                rotate_left
                · (intro W hSw; obtain ⟨q0, q1, q2, q3⟩ := hSw; go_simp; try with_reducible rfl)
                try simp only [List.getElem_toArray, List.getElem_cons_succ, List.getElem_cons_zero, Act.put, List.setIfInBounds_toArray, List.set_cons_zero, List.set_cons_succ]
                refine wpAnyH_take (i := 3) (v := ?_) rfl (by kernel_rfl) (by kernel_rfl) (by kernel_rfl) (fun _ _ _ h => h) (Or.inl ⟨by rfl, ?_⟩) hS ?_
                rotate_left
                · (intro W hSw; obtain ⟨q0, q1, q2, q3⟩ := hSw; go_simp; try with_reducible rfl)
                try simp only [List.getElem_toArray, List.getElem_cons_succ, List.getElem_cons_zero, Act.put, List.setIfInBounds_toArray, List.set_cons_zero, List.set_cons_succ]
                refine wpAnyH_take (i := 4) (v := ?_) rfl (by kernel_rfl) (by kernel_rfl) (by kernel_rfl) (fun _ _ _ h => h) (Or.inl ⟨by rfl, ?_⟩) hS ?_
                rotate_left
                · (intro W hSw; obtain ⟨q0, q1, q2, q3⟩ := hSw; go_simp; try with_reducible rfl)
                try simp only [List.getElem_toArray, List.getElem_cons_succ, List.getElem_cons_zero, Act.put, List.setIfInBounds_toArray, List.set_cons_zero, List.set_cons_succ]
                refine wpAnyH_take (i := 5) (v := ?_) rfl (by kernel_rfl) (by kernel_rfl) (by kernel_rfl) (fun _ _ _ h => h) (Or.inl ⟨by rfl, ?_⟩) hS ?_
                rotate_left
                · (intro W hSw; obtain ⟨q0, q1, q2, q3⟩ := hSw; go_simp; try with_reducible rfl)
                try simp only [List.getElem_toArray, List.getElem_cons_succ, List.getElem_cons_zero, Act.put, List.setIfInBounds_toArray, List.set_cons_zero, List.set_cons_succ]
                refine wpAnyH_take (i := 6) (v := ?_) rfl (by kernel_rfl) (by kernel_rfl) (by kernel_rfl) (fun _ _ _ h => h) (Or.inl ⟨by rfl, ?_⟩) hS ?_
                rotate_left
                · (intro W hSw; obtain ⟨q0, q1, q2, q3⟩ := hSw; go_simp; try with_reducible rfl)
                try simp only [List.getElem_toArray, List.getElem_cons_succ, List.getElem_cons_zero, Act.put, List.setIfInBounds_toArray, List.set_cons_zero, List.set_cons_succ]
                refine wpAnyH_take (i := 7) (v := ?_) rfl (by kernel_rfl) (by kernel_rfl) (by kernel_rfl) (fun _ _ _ h => h) (Or.inl ⟨by rfl, ?_⟩) hS ?_
                rotate_left
                · (intro W hSw; obtain ⟨q0, q1, q2, q3⟩ := hSw; go_simp; try with_reducible rfl)
                try simp only [List.getElem_toArray, List.getElem_cons_succ, List.getElem_cons_zero, Act.put, List.setIfInBounds_toArray, List.set_cons_zero, List.set_cons_succ]
                refine wpAnyH_take (i := 8) (v := ?_) rfl (by kernel_rfl) (by kernel_rfl) (by kernel_rfl) (fun _ _ _ h => h) (Or.inl ⟨by rfl, ?_⟩) hS ?_
                rotate_left
                · (intro W hSw; obtain ⟨q0, q1, q2, q3⟩ := hSw; go_simp; try with_reducible rfl)
                try simp only [List.getElem_toArray, List.getElem_cons_succ, List.getElem_cons_zero, Act.put, List.setIfInBounds_toArray, List.set_cons_zero, List.set_cons_succ]
                refine wpAnyH_take (i := 9) (v := ?_) rfl (by kernel_rfl) (by kernel_rfl) (by kernel_rfl) (fun _ _ _ h => h) (Or.inl ⟨by rfl, ?_⟩) hS ?_
                rotate_left
                · (intro W hSw; obtain ⟨q0, q1, q2, q3⟩ := hSw; go_simp; try with_reducible rfl)
                try simp only [List.getElem_toArray, List.getElem_cons_succ, List.getElem_cons_zero, Act.put, List.setIfInBounds_toArray, List.set_cons_zero, List.set_cons_succ]
                refine wpAnyH_take (i := 10) (v := ?_) rfl (by kernel_rfl) (by kernel_rfl) (by kernel_rfl) (fun _ _ _ h => h) (Or.inl ⟨by rfl, ?_⟩) hS ?_
                rotate_left
                · (intro W hSw; obtain ⟨q0, q1, q2, q3⟩ := hSw; go_simp; try with_reducible rfl)
                try simp only [List.getElem_toArray, List.getElem_cons_succ, List.getElem_cons_zero, Act.put, List.setIfInBounds_toArray, List.set_cons_zero, List.set_cons_succ]
                have hc := lcan_any j HV.out af (by omega) (.slice ao nb cap) (.slice ao2 nw cap2) D (HBS.out.later HBD.out.size (fun k h1 _ => HBD.out.block k h1)).low9 (HWS.out.later HBD.out.size (fun k h1 _ => HBD.out.block k h1)).low9 (HTZ.out.below HBD.out h1z)
                rw [HJV.out, HCN.out] at hc
                refine wpAnyH_call (k := 11) (by kernel_rfl) rfl rfl (f := 37) (args := #[.agg #[.slice ao nb cap, .int .i64 fl, .int .i64 fh, .slice ao2 nw cap2], .int .i64 af]) (by simp [execOp, go_sem, Act.eval, Act.put]) ?_
                refine hc.mono ?_
                rintro e w9 ⟨rfl, hb⟩
                dsimp only
                have HB89 := Lib.hid (HB8D.out.trans (hb.mono HB8D.out.size))
                have hS9 := hS.below hb
                clear hc hb hS
                refine ⟨hS9, ?_⟩
                have hS := hS9
                clear hS9
                try simp only [List.getElem_toArray, List.getElem_cons_succ, List.getElem_cons_zero, Act.put, List.setIfInBounds_toArray, List.set_cons_zero, List.set_cons_succ]
                refine wpAnyH_take (i := 12) (v := ?_) rfl (by kernel_rfl) (by kernel_rfl) (by kernel_rfl) (fun _ _ _ h => h) (Or.inl ⟨by rfl, ?_⟩) hS ?_
                rotate_left
                · (intro W hSw; obtain ⟨q0, q1, q2, q3⟩ := hSw; go_simp; try with_reducible rfl)
                try simp only [List.getElem_toArray, List.getElem_cons_succ, List.getElem_cons_zero, Act.put, List.setIfInBounds_toArray, List.set_cons_zero, List.set_cons_succ]
                refine wpAnyH_take (i := 13) (v := ?_) rfl (by kernel_rfl) (by kernel_rfl) (by kernel_rfl) (fun _ _ _ h => h) (Or.inl ⟨by rfl, ?_⟩) hS ?_
                rotate_left
                · (intro W hSw; obtain ⟨q0, q1, q2, q3⟩ := hSw; go_simp; try with_reducible rfl)
                try simp only [List.getElem_toArray, List.getElem_cons_succ, List.getElem_cons_zero, Act.put, List.setIfInBounds_toArray, List.set_cons_zero, List.set_cons_succ]
                refine wpAnyH_done (by kernel_rfl) ?_ _
                try simp only [List.getElem_toArray, List.getElem_cons_succ, List.getElem_cons_zero, Act.put, List.setIfInBounds_toArray, List.set_cons_zero, List.set_cons_succ]
                clear hS
                go_wp2_with fail
                exact ⟨⟨i + 1, hlt, by push_cast; rfl, HB89.out⟩, by simp [intOf]; omega⟩
            · have hin : nw = i := by omega
              subst hin
              have hlti : ¬ (nw : Int) < (nw : Int) := by omega
              clear hlt
              go_wp2_with fail
              refine (lawake_any _ (HTZ.out.below HBwr.out h1z)).mono ?_
              rintro e w9 ⟨rfl, hb9⟩
              dsimp only
              have HB9 := Lib.hid (HBwr.out.trans (hb9.mono HBwr.out.size))
              clear hb9
              go_wp2_with fail
              go_ret
              exact ⟨rfl, HB9.out⟩
        · have hse2 : ¬ (so : Int) = (mm : Int) := by omega
          have hse3 : ((so : Int) == (mm : Int)) = false := by rw [beq_eq_false_iff_ne]; omega
          clear h1 h2 hse
          go_wp2_with fail
          refine (r4size_any b (by omega) _).mono ?_
          rintro e w' ⟨rfl, rfl⟩
          rw [size_four b (by omega)]
          rw [← HMM.out]
          go_wp2_with fail
          have hc := lcan_any j HV.out b (by omega) (.slice ao nb cap) (.slice ao2 nw cap2) w5 (HBS.out.later HBw5.out.size (fun k h1 _ => HBw5.out.block k h1)).low9 (HWS.out.later HBw5.out.size (fun k h1 _ => HBw5.out.block k h1)).low9 (HTZ.out.below HBw5.out h1z)
          rw [HJV.out] at hc
          refine hc.mono ?_
          rintro e w6 ⟨rfl, hb⟩
          clear hc c0 c1 c2 c3
          dsimp only
          have HXw6 := Lib.hid ((hb.block _ (lt_of_block HXw5.out)).trans HXw5.out)
          have HBw6 := Lib.hid (HBw5.out.trans (hb.mono HBw5.out.size))
          clear hb
          have c0 : w6.cell? ⟨w.heap.size, 0, none⟩ = some (.slice ao nb cap) := by rw [cell_of_row _ _ _ _ _ _ HXw6.out]; rfl
          have c1 : w6.cell? ⟨w.heap.size, 1, none⟩ = some (.int .i64 fl) := by rw [cell_of_row _ _ _ _ _ _ HXw6.out]; rfl
          have c2 : w6.cell? ⟨w.heap.size, 2, none⟩ = some (.int .i64 fh) := by rw [cell_of_row _ _ _ _ _ _ HXw6.out]; rfl
          have c3 : w6.cell? ⟨w.heap.size, 3, none⟩ = some (.slice ao2 nw cap2) := by rw [cell_of_row _ _ _ _ _ _ HXw6.out]; rfl
          rw [HBM.out.1]
          go_wp2_with fail
          have hc := lcan_any j HV.out ev (by omega) (.slice ao nb cap) (.slice ao2 nw cap2) w6 (HBS.out.later HBw6.out.size (fun k h1 _ => HBw6.out.block k h1)).low9 (HWS.out.later HBw6.out.size (fun k h1 _ => HBw6.out.block k h1)).low9 (HTZ.out.below HBw6.out h1z)
          rw [HJV.out] at hc
          refine hc.mono ?_
          rintro e w7 ⟨rfl, hb⟩
          clear hc c0 c1 c2 c3
          dsimp only
          have HXw7 := Lib.hid ((hb.block _ (lt_of_block HXw6.out)).trans HXw6.out)
          have HBw7 := Lib.hid (HBw6.out.trans (hb.mono HBw6.out.size))
          clear hb
          have c0 : w7.cell? ⟨w.heap.size, 0, none⟩ = some (.slice ao nb cap) := by rw [cell_of_row _ _ _ _ _ _ HXw7.out]; rfl
          have c1 : w7.cell? ⟨w.heap.size, 1, none⟩ = some (.int .i64 fl) := by rw [cell_of_row _ _ _ _ _ _ HXw7.out]; rfl
          have c2 : w7.cell? ⟨w.heap.size, 2, none⟩ = some (.int .i64 fh) := by rw [cell_of_row _ _ _ _ _ _ HXw7.out]; rfl
          have c3 : w7.cell? ⟨w.heap.size, 3, none⟩ = some (.slice ao2 nw cap2) := by rw [cell_of_row _ _ _ _ _ _ HXw7.out]; rfl
          rw [HCE.out]
          go_wp2_with fail
          refine (r4size_any ow (by omega) _).mono ?_
          rintro e w' ⟨rfl, rfl⟩
          rw [size_four ow (by omega)]
          rw [← HSO.out]
          go_wp2_with fail
          refine (r4size_any ow (by omega) _).mono ?_
          rintro e w' ⟨rfl, rfl⟩
          rw [size_four ow (by omega)]
          rw [← HSO.out]
          go_wp2_with fail
          have hc := lcan_any j HV.out s (by omega) (.slice ao nb cap) (.slice ao2 nw cap2) w7 (HBS.out.later HBw7.out.size (fun k h1 _ => HBw7.out.block k h1)).low9 (HWS.out.later HBw7.out.size (fun k h1 _ => HBw7.out.block k h1)).low9 (HTZ.out.below HBw7.out h1z)
          rw [HJV.out] at hc
          refine hc.mono ?_
          rintro e w8 ⟨rfl, hb⟩
          clear hc c0 c1 c2 c3
          dsimp only
          have HXw8 := Lib.hid ((hb.block _ (lt_of_block HXw7.out)).trans HXw7.out)
          have HBw8 := Lib.hid (HBw7.out.trans (hb.mono HBw7.out.size))
          clear hb
          have c0 : w8.cell? ⟨w.heap.size, 0, none⟩ = some (.slice ao nb cap) := by rw [cell_of_row _ _ _ _ _ _ HXw8.out]; rfl
          have c1 : w8.cell? ⟨w.heap.size, 1, none⟩ = some (.int .i64 fl) := by rw [cell_of_row _ _ _ _ _ _ HXw8.out]; rfl
          have c2 : w8.cell? ⟨w.heap.size, 2, none⟩ = some (.int .i64 fh) := by rw [cell_of_row _ _ _ _ _ _ HXw8.out]; rfl
          have c3 : w8.cell? ⟨w.heap.size, 3, none⟩ = some (.slice ao2 nw cap2) := by rw [cell_of_row _ _ _ _ _ _ HXw8.out]; rfl
          rw [HSM.out.1]
          go_wp2_with fail
          clear c0 c1 c2 c3
          go_loopw [137] (fun iv wr => ∃ i : Nat, i ≤ nw ∧ iv = .int .i64 i ∧ Below w8.heap.size w8 wr) (fun iv _ => nw - (intOf iv).toNat)
          case atStart => exact ⟨0, Nat.zero_le _, rfl, Below.refl _ _⟩
          case round =>
            obtain ⟨i, hi, rfl, hb⟩ := hrel
            have HXwr := Lib.hid ((hb.block _ (lt_of_block HXw8.out)).trans HXw8.out)
            have HBwr := Lib.hid (HBw8.out.trans (hb.mono HBw8.out.size))
            have HB8 := Lib.hid hb
            clear hb
            by_cases hlt : i < nw
            · have hw : IntKind.i64.wrap ((i : Int) + 1) = ((i + 1 : Nat) : Int) := by rw [IntWalk.i64_in _ (by omega)]; omega
              have hlti : (i : Int) < (nw : Int) := by omega
              have hi0 : 0 ≤ (i : Int) := by omega
              have hb1 := bit1_i64 ⟨i, by omega⟩ ⟨s, by omega⟩
              dsimp only at hb1
              go_upto_region 19 with fail
              have hS0 : SM w.heap.size (.slice ao nb cap) (.slice ao2 nw cap2) fl fh wr := ⟨by rw [cell_of_row _ _ _ _ _ _ HXwr.out]; rfl, by rw [cell_of_row _ _ _ _ _ _ HXwr.out]; rfl, by rw [cell_of_row _ _ _ _ _ _ HXwr.out]; rfl, by rw [cell_of_row _ _ _ _ _ _ HXwr.out]; rfl⟩
              refine wp_region_held_drew (S := SM w.heap.size (.slice ao nb cap) (.slice ao2 nw cap2) fl fh) (by kernel_rfl) (hS0.below (Below.refl _ _).drew) fun hS => ?_
              obtain ⟨D, hD⟩ : ∃ D, D = wr.drew := ⟨_, rfl⟩
              have hAD : Below wr.heap.size wr D := by rw [hD]; exact (Below.refl _ _).drew
              rw [← hD] at hS ⊢
              have HXD := Lib.hid ((hAD.block _ (lt_of_block HXwr.out)).trans HXwr.out)
              have HBD := Lib.hid (HBwr.out.trans (hAD.mono HBwr.out.size))
              have HB8D := Lib.hid (HB8.out.trans (hAD.mono HB8.out.size))
              clear hD hAD hS0
              cases hbit : s.testBit i with
              | false =>
                rw [hbit] at hb1
                clear hbit
                refine wpAnyH_take (i := 0) (v := ?_) rfl (by kernel_rfl) (by kernel_rfl) (by kernel_rfl) (fun _ _ _ h => h) (Or.inl ⟨by rfl, ?_⟩) hS ?_
                rotate_left
                · (intro W hSw; obtain ⟨q0, q1, q2, q3⟩ := hSw; go_simp; try with_reducible rfl)
                try simp only [List.getElem_toArray, List.getElem_cons_succ, List.getElem_cons_zero, Act.put, List.setIfInBounds_toArray, List.set_cons_zero, List.set_cons_succ]
                refine wpAnyH_take (i := 1) (v := ?_) rfl (by kernel_rfl) (by kernel_rfl) (by kernel_rfl) (fun _ _ _ h => h) (Or.inl ⟨by rfl, ?_⟩) hS ?_
                rotate_left
                · (intro W hSw; obtain ⟨q0, q1, q2, q3⟩ := hSw; go_simp; try with_reducible rfl)
                try simp only [List.getElem_toArray, List.getElem_cons_succ, List.getElem_cons_zero, Act.put, List.setIfInBounds_toArray, List.set_cons_zero, List.set_cons_succ]
                refine wpAnyH_take (i := 2) (v := ?_) rfl (by kernel_rfl) (by kernel_rfl) (by kernel_rfl) (fun _ _ _ h => h) (Or.inl ⟨by rfl, ?_⟩) hS ?_
                rotate_left
                · (intro W hSw; obtain ⟨q0, q1, q2, q3⟩ := hSw; go_simp; try with_reducible rfl)
                try simp only [List.getElem_toArray, List.getElem_cons_succ, List.getElem_cons_zero, Act.put, List.setIfInBounds_toArray, List.set_cons_zero, List.set_cons_succ]
                refine wpAnyH_take (i := 3) (v := ?_) rfl (by kernel_rfl) (by kernel_rfl) (by kernel_rfl) (fun _ _ _ h => h) (Or.inl ⟨by rfl, ?_⟩) hS ?_
                rotate_left
                · (intro W hSw; obtain ⟨q0, q1, q2, q3⟩ := hSw; go_simp; try with_reducible rfl)
                try simp only [List.getElem_toArray, List.getElem_cons_succ, List.getElem_cons_zero, Act.put, List.setIfInBounds_toArray, List.set_cons_zero, List.set_cons_succ]
                refine wpAnyH_take (i := 4) (v := ?_) rfl (by kernel_rfl) (by kernel_rfl) (by kernel_rfl) (fun _ _ _ h => h) (Or.inl ⟨by rfl, ?_⟩) hS ?_
                rotate_left
                · (intro W hSw; obtain ⟨q0, q1, q2, q3⟩ := hSw; go_simp; try with_reducible rfl)
                try simp only [List.getElem_toArray, List.getElem_cons_succ, List.getElem_cons_zero, Act.put, List.setIfInBounds_toArray, List.set_cons_zero, List.set_cons_succ]
                refine wpAnyH_take (i := 5) (v := ?_) rfl (by kernel_rfl) (by kernel_rfl) (by kernel_rfl) (fun _ _ _ h => h) (Or.inl ⟨by rfl, ?_⟩) hS ?_
                rotate_left
                · (intro W hSw; obtain ⟨q0, q1, q2, q3⟩ := hSw; go_simp; try with_reducible rfl)
                try simp only [List.getElem_toArray, List.getElem_cons_succ, List.getElem_cons_zero, Act.put, List.setIfInBounds_toArray, List.set_cons_zero, List.set_cons_succ]
                refine wpAnyH_take (i := 6) (v := undef) rfl (by kernel_rfl) (by kernel_rfl) (by kernel_rfl) (fun _ _ _ h => h) (Or.inr ⟨by rfl, rfl⟩) hS ?_
                try simp only [List.getElem_toArray, List.getElem_cons_succ, List.getElem_cons_zero, Act.put, List.setIfInBounds_toArray, List.set_cons_zero, List.set_cons_succ]
                refine wpAnyH_take (i := 7) (v := undef) rfl (by kernel_rfl) (by kernel_rfl) (by kernel_rfl) (fun _ _ _ h => h) (Or.inr ⟨by rfl, rfl⟩) hS ?_
                try simp only [List.getElem_toArray, List.getElem_cons_succ, List.getElem_cons_zero, Act.put, List.setIfInBounds_toArray, List.set_cons_zero, List.set_cons_succ]
                refine wpAnyH_take (i := 8) (v := undef) rfl (by kernel_rfl) (by kernel_rfl) (by kernel_rfl) (fun _ _ _ h => h) (Or.inr ⟨by rfl, rfl⟩) hS ?_
                try simp only [List.getElem_toArray, List.getElem_cons_succ, List.getElem_cons_zero, Act.put, List.setIfInBounds_toArray, List.set_cons_zero, List.set_cons_succ]
                refine wpAnyH_take (i := 9) (v := undef) rfl (by kernel_rfl) (by kernel_rfl) (by kernel_rfl) (fun _ _ _ h => h) (Or.inr ⟨by rfl, rfl⟩) hS ?_
                try simp only [List.getElem_toArray, List.getElem_cons_succ, List.getElem_cons_zero, Act.put, List.setIfInBounds_toArray, List.set_cons_zero, List.set_cons_succ]
                refine wpAnyH_take (i := 10) (v := undef) rfl (by kernel_rfl) (by kernel_rfl) (by kernel_rfl) (fun _ _ _ h => h) (Or.inr ⟨by rfl, rfl⟩) hS ?_
                try simp only [List.getElem_toArray, List.getElem_cons_succ, List.getElem_cons_zero, Act.put, List.setIfInBounds_toArray, List.set_cons_zero, List.set_cons_succ]
                refine wpAnyH_take (i := 11) (v := undef) rfl (by kernel_rfl) (by kernel_rfl) (by kernel_rfl) (fun _ _ _ h => h) (Or.inr ⟨by rfl, rfl⟩) hS ?_
                try simp only [List.getElem_toArray, List.getElem_cons_succ, List.getElem_cons_zero, Act.put, List.setIfInBounds_toArray, List.set_cons_zero, List.set_cons_succ]
                refine wpAnyH_take (i := 12) (v := undef) rfl (by kernel_rfl) (by kernel_rfl) (by kernel_rfl) (fun _ _ _ h => h) (Or.inr ⟨by rfl, rfl⟩) hS ?_
                try simp only [List.getElem_toArray, List.getElem_cons_succ, List.getElem_cons_zero, Act.put, List.setIfInBounds_toArray, List.set_cons_zero, List.set_cons_succ]
                refine wpAnyH_take (i := 13) (v := ?_) rfl (by kernel_rfl) (by kernel_rfl) (by kernel_rfl) (fun _ _ _ h => h) (Or.inl ⟨by rfl, ?_⟩) hS ?_
                rotate_left
                · (intro W hSw; obtain ⟨q0, q1, q2, q3⟩ := hSw; go_simp; try with_reducible rfl)
                try simp only [List.getElem_toArray, List.getElem_cons_succ, List.getElem_cons_zero, Act.put, List.setIfInBounds_toArray, List.set_cons_zero, List.set_cons_succ]
                refine wpAnyH_done (by kernel_rfl) ?_ _
                try simp only [List.getElem_toArray, List.getElem_cons_succ, List.getElem_cons_zero, Act.put, List.setIfInBounds_toArray, List.set_cons_zero, List.set_cons_succ]
                clear hS
                go_wp2_with fail
                exact ⟨⟨i + 1, hlt, by push_cast; rfl, HB8D.out⟩, by simp [intOf]; omega⟩
              | true =>
                have hle := size_less s (by omega) i (by omega) hbit
                rw [hbit] at hb1
                have hs8 := shl_one ⟨i, by omega⟩
                dsimp only at hs8
                have hPle : 2 ^ i ≤ 8 := (Nat.pow_le_pow_right (by decide) (by omega : i ≤ 3) : _ ≤ 2 ^ 3)
                have haf8 : afterJ s (2 ^ i) < 2 ^ nw := afterJ_lt nw s (2 ^ i) hs2
                have hcn : canD j (afterJ s (2 ^ i)) = true := by
                  cases h : canD j (afterJ s (2 ^ i)) with
                  | true => rfl
                  | false => have := (HSM.out.2 _ haf8 h).1; omega
                have hand9 := andn_i64 s (2 ^ i) (by omega) (by omega)
                obtain ⟨af, haf⟩ : ∃ x, x = afterJ s (2 ^ i) := ⟨_, rfl⟩
                rw [← haf] at haf8 hcn hand9
                obtain ⟨P, hP⟩ : ∃ P, P = 2 ^ i := ⟨_, rfl⟩
                rw [← hP] at hs8 hand9
                have hs9 : wrap64 (2 ^ i) = (P : Int) := by rw [← hs8]
                have hP2 : (2 : Int) ^ i = (P : Int) := by rw [hP]; simp
                have hP8 : P ≤ 8 := by rw [hP]; exact hPle
                have hs10 : IntKind.i64.wrap (2 ^ i) = (P : Int) := by rw [hP2]; exact IntWalk.i64_in _ (by omega)
                have HCN := Lib.hid hcn
                clear hle hPle haf hcn hP hs8 hbit hP2 hP8
                refine wpAnyH_take (i := 0) (v := ?_) rfl (by kernel_rfl) (by kernel_rfl) (by kernel_rfl) (fun _ _ _ h => h) (Or.inl ⟨by rfl, ?_⟩) hS ?_
                rotate_left
                · (intro W hSw; obtain ⟨q0, q1, q2, q3⟩ := hSw; go_simp; try with_reducible rfl)
                try simp only [List.getElem_toArray, List.getElem_cons_succ, List.getElem_cons_zero, Act.put, List.setIfInBounds_toArray, List.set_cons_zero, List.set_cons_succ]
                refine wpAnyH_take (i := 1) (v := ?_) rfl (by kernel_rfl) (by kernel_rfl) (by kernel_rfl) (fun _ _ _ h => h) (Or.inl ⟨by rfl, ?_⟩) hS ?_
                rotate_left
                · (intro W hSw; obtain ⟨q0, q1, q2, q3⟩ := hSw; go_simp; try with_reducible rfl)
                try simp only [List.getElem_toArray, List.getElem_cons_succ, List.getElem_cons_zero, Act.put, List.setIfInBounds_toArray, List.set_cons_zero, List.set_cons_succ]
                refine wpAnyH_take (i := 2) (v := ?_) rfl (by kernel_rfl) (by kernel_rfl) (by kernel_rfl) (fun _ _ _ h => h) (Or.inl ⟨by rfl, ?_⟩) hS ?_
                rotate_left
                · (intro W hSw; obtain ⟨q0, q1, q2, q3⟩ := hSw; go_simp; try with_reducible rfl)
                try simp only [List.getElem_toArray, List.getElem_cons_succ, List.getElem_cons_zero, Act.put, List.setIfInBounds_toArray, List.set_cons_zero, List.set_cons_succ]
                refine wpAnyH_take (i := 3) (v := ?_) rfl (by kernel_rfl) (by kernel_rfl) (by kernel_rfl) (fun _ _ _ h => h) (Or.inl ⟨by rfl, ?_⟩) hS ?_
                rotate_left
                · (intro W hSw; obtain ⟨q0, q1, q2, q3⟩ := hSw; go_simp; try with_reducible rfl)
                try simp only [List.getElem_toArray, List.getElem_cons_succ, List.getElem_cons_zero, Act.put, List.setIfInBounds_toArray, List.set_cons_zero, List.set_cons_succ]
                refine wpAnyH_take (i := 4) (v := ?_) rfl (by kernel_rfl) (by kernel_rfl) (by kernel_rfl) (fun _ _ _ h => h) (Or.inl ⟨by rfl, ?_⟩) hS ?_
                rotate_left
                · (intro W hSw; obtain ⟨q0, q1, q2, q3⟩ := hSw; go_simp; try with_reducible rfl)
                try simp only [List.getElem_toArray, List.getElem_cons_succ, List.getElem_cons_zero, Act.put, List.setIfInBounds_toArray, List.set_cons_zero, List.set_cons_succ]
                refine wpAnyH_take (i := 5) (v := ?_) rfl (by kernel_rfl) (by kernel_rfl) (by kernel_rfl) (fun _ _ _ h => h) (Or.inl ⟨by rfl, ?_⟩) hS ?_
                rotate_left
                · (intro W hSw; obtain ⟨q0, q1, q2, q3⟩ := hSw; go_simp; try with_reducible rfl)
                try simp only [List.getElem_toArray, List.getElem_cons_succ, List.getElem_cons_zero, Act.put, List.setIfInBounds_toArray, List.set_cons_zero, List.set_cons_succ]
                refine wpAnyH_take (i := 6) (v := ?_) rfl (by kernel_rfl) (by kernel_rfl) (by kernel_rfl) (fun _ _ _ h => h) (Or.inl ⟨by rfl, ?_⟩) hS ?_
                rotate_left
                · (intro W hSw; obtain ⟨q0, q1, q2, q3⟩ := hSw; go_simp; try with_reducible rfl)
                try simp only [List.getElem_toArray, List.getElem_cons_succ, List.getElem_cons_zero, Act.put, List.setIfInBounds_toArray, List.set_cons_zero, List.set_cons_succ]
                refine wpAnyH_take (i := 7) (v := ?_) rfl (by kernel_rfl) (by kernel_rfl) (by kernel_rfl) (fun _ _ _ h => h) (Or.inl ⟨by rfl, ?_⟩) hS ?_
                rotate_left
                · (intro W hSw; obtain ⟨q0, q1, q2, q3⟩ := hSw; go_simp; try with_reducible rfl)
                try simp only [List.getElem_toArray, List.getElem_cons_succ, List.getElem_cons_zero, Act.put, List.setIfInBounds_toArray, List.set_cons_zero, List.set_cons_succ]
                refine wpAnyH_take (i := 8) (v := ?_) rfl (by kernel_rfl) (by kernel_rfl) (by kernel_rfl) (fun _ _ _ h => h) (Or.inl ⟨by rfl, ?_⟩) hS ?_
                rotate_left
                · (intro W hSw; obtain ⟨q0, q1, q2, q3⟩ := hSw; go_simp; try with_reducible rfl)
                try simp only [List.getElem_toArray, List.getElem_cons_succ, List.getElem_cons_zero, Act.put, List.setIfInBounds_toArray, List.set_cons_zero, List.set_cons_succ]
                refine wpAnyH_take (i := 9) (v := ?_) rfl (by kernel_rfl) (by kernel_rfl) (by kernel_rfl) (fun _ _ _ h => h) (Or.inl ⟨by rfl, ?_⟩) hS ?_
                rotate_left
                · (intro W hSw; obtain ⟨q0, q1, q2, q3⟩ := hSw; go_simp; try with_reducible rfl)
                try simp only [List.getElem_toArray, List.getElem_cons_succ, List.getElem_cons_zero, Act.put, List.setIfInBounds_toArray, List.set_cons_zero, List.set_cons_succ]
                refine wpAnyH_take (i := 10) (v := ?_) rfl (by kernel_rfl) (by kernel_rfl) (by kernel_rfl) (fun _ _ _ h => h) (Or.inl ⟨by rfl, ?_⟩) hS ?_
                rotate_left
                · (intro W hSw; obtain ⟨q0, q1, q2, q3⟩ := hSw; go_simp; try with_reducible rfl)
                try simp only [List.getElem_toArray, List.getElem_cons_succ, List.getElem_cons_zero, Act.put, List.setIfInBounds_toArray, List.set_cons_zero, List.set_cons_succ]
                have hc := lcan_any j HV.out af (by omega) (.slice ao nb cap) (.slice ao2 nw cap2) D (HBS.out.later HBD.out.size (fun k h1 _ => HBD.out.block k h1)).low9 (HWS.out.later HBD.out.size (fun k h1 _ => HBD.out.block k h1)).low9 (HTZ.out.below HBD.out h1z)
                rw [HJV.out, HCN.out] at hc
                refine wpAnyH_call (k := 11) (by kernel_rfl) rfl rfl (f := 37) (args := #[.agg #[.slice ao nb cap, .int .i64 fl, .int .i64 fh, .slice ao2 nw cap2], .int .i64 af]) (by simp [execOp, go_sem, Act.eval, Act.put]) ?_
                refine hc.mono ?_
                rintro e w9 ⟨rfl, hb⟩
                dsimp only
                have HB89 := Lib.hid (HB8D.out.trans (hb.mono HB8D.out.size))
                have hS9 := hS.below hb
                clear hc hb hS
                refine ⟨hS9, ?_⟩
                have hS := hS9
                clear hS9
                try simp only [List.getElem_toArray, List.getElem_cons_succ, List.getElem_cons_zero, Act.put, List.setIfInBounds_toArray, List.set_cons_zero, List.set_cons_succ]
                refine wpAnyH_take (i := 12) (v := ?_) rfl (by kernel_rfl) (by kernel_rfl) (by kernel_rfl) (fun _ _ _ h => h) (Or.inl ⟨by rfl, ?_⟩) hS ?_
                rotate_left
                · (intro W hSw; obtain ⟨q0, q1, q2, q3⟩ := hSw; go_simp; try with_reducible rfl)
                try simp only [List.getElem_toArray, List.getElem_cons_succ, List.getElem_cons_zero, Act.put, List.setIfInBounds_toArray, List.set_cons_zero, List.set_cons_succ]
                refine wpAnyH_take (i := 13) (v := ?_) rfl (by kernel_rfl) (by kernel_rfl) (by kernel_rfl) (fun _ _ _ h => h) (Or.inl ⟨by rfl, ?_⟩) hS ?_
                rotate_left
                · (intro W hSw; obtain ⟨q0, q1, q2, q3⟩ := hSw; go_simp; try with_reducible rfl)
                try simp only [List.getElem_toArray, List.getElem_cons_succ, List.getElem_cons_zero, Act.put, List.setIfInBounds_toArray, List.set_cons_zero, List.set_cons_succ]
                refine wpAnyH_done (by kernel_rfl) ?_ _
                try simp only [List.getElem_toArray, List.getElem_cons_succ, List.getElem_cons_zero, Act.put, List.setIfInBounds_toArray, List.set_cons_zero, List.set_cons_succ]
                clear hS
                go_wp2_with fail
                exact ⟨⟨i + 1, hlt, by push_cast; rfl, HB89.out⟩, by simp [intOf]; omega⟩
            · have hin : nw = i := by omega
              subst hin
              have hlti : ¬ (nw : Int) < (nw : Int) := by omega
              clear hlt
              go_wp2_with fail
              refine (lawake_any _ (HTZ.out.below HBwr.out h1z)).mono ?_
              rintro e w9 ⟨rfl, hb9⟩
              dsimp only
              have HB9 := Lib.hid (HBwr.out.trans (hb9.mono HBwr.out.size))
              clear hb9
              go_wp2_with fail
              go_ret
              exact ⟨rfl, HB9.out⟩
end Go.Proofs.YtbmfphiecllggaaDoor

/- JobMost: the law returns true, and its arguments read as they did. -/
namespace Go.Proofs.YtbmfphiecllggaaDoor
set_option linter.unusedVariables false
set_option linter.unusedSimpArgs false
open Go.ChangeShapes Go.WideShapes Go.ChangeAt Go.RowKit Go.Deep
set_option maxRecDepth 100000 in
theorem jobMost_lifted (os : Os) (started : os.Started) (H : Type) (enc : TypeId × Value → H) :
    ReturnsInHanded {} Tryd.checked os 7 .any (fun w args => (Rows.jobMostSpec.pre enc Tryd.prog Tryd.f7 [] false w args ∧ laidMetH Tryd.prog laidB w) ∧ sizedMet enc Tryd.prog Tryd.f7 (OpenSpec.ofChange Rows.jobMostSpec) false w args)
      (Rows.jobMostSpec.post enc Tryd.prog Tryd.f7 false true false false) := by
  refine returnsInHanded_of_change_and (C := Tryd.checked) (X := fun w _ => laidMetH Tryd.prog laidB w) (fun _ _ _ hh h => h.of_heap hh) own_knob started (by kernel_rfl) Tryd.func7
    (ChangeSpec.witness_shaped (enc := enc) (C := Tryd.checked) (os := os) (X := fun w _ => laidMetH Tryd.prog laidB w) false (World.doorLaid Tryd.prog 400 os) #[.agg #[.slice none 0 0, .int .i64 0, .int .i64 0, .slice none 0 0], .int .u8 0] 8 rfl (World.shaped_of_RefB (by kernel_rfl) (by kernel_rfl)) (by kernel_rfl) (by kernel_rfl) (by kernel_rfl) (door_met os _)) ?_
  intro W base args ds gs before hval0 hW _ _ hL _
  have hval : ∀ (j : Nat) t v, Tryd.f7.params[j]? = some t → args[j]? = some v → Value.okWide Tryd.prog W .any base t v := hval0
  have hW' := hW
  obtain ⟨p, q, hA0, hV, rfl, hfz, hnd⟩ := hW
  have hA : DataW.TrodAll enc Tryd.prog W 0 (fun _ => true) true Tryd.f7.params.toList args.toList ds p := hA0
  rw [Tryd.params7] at hA hval
  obtain ⟨rfl, rfl⟩ := trodVars_none hV
  clear hA0 hval0
  simp only [List.append_nil] at hW'
  have hst := hA
  have htz := of_laid hL
  obtain ⟨v0, v1, d0, d1, p0, p1, rfl, rfl, rfl, h0, h1⟩ := trodAll_two hA
  obtain ⟨j, bs, ws, rfl, hbs, hws⟩ := open_jobV (hval 0 _ _ rfl rfl) h0
  obtain ⟨x, rfl, _, _, hx⟩ := Go.ChangeShapes.open_int under_u8 (hval 1 _ _ rfl rfl) h1
  refine (lmost_any j bs ws x (u8_range hx) W hbs hws htz).mono fun e W' ⟨he, hb⟩ => ?_
  subst he
  exact ⟨_, rfl, lawEnd hW' rfl hst rfl (by decide +kernel) rfl rfl hb⟩
theorem jobMost_over : Rows.jobMostRow.holds Tryd.pinned (OpenSpec.ofChange Rows.jobMostSpec) :=
  OpenClaim.holds_of_wide 7 Tryd.f7 rfl rfl rfl rfl rfl rfl rfl ⟨rfl, rfl, rfl, rfl, rfl⟩ rfl rfl rfl rfl rfl (by kernel_rfl) Tryd.func7 (by kernel_rfl)
    (of_decide_eq_true (by kernel_rfl)) (by unfold Func.isWrapper; first | (rw [if_pos (by decide +kernel)]; kernel_rfl) | (rw [if_neg (by decide +kernel)]; exact ⟨rfl, rfl⟩))
    (fun os started H enc _ => jobMost_lifted os started H enc)
theorem job_most : Rows.JobMostCardSaid :=
  Claim7.holds_tied_plain_at .later [] [.data, .data] true (true, "0142e81380ab833cdd0b1d3ff1be0aee862e67f2dcc1be2b06267f938ad4868f") true
    jobMost_over (fun _ h => by cases h) (by kernel_rfl) (fun _ h => by cases h) jobMost_row_tie rfl ⟨rfl, rfl⟩ (by kernel_rfl) rfl
    (fun f fn hf hfn => by
      obtain rfl : f = 7 := Option.some.inj ((show Tryd.prog.funcNamed "blockworks/blockworkslaw12.JobMost" = some 7 by kernel_rfl).symm.trans hf) |>.symm
      obtain rfl : fn = Tryd.f7 := (Option.some.inj (Tryd.func7.symm.trans hfn)).symm
      exact ⟨by kernel_rfl, fun j t ht => by
        rw [Tryd.params7] at ht
        have hm : t ∈ [28, 5] := by simpa using Array.mem_of_getElem? ht
        have hall : ([28, 5].all fun u => !Tryd.prog.wantsStandIn u) = true := by kernel_rfl
        exact (show Tryd.prog.wantsStandIn t = false by simpa using List.all_eq_true.1 hall t hm)⟩)
    (by kernel_rfl)
#print axioms job_most
end Go.Proofs.YtbmfphiecllggaaDoor
