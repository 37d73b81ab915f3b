/- Texts Ya, Yb, Yc, Yd, Ye, Yf, Yg, Yh, Yi, Yj, Yk, Yo in one file; each begins with a word on what it proves. -/
import Derived.Laws.OwnMore
import Derived.Test.YtabbmihakoeegaaKm
import Derived.Test.YtabbmihakoeegaaKi
import Derived.Test.YtabbmihakoeegaaKf
import Derived.Test.YtabbmihakoeegaaKl

/- The reference of plans: its small functions. -/
namespace Go.Proofs.Ytabbmihakoeegaa
set_option linter.unusedVariables false
set_option linter.unusedSimpArgs false
open Go.RowKit Go.Shelf
attribute [local go_sem] Oper.semAt_some

theorem rin8_any (n a b : Int) (w : World) :
    Calls Try.prog 37 #[.int .i64 n, .int .i64 a, .int .i64 b] w fun e w' => e = .returned (.bool (inB n a b)) ∧ w = w' := by
  have H : Hid (inB n a b = (decide (a ≤ n) && decide (n ≤ b))) := by show _ = _; simp [inB]
  go_enter Try.func37, Try.ntmps37
  go_wp2
  all_goals go_ret
  all_goals exact ⟨by rw [H.out]; simp [*]; try omega, rfl⟩
theorem power8_any (n : Nat) (hn : n ≤ 60) (w : World) :
    Calls Try.prog 38 #[.int .i64 n] w fun e w' => e = .returned (.int .i64 ((2 ^ n : Nat) : Int)) ∧ w = w' := by
  go_enter Try.func38, Try.ntmps38
  go_wp2_with fail
  go_loopw [3, 4] (fun o i wr => ∃ (k : Nat), k ≤ n ∧ i = .int .i64 k ∧ o = .int .i64 ((2 ^ k : Nat) : Int) ∧ w = wr) (fun _ i _ => n - (intOf i).toNat)
  case atStart => exact ⟨0, by omega, rfl, rfl, rfl⟩
  case round =>
    obtain ⟨k, hk, rfl, rfl, rfl⟩ := hrel
    by_cases hlk : k < n
    · have hpk := pow_bound k (by omega)
      have HE := Lib.hid (Nat.pow_succ (n := 2) (m := k))
      obtain ⟨v, hv⟩ : ∃ v : Nat, v = 2 ^ k := ⟨_, rfl⟩
      rw [← hv] at hpk HE ⊢
      clear hv
      have hw : wrap64 (2 * (v : Int)) = 2 * (v : Int) := by unfold wrap64; omega
      go_wp2
      refine ⟨⟨k + 1, by omega, by go_num, ?_, by first | rfl | trivial⟩, by simp [intOf]; omega⟩
      rw [HE.out]
      congr 1
      omega
    · obtain rfl : k = n := by omega
      obtain ⟨v, hv⟩ : ∃ v : Nat, v = 2 ^ k := ⟨_, rfl⟩
      rw [← hv]
      have HV := Lib.hid hv
      clear hv
      go_wp2
      go_ret
      refine ⟨?_, rfl⟩
      rw [← HV.out]
      rfl
theorem ones8_half : ∀ t : Fin 256, t.val % 2 + ones (t.val / 2) = ones t.val := by decide +kernel
theorem ones8_8 : ∀ t : Fin 256, ones t.val ≤ 8 := by decide +kernel
theorem size8_any (x : Nat) (hx : x < 256) (w : World) :
    Calls Try.prog 20 #[.int .i64 x] w fun e w' => e = .returned (.int .i64 (ones x : Nat)) ∧ w = w' := by
  go_enter Try.func20, Try.ntmps20
  go_wp2_with fail
  go_loopw [0, 3] (fun sv nv wr => ∃ (t n : Nat), t < 256 ∧ n ≤ 8 ∧ sv = .int .i64 t ∧ nv = .int .i64 n ∧ n + ones t = ones x ∧ w = wr) (fun sv _ _ => (intOf sv).toNat)
  case atStart => exact ⟨x, 0, hx, by omega, rfl, rfl, by omega, rfl⟩
  case round =>
    obtain ⟨t, n, ht, hn, rfl, rfl, hs, rfl⟩ := hrel
    have h8 := ones8_8 ⟨x, hx⟩
    dsimp only at h8
    by_cases h0 : t = 0
    · subst h0
      have hz : ones 0 = 0 := by decide
      have HS : Hid (n = ones x) := Lib.hid (by omega)
      clear hs hz
      go_wp2
      go_ret
      exact ⟨by rw [HS.out]; rfl, rfl⟩
    · have hh := ones8_half ⟨t, ht⟩
      dsimp only at hh
      have hw1 : IntKind.i64.wrap ((n : Int) + ((t % 2 : Nat) : Int)) = ((n + t % 2 : Nat) : Int) := by rw [IntWalk.i64_in _ (by omega)]; omega
      have hm : (t : Int).tmod 2 = ((t % 2 : Nat) : Int) := by rw [Int.tmod_eq_emod_of_nonneg (by omega)]; omega
      have hd : (t : Int).tdiv 2 = ((t / 2 : Nat) : Int) := by rw [Int.tdiv_eq_ediv_of_nonneg (by omega)]; omega
      have hpos : decide ((0 : Int) < (t : Int)) = true := by simp; omega
      have HH : Hid (n + t % 2 + ones (t / 2) = ones x) := Lib.hid (by omega)
      clear hh hs
      go_wp2
      refine ⟨⟨t / 2, n + t % 2, by omega, by have := HH.out; omega, ?_, ?_, HH.out, by first | rfl | trivial⟩, by simp [intOf]; omega⟩
      all_goals (congr 1; try omega)
theorem ints8_any (l m : List Int) (hl : l.length ≤ 1000) (v u : Value) (Rv Ru : Nat → Prop) (w : World) (hv : NumsAt w v l Rv) (hu : NumsAt w u m Ru) :
    Calls Try.prog 28 #[v, u] w fun e w' => e = .returned (.bool (decide (l = m))) ∧ Below w.heap.size w w' := by
  obtain ⟨ao, cap, rfl, hc1, hc2, hel⟩ := hv
  obtain ⟨ao2, cap2, rfl, hc3, hc4, hel2⟩ := hu
  have HE := Lib.hid hel
  have HE2 := Lib.hid hel2
  clear hel hel2
  by_cases hlm : l.length = m.length
  case neg =>
    have hq : ¬ l = m := fun h => hlm (by rw [h])
    have hd : ¬ ((l.length : Int) = (m.length : Int)) := by omega
    have HQ : Hid (decide (l = m) = false) := Lib.hid (decide_eq_false hq)
    clear hq hlm
    go_enter Try.func28, Try.ntmps28
    go_wp2
    go_ret
    exact ⟨by rw [HQ.out]; rfl, Below.refl _ _⟩
  have HLM := Lib.hid hlm
  have hd : (m.length : Int) = (l.length : Int) := by omega
  clear hlm
  go_enter Try.func28, Try.ntmps28
  go_wp2
  go_loopw [5] (fun iv wr => ∃ i : Nat, i ≤ l.length ∧ iv = .int .i64 i ∧ l.take i = m.take i ∧ Below w.heap.size w wr) (fun iv _ => l.length - (intOf iv).toNat)
  case atStart => exact ⟨0, Nat.zero_le _, rfl, rfl, Below.refl _ _⟩
  case round =>
    obtain ⟨i, hi, rfl, htk, hb⟩ := hrel
    have HB := Lib.hid hb
    have HT := Lib.hid htk
    clear hb htk
    by_cases hlt : i < l.length
    · obtain ⟨b, off, rfl, _, hbs, he⟩ := HE.out i hlt
      obtain ⟨b2, off2, rfl, _, hbs2, he2⟩ := HE2.out i (by have := HLM.out; omega)
      have e1 := (HB.out.cell (p := ⟨b, off + i, none⟩) hbs).trans he
      have e2 := (HB.out.cell (p := ⟨b2, off2 + i, none⟩) hbs2).trans he2
      obtain ⟨x, hx⟩ : ∃ x, x = l[i] := ⟨_, rfl⟩
      obtain ⟨y, hy⟩ : ∃ y, y = m[i]'(by have := HLM.out; omega) := ⟨_, rfl⟩
      rw [← hx] at e1
      rw [← hy] at e2
      have hw : IntKind.i64.wrap ((i : Int) + 1) = ((i + 1 : Nat) : Int) := by rw [IntWalk.i64_in _ (by omega)]; omega
      have HX := Lib.hid hx
      have HY := Lib.hid hy
      clear hx hy he he2
      by_cases hxy : x = y
      · have hd2 : decide (x = y) = true := decide_eq_true hxy
        go_wp2_with fail
        refine wp_region_held_drew (S := fun W' => W'.cell? ⟨b, off + i, none⟩ = some (.int .i64 x) ∧ W'.cell? ⟨b2, off2 + i, none⟩ = some (.int .i64 y)) (by kernel_rfl) ⟨e1, e2⟩ fun hS => ?_
        clear e1 e2
        refine wpAnyH_take (i := 0) (v := ?_) rfl (by kernel_rfl) (by kernel_rfl) (by kernel_rfl) (fun _ _ _ h => h) (Or.inl ⟨by rfl, ?_⟩) hS ?_
        rotate_left
        · (intro W hSw; obtain ⟨hq1, hq2⟩ := hSw; go_simp; try with_reducible rfl)
        try simp only [List.getElem_toArray, List.getElem_cons_succ, List.getElem_cons_zero, Act.put, List.setIfInBounds_toArray, List.set_cons_zero, List.set_cons_succ]
        refine wpAnyH_take (i := 1) (v := ?_) rfl (by kernel_rfl) (by kernel_rfl) (by kernel_rfl) (fun _ _ _ h => h) (Or.inl ⟨by rfl, ?_⟩) hS ?_
        rotate_left
        · (intro W hSw; obtain ⟨hq1, hq2⟩ := hSw; go_simp; try with_reducible rfl)
        try simp only [List.getElem_toArray, List.getElem_cons_succ, List.getElem_cons_zero, Act.put, List.setIfInBounds_toArray, List.set_cons_zero, List.set_cons_succ]
        refine wpAnyH_take (i := 2) (v := ?_) rfl (by kernel_rfl) (by kernel_rfl) (by kernel_rfl) (fun _ _ _ h => h) (Or.inl ⟨by rfl, ?_⟩) hS ?_
        rotate_left
        · (intro W hSw; obtain ⟨hq1, hq2⟩ := hSw; go_simp; try with_reducible rfl)
        try simp only [List.getElem_toArray, List.getElem_cons_succ, List.getElem_cons_zero, Act.put, List.setIfInBounds_toArray, List.set_cons_zero, List.set_cons_succ]
        refine wpAnyH_take (i := 3) (v := ?_) rfl (by kernel_rfl) (by kernel_rfl) (by kernel_rfl) (fun _ _ _ h => h) (Or.inl ⟨by rfl, ?_⟩) hS ?_
        rotate_left
        · (intro W hSw; obtain ⟨hq1, hq2⟩ := hSw; go_simp; try with_reducible rfl)
        try simp only [List.getElem_toArray, List.getElem_cons_succ, List.getElem_cons_zero, Act.put, List.setIfInBounds_toArray, List.set_cons_zero, List.set_cons_succ]
        refine wpAnyH_take (i := 4) (v := ?_) rfl (by kernel_rfl) (by kernel_rfl) (by kernel_rfl) (fun _ _ _ h => h) (Or.inl ⟨by rfl, ?_⟩) hS ?_
        rotate_left
        · (intro W hSw; obtain ⟨hq1, hq2⟩ := hSw; go_simp; try with_reducible rfl)
        try simp only [List.getElem_toArray, List.getElem_cons_succ, List.getElem_cons_zero, Act.put, List.setIfInBounds_toArray, List.set_cons_zero, List.set_cons_succ]
        refine wpAnyH_take (i := 5) (v := ?_) rfl (by kernel_rfl) (by kernel_rfl) (by kernel_rfl) (fun _ _ _ h => h) (Or.inl ⟨by rfl, ?_⟩) hS ?_
        rotate_left
        · (intro W hSw; obtain ⟨hq1, hq2⟩ := hSw; go_simp; try with_reducible rfl)
        try simp only [List.getElem_toArray, List.getElem_cons_succ, List.getElem_cons_zero, Act.put, List.setIfInBounds_toArray, List.set_cons_zero, List.set_cons_succ]
        refine wpAnyH_take (i := 6) (v := ?_) rfl (by kernel_rfl) (by kernel_rfl) (by kernel_rfl) (fun _ _ _ h => h) (Or.inl ⟨by rfl, ?_⟩) hS ?_
        rotate_left
        · (intro W hSw; obtain ⟨hq1, hq2⟩ := hSw; go_simp; try with_reducible rfl)
        try simp only [List.getElem_toArray, List.getElem_cons_succ, List.getElem_cons_zero, Act.put, List.setIfInBounds_toArray, List.set_cons_zero, List.set_cons_succ]
        refine wpAnyH_take (i := 7) (v := ?_) rfl (by kernel_rfl) (by kernel_rfl) (by kernel_rfl) (fun _ _ _ h => h) (Or.inl ⟨by rfl, ?_⟩) hS ?_
        rotate_left
        · (intro W hSw; obtain ⟨hq1, hq2⟩ := hSw; go_simp; try with_reducible rfl)
        try simp only [List.getElem_toArray, List.getElem_cons_succ, List.getElem_cons_zero, Act.put, List.setIfInBounds_toArray, List.set_cons_zero, List.set_cons_succ]
        refine wpAnyH_take (i := 8) (v := ?_) rfl (by kernel_rfl) (by kernel_rfl) (by kernel_rfl) (fun _ _ _ h => h) (Or.inl ⟨by rfl, ?_⟩) hS ?_
        rotate_left
        · (intro W hSw; obtain ⟨hq1, hq2⟩ := hSw; go_simp; try with_reducible rfl)
        try simp only [List.getElem_toArray, List.getElem_cons_succ, List.getElem_cons_zero, Act.put, List.setIfInBounds_toArray, List.set_cons_zero, List.set_cons_succ]
        refine wpAnyH_done (by kernel_rfl) ?_ _
        clear hS
        have HXY := Lib.hid hxy
        clear hxy
        go_wp2
        refine ⟨⟨i + 1, by omega, rfl, ?_, HB.out.drew⟩, by simp [intOf]; omega⟩
        rw [List.take_succ_eq_append_getElem hlt, List.take_succ_eq_append_getElem (by have := HLM.out; omega), HT.out, ← HX.out, ← HY.out, HXY.out]
      · have hne : ¬ l = m := fun h => hxy (by rw [HX.out, HY.out]; simp [h])
        have HQ : Hid (decide (l = m) = false) := Lib.hid (decide_eq_false hne)
        clear hne
        have hd2 : decide (x = y) = false := decide_eq_false hxy
        go_wp2_with fail
        refine wp_region_held_drew (S := fun W' => W'.cell? ⟨b, off + i, none⟩ = some (.int .i64 x) ∧ W'.cell? ⟨b2, off2 + i, none⟩ = some (.int .i64 y)) (by kernel_rfl) ⟨e1, e2⟩ fun hS => ?_
        clear e1 e2
        refine wpAnyH_take (i := 0) (v := ?_) rfl (by kernel_rfl) (by kernel_rfl) (by kernel_rfl) (fun _ _ _ h => h) (Or.inl ⟨by rfl, ?_⟩) hS ?_
        rotate_left
        · (intro W hSw; obtain ⟨hq1, hq2⟩ := hSw; go_simp; try with_reducible rfl)
        try simp only [List.getElem_toArray, List.getElem_cons_succ, List.getElem_cons_zero, Act.put, List.setIfInBounds_toArray, List.set_cons_zero, List.set_cons_succ]
        refine wpAnyH_take (i := 1) (v := ?_) rfl (by kernel_rfl) (by kernel_rfl) (by kernel_rfl) (fun _ _ _ h => h) (Or.inl ⟨by rfl, ?_⟩) hS ?_
        rotate_left
        · (intro W hSw; obtain ⟨hq1, hq2⟩ := hSw; go_simp; try with_reducible rfl)
        try simp only [List.getElem_toArray, List.getElem_cons_succ, List.getElem_cons_zero, Act.put, List.setIfInBounds_toArray, List.set_cons_zero, List.set_cons_succ]
        refine wpAnyH_take (i := 2) (v := ?_) rfl (by kernel_rfl) (by kernel_rfl) (by kernel_rfl) (fun _ _ _ h => h) (Or.inl ⟨by rfl, ?_⟩) hS ?_
        rotate_left
        · (intro W hSw; obtain ⟨hq1, hq2⟩ := hSw; go_simp; try with_reducible rfl)
        try simp only [List.getElem_toArray, List.getElem_cons_succ, List.getElem_cons_zero, Act.put, List.setIfInBounds_toArray, List.set_cons_zero, List.set_cons_succ]
        refine wpAnyH_take (i := 3) (v := ?_) rfl (by kernel_rfl) (by kernel_rfl) (by kernel_rfl) (fun _ _ _ h => h) (Or.inl ⟨by rfl, ?_⟩) hS ?_
        rotate_left
        · (intro W hSw; obtain ⟨hq1, hq2⟩ := hSw; go_simp; try with_reducible rfl)
        try simp only [List.getElem_toArray, List.getElem_cons_succ, List.getElem_cons_zero, Act.put, List.setIfInBounds_toArray, List.set_cons_zero, List.set_cons_succ]
        refine wpAnyH_take (i := 4) (v := ?_) rfl (by kernel_rfl) (by kernel_rfl) (by kernel_rfl) (fun _ _ _ h => h) (Or.inl ⟨by rfl, ?_⟩) hS ?_
        rotate_left
        · (intro W hSw; obtain ⟨hq1, hq2⟩ := hSw; go_simp; try with_reducible rfl)
        try simp only [List.getElem_toArray, List.getElem_cons_succ, List.getElem_cons_zero, Act.put, List.setIfInBounds_toArray, List.set_cons_zero, List.set_cons_succ]
        refine wpAnyH_take (i := 5) (v := ?_) rfl (by kernel_rfl) (by kernel_rfl) (by kernel_rfl) (fun _ _ _ h => h) (Or.inl ⟨by rfl, ?_⟩) hS ?_
        rotate_left
        · (intro W hSw; obtain ⟨hq1, hq2⟩ := hSw; go_simp; try with_reducible rfl)
        try simp only [List.getElem_toArray, List.getElem_cons_succ, List.getElem_cons_zero, Act.put, List.setIfInBounds_toArray, List.set_cons_zero, List.set_cons_succ]
        refine wpAnyH_take (i := 6) (v := ?_) rfl (by kernel_rfl) (by kernel_rfl) (by kernel_rfl) (fun _ _ _ h => h) (Or.inl ⟨by rfl, ?_⟩) hS ?_
        rotate_left
        · (intro W hSw; obtain ⟨hq1, hq2⟩ := hSw; go_simp; try with_reducible rfl)
        try simp only [List.getElem_toArray, List.getElem_cons_succ, List.getElem_cons_zero, Act.put, List.setIfInBounds_toArray, List.set_cons_zero, List.set_cons_succ]
        refine wpAnyH_take (i := 7) (v := ?_) rfl (by kernel_rfl) (by kernel_rfl) (by kernel_rfl) (fun _ _ _ h => h) (Or.inl ⟨by rfl, ?_⟩) hS ?_
        rotate_left
        · (intro W hSw; obtain ⟨hq1, hq2⟩ := hSw; go_simp; try with_reducible rfl)
        try simp only [List.getElem_toArray, List.getElem_cons_succ, List.getElem_cons_zero, Act.put, List.setIfInBounds_toArray, List.set_cons_zero, List.set_cons_succ]
        refine wpAnyH_take (i := 8) (v := ?_) rfl (by kernel_rfl) (by kernel_rfl) (by kernel_rfl) (fun _ _ _ h => h) (Or.inl ⟨by rfl, ?_⟩) hS ?_
        rotate_left
        · (intro W hSw; obtain ⟨hq1, hq2⟩ := hSw; go_simp; try with_reducible rfl)
        try simp only [List.getElem_toArray, List.getElem_cons_succ, List.getElem_cons_zero, Act.put, List.setIfInBounds_toArray, List.set_cons_zero, List.set_cons_succ]
        refine wpAnyH_done (by kernel_rfl) ?_ _
        clear hS
        go_wp2
        go_ret
        exact ⟨by rw [HQ.out]; rfl, HB.out.drew⟩
    · obtain rfl : i = l.length := by omega
      have hq : l = m := by have := HT.out; rw [List.take_length, HLM.out, List.take_length] at this; exact this
      have HQ : Hid (decide (l = m) = true) := Lib.hid (decide_eq_true hq)
      clear hq
      go_wp2
      go_ret
      exact ⟨by rw [HQ.out]; rfl, HB.out⟩
end Go.Proofs.Ytabbmihakoeegaa

/- The reference of plans: is a plan valid? -/
namespace Go.Proofs.Ytabbmihakoeegaa
set_option linter.unusedVariables false
set_option linter.unusedSimpArgs false
open Go.RowKit Go.Shelf
attribute [local go_sem] Oper.semAt_some

set_option maxRecDepth 100000 in
set_option maxHeartbeats 2000000 in
theorem every8_any {q : PlanD} (hq : q.prices.length ≤ 8) {bs rs ps : Value} (w : World) (hpa : PlanAt w q bs rs ps) :
    Calls Try.prog 12 #[.agg (planRow q bs rs ps)] w fun e w' => e = .returned (.int .i64 (everyV q : Nat)) ∧ Below w.heap.size w w' := by
  obtain ⟨aob, capb, hbv, _⟩ := id hpa.p.b
  obtain ⟨aor, capr, hrv, _⟩ := id hpa.p.r
  obtain ⟨aop, capp, hpv, _⟩ := id hpa.n
  subst hbv hrv hpv
  obtain ⟨W0, hW0⟩ : ∃ W0, W0 = w.alloc (.cells (planRow q (.slice aob q.pr.bs.length capb) (.slice aor q.pr.rs.length capr) (.slice aop q.prices.length capp)) 30 (0, 0)) := ⟨_, rfl⟩
  have hb0 : Below w.heap.size w W0 := by rw [hW0]; exact (Below.refl _ _).alloc (Nat.le_refl _) _
  have hr1 : W0.heap[w.heap.size]? = some (.cells (planRow q (.slice aob q.pr.bs.length capb) (.slice aor q.pr.rs.length capr) (.slice aop q.prices.length capp)) 30 (0, 0)) := by rw [hW0]; exact heap_alloc_at _ _ _ rfl
  have hsw : W0.heap.size = w.heap.size + 1 := by rw [hW0]; simp
  have HB0 := Lib.hid hb0
  have HR1 := Lib.hid hr1
  have HPA := Lib.hid (hpa.later hb0)
  have rows : ∀ W', Below W0.heap.size W0 W' → (W'.cell? ⟨w.heap.size, 0, none⟩ = some (.slice aob q.pr.bs.length capb) ∧ W'.cell? ⟨w.heap.size, 1, none⟩ = some (.int .i64 q.pr.zl) ∧ W'.cell? ⟨w.heap.size, 2, none⟩ = some (.int .i64 q.pr.zh) ∧
        W'.cell? ⟨w.heap.size, 3, none⟩ = some (.int .i64 q.pr.rl) ∧ W'.cell? ⟨w.heap.size, 4, none⟩ = some (.int .i64 q.pr.rh) ∧ W'.cell? ⟨w.heap.size, 5, none⟩ = some (.slice aor q.pr.rs.length capr) ∧ W'.cell? ⟨w.heap.size, 6, none⟩ = some (.int .i64 q.wide) ∧ W'.cell? ⟨w.heap.size, 7, none⟩ = some (.slice aop q.prices.length capp)) := fun W' hb => by
    have q1 := (hb.block w.heap.size (by omega)).trans hr1
    unfold planRow at q1
    refine ⟨?_, ?_, ?_, ?_, ?_, ?_, ?_, ?_⟩ <;> (rw [cell_of_row _ _ _ _ _ _ q1]; rfl)
  have ROWS := Lib.hid rows
  clear rows hb0 hr1 hpa
  unfold planRow at hW0 ⊢
  obtain ⟨c0, c1, c2, c3, c4, c5, c6, c7⟩ := ROWS.out W0 (Below.refl _ _)
  go_enter Try.func12, Try.ntmps12
  go_wp2_with fail
  rw [← hW0]
  refine (power8_any q.prices.length (by omega) W0).mono ?_
  rintro e w' ⟨rfl, rfl⟩
  have hp2 : 2 ^ q.prices.length ≤ 256 := pow_le hq
  have hpos := Nat.two_pow_pos q.prices.length
  have HE : Hid (everyV q = 2 ^ q.prices.length - 1) := Lib.hid rfl
  obtain ⟨n, hn⟩ : ∃ n, n = 2 ^ q.prices.length := ⟨_, rfl⟩
  rw [← hn] at hp2 hpos HE ⊢
  have hw : IntKind.i64.wrap ((n : Int) - 1) = ((n - 1 : Nat) : Int) := by rw [IntWalk.i64_in _ (by omega)]; omega
  clear hn hW0
  dsimp only
  go_wp2
  go_ret
  exact ⟨by rw [HE.out]; rfl, HB0.out⟩
set_option maxRecDepth 100000 in
set_option maxHeartbeats 4000000 in
theorem plan8_any {q : PlanD} {bs rs ps : Value} (w : World) (hpa : PlanAt w q bs rs ps) :
    Calls Try.prog 11 #[.agg (planRow q bs rs ps)] w fun e w' => e = .returned (.bool (validP q)) ∧ Below w.heap.size w w' := by
  obtain ⟨aob, capb, hbv, _⟩ := id hpa.p.b
  obtain ⟨aor, capr, hrv, _⟩ := id hpa.p.r
  obtain ⟨aop, capp, hpv, _⟩ := id hpa.n
  subst hbv hrv hpv
  obtain ⟨W0, hW0⟩ : ∃ W0, W0 = w.alloc (.cells (planRow q (.slice aob q.pr.bs.length capb) (.slice aor q.pr.rs.length capr) (.slice aop q.prices.length capp)) 30 (0, 0)) := ⟨_, rfl⟩
  have hb0 : Below w.heap.size w W0 := by rw [hW0]; exact (Below.refl _ _).alloc (Nat.le_refl _) _
  have hr1 : W0.heap[w.heap.size]? = some (.cells (planRow q (.slice aob q.pr.bs.length capb) (.slice aor q.pr.rs.length capr) (.slice aop q.prices.length capp)) 30 (0, 0)) := by rw [hW0]; exact heap_alloc_at _ _ _ rfl
  have hsw : W0.heap.size = w.heap.size + 1 := by rw [hW0]; simp
  have HB0 := Lib.hid hb0
  have HR1 := Lib.hid hr1
  have HPA := Lib.hid (hpa.later hb0)
  have rows : ∀ W', Below W0.heap.size W0 W' → (W'.cell? ⟨w.heap.size, 0, none⟩ = some (.slice aob q.pr.bs.length capb) ∧ W'.cell? ⟨w.heap.size, 1, none⟩ = some (.int .i64 q.pr.zl) ∧ W'.cell? ⟨w.heap.size, 2, none⟩ = some (.int .i64 q.pr.zh) ∧
        W'.cell? ⟨w.heap.size, 3, none⟩ = some (.int .i64 q.pr.rl) ∧ W'.cell? ⟨w.heap.size, 4, none⟩ = some (.int .i64 q.pr.rh) ∧ W'.cell? ⟨w.heap.size, 5, none⟩ = some (.slice aor q.pr.rs.length capr) ∧ W'.cell? ⟨w.heap.size, 6, none⟩ = some (.int .i64 q.wide) ∧ W'.cell? ⟨w.heap.size, 7, none⟩ = some (.slice aop q.prices.length capp)) := fun W' hb => by
    have q1 := (hb.block w.heap.size (by omega)).trans hr1
    unfold planRow at q1
    refine ⟨?_, ?_, ?_, ?_, ?_, ?_, ?_, ?_⟩ <;> (rw [cell_of_row _ _ _ _ _ _ q1]; rfl)
  have ROWS := Lib.hid rows
  clear rows hb0 hr1 hpa
  unfold planRow at hW0 ⊢
  obtain ⟨c0, c1, c2, c3, c4, c5, c6, c7⟩ := ROWS.out W0 (Below.refl _ _)
  have HV : Hid (validP q = (validB q.pr && inB q.wide 0 40 && decide (q.prices.length = q.pr.rs.length) && q.prices.all fun n => inB n 0 20)) := Lib.hid rfl
  go_enter Try.func11, Try.ntmps11
  go_wp2_with fail
  rw [← hW0]
  refine (rpair_any HPA.out.p).mono ?_
  rintro e w1 ⟨rfl, hb1⟩
  have HB1 := Lib.hid hb1
  have HBW := Lib.hid (HB0.out.trans (hb1.mono HB0.out.size))
  obtain ⟨c0, c1, c2, c3, c4, c5, c6, c7⟩ := ROWS.out w1 hb1
  have hz1 := hb1.size
  clear hb1 hW0
  dsimp only
  cases hv : validB q.pr with
  | false =>
    rw [hv] at HV
    go_wp2
    go_ret
    refine ⟨?_, HBW.out⟩
    rw [show validP q = false from by rw [HV.out]; simp]
    rfl
  | true =>
  rw [hv] at HV
  have hm8 := (OkP.of _ hv).m8
  go_wp2_with fail
  refine (rin8_any _ _ _ _).mono ?_
  rintro e w' ⟨rfl, rfl⟩
  dsimp only
  cases hin : inB q.wide 0 40 with
  | false =>
    rw [hin] at HV
    go_wp2
    go_ret
    refine ⟨?_, HBW.out⟩
    rw [show validP q = false from by rw [HV.out]; simp]
    rfl
  | true =>
  rw [hin] at HV
  by_cases hlen : q.prices.length = q.pr.rs.length
  case neg =>
    have hd : (((q.prices.length : Nat) : Int) != ((q.pr.rs.length : Nat) : Int)) = true := by simp; omega
    have hd2 : decide (q.prices.length = q.pr.rs.length) = false := decide_eq_false hlen
    rw [hd2] at HV
    clear hd2
    go_wp2
    go_ret
    refine ⟨?_, HBW.out⟩
    rw [show validP q = false from by rw [HV.out]; simp]
    rfl
  have hd : (((q.prices.length : Nat) : Int) != ((q.pr.rs.length : Nat) : Int)) = false := by simp; omega
  have hd2 : decide (q.prices.length = q.pr.rs.length) = true := decide_eq_true hlen
  rw [hd2] at HV
  have hl8 : q.prices.length ≤ 8 := by omega
  clear hd2 hlen
  go_wp2_with fail
  clear c0 c1 c2 c3 c4 c5 c6 c7 hd
  go_loopw [3] (fun i wr => ∃ k : Nat, k ≤ q.prices.length ∧ i = .int .i64 k ∧ (q.prices.take k).all (fun n => inB n 0 20) = true ∧ Below W0.heap.size W0 wr) (fun i _ => q.prices.length - (intOf i).toNat)
  case atStart => exact ⟨0, by omega, rfl, by simp, HB1.out⟩
  case round =>
    obtain ⟨k, hk, rfl, hall, hb⟩ := hrel
    have HB := Lib.hid hb
    have HALL := Lib.hid hall
    obtain ⟨c0, c1, c2, c3, c4, c5, c6, c7⟩ := ROWS.out wr hb
    have HBX := Lib.hid (HB0.out.trans (hb.mono HB0.out.size))
    clear hb hall
    by_cases hlk : k < q.prices.length
    · obtain ⟨ao', cap', he, _, _, hel⟩ := HPA.out.n
      cases he
      obtain ⟨b, off, rfl, _, hbl, e1⟩ := hel k hlk
      have f1 := (HB.out.cell (p := ⟨b, off + k, none⟩) hbl).trans e1
      have hlki : (k : Int) < (q.prices.length : Int) := by omega
      have HTA := Lib.hid (take_all q.prices (fun n => inB n 0 20) k hlk HALL.out)
      have HAF := Lib.hid (all_false q.prices (fun n => inB n 0 20) k hlk)
      obtain ⟨x, hx⟩ : ∃ x, x = q.prices[k] := ⟨_, rfl⟩
      rw [← hx] at f1 HTA HAF
      have hwk : IntKind.i64.wrap ((k : Int) + 1) = ((k + 1 : Nat) : Int) := by rw [IntWalk.i64_in _ (by omega)]; omega
      clear hx hel e1
      go_wp2_with fail
      refine (rin8_any _ _ _ _).mono ?_
      rintro e w' ⟨rfl, rfl⟩
      dsimp only
      cases h3 : inB x 0 20 with
      | false =>
        go_wp2
        go_ret
        refine ⟨?_, HBX.out⟩
        rw [show validP q = false from by rw [HV.out, HAF.out h3]; simp]
        rfl
      | true =>
        go_wp2
        exact ⟨⟨k + 1, by omega, rfl, HTA.out.trans h3, HB.out⟩, by simp [intOf]; omega⟩
    · obtain rfl : k = q.prices.length := by omega
      have hall := HALL.out
      rw [List.take_length] at hall
      rw [hall] at HV
      clear hall HALL
      go_wp2
      go_ret
      refine ⟨?_, HBX.out⟩
      rw [HV.out]
      rfl
end Go.Proofs.Ytabbmihakoeegaa

/- The reference of plans: a pair with the readings of a set alone. -/
namespace Go.Proofs.Ytabbmihakoeegaa
set_option linter.unusedVariables false
set_option linter.unusedSimpArgs false
open Go.RowKit Go.Shelf
attribute [local go_sem] Oper.semAt_some

theorem set5_cell {w : World} {b : Nat} {a0 a1 a2 a3 a4 a5 x : Value} {t : TypeId} {fr : Nat × Nat} (h : w.heap[b]? = some (.cells #[a0, a1, a2, a3, a4, a5] t fr)) : (w.setCell ⟨b, 5, none⟩ x).heap[b]? = some (.cells #[a0, a1, a2, a3, a4, x] t fr) := by
  simp only [World.setCell, Array.getElem?_modify, h]
  simp
end Go.Proofs.Ytabbmihakoeegaa

/- The document's plans: sample and clash. -/
namespace Go.Proofs.Ytabbmihakoeegaa
set_option linter.unusedVariables false
set_option linter.unusedSimpArgs false
open Go.RowKit Go.Shelf
attribute [local go_sem] Oper.semAt_some

theorem lspan8_any (a b : Int) (w : World) : Calls Try.prog 69 #[.int .i64 a, .int .i64 b] w fun e w' => e = .returned (spanV (a, b)) ∧ Below w.heap.size w w' := by
  go_enter Try.func69, Try.ntmps69
  go_wp2
  have hr : (w.alloc (.cells #[.int .i64 a, .int .i64 b] 24)).heap[w.heap.size]? = some (.cells #[.int .i64 a, .int .i64 b] 24 (0, 0)) := heap_alloc_at _ _ _ rfl
  have e0 := cell_of_row _ _ 0 _ _ _ hr
  have e1 := cell_of_row _ _ 1 _ _ _ hr
  exact bodyPost_ret (v := spanV (a, b)) (by simp [results, Try.results69, go_sem, spanV, e0, e1]) rfl ⟨rfl, (Below.refl _ _).alloc (Nat.le_refl _) _⟩
/-- A plan that is made anew. -/
structure PlanNew (B : Nat) (w : World) (q : PlanD) (bs rs ps : Value) : Prop where
  b : SpansAt w bs q.pr.bs (fun k => B ≤ k)
  r : ReadsAt w rs q.pr.rs (fun k => B ≤ k)
  n : NumsAt w ps q.prices (fun k => B ≤ k)
theorem PlanNew.at {B : Nat} {w : World} {q : PlanD} {bs rs ps : Value} (h : PlanNew B w q bs rs ps) : PlanAt w q bs rs ps := ⟨PairAt.of h.b h.r, h.n.low⟩
set_option maxRecDepth 100000 in
set_option maxHeartbeats 2000000 in
theorem psample0_any (wide : Int) (w : World) : Calls Try.prog 25 #[.int .i64 wide, .slice none 0 0] w fun e w' => (∃ bs rs ps, e = .returned (.agg (planRow (samplePD wide []) bs rs ps)) ∧ PlanNew w.heap.size w' (samplePD wide []) bs rs ps) ∧ Below w.heap.size w w' := by
  go_enter Try.func25, Try.ntmps25
  go_wp2_with fail
  obtain ⟨A, hA⟩ : ∃ A, A = w.alloc (.cells #[.slice none 0 0, .int .i64 0, .int .i64 0, .int .i64 0, .int .i64 0, .slice none 0 0, .int .i64 0, .slice none 0 0] 30) := ⟨_, rfl⟩
  have HA1 := Lib.hid (show A.heap[w.heap.size]? = some (.cells #[.slice none 0 0, .int .i64 0, .int .i64 0, .int .i64 0, .int .i64 0, .slice none 0 0, .int .i64 0, .slice none 0 0] 30 (0, 0)) by rw [hA]; exact heap_alloc_at _ _ _ rfl)
  have HA2 := Lib.hid (show Below w.heap.size w A by rw [hA]; exact (Below.refl _ _).alloc (Nat.le_refl _) _)
  have hA3 : A.heap.size = w.heap.size + 1 := by rw [hA]; simp
  rw [← hA]
  clear hA
  refine (lspan8_any (0) (0) _).mono ?_
  rintro e w1 ⟨rfl, hb1⟩
  have H1 := Lib.hid hb1
  clear hb1
  unfold spanV
  go_wp2_with fail
  refine (lspan8_any (-5) (5) _).mono ?_
  rintro e w2 ⟨rfl, hb1⟩
  have H2 := Lib.hid hb1
  clear hb1
  unfold spanV
  go_wp2_with fail
  refine (lspan8_any (-5) (5) _).mono ?_
  rintro e w3 ⟨rfl, hb1⟩
  have H3 := Lib.hid hb1
  clear hb1
  unfold spanV
  go_wp2_with fail
  refine (lspan8_any (0) (1) _).mono ?_
  rintro e w4 ⟨rfl, hb1⟩
  have H4 := Lib.hid hb1
  clear hb1
  unfold spanV
  go_wp2_with fail
  refine (lspan8_any (2) (2) _).mono ?_
  rintro e w5 ⟨rfl, hb1⟩
  have H5 := Lib.hid hb1
  clear hb1
  unfold spanV
  go_wp2_with fail
  obtain ⟨V, hV⟩ : ∃ V, V = w5.alloc (.cells #[.slice (some ⟨w3.heap.size, 0, none⟩) 3 3, .int .i64 0, .int .i64 1, .int .i64 2, .int .i64 2, .slice none 0 0] 27) := ⟨_, rfl⟩
  have HV1 := Lib.hid (show V.heap[w5.heap.size]? = some (.cells #[.slice (some ⟨w3.heap.size, 0, none⟩) 3 3, .int .i64 0, .int .i64 1, .int .i64 2, .int .i64 2, .slice none 0 0] 27 (0, 0)) by rw [hV]; exact heap_alloc_at _ _ _ rfl)
  have HV2 := Lib.hid (show Below w5.heap.size w5 V by rw [hV]; exact (Below.refl _ _).alloc (Nat.le_refl _) _)
  have hV3 : V.heap.size = w5.heap.size + 1 := by rw [hV]; simp
  rw [← hV]
  clear hV
  refine (lspan8_any (3) (4) _).mono ?_
  rintro e w6 ⟨rfl, hb1⟩
  have H6 := Lib.hid hb1
  clear hb1
  unfold spanV
  go_wp2_with fail
  refine (lspan8_any (3) (3) _).mono ?_
  rintro e w7 ⟨rfl, hb1⟩
  have H7 := Lib.hid hb1
  clear hb1
  unfold spanV
  go_wp2_with fail
  refine (lspan8_any 5 7 _).mono ?_
  rintro e w8 ⟨rfl, H8'⟩
  have H8 := Lib.hid H8'
  clear H8'
  unfold spanV
  have a1 := H1.out.size
  have a2 := H2.out.size
  have a3 := H3.out.size
  have a4 : w3.heap.size + 1 ≤ w4.heap.size := by have := H4.out.size; simpa using this
  have a5 := H5.out.size
  have a6 := H6.out.size
  have a7 := H7.out.size
  have a8 := H8.out.size
  have b3 : Below A.heap.size A w3 := H1.out.trans ((H2.out.mono a1).trans (H3.out.mono (by omega)) |>.mono (Nat.le_refl _))
  have b4 : Below w3.heap.size w3 w4 := ((Below.refl _ _).alloc (Nat.le_refl _) _).trans (H4.out.mono (by simp))
  have b48 : Below w4.heap.size w4 V := H5.out.trans (HV2.out.mono a5)
  have bV8 : Below V.heap.size V w8 := H6.out.trans ((H7.out.mono a6).trans (H8.out.mono (by omega)))
  have b8 : Below w4.heap.size w4 w8 := b48.trans (bV8.mono (by omega))
  have b38 : Below w3.heap.size w3 w8 := b4.trans (b8.mono (by omega))
  have bA8 : Below A.heap.size A w8 := b3.trans (b38.mono (by omega))
  have r8 : w8.heap[w.heap.size]? = some (.cells #[.slice none 0 0, .int .i64 0, .int .i64 0, .int .i64 0, .int .i64 0, .slice none 0 0, .int .i64 0, .slice none 0 0] 30 (0, 0)) := (bA8.block _ (by omega)).trans HA1.out
  have q8 : w8.heap[w5.heap.size]? = some (.cells #[.slice (some ⟨w3.heap.size, 0, none⟩) 3 3, .int .i64 0, .int .i64 1, .int .i64 2, .int .i64 2, .slice none 0 0] 27 (0, 0)) := (bV8.block _ (by omega)).trans HV1.out
  have sB : w4.ownsRow (w.heap.size + 1) 24 2 (.slice (some ⟨w3.heap.size, 0, none⟩) 3 3) 3 [.int .i64 0, .int .i64 0, .int .i64 (-5), .int .i64 5, .int .i64 (-5), .int .i64 5] :=
    own_below (World.ownsRow_lit w3 #[.int .i64 0, .int .i64 0, .int .i64 (-5), .int .i64 5, .int .i64 (-5), .int .i64 5] 3 (by omega) (by unfold maxLen; omega) rfl) H4.out
  have sB8 := own_below sB b8
  have R8 := Lib.hid r8
  have Q8 := Lib.hid q8
  have SB8 := Lib.hid sB8
  have BA8 := Lib.hid bA8
  have SR : Hid ((w8.alloc (.cells #[.int .i64 1, .int .i64 0, .int .i64 0, .int .i64 3, .int .i64 4, .int .i64 2, .int .i64 0, .int .i64 10, .int .i64 3, .int .i64 3, .int .i64 1, .int .i64 2, .int .i64 20, .int .i64 5, .int .i64 7] 48)).ownsRow (w8.heap.size) 48 5 (.slice (some ⟨w8.heap.size, 0, none⟩) 3 3) 3 _) := World.ownsRow_lit w8 #[.int .i64 1, .int .i64 0, .int .i64 0, .int .i64 3, .int .i64 4, .int .i64 2, .int .i64 0, .int .i64 10, .int .i64 3, .int .i64 3, .int .i64 1, .int .i64 2, .int .i64 20, .int .i64 5, .int .i64 7] 3 (Nat.le_refl _) (by unfold maxLen; omega) rfl
  clear H1 H2 H3 H4 H5 H6 H7 H8 HA1 HV1 HV2 b3 b4 b48 bV8 b8 b38 bA8 r8 q8 sB sB8
  have k5 : ∀ o, (w8.alloc o).cell? ⟨w5.heap.size, 5, none⟩ = some (.slice none 0 0) := fun o => cell_of_row _ _ 5 _ _ _ ((hget_old _ _ _ (by omega)).trans Q8.out)
  have l5 : ∀ o, (w8.alloc o).frozen? ⟨w5.heap.size, 5, none⟩ = false := fun o => frozen_of_row _ _ 5 _ _ ((hget_old _ _ _ (by omega)).trans Q8.out)
  go_wp2_with fail
  obtain ⟨W9, hW9⟩ : ∃ W, W = w8.alloc (.cells #[.int .i64 1, .int .i64 0, .int .i64 0, .int .i64 3, .int .i64 4, .int .i64 2, .int .i64 0, .int .i64 10, .int .i64 3, .int .i64 3, .int .i64 1, .int .i64 2, .int .i64 20, .int .i64 5, .int .i64 7] 48) := ⟨_, rfl⟩
  have SR9 := SR.out
  have h9s : W9.heap.size = w8.heap.size + 1 := by rw [hW9]; simp
  have h9b : Below w8.heap.size w8 W9 := by rw [hW9]; exact (Below.refl _ _).alloc (Nat.le_refl _) _
  rw [← hW9] at SR9 ⊢
  rw [← h9s]
  have SR9' := Lib.hid SR9
  have h9l : W9.heap.size ≤ w8.heap.size + 1 := by omega
  have h9g : w8.heap.size + 1 ≤ W9.heap.size := by omega
  clear hW9 k5 l5 SR9 SR h9s
  obtain ⟨WL, hWL⟩ : ∃ W, W = (W9.setCell ⟨w5.heap.size, 5, none⟩ (.slice (some ⟨w8.heap.size, 0, none⟩) 3 3)).alloc (.cells #[.int .i64 5, .int .i64 4, .int .i64 1] 3) := ⟨_, rfl⟩
  have hWLs : WL.heap.size = W9.heap.size + 1 := by rw [hWL]; simp [World.setCell]
  have hWLo : ∀ k, k < W9.heap.size → k ≠ w5.heap.size → WL.heap[k]? = W9.heap[k]? := fun k h1 h2 => by rw [hWL]; exact (hget_old _ _ _ (by simp [World.setCell]; omega)).trans (Below.heap_setCell _ _ _ _ (by simp; omega))
  have hWLb : Below w5.heap.size W9 WL := by rw [hWL]; exact ((Below.refl _ _).setCell (by simp) _).alloc (by simp [World.setCell]; omega) _
  have rl : WL.heap[w.heap.size]? = some (.cells #[.slice none 0 0, .int .i64 0, .int .i64 0, .int .i64 0, .int .i64 0, .slice none 0 0, .int .i64 0, .slice none 0 0] 30 (0, 0)) := (hWLo _ (by omega) (by omega)).trans ((h9b.block _ (by omega)).trans R8.out)
  have ql : WL.heap[w5.heap.size]? = some (.cells #[.slice (some ⟨w3.heap.size, 0, none⟩) 3 3, .int .i64 0, .int .i64 1, .int .i64 2, .int .i64 2, .slice (some ⟨w8.heap.size, 0, none⟩) 3 3] 27 (0, 0)) := by rw [hWL]; exact (hget_old _ _ _ (by simp [World.setCell]; omega)).trans (set5_cell ((h9b.block _ (by omega)).trans Q8.out))
  have hnl : WL.ownsRow W9.heap.size 3 1 (.slice (some ⟨W9.heap.size, 0, none⟩) 3 3) 3 [.int .i64 5, .int .i64 4, .int .i64 1] := by
    have h1 := World.ownsRow_lit (base := W9.heap.size) (e := 3) (size := 1) (W9.setCell ⟨w5.heap.size, 5, none⟩ (.slice (some ⟨w8.heap.size, 0, none⟩) 3 3)) #[.int .i64 5, .int .i64 4, .int .i64 1] 3 (by simp [World.setCell]) (by unfold maxLen; omega) rfl
    rw [hWL]
    simpa [World.setCell] using h1
  have hsl : WL.ownsRow (w.heap.size + 1) 24 2 (.slice (some ⟨w3.heap.size, 0, none⟩) 3 3) 3 [.int .i64 0, .int .i64 0, .int .i64 (-5), .int .i64 5, .int .i64 (-5), .int .i64 5] := own_block SB8.out (fun k e => by
    simp [Value.ownBlock] at e
    subst e
    exact (hWLo _ (by omega) (by omega)).trans (h9b.block _ (by omega)))
  have RL := Lib.hid rl
  have QL := Lib.hid ql
  have NL := Lib.hid hnl
  have SL := Lib.hid hsl
  have BL := Lib.hid (HA2.out.trans (((BA8.out.mono (by omega)).trans (h9b.mono (by omega))).trans (hWLb.mono (by omega))))
  rw [← hWL]
  have hWLl : W9.heap.size + 1 ≤ WL.heap.size := by omega
  clear rl ql hnl hsl hWL hWLb hWLs
  have hrl := own_block SR9'.out (w' := WL) (fun k e => by
    simp [Value.ownBlock] at e
    subst e
    exact hWLo _ (by omega) (by omega))
  have HRL := Lib.hid hrl
  clear hrl hWLo
  go_loopw [6, 27] (fun pv iv wr => pv = .slice (some ⟨W9.heap.size, 0, none⟩) 3 3 ∧ iv = .int .i64 0 ∧ WL = wr) (fun _ _ _ => 0)
  case atStart => exact ⟨rfl, rfl, rfl⟩
  case round =>
    obtain ⟨rfl, rfl, rfl⟩ := hrel
    have g0 : WL.cell? ⟨w5.heap.size, 0, none⟩ = some (.slice (some ⟨w3.heap.size, 0, none⟩) 3 3) := by rw [cell_of_row _ _ _ _ _ _ QL.out]; rfl
    have g1 : WL.cell? ⟨w5.heap.size, 1, none⟩ = some (.int .i64 0) := by rw [cell_of_row _ _ _ _ _ _ QL.out]; rfl
    have g2 : WL.cell? ⟨w5.heap.size, 2, none⟩ = some (.int .i64 1) := by rw [cell_of_row _ _ _ _ _ _ QL.out]; rfl
    have g3 : WL.cell? ⟨w5.heap.size, 3, none⟩ = some (.int .i64 2) := by rw [cell_of_row _ _ _ _ _ _ QL.out]; rfl
    have g4 : WL.cell? ⟨w5.heap.size, 4, none⟩ = some (.int .i64 2) := by rw [cell_of_row _ _ _ _ _ _ QL.out]; rfl
    have g5 : WL.cell? ⟨w5.heap.size, 5, none⟩ = some (.slice (some ⟨w8.heap.size, 0, none⟩) 3 3) := by rw [cell_of_row _ _ _ _ _ _ QL.out]; rfl
    go_wp2_with (first | (refine wpList_storeA rfl 30 _ _ rfl w.heap.size #[.slice (some ⟨w3.heap.size, 0, none⟩) 3 3, .int .i64 0, .int .i64 1, .int .i64 2, .int .i64 2, .slice (some ⟨w8.heap.size, 0, none⟩) 3 3, .int .i64 wide, .slice (some ⟨W9.heap.size, 0, none⟩) 3 3] rfl rfl 30 _ RL.out rfl rfl (by simp [Value.oneCell']) ?_; intro wy hyr hyk hys; have HYR := Lib.hid hyr; have HYK := Lib.hid hyk; clear hyr hyk hys))
    have e0 := cell_of_row _ _ 0 _ _ _ HYR.out
    have e1 := cell_of_row _ _ 1 _ _ _ HYR.out
    have e2 := cell_of_row _ _ 2 _ _ _ HYR.out
    have e3 := cell_of_row _ _ 3 _ _ _ HYR.out
    have e4 := cell_of_row _ _ 4 _ _ _ HYR.out
    have e5 := cell_of_row _ _ 5 _ _ _ HYR.out
    have e6 := cell_of_row _ _ 6 _ _ _ HYR.out
    have e7 := cell_of_row _ _ 7 _ _ _ HYR.out
    refine bodyPost_ret (v := .agg (planRow (samplePD wide []) (.slice (some ⟨w3.heap.size, 0, none⟩) 3 3) (.slice (some ⟨w8.heap.size, 0, none⟩) 3 3) (.slice (some ⟨W9.heap.size, 0, none⟩) 3 3))) (by simp [results, Try.results25, go_sem, planRow, samplePD, e0, e1, e2, e3, e4, e5, e6, e7]) rfl ⟨⟨_, _, _, rfl, PlanNew.mk ?_ ?_ ?_⟩, ?_⟩
    · exact (((spansAt_of_owns (l := (samplePD wide []).pr.bs) SL.out).later HYK.out.size (fun k h1 h2 => HYK.out.block k h1 (by omega))).mono (fun k (h : w.heap.size + 1 ≤ k) => (by omega : w.heap.size ≤ k)))
    · exact (((readsAt_of_owns (l := (samplePD wide []).pr.rs) HRL.out).later HYK.out.size (fun k h1 h2 => HYK.out.block k h1 (by omega))).mono (fun k (h : w8.heap.size ≤ k) => (by omega : w.heap.size ≤ k)))
    · exact (((nums_of_own (l := (samplePD wide []).prices) rfl NL.out).later HYK.out.size (fun k h1 h2 => HYK.out.block k h1 (by omega))).mono (fun k (h : W9.heap.size ≤ k) => (by omega : w.heap.size ≤ k)))
    · exact BL.out.trans (HYK.out.below BL.out.size (fun k h e => by omega))
set_option maxRecDepth 100000 in
set_option maxHeartbeats 4000000 in
theorem psample1_any (wide : Int) (r : RdD) (g c : Nat) (w : World) (hg : w.heap[g]? = some (.cells (rdC r).toArray 48 (0, 0))) : Calls Try.prog 25 #[.int .i64 wide, .slice (some ⟨g, 0, none⟩) 1 c] w fun e w' => (∃ bs rs ps, e = .returned (.agg (planRow (samplePD wide [r]) bs rs ps)) ∧ PlanNew w.heap.size w' (samplePD wide [r]) bs rs ps) ∧ Below w.heap.size w w' := by
  have hltg := lt_of_block hg
  have HG := Lib.hid hg
  clear hg
  go_enter Try.func25, Try.ntmps25
  go_wp2_with fail
  obtain ⟨A, hA⟩ : ∃ A, A = w.alloc (.cells #[.slice none 0 0, .int .i64 0, .int .i64 0, .int .i64 0, .int .i64 0, .slice none 0 0, .int .i64 0, .slice none 0 0] 30) := ⟨_, rfl⟩
  have HA1 := Lib.hid (show A.heap[w.heap.size]? = some (.cells #[.slice none 0 0, .int .i64 0, .int .i64 0, .int .i64 0, .int .i64 0, .slice none 0 0, .int .i64 0, .slice none 0 0] 30 (0, 0)) by rw [hA]; exact heap_alloc_at _ _ _ rfl)
  have HA2 := Lib.hid (show Below w.heap.size w A by rw [hA]; exact (Below.refl _ _).alloc (Nat.le_refl _) _)
  have hA3 : A.heap.size = w.heap.size + 1 := by rw [hA]; simp
  rw [← hA]
  clear hA
  refine (lspan8_any (0) (0) _).mono ?_
  rintro e w1 ⟨rfl, hb1⟩
  have H1 := Lib.hid hb1
  clear hb1
  unfold spanV
  go_wp2_with fail
  refine (lspan8_any (-5) (5) _).mono ?_
  rintro e w2 ⟨rfl, hb1⟩
  have H2 := Lib.hid hb1
  clear hb1
  unfold spanV
  go_wp2_with fail
  refine (lspan8_any (-5) (5) _).mono ?_
  rintro e w3 ⟨rfl, hb1⟩
  have H3 := Lib.hid hb1
  clear hb1
  unfold spanV
  go_wp2_with fail
  refine (lspan8_any (0) (1) _).mono ?_
  rintro e w4 ⟨rfl, hb1⟩
  have H4 := Lib.hid hb1
  clear hb1
  unfold spanV
  go_wp2_with fail
  refine (lspan8_any (2) (2) _).mono ?_
  rintro e w5 ⟨rfl, hb1⟩
  have H5 := Lib.hid hb1
  clear hb1
  unfold spanV
  go_wp2_with fail
  obtain ⟨V, hV⟩ : ∃ V, V = w5.alloc (.cells #[.slice (some ⟨w3.heap.size, 0, none⟩) 3 3, .int .i64 0, .int .i64 1, .int .i64 2, .int .i64 2, .slice none 0 0] 27) := ⟨_, rfl⟩
  have HV1 := Lib.hid (show V.heap[w5.heap.size]? = some (.cells #[.slice (some ⟨w3.heap.size, 0, none⟩) 3 3, .int .i64 0, .int .i64 1, .int .i64 2, .int .i64 2, .slice none 0 0] 27 (0, 0)) by rw [hV]; exact heap_alloc_at _ _ _ rfl)
  have HV2 := Lib.hid (show Below w5.heap.size w5 V by rw [hV]; exact (Below.refl _ _).alloc (Nat.le_refl _) _)
  have hV3 : V.heap.size = w5.heap.size + 1 := by rw [hV]; simp
  rw [← hV]
  clear hV
  refine (lspan8_any (3) (4) _).mono ?_
  rintro e w6 ⟨rfl, hb1⟩
  have H6 := Lib.hid hb1
  clear hb1
  unfold spanV
  go_wp2_with fail
  refine (lspan8_any (3) (3) _).mono ?_
  rintro e w7 ⟨rfl, hb1⟩
  have H7 := Lib.hid hb1
  clear hb1
  unfold spanV
  go_wp2_with fail
  refine (lspan8_any 5 7 _).mono ?_
  rintro e w8 ⟨rfl, H8'⟩
  have H8 := Lib.hid H8'
  clear H8'
  unfold spanV
  have a1 := H1.out.size
  have a2 := H2.out.size
  have a3 := H3.out.size
  have a4 : w3.heap.size + 1 ≤ w4.heap.size := by have := H4.out.size; simpa using this
  have a5 := H5.out.size
  have a6 := H6.out.size
  have a7 := H7.out.size
  have a8 := H8.out.size
  have b3 : Below A.heap.size A w3 := H1.out.trans ((H2.out.mono a1).trans (H3.out.mono (by omega)) |>.mono (Nat.le_refl _))
  have b4 : Below w3.heap.size w3 w4 := ((Below.refl _ _).alloc (Nat.le_refl _) _).trans (H4.out.mono (by simp))
  have b48 : Below w4.heap.size w4 V := H5.out.trans (HV2.out.mono a5)
  have bV8 : Below V.heap.size V w8 := H6.out.trans ((H7.out.mono a6).trans (H8.out.mono (by omega)))
  have b8 : Below w4.heap.size w4 w8 := b48.trans (bV8.mono (by omega))
  have b38 : Below w3.heap.size w3 w8 := b4.trans (b8.mono (by omega))
  have bA8 : Below A.heap.size A w8 := b3.trans (b38.mono (by omega))
  have r8 : w8.heap[w.heap.size]? = some (.cells #[.slice none 0 0, .int .i64 0, .int .i64 0, .int .i64 0, .int .i64 0, .slice none 0 0, .int .i64 0, .slice none 0 0] 30 (0, 0)) := (bA8.block _ (by omega)).trans HA1.out
  have q8 : w8.heap[w5.heap.size]? = some (.cells #[.slice (some ⟨w3.heap.size, 0, none⟩) 3 3, .int .i64 0, .int .i64 1, .int .i64 2, .int .i64 2, .slice none 0 0] 27 (0, 0)) := (bV8.block _ (by omega)).trans HV1.out
  have sB : w4.ownsRow (w.heap.size + 1) 24 2 (.slice (some ⟨w3.heap.size, 0, none⟩) 3 3) 3 [.int .i64 0, .int .i64 0, .int .i64 (-5), .int .i64 5, .int .i64 (-5), .int .i64 5] :=
    own_below (World.ownsRow_lit w3 #[.int .i64 0, .int .i64 0, .int .i64 (-5), .int .i64 5, .int .i64 (-5), .int .i64 5] 3 (by omega) (by unfold maxLen; omega) rfl) H4.out
  have sB8 := own_below sB b8
  have R8 := Lib.hid r8
  have Q8 := Lib.hid q8
  have SB8 := Lib.hid sB8
  have BA8 := Lib.hid bA8
  have SR : Hid ((w8.alloc (.cells #[.int .i64 1, .int .i64 0, .int .i64 0, .int .i64 3, .int .i64 4, .int .i64 2, .int .i64 0, .int .i64 10, .int .i64 3, .int .i64 3, .int .i64 1, .int .i64 2, .int .i64 20, .int .i64 5, .int .i64 7] 48)).ownsRow (w8.heap.size) 48 5 (.slice (some ⟨w8.heap.size, 0, none⟩) 3 3) 3 _) := World.ownsRow_lit w8 #[.int .i64 1, .int .i64 0, .int .i64 0, .int .i64 3, .int .i64 4, .int .i64 2, .int .i64 0, .int .i64 10, .int .i64 3, .int .i64 3, .int .i64 1, .int .i64 2, .int .i64 20, .int .i64 5, .int .i64 7] 3 (Nat.le_refl _) (by unfold maxLen; omega) rfl
  clear H1 H2 H3 H4 H5 H6 H7 H8 HA1 HV1 HV2 b3 b4 b48 bV8 b8 b38 bA8 r8 q8 sB sB8
  have hg8 : w8.heap[g]? = some (.cells (rdC r).toArray 48 (0, 0)) := (BA8.out.block g (by omega)).trans ((HA2.out.block g hltg).trans HG.out)
  have HG8 := Lib.hid hg8
  clear hg8
  go_wp2_with (first | (at_builtin; refine wpList_append1 rfl _ _ 25 rfl w8.heap.size 48 5 40 _ underReads infoRead rfl (by decide) _ 3 _ rfl SR.out g c (rdC r).toArray 48 (0, 0) rfl ((hget_old _ _ _ (by omega)).trans HG8.out) rfl (by simp [rdC, Value.oneCell']) (by omega) (by decide) (by simp) ?_; intro v' W9 hown' hgrow' hbel'; obtain ⟨g9, c9, rfl⟩ := own_pos hown'; have h9b : Below w8.heap.size w8 W9 := (((Below.refl _ _).alloc (Nat.le_refl _) _).trans hbel'); have k5 : W9.cell? ⟨w5.heap.size, 5, none⟩ = some (.slice none 0 0) := cell_of_row _ _ 5 _ _ _ ((h9b.block _ (by omega)).trans Q8.out); have l5 : W9.frozen? ⟨w5.heap.size, 5, none⟩ = false := frozen_of_row _ _ 5 _ _ ((h9b.block _ (by omega)).trans Q8.out); have HO9 := Lib.hid hown'; have hg9 : g9 < W9.heap.size := (hown'.lt g9 rfl).2; have hg9b : w8.heap.size ≤ g9 := own_base hown' g9 rfl; have h9z : w8.heap.size ≤ W9.heap.size := h9b.size; clear hown' hgrow' hbel'))
  clear k5 l5 SR
  obtain ⟨WL, hWL⟩ : ∃ W, W = (W9.setCell ⟨w5.heap.size, 5, none⟩ (.slice (some ⟨g9, 0, none⟩) 4 c9)).alloc (.cells #[.int .i64 5, .int .i64 4, .int .i64 1] 3) := ⟨_, rfl⟩
  have hWLs : WL.heap.size = W9.heap.size + 1 := by rw [hWL]; simp [World.setCell]
  have hWLo : ∀ k, k < W9.heap.size → k ≠ w5.heap.size → WL.heap[k]? = W9.heap[k]? := fun k h1 h2 => by rw [hWL]; exact (hget_old _ _ _ (by simp [World.setCell]; omega)).trans (Below.heap_setCell _ _ _ _ (by simp; omega))
  have hWLb : Below w5.heap.size W9 WL := by rw [hWL]; exact ((Below.refl _ _).setCell (by simp) _).alloc (by simp [World.setCell]; omega) _
  have rl : WL.heap[w.heap.size]? = some (.cells #[.slice none 0 0, .int .i64 0, .int .i64 0, .int .i64 0, .int .i64 0, .slice none 0 0, .int .i64 0, .slice none 0 0] 30 (0, 0)) := (hWLo _ (by omega) (by omega)).trans ((h9b.block _ (by omega)).trans R8.out)
  have ql : WL.heap[w5.heap.size]? = some (.cells #[.slice (some ⟨w3.heap.size, 0, none⟩) 3 3, .int .i64 0, .int .i64 1, .int .i64 2, .int .i64 2, .slice (some ⟨g9, 0, none⟩) 4 c9] 27 (0, 0)) := by rw [hWL]; exact (hget_old _ _ _ (by simp [World.setCell]; omega)).trans (set5_cell ((h9b.block _ (by omega)).trans Q8.out))
  have hnl : WL.ownsRow W9.heap.size 3 1 (.slice (some ⟨W9.heap.size, 0, none⟩) 3 3) 3 [.int .i64 5, .int .i64 4, .int .i64 1] := by
    have h1 := World.ownsRow_lit (base := W9.heap.size) (e := 3) (size := 1) (W9.setCell ⟨w5.heap.size, 5, none⟩ (.slice (some ⟨g9, 0, none⟩) 4 c9)) #[.int .i64 5, .int .i64 4, .int .i64 1] 3 (by simp [World.setCell]) (by unfold maxLen; omega) rfl
    rw [hWL]
    simpa [World.setCell] using h1
  have hsl : WL.ownsRow (w.heap.size + 1) 24 2 (.slice (some ⟨w3.heap.size, 0, none⟩) 3 3) 3 [.int .i64 0, .int .i64 0, .int .i64 (-5), .int .i64 5, .int .i64 (-5), .int .i64 5] := own_block SB8.out (fun k e => by
    simp [Value.ownBlock] at e
    subst e
    exact (hWLo _ (by omega) (by omega)).trans (h9b.block _ (by omega)))
  have RL := Lib.hid rl
  have QL := Lib.hid ql
  have NL := Lib.hid hnl
  have SL := Lib.hid hsl
  have BL := Lib.hid (HA2.out.trans (((BA8.out.mono (by omega)).trans (h9b.mono (by omega))).trans (hWLb.mono (by omega))))
  rw [← hWL]
  have hWLl : W9.heap.size + 1 ≤ WL.heap.size := by omega
  clear rl ql hnl hsl hWL hWLb hWLs
  have hrl := own_block HO9.out (w' := WL) (fun k e => by
    simp [Value.ownBlock] at e
    subst e
    exact hWLo _ (by omega) (by omega))
  have HRL := Lib.hid hrl
  clear hrl hWLo
  go_loopw [6, 27] (fun pv iv wr => (pv = .slice (some ⟨W9.heap.size, 0, none⟩) 3 3 ∧ iv = .int .i64 0 ∧ WL = wr) ∨ ∃ av nv cv, pv = .slice av nv cv ∧ iv = .int .i64 1 ∧ wr.ownsRow W9.heap.size 3 1 (.slice av nv cv) 4 [.int .i64 5, .int .i64 4, .int .i64 1, .int .i64 1] ∧ Below W9.heap.size WL wr) (fun _ iv _ => 1 - (intOf iv).toNat)
  case atStart => exact .inl ⟨rfl, rfl, rfl⟩
  case round =>
    rcases hrel with ⟨rfl, rfl, rfl⟩ | ⟨av, nv, cv, rfl, rfl, hown, hb⟩
    · go_wp2_with (first | (at_builtin; refine wpList_append1 rfl _ _ 28 rfl W9.heap.size 3 1 8 (.int .i64 0) underInts infoInt rfl (by decide) _ 3 _ rfl (NL.out.alloc _) WL.heap.size 1 #[.int .i64 1] 3 (0, 0) rfl (heap_alloc_at _ _ _ rfl) rfl (by simp [Value.oneCell']) (by omega) (by decide) (by simp; omega) ?_; intro v' W10 hown' hgrow' hbel'; obtain ⟨g10, c10, rfl⟩ := own_pos hown'; have HO10 := Lib.hid hown'; have HB10 : Hid (Below W9.heap.size WL W10) := Lib.hid (((Below.refl _ _).alloc (by omega) _).trans hbel'); clear hown' hgrow' hbel'))
      exact ⟨.inr ⟨_, _, _, rfl, rfl, HO10.out, HB10.out⟩, by simp [intOf]⟩
    · have QL' := Lib.hid ((hb.block _ (by omega)).trans QL.out)
      have RL' := Lib.hid ((hb.block _ (by omega)).trans RL.out)
      have SL' := Lib.hid (own_block SL.out (w' := wr) (fun k e => by
        simp [Value.ownBlock] at e
        subst e
        exact hb.block _ (by omega)))
      have HRL' := Lib.hid (own_block HRL.out (w' := wr) (fun k e => by
        simp [Value.ownBlock] at e
        subst e
        exact hb.block _ hg9))
      have BL' := Lib.hid (BL.out.trans (hb.mono (by omega)))
      have NL' := Lib.hid hown
      have hzr := hb.size
      clear QL RL SL HRL BL NL hown hb
      rename_i _
      have QL := QL'
      have RL := RL'
      clear QL' RL'
      have g0 : wr.cell? ⟨w5.heap.size, 0, none⟩ = some (.slice (some ⟨w3.heap.size, 0, none⟩) 3 3) := by rw [cell_of_row _ _ _ _ _ _ QL.out]; rfl
      have g1 : wr.cell? ⟨w5.heap.size, 1, none⟩ = some (.int .i64 0) := by rw [cell_of_row _ _ _ _ _ _ QL.out]; rfl
      have g2 : wr.cell? ⟨w5.heap.size, 2, none⟩ = some (.int .i64 1) := by rw [cell_of_row _ _ _ _ _ _ QL.out]; rfl
      have g3 : wr.cell? ⟨w5.heap.size, 3, none⟩ = some (.int .i64 2) := by rw [cell_of_row _ _ _ _ _ _ QL.out]; rfl
      have g4 : wr.cell? ⟨w5.heap.size, 4, none⟩ = some (.int .i64 2) := by rw [cell_of_row _ _ _ _ _ _ QL.out]; rfl
      have g5 : wr.cell? ⟨w5.heap.size, 5, none⟩ = some (.slice (some ⟨g9, 0, none⟩) 4 c9) := by rw [cell_of_row _ _ _ _ _ _ QL.out]; rfl
      go_wp2_with (first | (refine wpList_storeA rfl 30 _ _ rfl w.heap.size #[.slice (some ⟨w3.heap.size, 0, none⟩) 3 3, .int .i64 0, .int .i64 1, .int .i64 2, .int .i64 2, .slice (some ⟨g9, 0, none⟩) 4 c9, .int .i64 wide, .slice av nv cv] rfl rfl 30 _ RL.out rfl rfl (by simp [Value.oneCell']) ?_; intro wy hyr hyk hys; have HYR := Lib.hid hyr; have HYK := Lib.hid hyk; clear hyr hyk hys))
      have e0 := cell_of_row _ _ 0 _ _ _ HYR.out
      have e1 := cell_of_row _ _ 1 _ _ _ HYR.out
      have e2 := cell_of_row _ _ 2 _ _ _ HYR.out
      have e3 := cell_of_row _ _ 3 _ _ _ HYR.out
      have e4 := cell_of_row _ _ 4 _ _ _ HYR.out
      have e5 := cell_of_row _ _ 5 _ _ _ HYR.out
      have e6 := cell_of_row _ _ 6 _ _ _ HYR.out
      have e7 := cell_of_row _ _ 7 _ _ _ HYR.out
      refine bodyPost_ret (v := .agg (planRow (samplePD wide [r]) (.slice (some ⟨w3.heap.size, 0, none⟩) 3 3) (.slice (some ⟨g9, 0, none⟩) 4 c9) (.slice av nv cv))) (by simp [results, Try.results25, go_sem, planRow, samplePD, e0, e1, e2, e3, e4, e5, e6, e7]) rfl ⟨⟨_, _, _, rfl, PlanNew.mk ?_ ?_ ?_⟩, ?_⟩
      · exact (((spansAt_of_owns (l := (samplePD wide [r]).pr.bs) SL'.out).later HYK.out.size (fun k h1 h2 => HYK.out.block k h1 (by omega))).mono (fun k (h : w.heap.size + 1 ≤ k) => (by omega : w.heap.size ≤ k)))
      · exact (((readsAt_of_owns (l := (samplePD wide [r]).pr.rs) HRL'.out).later HYK.out.size (fun k h1 h2 => HYK.out.block k h1 (by omega))).mono (fun k (h : w8.heap.size ≤ k) => (by omega : w.heap.size ≤ k)))
      · exact (((nums_of_own (l := (samplePD wide [r]).prices) rfl NL'.out).later HYK.out.size (fun k h1 h2 => HYK.out.block k h1 (by omega))).mono (fun k (h : W9.heap.size ≤ k) => (by omega : w.heap.size ≤ k)))
      · exact BL'.out.trans (HYK.out.below BL'.out.size (fun k h e => by omega))
end Go.Proofs.Ytabbmihakoeegaa

/- awake: results that the document fixes. -/
namespace Go.Proofs.Ytabbmihakoeegaa
set_option linter.unusedVariables false
set_option linter.unusedSimpArgs false
open Go.RowKit Go.Shelf
attribute [local go_sem] Oper.semAt_some

set_option maxRecDepth 100000 in
set_option maxHeartbeats 2000000 in
theorem pclash_any (w : World) : Calls Try.prog 27 #[] w fun e w' => (∃ bs rs ps, e = .returned (.agg (planRow clashPD bs rs ps)) ∧ PlanNew w.heap.size w' clashPD bs rs ps) ∧ Below w.heap.size w w' := by
  go_enter Try.func27, Try.ntmps27
  go_wp2_with fail
  obtain ⟨A, hA⟩ : ∃ A, A = w.alloc (.cells #[.slice none 0 0, .int .i64 0, .int .i64 0, .int .i64 0, .int .i64 0, .slice none 0 0, .int .i64 0, .slice none 0 0] 30) := ⟨_, rfl⟩
  have ha1 : A.heap[w.heap.size]? = some (.cells #[.slice none 0 0, .int .i64 0, .int .i64 0, .int .i64 0, .int .i64 0, .slice none 0 0, .int .i64 0, .slice none 0 0] 30 (0, 0)) := by rw [hA]; exact heap_alloc_at _ _ _ rfl
  have ha2 : Below w.heap.size w A := by rw [hA]; exact (Below.refl _ _).alloc (Nat.le_refl _) _
  have ha3 : w.heap.size + 1 ≤ A.heap.size := by rw [hA]; simp
  rw [← hA]
  clear hA
  refine (lspan8_any 5 5 _).mono ?_
  rintro e w1 ⟨rfl, hb1⟩
  unfold spanV
  have hb1s := hb1.size
  have HA1 := Lib.hid ((hb1.block _ (by omega)).trans ha1)
  have HA2 := Lib.hid (ha2.trans (hb1.mono (by omega)))
  clear hb1 ha1 ha2
  go_wp2_with fail
  refine (psample1_any 2 ⟨2, 1, 0, 5, 5⟩ w1.heap.size 1 _ (heap_alloc_at _ _ _ rfl)).mono ?_
  rintro e w2 ⟨⟨bs, rs, ps, rfl, hpa⟩, hb2⟩
  have hb2s : w1.heap.size + 1 ≤ w2.heap.size := by have := hb2.size; simpa using this
  have HR2 := Lib.hid ((hb2.block w.heap.size (by simp; omega)).trans ((hget_old _ _ _ (by omega)).trans HA1.out))
  have HB2 := Lib.hid ((HA2.out.alloc (by omega) _).trans (hb2.mono (by simp; omega)))
  obtain ⟨aob, capb, hbv, _⟩ := id hpa.b
  obtain ⟨aor, capr, hrv, _⟩ := id hpa.r
  obtain ⟨aop, capp, hpv, _⟩ := id hpa.n
  subst hbv hrv hpv
  have HPA := Lib.hid hpa
  have hb2w : w.heap.size + 1 ≤ w1.heap.size := by omega
  clear hb2 hpa HA1 HA2
  unfold planRow
  go_wp2_with (first | (refine wpList_storeA rfl 30 _ _ rfl w.heap.size (planRow (samplePD 2 [⟨2, 1, 0, 5, 5⟩]) (.slice aob (samplePD 2 [⟨2, 1, 0, 5, 5⟩]).pr.bs.length capb) (.slice aor (samplePD 2 [⟨2, 1, 0, 5, 5⟩]).pr.rs.length capr) (.slice aop (samplePD 2 [⟨2, 1, 0, 5, 5⟩]).prices.length capp)) rfl rfl 30 _ HR2.out rfl rfl (by simp [planRow, Value.oneCell']) ?_; intro wy hyr hyk hys; have HYR := Lib.hid hyr; have HYK := Lib.hid hyk; clear hyr hyk hys))
  have e0 := cell_of_row _ _ 0 _ _ _ HYR.out
  have e1 := cell_of_row _ _ 1 _ _ _ HYR.out
  have e2 := cell_of_row _ _ 2 _ _ _ HYR.out
  have e3 := cell_of_row _ _ 3 _ _ _ HYR.out
  have e4 := cell_of_row _ _ 4 _ _ _ HYR.out
  have e5 := cell_of_row _ _ 5 _ _ _ HYR.out
  have e6 := cell_of_row _ _ 6 _ _ _ HYR.out
  have e7 := cell_of_row _ _ 7 _ _ _ HYR.out
  unfold planRow at e0 e1 e2 e3 e4 e5 e6 e7
  refine bodyPost_ret (v := .agg (planRow clashPD (.slice aob (samplePD 2 [⟨2, 1, 0, 5, 5⟩]).pr.bs.length capb) (.slice aor (samplePD 2 [⟨2, 1, 0, 5, 5⟩]).pr.rs.length capr) (.slice aop (samplePD 2 [⟨2, 1, 0, 5, 5⟩]).prices.length capp))) (by simp [results, Try.results27, go_sem, planRow, clashPD, samplePD, e0, e1, e2, e3, e4, e5, e6, e7]) rfl ⟨⟨_, _, _, rfl, ?_⟩, ?_⟩
  · have hpa := HPA.out
    have hz := hb2w
    exact ⟨(hpa.b.later HYK.out.size (fun k h1 h2 => HYK.out.block k h1 (by simp at h2; omega))).mono (fun k h => by simp at h; omega), (hpa.r.later HYK.out.size (fun k h1 h2 => HYK.out.block k h1 (by simp at h2; omega))).mono (fun k h => by simp at h; omega), (hpa.n.later HYK.out.size (fun k h1 h2 => HYK.out.block k h1 (by simp at h2; omega))).mono (fun k h => by simp at h; omega)⟩
  · exact HB2.out.trans (HYK.out.below HB2.out.size (fun k h e => by omega))
end Go.Proofs.Ytabbmihakoeegaa

/- awake: results that the document fixes. -/
namespace Go.Proofs.Ytabbmihakoeegaa
set_option linter.unusedVariables false
set_option linter.unusedSimpArgs false
open Go.RowKit Go.Shelf
attribute [local go_sem] Oper.semAt_some

abbrev pP : PlanD := samplePD 2 []
abbrev pQ : PlanD := samplePD 3 []
theorem aw1 {w : World} {bs rs ps : Value} (h : PlanAt w pP bs rs ps) : Calls Try.prog 10 #[.agg (planRow pP bs rs ps), .int .i64 5] w fun e w' => e = .returned (.tuple #[.int .i64 3, .int .i64 3, .int .i64 0]) ∧ Below w.heap.size w w' := by
  have := blocksV_any 5 h; rw [val_blocksP] at this; exact this
theorem aw2 {w : World} {bs rs ps : Value} (h : PlanAt w pP bs rs ps) : Calls Try.prog 17 #[.agg (planRow pP bs rs ps)] w fun e w' => e = .returned (.tuple #[.int .i64 3, .int .i64 0]) ∧ Below w.heap.size w w' := by
  have := fewestV_any h; rw [val_fewestP] at this; exact this
theorem aw3 {w : World} {bs rs ps : Value} (h : PlanAt w pQ bs rs ps) : Calls Try.prog 26 #[.agg (planRow pQ bs rs ps)] w fun e w' => e = .returned (.tuple #[.int .i64 5, .int .i64 6, .int .i64 0]) ∧ Below w.heap.size w w' := by
  have := cheapestV_any h; rw [val_cheapP] at this; exact this
theorem aw4 {w : World} {bs rs ps : Value} (h : PlanAt w pQ bs rs ps) : Calls Try.prog 18 #[.agg (planRow pQ bs rs ps)] w fun e w' => e = .returned (.tuple #[.int .i64 1, .int .i64 0]) ∧ Below w.heap.size w w' := by
  have := neededV_any h; rw [val_neededP] at this; exact this
theorem aw5 {w : World} {bs rs ps : Value} (h : PlanAt w pP bs rs ps) : Calls Try.prog 13 #[.agg (planRow pP bs rs ps), .int .i64 1] w fun e w' => e = .returned (.tuple #[.int .i64 0, .int .i64 10, .int .i64 0]) ∧ Below w.heap.size w w' := by
  have := bestPlV_any 1 h; rw [val_bestP] at this; exact this
theorem aw6 {w : World} {bs rs ps : Value} (h : PlanAt w pP bs rs ps) : Calls Try.prog 23 #[.agg (planRow pP bs rs ps)] w fun e w' => ∃ v, e = .returned (.tuple #[v, .int .i64 0]) ∧ NumsAt w' v [1, 0] (fun k => w.heap.size ≤ k) ∧ Below w.heap.size w w' := by
  have := orderV_any h; unfold OrderR at this; rw [val_orderP] at this; exact this
theorem aw7 {w : World} {bs rs ps : Value} (h : PlanAt w clashPD bs rs ps) : Calls Try.prog 21 #[.agg (planRow clashPD bs rs ps)] w fun e w' => e = .returned (.tuple #[.int .i64 3, .int .i64 0]) ∧ Below w.heap.size w w' := by
  have := closedV_any h; rw [val_closedP] at this; exact this
theorem aw8 {w : World} {bs rs ps : Value} (h : PlanAt w clashPD bs rs ps) : Calls Try.prog 17 #[.agg (planRow clashPD bs rs ps)] w fun e w' => e = .returned (.tuple #[.int .i64 0, .int .i64 10]) ∧ Below w.heap.size w w' := by
  have := fewestV_any h; rw [val_fewest2] at this; exact this
theorem aw9 {w : World} {bs rs ps : Value} (h : PlanAt w (samplePD 1 []) bs rs ps) : Calls Try.prog 17 #[.agg (planRow (samplePD 1 []) bs rs ps)] w fun e w' => e = .returned (.tuple #[.int .i64 0, .int .i64 4]) ∧ Below w.heap.size w w' := by
  have := fewestV_any h; rw [val_fewest3] at this; exact this
theorem underPlan : Try.prog.underlying 30 = some (.struct (Try.prog.fieldsOf 30)) := by kernel_rfl
/-- Two plans in boxes. -/
structure Two8 (w0 : World) (b : Nat) (p q : PlanD) (bs1 rs1 ps1 bs2 rs2 ps2 : Value) (w : World) : Prop where
  p1 : w.heap[b]? = some (.cells (planRow p bs1 rs1 ps1) 30 (0, 0))
  p2 : w.heap[b + 1]? = some (.cells (planRow q bs2 rs2 ps2) 30 (0, 0))
  a1 : PlanAt w p bs1 rs1 ps1
  a2 : PlanAt w q bs2 rs2 ps2
  bl : Below w0.heap.size w0 w
theorem Two8.later {w0 : World} {b : Nat} {p q : PlanD} {bs1 rs1 ps1 bs2 rs2 ps2 : Value} {w w' : World} (h : Two8 w0 b p q bs1 rs1 ps1 bs2 rs2 ps2 w) (hb : Below w.heap.size w w') : Two8 w0 b p q bs1 rs1 ps1 bs2 rs2 ps2 w' :=
  ⟨(hb.block _ (lt_of_block h.p1)).trans h.p1, (hb.block _ (lt_of_block h.p2)).trans h.p2, h.a1.later hb, h.a2.later hb, h.bl.trans (hb.mono h.bl.size)⟩
set_option maxRecDepth 100000 in
set_option maxHeartbeats 8000000 in
theorem awake_any (w : World) : Calls Try.prog 9 #[] w fun e w' => e = .returned (.bool true) ∧ Below w.heap.size w w' := by
  go_enter Try.func9, Try.ntmps9
  go_wp2_with fail
  refine (psample0_any 2 w).mono ?_
  rintro e w1 ⟨⟨bs1, rs1, ps1, rfl, hn1⟩, hb1⟩
  have HN1 := Lib.hid hn1
  have HB1 := Lib.hid hb1
  clear hn1 hb1
  go_wp2_with fail
  refine (psample0_any 3 w1).mono ?_
  rintro e w2 ⟨⟨bs2, rs2, ps2, rfl, hn2⟩, hb2⟩
  have HN2 := Lib.hid hn2
  have HB2 := Lib.hid hb2
  clear hn2 hb2
  have hz1 := HB1.out.size
  have hz2 := HB2.out.size
  have o1 : bs1.oneCell' = true := by obtain ⟨_, _, h, _⟩ := HN1.out.b; rw [h]; rfl
  have o2 : rs1.oneCell' = true := by obtain ⟨_, _, h, _⟩ := HN1.out.r; rw [h]; rfl
  have o3 : ps1.oneCell' = true := by obtain ⟨_, _, h, _⟩ := HN1.out.n; rw [h]; rfl
  have o4 : bs2.oneCell' = true := by obtain ⟨_, _, h, _⟩ := HN2.out.b; rw [h]; rfl
  have o5 : rs2.oneCell' = true := by obtain ⟨_, _, h, _⟩ := HN2.out.r; rw [h]; rfl
  have o6 : ps2.oneCell' = true := by obtain ⟨_, _, h, _⟩ := HN2.out.n; rw [h]; rfl
  have hone1 : (planRow pP bs1 rs1 ps1).all (·.oneCell') = true := by simp [planRow, o1, o2, o3, show ∀ k n, (Value.int k n).oneCell' = true from fun _ _ => rfl]
  have hone2 : (planRow pQ bs2 rs2 ps2).all (·.oneCell') = true := by simp [planRow, o4, o5, o6, show ∀ k n, (Value.int k n).oneCell' = true from fun _ _ => rfl]
  go_wp2_with (first | (refine wpList_storeA rfl 30 _ _ rfl w2.heap.size (planRow pP bs1 rs1 ps1) rfl rfl 30 _ ((hget_old _ _ _ (by simp)).trans (heap_alloc_at _ _ _ rfl)) rfl rfl hone1 ?_; intro W3 hr3 hk3 hs3; have HR3 := Lib.hid hr3; have HK3 := Lib.hid hk3; have hz3 : w2.heap.size + 2 ≤ W3.heap.size := (by rw [hs3]; simp); have hq3 := (hk3.block (w2.heap.size + 1) (by simp) (by omega)).trans (heap_alloc_at _ _ _ (by simp)); have HQ3 := Lib.hid hq3; clear hr3 hk3 hs3 hq3) | (refine wpList_storeA rfl 30 _ _ rfl (w2.heap.size + 1) (planRow pQ bs2 rs2 ps2) rfl rfl 30 _ HQ3.out rfl rfl hone2 ?_; intro W4 hr4 hk4 hs4; have HR4 := Lib.hid hr4; have HK4 := Lib.hid hk4; have hz4 : w2.heap.size + 2 ≤ W4.heap.size := (by rw [hs4]; exact hz3); clear hr4 hk4 hs4) | (refine wpList_load_row rfl 30 _ rfl w2.heap.size rfl 30 (planRow pP bs1 rs1 ps1) (0, 0) _ ((HK4.out.block _ (by omega) (by omega)).trans HR3.out) underPlan rfl rfl ?_))
  have T0 : Hid (Two8 w w2.heap.size pP pQ bs1 rs1 ps1 bs2 rs2 ps2 W4) := by
    have hk34 : Below w2.heap.size w2 W4 := by
      have a1 : Keeps (fun k => k = w2.heap.size ∨ k = w2.heap.size + 1) w2 W4 := ((((Keeps.alloc _ _ _).trans (Keeps.alloc _ _ _)).trans (HK3.out.mono (fun k _ h => .inl h))).trans (HK4.out.mono (fun k _ h => .inr h)))
      exact a1.below (Nat.le_refl _) (fun k h e => by omega)
    have h1 : Below w1.heap.size w1 w2 := HB2.out
    refine ⟨(HK4.out.block _ (by omega) (by omega)).trans HR3.out, HR4.out, (HN1.out.at.later h1).later hk34, HN2.out.at.later hk34, (HB1.out.trans (h1.mono hz1)).trans (hk34.mono (by omega))⟩
  clear HN1 HN2 HB1 HB2 HR3 HK3 HQ3 HR4 HK4 hone1 hone2 o1 o2 o3 o4 o5 o6
  refine (aw1 T0.out.a1).mono ?_
  rintro e V1 ⟨rfl, hb⟩
  have T1 := Lib.hid (T0.out.later hb)
  clear hb T0
  go_wp2_with (first | (refine wpList_load_row rfl 30 _ rfl w2.heap.size rfl 30 (planRow pP bs1 rs1 ps1) (0, 0) _ T1.out.p1 underPlan rfl rfl ?_) | (refine wpList_load_row rfl 30 _ rfl (w2.heap.size + 1) rfl 30 (planRow pQ bs2 rs2 ps2) (0, 0) _ T1.out.p2 underPlan rfl rfl ?_))
  refine (aw2 T1.out.a1).mono ?_
  rintro e V2 ⟨rfl, hb⟩
  have T2 := Lib.hid (T1.out.later hb)
  clear hb T1
  go_wp2_with (first | (refine wpList_load_row rfl 30 _ rfl w2.heap.size rfl 30 (planRow pP bs1 rs1 ps1) (0, 0) _ T2.out.p1 underPlan rfl rfl ?_) | (refine wpList_load_row rfl 30 _ rfl (w2.heap.size + 1) rfl 30 (planRow pQ bs2 rs2 ps2) (0, 0) _ T2.out.p2 underPlan rfl rfl ?_))
  refine (aw3 T2.out.a2).mono ?_
  rintro e V3 ⟨rfl, hb⟩
  have T3 := Lib.hid (T2.out.later hb)
  clear hb T2
  go_wp2_with (first | (refine wpList_load_row rfl 30 _ rfl w2.heap.size rfl 30 (planRow pP bs1 rs1 ps1) (0, 0) _ T3.out.p1 underPlan rfl rfl ?_) | (refine wpList_load_row rfl 30 _ rfl (w2.heap.size + 1) rfl 30 (planRow pQ bs2 rs2 ps2) (0, 0) _ T3.out.p2 underPlan rfl rfl ?_))
  refine (aw4 T3.out.a2).mono ?_
  rintro e V4 ⟨rfl, hb⟩
  have T4 := Lib.hid (T3.out.later hb)
  clear hb T3
  go_wp2_with (first | (refine wpList_load_row rfl 30 _ rfl w2.heap.size rfl 30 (planRow pP bs1 rs1 ps1) (0, 0) _ T4.out.p1 underPlan rfl rfl ?_) | (refine wpList_load_row rfl 30 _ rfl (w2.heap.size + 1) rfl 30 (planRow pQ bs2 rs2 ps2) (0, 0) _ T4.out.p2 underPlan rfl rfl ?_))
  refine (aw5 T4.out.a1).mono ?_
  rintro e V5 ⟨rfl, hb⟩
  have T5 := Lib.hid (T4.out.later hb)
  clear hb T4
  go_wp2_with (first | (refine wpList_load_row rfl 30 _ rfl w2.heap.size rfl 30 (planRow pP bs1 rs1 ps1) (0, 0) _ T5.out.p1 underPlan rfl rfl ?_) | (refine wpList_load_row rfl 30 _ rfl (w2.heap.size + 1) rfl 30 (planRow pQ bs2 rs2 ps2) (0, 0) _ T5.out.p2 underPlan rfl rfl ?_))
  refine (aw6 T5.out.a1).mono ?_
  rintro e V6 ⟨v, rfl, hnv, hb⟩
  have T6 := Lib.hid (T5.out.later hb)
  have HNV := Lib.hid hnv.low
  obtain ⟨av, cv, hv, _⟩ := id hnv
  subst hv
  clear hb T5 hnv
  go_wp2_with fail
  refine (pclash_any V6).mono ?_
  rintro e V7 ⟨⟨bs, rs, ps, rfl, hn⟩, hb⟩
  have HN := Lib.hid hn.at
  have T7 := Lib.hid (T6.out.later hb)
  have HV7 := Lib.hid (HNV.out.later hb.size (fun k h1 h2 => hb.block k h2)).low
  clear hb T6 hn HNV
  go_wp2_with fail
  refine (aw7 HN.out).mono ?_
  rintro e V8 ⟨rfl, hb⟩
  have T8 := Lib.hid (T7.out.later hb)
  have HV8 := Lib.hid (HV7.out.later hb.size (fun k h1 h2 => hb.block k h2)).low
  clear hb T7 HV7 HN
  go_wp2_with fail
  refine (pclash_any V8).mono ?_
  rintro e V9 ⟨⟨bs, rs, ps, rfl, hn⟩, hb⟩
  have HN := Lib.hid hn.at
  have T9 := Lib.hid (T8.out.later hb)
  have HV9 := Lib.hid (HV8.out.later hb.size (fun k h1 h2 => hb.block k h2)).low
  clear hb T8 hn HV8
  go_wp2_with fail
  refine (aw8 HN.out).mono ?_
  rintro e VA ⟨rfl, hb⟩
  have TA := Lib.hid (T9.out.later hb)
  have HVA := Lib.hid (HV9.out.later hb.size (fun k h1 h2 => hb.block k h2)).low
  clear hb T9 HV9 HN
  go_wp2_with fail
  refine (psample0_any 1 VA).mono ?_
  rintro e VB ⟨⟨bs, rs, ps, rfl, hn⟩, hb⟩
  have HN := Lib.hid hn.at
  have TB := Lib.hid (TA.out.later hb)
  have HVB := Lib.hid (HVA.out.later hb.size (fun k h1 h2 => hb.block k h2)).low
  clear hb TA hn HVA
  go_wp2_with fail
  refine (aw9 HN.out).mono ?_
  rintro e VC ⟨rfl, hb⟩
  have TC := Lib.hid (TB.out.later hb)
  have HVC := Lib.hid (HVB.out.later hb.size (fun k h1 h2 => hb.block k h2)).low
  clear hb TB HVB HN
  go_wp2_with fail
  have hlit : NumsAt (VC.alloc (.cells #[.int .i64 1, .int .i64 0] 3)) (.slice (some ⟨VC.heap.size, 0, none⟩) 2 2) [1, 0] (fun k => VC.heap.size ≤ k) := nums_of_own rfl (World.ownsRow_lit VC #[.int .i64 1, .int .i64 0] 2 (Nat.le_refl _) (by unfold maxLen; omega) rfl)
  refine (ints8_any [1, 0] [1, 0] (by decide) _ _ _ _ _ (HVC.out.later (by simp) (fun k h1 h2 => hget_old _ _ _ (by omega))) hlit).mono ?_
  rintro e VD ⟨rfl, hb⟩
  have HBD := Lib.hid (TC.out.bl.trans ((((Below.refl _ _).alloc (Nat.le_refl _) _).trans (hb.mono (by simp))).mono TC.out.bl.size))
  clear hb TC HVC hlit
  have hdec : decide (([1, 0] : List Int) = [1, 0]) = true := by decide
  rw [hdec]
  dsimp only
  go_wp2_with fail
  go_ret
  exact ⟨rfl, HBD.out⟩
end Go.Proofs.Ytabbmihakoeegaa

/- heavy, fine, enough. -/
namespace Go.Proofs.Ytabbmihakoeegaa
set_option linter.unusedVariables false
set_option linter.unusedSimpArgs false
open Go.RowKit Go.Shelf
attribute [local go_sem] Oper.semAt_some

def prodK (p : PairD) : Nat → Int
  | 0 => (p.zh - p.zl + 1) * (p.rh - p.rl + 1)
  | k + 1 => prodK p k * ((p.bs.getD k (0, 0)).2 - (p.bs.getD k (0, 0)).1 + 1)
theorem mul_le_le {a b A B : Int} (h1 : 0 ≤ a) (h2 : a ≤ A) (h3 : 0 ≤ b) (h4 : b ≤ B) : 0 ≤ a * b ∧ a * b ≤ A * B :=
  ⟨Int.mul_nonneg h1 h3, Int.mul_le_mul h2 h4 h3 (by omega)⟩
theorem prodK_b (p : PairD) (hp : OkP p) : ∀ k, k ≤ p.bs.length → 0 ≤ prodK p k ∧ prodK p k ≤ 231 * ((41 ^ k : Nat) : Int)
  | 0, _ => by
    have h1 := hp.zz
    have h2 := hp.rr
    have := mul_le_le (a := p.zh - p.zl + 1) (A := 21) (b := p.rh - p.rl + 1) (B := 11) (by omega) (by omega) (by omega) (by omega)
    unfold prodK
    simpa using this
  | k + 1, hk => by
    have ih := prodK_b p hp k (by omega)
    have hlk : k < p.bs.length := by omega
    have hb := hp.bs _ (List.getElem_mem hlk)
    have e : p.bs.getD k (0, 0) = p.bs[k] := by rw [List.getD_eq_getElem?_getD, List.getElem?_eq_getElem hlk]; rfl
    have := mul_le_le (a := prodK p k) (A := 231 * ((41 ^ k : Nat) : Int)) (b := p.bs[k].2 - p.bs[k].1 + 1) (B := 41) ih.1 ih.2 (by omega) (by omega)
    unfold prodK
    rw [e]
    refine ⟨this.1, Int.le_trans this.2 ?_⟩
    rw [Nat.pow_succ]
    push_cast
    rw [Int.mul_assoc]
    exact Int.le_refl _
theorem prodK_small (p : PairD) (hp : OkP p) (k : Nat) (hk : k ≤ p.bs.length) : 0 ≤ prodK p k ∧ prodK p k ≤ 1000000000000 := by
  have h := prodK_b p hp k hk
  have h5 := hp.n5
  have : 41 ^ k ≤ 41 ^ 5 := Nat.pow_le_pow_right (by decide) (by omega)
  have e : (41 : Nat) ^ 5 = 115856201 := by decide
  omega
def farQ (q : PlanD) : Bool := decide (40 < max (max q.pr.bs.length q.pr.rs.length) q.prices.length)
def heavyQ (q : PlanD) (ways : Int) : Bool := if farQ q = true then true else if validP q = false then false else decide (ways < prodK q.pr q.pr.bs.length)
set_option maxRecDepth 100000 in
set_option maxHeartbeats 4000000 in
theorem heavy8_any {q : PlanD} {bs rs ps : Value} (ways : Int) (w : World) (hpa : PlanAt w q bs rs ps) :
    Calls Try.prog 8 #[.agg (planRow q bs rs ps), .int .i64 ways] w fun e w' => e = .returned (.bool (heavyQ q ways)) ∧ Below w.heap.size w w' := by
  obtain ⟨aob, capb, hbv, _⟩ := id hpa.p.b
  obtain ⟨aor, capr, hrv, _⟩ := id hpa.p.r
  obtain ⟨aop, capp, hpv, _⟩ := id hpa.n
  subst hbv hrv hpv
  obtain ⟨W0, hW0⟩ : ∃ W0, W0 = w.alloc (.cells (planRow q (.slice aob q.pr.bs.length capb) (.slice aor q.pr.rs.length capr) (.slice aop q.prices.length capp)) 30 (0, 0)) := ⟨_, rfl⟩
  have hb0 : Below w.heap.size w W0 := by rw [hW0]; exact (Below.refl _ _).alloc (Nat.le_refl _) _
  have hr1 : W0.heap[w.heap.size]? = some (.cells (planRow q (.slice aob q.pr.bs.length capb) (.slice aor q.pr.rs.length capr) (.slice aop q.prices.length capp)) 30 (0, 0)) := by rw [hW0]; exact heap_alloc_at _ _ _ rfl
  have hsw : W0.heap.size = w.heap.size + 1 := by rw [hW0]; simp
  have HB0 := Lib.hid hb0
  have HR1 := Lib.hid hr1
  have HPA := Lib.hid (hpa.later hb0)
  have rows : ∀ W', Below W0.heap.size W0 W' → (W'.cell? ⟨w.heap.size, 0, none⟩ = some (.slice aob q.pr.bs.length capb) ∧ W'.cell? ⟨w.heap.size, 1, none⟩ = some (.int .i64 q.pr.zl) ∧ W'.cell? ⟨w.heap.size, 2, none⟩ = some (.int .i64 q.pr.zh) ∧
        W'.cell? ⟨w.heap.size, 3, none⟩ = some (.int .i64 q.pr.rl) ∧ W'.cell? ⟨w.heap.size, 4, none⟩ = some (.int .i64 q.pr.rh) ∧ W'.cell? ⟨w.heap.size, 5, none⟩ = some (.slice aor q.pr.rs.length capr) ∧ W'.cell? ⟨w.heap.size, 6, none⟩ = some (.int .i64 q.wide) ∧ W'.cell? ⟨w.heap.size, 7, none⟩ = some (.slice aop q.prices.length capp)) := fun W' hb => by
    have q1 := (hb.block w.heap.size (by omega)).trans hr1
    unfold planRow at q1
    refine ⟨?_, ?_, ?_, ?_, ?_, ?_, ?_, ?_⟩ <;> (rw [cell_of_row _ _ _ _ _ _ q1]; rfl)
  have ROWS := Lib.hid rows
  clear rows hb0 hr1 hpa
  unfold planRow at hW0 ⊢
  obtain ⟨c0, c1, c2, c3, c4, c5, c6, c7⟩ := ROWS.out W0 (Below.refl _ _)
  go_enter Try.func8, Try.ntmps8
  go_wp2_with fail
  all_goals first | (go_ret; exact ⟨congrArg (fun b => Ending.returned (Value.bool b)) (by unfold heavyQ; rw [if_pos (by unfold farQ; rw [decide_eq_true_eq]; omega)]), (Below.refl _ _).alloc (Nat.le_refl _) _⟩) | skip
  all_goals
    have HL : Hid (farQ q = false) := Lib.hid (by unfold farQ; rw [decide_eq_false_iff_not]; omega)
    rw [← hW0]
    clear hW0 c0 c1 c2 c3 c4 c5 c6 c7
    refine (plan8_any _ HPA.out).mono ?_
    rintro e w2 ⟨rfl, hb2⟩
    have HB2 := Lib.hid (HB0.out.trans (hb2.mono HB0.out.size))
    have HBW2 := Lib.hid hb2
    obtain ⟨c0, c1, c2, c3, c4, c5, c6, c7⟩ := ROWS.out w2 hb2
    have hge2 := hb2.size
    clear hb2
    dsimp only
    cases hv : validP q with
    | false =>
      have HV := Lib.hid hv
      clear hv
      go_wp2
      go_ret
      refine ⟨?_, HB2.out⟩
      unfold heavyQ
      rw [if_neg (by rw [HL.out]; decide), if_pos HV.out]
      rfl
    | true =>
      have hp := OkP.of q.pr (OkQ.of hv).pr
      have h1 := hp.zz
      have h2 := hp.rr
      have HV := Lib.hid hv
      clear hv
      have hw1 : IntKind.i64.wrap (q.pr.zh - q.pr.zl) = q.pr.zh - q.pr.zl := IntWalk.i64_in _ (by omega)
      have hw2 : IntKind.i64.wrap (q.pr.zh - q.pr.zl + 1) = q.pr.zh - q.pr.zl + 1 := IntWalk.i64_in _ (by omega)
      have hw3 : IntKind.i64.wrap (q.pr.rh - q.pr.rl) = q.pr.rh - q.pr.rl := IntWalk.i64_in _ (by omega)
      have hw4 : IntKind.i64.wrap (q.pr.rh - q.pr.rl + 1) = q.pr.rh - q.pr.rl + 1 := IntWalk.i64_in _ (by omega)
      have hps := prodK_small q.pr hp 0 (Nat.zero_le _)
      have hw5 : IntKind.i64.wrap ((q.pr.zh - q.pr.zl + 1) * (q.pr.rh - q.pr.rl + 1)) = prodK q.pr 0 := by rw [show (q.pr.zh - q.pr.zl + 1) * (q.pr.rh - q.pr.rl + 1) = prodK q.pr 0 from rfl]; exact IntWalk.i64_in _ (by omega)
      clear hps h1 h2
      go_wp2_with fail
      clear c0 c1 c2 c3 c4 c5 c6 c7
      go_loopw [5, 49] (fun m i wr => ∃ k : Nat, k ≤ q.pr.bs.length ∧ i = .int .i64 k ∧ m = .int .i64 (prodK q.pr k) ∧ Below W0.heap.size W0 wr) (fun _ i _ => q.pr.bs.length - (intOf i).toNat)
      case atStart => exact ⟨0, by omega, rfl, rfl, HBW2.out⟩
      case round =>
        obtain ⟨k, hk, rfl, rfl, hb⟩ := hrel
        have HB := Lib.hid hb
        have hgew := hb.size
        clear hb
        have hn5 := hp.n5
        by_cases hlk : k < q.pr.bs.length
        case neg =>
          have hkl : k = q.pr.bs.length := by omega
          have HKL := Lib.hid hkl
          have hd : decide ((k : Int) < (q.pr.bs.length : Int)) = false := by simp; omega
          clear hkl
          go_wp2
          go_ret
          refine ⟨?_, HB0.out.trans (HB.out.mono (by omega))⟩
          unfold heavyQ
          rw [if_neg (by rw [HL.out]; decide), if_neg (by rw [HV.out]; decide), ← HKL.out]
          rfl
        have hd : decide ((k : Int) < (q.pr.bs.length : Int)) = true := by simp; omega
        obtain ⟨ao', cap', he, _, _, hel⟩ := HPA.out.p.b
        cases he
        obtain ⟨b, off, rfl, _, hbl, e1, e2⟩ := hel k hlk
        have f1 := (HB.out.cell (p := ⟨b, off + k * 2, none⟩) hbl).trans e1
        have f2 := (HB.out.cell (p := ⟨b, off + k * 2 + 1, none⟩) hbl).trans e2
        have hb := hp.bs _ (List.getElem_mem hlk)
        have e : q.pr.bs.getD k (0, 0) = q.pr.bs[k] := by rw [List.getD_eq_getElem?_getD, List.getElem?_eq_getElem hlk]; rfl
        have hps := prodK_small q.pr hp (k + 1) hlk
        have hpk := show prodK q.pr (k + 1) = prodK q.pr k * (q.pr.bs[k].2 - q.pr.bs[k].1 + 1) by rw [← e]; rfl
        have HPK := Lib.hid hpk
        have hwp : IntKind.i64.wrap (prodK q.pr k * (q.pr.bs[k].2 - q.pr.bs[k].1 + 1)) = prodK q.pr (k + 1) := by rw [← hpk]; exact IntWalk.i64_in _ (by omega)
        have hwa : IntKind.i64.wrap (q.pr.bs[k].2 - q.pr.bs[k].1) = q.pr.bs[k].2 - q.pr.bs[k].1 := IntWalk.i64_in _ (by omega)
        have hwb : IntKind.i64.wrap (q.pr.bs[k].2 - q.pr.bs[k].1 + 1) = q.pr.bs[k].2 - q.pr.bs[k].1 + 1 := IntWalk.i64_in _ (by omega)
        have hwk : IntKind.i64.wrap ((k : Int) + 1) = ((k + 1 : Nat) : Int) := by rw [IntWalk.i64_in _ (by omega)]; omega
        clear e1 e2 hb e hps hpk hel
        go_wp2
        exact ⟨⟨k + 1, by omega, by first | rfl | (congr 1; omega), rfl, HB.out.alloc hgew _⟩, by simp [intOf]; omega⟩
end Go.Proofs.Ytabbmihakoeegaa

/- fine, enough. -/
namespace Go.Proofs.Ytabbmihakoeegaa
set_option linter.unusedVariables false
set_option linter.unusedSimpArgs false
open Go.RowKit Go.Shelf
attribute [local go_sem] Oper.semAt_some

def fineQ (q : PlanD) : Bool := !heavyQ q 20000 && validP q
set_option maxRecDepth 100000 in
set_option maxHeartbeats 2000000 in
theorem fine8_any {q : PlanD} {bs rs ps : Value} (w : World) (hpa : PlanAt w q bs rs ps) :
    Calls Try.prog 16 #[.agg (planRow q bs rs ps)] w fun e w' => e = .returned (.bool (fineQ q)) ∧ Below w.heap.size w w' := by
  obtain ⟨aob, capb, hbv, _⟩ := id hpa.p.b
  obtain ⟨aor, capr, hrv, _⟩ := id hpa.p.r
  obtain ⟨aop, capp, hpv, _⟩ := id hpa.n
  subst hbv hrv hpv
  obtain ⟨W0, hW0⟩ : ∃ W0, W0 = w.alloc (.cells (planRow q (.slice aob q.pr.bs.length capb) (.slice aor q.pr.rs.length capr) (.slice aop q.prices.length capp)) 30 (0, 0)) := ⟨_, rfl⟩
  have hb0 : Below w.heap.size w W0 := by rw [hW0]; exact (Below.refl _ _).alloc (Nat.le_refl _) _
  have hr1 : W0.heap[w.heap.size]? = some (.cells (planRow q (.slice aob q.pr.bs.length capb) (.slice aor q.pr.rs.length capr) (.slice aop q.prices.length capp)) 30 (0, 0)) := by rw [hW0]; exact heap_alloc_at _ _ _ rfl
  have hsw : W0.heap.size = w.heap.size + 1 := by rw [hW0]; simp
  have HB0 := Lib.hid hb0
  have HR1 := Lib.hid hr1
  have HPA := Lib.hid (hpa.later hb0)
  have rows : ∀ W', Below W0.heap.size W0 W' → (W'.cell? ⟨w.heap.size, 0, none⟩ = some (.slice aob q.pr.bs.length capb) ∧ W'.cell? ⟨w.heap.size, 1, none⟩ = some (.int .i64 q.pr.zl) ∧ W'.cell? ⟨w.heap.size, 2, none⟩ = some (.int .i64 q.pr.zh) ∧
        W'.cell? ⟨w.heap.size, 3, none⟩ = some (.int .i64 q.pr.rl) ∧ W'.cell? ⟨w.heap.size, 4, none⟩ = some (.int .i64 q.pr.rh) ∧ W'.cell? ⟨w.heap.size, 5, none⟩ = some (.slice aor q.pr.rs.length capr) ∧ W'.cell? ⟨w.heap.size, 6, none⟩ = some (.int .i64 q.wide) ∧ W'.cell? ⟨w.heap.size, 7, none⟩ = some (.slice aop q.prices.length capp)) := fun W' hb => by
    have q1 := (hb.block w.heap.size (by omega)).trans hr1
    unfold planRow at q1
    refine ⟨?_, ?_, ?_, ?_, ?_, ?_, ?_, ?_⟩ <;> (rw [cell_of_row _ _ _ _ _ _ q1]; rfl)
  have ROWS := Lib.hid rows
  clear rows hb0 hr1 hpa
  unfold planRow at hW0 ⊢
  obtain ⟨c0, c1, c2, c3, c4, c5, c6, c7⟩ := ROWS.out W0 (Below.refl _ _)
  go_enter Try.func16, Try.ntmps16
  go_wp2_with fail
  rw [← hW0]
  clear hW0 c0 c1 c2 c3 c4 c5 c6 c7
  refine (heavy8_any 20000 W0 HPA.out).mono ?_
  rintro e w1 ⟨rfl, hb1⟩
  have HB1 := Lib.hid (HB0.out.trans (hb1.mono HB0.out.size))
  have HPA1 := Lib.hid (HPA.out.later hb1)
  obtain ⟨c0, c1, c2, c3, c4, c5, c6, c7⟩ := ROWS.out w1 hb1
  have HF : Hid (fineQ q = (!heavyQ q 20000 && validP q)) := Lib.hid rfl
  clear hb1
  dsimp only
  cases hh : heavyQ q 20000 with
  | true =>
    rw [hh] at HF
    go_wp2
    go_ret
    exact ⟨by rw [HF.out]; rfl, HB1.out⟩
  | false =>
    rw [hh] at HF
    go_wp2_with fail
    refine (plan8_any w1 HPA1.out).mono ?_
    rintro e w2 ⟨rfl, hb2⟩
    have HB2 := Lib.hid (HB1.out.trans (hb2.mono HB1.out.size))
    clear hb2
    dsimp only
    go_wp2
    go_ret
    exact ⟨by rw [HF.out]; rfl, HB2.out⟩
theorem w64_pow : ∀ n : Fin 9, wrap64 (wrap64 (2 ^ n.val) - 1) = ((2 ^ n.val - 1 : Nat) : Int) := by decide +kernel
def enoughC (q : PlanD) (n : Int) : Bool := decide ((blocksV q n).2 = 0) && decide ((blocksV q n).1.1 = ((2 ^ q.pr.bs.length - 1 : Nat) : Int))
theorem blocks_code {q : PlanD} {n : Int} (h : (blocksV q n).2 = 0) : validP q = true := by
  cases hv : validP q with
  | true => rfl
  | false => rw [blocks_err (errP_bad hv) (by decide)] at h; exact absurd h (by decide)
set_option maxRecDepth 100000 in
set_option maxHeartbeats 2000000 in
theorem enough8_any {q : PlanD} {bs rs ps : Value} (n : Int) (w : World) (hpa : PlanAt w q bs rs ps) :
    Calls Try.prog 19 #[.agg (planRow q bs rs ps), .int .i64 n] w fun e w' => e = .returned (.bool (enoughC q n)) ∧ Below w.heap.size w w' := by
  obtain ⟨aob, capb, hbv, _⟩ := id hpa.p.b
  obtain ⟨aor, capr, hrv, _⟩ := id hpa.p.r
  obtain ⟨aop, capp, hpv, _⟩ := id hpa.n
  subst hbv hrv hpv
  obtain ⟨W0, hW0⟩ : ∃ W0, W0 = w.alloc (.cells (planRow q (.slice aob q.pr.bs.length capb) (.slice aor q.pr.rs.length capr) (.slice aop q.prices.length capp)) 30 (0, 0)) := ⟨_, rfl⟩
  have hb0 : Below w.heap.size w W0 := by rw [hW0]; exact (Below.refl _ _).alloc (Nat.le_refl _) _
  have hr1 : W0.heap[w.heap.size]? = some (.cells (planRow q (.slice aob q.pr.bs.length capb) (.slice aor q.pr.rs.length capr) (.slice aop q.prices.length capp)) 30 (0, 0)) := by rw [hW0]; exact heap_alloc_at _ _ _ rfl
  have hsw : W0.heap.size = w.heap.size + 1 := by rw [hW0]; simp
  have HB0 := Lib.hid hb0
  have HR1 := Lib.hid hr1
  have HPA := Lib.hid (hpa.later hb0)
  have rows : ∀ W', Below W0.heap.size W0 W' → (W'.cell? ⟨w.heap.size, 0, none⟩ = some (.slice aob q.pr.bs.length capb) ∧ W'.cell? ⟨w.heap.size, 1, none⟩ = some (.int .i64 q.pr.zl) ∧ W'.cell? ⟨w.heap.size, 2, none⟩ = some (.int .i64 q.pr.zh) ∧
        W'.cell? ⟨w.heap.size, 3, none⟩ = some (.int .i64 q.pr.rl) ∧ W'.cell? ⟨w.heap.size, 4, none⟩ = some (.int .i64 q.pr.rh) ∧ W'.cell? ⟨w.heap.size, 5, none⟩ = some (.slice aor q.pr.rs.length capr) ∧ W'.cell? ⟨w.heap.size, 6, none⟩ = some (.int .i64 q.wide) ∧ W'.cell? ⟨w.heap.size, 7, none⟩ = some (.slice aop q.prices.length capp)) := fun W' hb => by
    have q1 := (hb.block w.heap.size (by omega)).trans hr1
    unfold planRow at q1
    refine ⟨?_, ?_, ?_, ?_, ?_, ?_, ?_, ?_⟩ <;> (rw [cell_of_row _ _ _ _ _ _ q1]; rfl)
  have ROWS := Lib.hid rows
  clear rows hb0 hr1 hpa
  unfold planRow at hW0 ⊢
  obtain ⟨c0, c1, c2, c3, c4, c5, c6, c7⟩ := ROWS.out W0 (Below.refl _ _)
  go_enter Try.func19, Try.ntmps19
  go_wp2_with fail
  rw [← hW0]
  clear hW0 c0 c1 c2 c3 c4 c5 c6 c7
  refine (blocksV_any n HPA.out).mono ?_
  rintro e w1 ⟨rfl, hb1⟩
  have HB1 := Lib.hid (HB0.out.trans (hb1.mono HB0.out.size))
  obtain ⟨c0, c1, c2, c3, c4, c5, c6, c7⟩ := ROWS.out w1 hb1
  have HC : Hid (enoughC q n = (decide ((blocksV q n).2 = 0) && decide ((blocksV q n).1.1 = ((2 ^ q.pr.bs.length - 1 : Nat) : Int)))) := Lib.hid rfl
  have HBC := Lib.hid (@blocks_code q n)
  obtain ⟨⟨⟨xb, xw⟩, xe⟩, hx⟩ : ∃ x, x = blocksV q n := ⟨_, rfl⟩
  rw [← hx] at HC HBC
  rw [← hx]
  clear hx hb1
  dsimp only at HC HBC ⊢
  by_cases hxe : xe = 0
  · have hv := HBC.out hxe
    have hn5 := (OkP.of _ (OkQ.of hv).pr).n5
    subst hxe
    clear HBC hv
    go_wp2_with fail
    have hw := w64_pow ⟨q.pr.bs.length, by omega⟩
    dsimp only at hw
    go_ret
    refine ⟨?_, HB1.out⟩
    show Ending.returned (Value.bool (xb == wrap64 (wrap64 (2 ^ q.pr.bs.length) - 1))) = _
    rw [HC.out, hw]
    rfl
  · have hd : decide (xe = 0) = false := decide_eq_false hxe
    rw [hd] at HC
    go_wp2
    go_ret
    exact ⟨by rw [HC.out]; rfl, HB1.out⟩
end Go.Proofs.Ytabbmihakoeegaa

/- What the statements say of plans (plain): readings more tell more; what is first in an order. -/
namespace Go.Proofs.Ytabbmihakoeegaa
set_option linter.unusedVariables false
set_option linter.unusedSimpArgs false
open Go.RowKit Stab

/-! ### readings more -/
theorem only_truthP (p : PairD) (s : Nat) (c : Int × Int) (x : Nat → Int) : TruthP (onlyP p s) (allR (onlyP p s)) c x ↔ TruthP p s c x := by
  constructor
  · intro h
    refine ⟨h.mark, h.bs, fun i hi hs => ?_⟩
    have hm : p.rs[i] ∈ (onlyP p s).rs := (mem_keptL _ _ _ (Nat.le_refl _) _).2 ⟨i, hi, hi, hs, rfl⟩
    obtain ⟨j, hj, e⟩ := List.getElem_of_mem hm
    have := h.rs j hj (allR_bit _ j hj)
    rw [e] at this
    exact this
  · intro h
    refine ⟨h.mark, h.bs, fun j hj _ => ?_⟩
    obtain ⟨i, hi, _, hs, e⟩ := (mem_keptL p.rs s _ (Nat.le_refl _) _).1 (List.getElem_mem hj)
    have := h.rs i hi hs
    rw [e] at this
    exact this
def Sub (p : PairD) (s t : Nat) : Prop := ∀ i, i < p.rs.length → s.testBit i = true → t.testBit i = true
theorem only_mem {p : PairD} (hv : validB p = true) {s t : Nat} (h : Sub p s t) (x : List Int × (Int × Int)) (hx : x ∈ truA (onlyP p t)) : x ∈ truA (onlyP p s) := by
  rw [mem_truA (OkP.of _ (onlyP_valid p t hv)), only_truthP] at hx
  rw [mem_truA (OkP.of _ (onlyP_valid p s hv)), only_truthP]
  exact ⟨hx.1, hx.2.1, hx.2.2.mark, hx.2.2.bs, fun i hi hs => hx.2.2.rs i hi (h i hi hs)⟩
theorem hull_in {L M : List (List Int × (Int × Int))} {f : List Int × (Int × Int) → Int} {S T : Int × Int} (h : ∀ x ∈ M, x ∈ L) (hL : SpanOf L f S) (hM : SpanOf M f T) : S.1 ≤ T.1 ∧ T.2 ≤ S.2 := by
  obtain ⟨t1, m1, e1⟩ := hM.lo
  obtain ⟨t2, m2, e2⟩ := hM.hi
  have a1 := hL.all t1 (h t1 m1)
  have a2 := hL.all t2 (h t2 m2)
  omega
theorem only_ne {p : PairD} (hv : validB p = true) {s t : Nat} (h : Sub p s t) (hn : truA (onlyP p t) ≠ []) : truA (onlyP p s) ≠ [] := by
  intro e
  obtain ⟨x, hx⟩ := List.exists_mem_of_ne_nil _ hn
  have := only_mem hv h x hx
  rw [e] at this
  cases this
theorem only_hull {p : PairD} (hv : validB p = true) {s t : Nat} (h : Sub p s t) (hn : truA (onlyP p t) ≠ []) (a b : Nat) : (hullD (onlyP p s) a b).1 ≤ (hullD (onlyP p t) a b).1 ∧ (hullD (onlyP p t) a b).2 ≤ (hullD (onlyP p s) a b).2 :=
  hull_in (only_mem hv h) (hullD_spec (only_ne hv h hn) a b) (hullD_spec hn a b)
theorem widB_mono {p : PairD} (hv : validB p = true) {s t : Nat} (h : Sub p s t) (hn : truA (onlyP p t) ≠ []) (b : Nat) : widB p t b ≤ widB p s b := by
  have := only_hull hv h hn b 5
  unfold widB
  split <;> omega

/-! ### the widest one -/
theorem max5 (a b c d e w : Int) : maxL [a, b, c, d, e] ≤ w ↔ a ≤ w ∧ b ≤ w ∧ c ≤ w ∧ d ≤ w ∧ e ≤ w := by
  simp only [maxL, List.foldl_cons, List.foldl_nil]
  omega
theorem widest_le {p : PairD} {s : Nat} {w : Int} : widestV p s ≤ w ↔ ∀ b, b < 5 → widB p s b ≤ w := by
  unfold widestV
  rw [widsV_eq, max5]
  constructor
  · rintro ⟨h0, h1, h2, h3, h4⟩ b hb
    obtain rfl | rfl | rfl | rfl | rfl : b = 0 ∨ b = 1 ∨ b = 2 ∨ b = 3 ∨ b = 4 := by omega
    all_goals assumption
  · intro h
    exact ⟨h 0 (by omega), h 1 (by omega), h 2 (by omega), h 3 (by omega), h 4 (by omega)⟩
theorem widest_mono {p : PairD} (hv : validB p = true) {s t : Nat} (h : Sub p s t) (hn : truA (onlyP p t) ≠ []) : widestV p t ≤ widestV p s :=
  widest_le.2 fun b hb => Int.le_trans (widB_mono hv h hn b) (widest_le.1 (Int.le_refl _) b hb)
theorem enough_le {q : PlanD} (hq : OkQ q) {s : Nat} : enoughV q s = true ↔ ∀ b, b < q.pr.bs.length → widB q.pr s b ≤ q.wide := by
  unfold enoughV
  rw [decide_eq_true_eq, widest_le]
  have hw := hq.w0
  have h5 := (OkP.of _ hq.pr).n5
  constructor
  · intro h b hb
    exact h b (by omega)
  · intro h b hb
    by_cases hb2 : b < q.pr.bs.length
    · exact h b hb2
    · unfold widB
      rw [if_neg hb2]
      exact hw
theorem enough_mono {q : PlanD} (hq : OkQ q) (ht : truA q.pr ≠ []) {s t : Nat} (h : Sub q.pr s t) (he : enoughV q s = true) : enoughV q t = true := by
  unfold enoughV at he ⊢
  rw [decide_eq_true_eq] at he ⊢
  exact Int.le_trans (widest_mono hq.pr h (truA_of_every hq ht t)) he

/-! ### what Blocks tells -/
theorem setN_full (f : Nat → Bool) : ∀ n, setN f n = 2 ^ n - 1 ↔ ∀ i, i < n → f i = true
  | 0 => by simp [setN]
  | n + 1 => by
    have h1 : setN f (n + 1) = if f n then setN f n + 2 ^ n else setN f n := rfl
    have h2 := setN_lt f n
    have h3 := Nat.two_pow_pos n
    have ih := setN_full f n
    rw [h1, Nat.pow_succ]
    constructor
    · intro h i hi
      cases hf : f n with
      | false => rw [hf] at h; simp at h; omega
      | true =>
        rw [hf] at h
        simp only [if_true] at h
        rcases Nat.lt_or_ge i n with hin | hin
        · exact ih.1 (by omega) i hin
        · obtain rfl : i = n := by omega
          exact hf
    · intro h
      rw [if_pos (h n (by omega))]
      have := ih.2 (fun i hi => h i (by omega))
      omega
theorem isSet_ok {q : PlanD} {s : Nat} (hs : s < 2 ^ q.prices.length) : isSetV q (s : Int) = true := by
  unfold isSetV inB everyV
  rw [decide_eq_true_eq]
  omega
theorem blocks_set {q : PlanD} (hv : validP q = true) (ht : truA q.pr ≠ []) {s : Nat} (hs : s < 2 ^ q.prices.length) : blocksV q (s : Int) = ((((setN (fun b => decide (widB q.pr s b ≤ q.wide)) q.pr.bs.length : Nat) : Int), widestV q.pr s), 0) :=
  blocks_ok (errP_ok hv (isSet_ok hs) ht)
theorem enoughC_is {q : PlanD} (hv : validP q = true) (ht : truA q.pr ≠ []) {s : Nat} (hs : s < 2 ^ q.prices.length) : enoughC q (s : Int) = enoughV q s := by
  unfold enoughC
  rw [blocks_set hv ht hs]
  dsimp only
  rw [decide_eq_true (rfl : (0 : Int) = 0), Bool.true_and, Bool.eq_iff_iff, enough_le (OkQ.of hv), decide_eq_true_eq]
  have := setN_full (fun b => decide (widB q.pr s b ≤ q.wide)) q.pr.bs.length
  simp only [decide_eq_true_eq] at this
  rw [← this]
  omega
/-! ### what comes first -/
theorem find_first {lt : Nat → Nat → Bool} {is : Nat → Bool} : ∀ {l : List Nat}, Srt (fun x y => lt x y = true) l → ∀ {x : Nat}, l.find? is = some x → is x = true ∧ x ∈ l ∧ ∀ t ∈ l, is t = true → t = x ∨ lt x t = true
  | [], _, x, h => by cases h
  | y :: l, hs, x, h => by
    obtain ⟨h1, h2⟩ := List.pairwise_cons.1 hs
    rw [List.find?_cons] at h
    cases hy : is y with
    | true =>
      rw [hy] at h
      obtain rfl := Option.some.inj h
      exact ⟨hy, List.mem_cons_self, fun t ht hi => (List.mem_cons.1 ht).imp id (fun ht => h1 t ht)⟩
    | false =>
      rw [hy] at h
      obtain ⟨a, b, c⟩ := find_first h2 h
      refine ⟨a, List.mem_cons_of_mem _ b, fun t ht hi => ?_⟩
      rcases List.mem_cons.1 ht with rfl | ht
      · rw [hy] at hi; cases hi
      · exact c t ht hi
/-- What the first set is, of those of which something is so. -/
theorem firstV_spec {q : PlanD} (pr : Bool) {is : Nat → Bool} {e : Nat} (he : e < 2 ^ q.prices.length) (hi : is e = true) : is (firstV is (setsV q pr)) = true ∧ ∀ t, t < 2 ^ q.prices.length → is t = true → t = firstV is (setsV q pr) ∨ lessW q pr (firstV is (setsV q pr)) t = true := by
  unfold firstV
  cases h : (setsV q pr).find? is with
  | none =>
    have := List.find?_eq_none.1 h e ((setsV_mem pr).2 he)
    exact absurd hi this
  | some x =>
    obtain ⟨a, _, c⟩ := find_first (sortV_srt (lessW_sto q pr) _ List.nodup_range) h
    exact ⟨a, fun t ht hi => c t ((setsV_mem pr).2 ht) hi⟩
end Go.Proofs.Ytabbmihakoeegaa

/- PlanFewest, walked. -/
namespace Go.Proofs.Ytabbmihakoeegaa
set_option linter.unusedVariables false
set_option linter.unusedSimpArgs false
open Go.RowKit Go.Shelf
attribute [local go_sem] Oper.semAt_some

/-- What is told as the fewest ones, and as those that are needed. -/
def fewS (q : PlanD) : Nat := firstV (enoughV q) (setsV q false)
def needS (q : PlanD) : Nat := setN (fun i => !enoughV q (everyV q - 2 ^ i)) q.prices.length
structure FewOk (q : PlanD) (s nd : Nat) : Prop where
  lt : s < 2 ^ q.prices.length
  nlt : nd < 2 ^ q.prices.length
  en : enoughV q s = true
  cut : ∀ i, i < q.prices.length → s.testBit i = true → enoughV q (s - 2 ^ i) = false
  need : ∀ i, i < q.prices.length → nd.testBit i = !enoughV q (everyV q - 2 ^ i)
  sub : bits BinOp.andNot IntKind.i64 (nd : Int) (s : Int) = 0
  best : ∀ t, t < 2 ^ q.prices.length → enoughV q t = true → ones s < ones t ∨ (ones s = ones t ∧ s ≤ t)
theorem testBit_setN (f : Nat → Bool) : ∀ n i, (setN f n).testBit i = (decide (i < n) && f i)
  | 0, i => by simp [setN]
  | n + 1, i => by
    rw [setN_next]
    have ih := testBit_setN f n i
    by_cases e : n = i
    · subst e
      have h0 : (setN f n).testBit n = false := by rw [ih]; simp
      cases hf : f n with
      | false => simp [h0]
      | true => simp [h0, Nat.testBit_or, Nat.testBit_two_pow]
    · have h2 : decide (i < n + 1) = decide (i < n) := by rw [decide_eq_decide]; omega
      cases hf : f n with
      | false => simp only [Bool.false_eq_true, if_false]; rw [ih, h2]
      | true => simp only [if_true]; rw [Nat.testBit_or, ih, h2, Nat.testBit_two_pow, decide_eq_false e, Bool.or_false]
theorem andNot_sub : ∀ m : Fin 9, ∀ a b : Nat, a < 2 ^ m.val → b < 2 ^ m.val → (∀ i, i < m.val → a.testBit i = true → b.testBit i = true) → a &&& b = a := by
  intro m a b ha hb h
  refine Nat.eq_of_testBit_eq fun i => ?_
  rw [Nat.testBit_and]
  by_cases hi : i < m.val
  · cases hA : a.testBit i with
    | false => rfl
    | true => rw [h i hi hA]; rfl
  · rw [Nat.testBit_lt_two_pow (Nat.lt_of_lt_of_le ha (Nat.pow_le_pow_right (by decide) (by omega)))]; rfl
theorem andNot_and : ∀ a b : Fin 256, a.val &&& b.val = a.val → bits BinOp.andNot IntKind.i64 (a.val : Int) (b.val : Int) = 0 := by decide +kernel
theorem ones_cut : ∀ t : Fin 256, ∀ i : Fin 8, t.val.testBit i.val = true → ones (t.val - 2 ^ i.val) < ones t.val := by decide +kernel
theorem few_ok {q : PlanD} (hq : OkQ q) (ht : truA q.pr ≠ []) (he : enoughV q (everyV q) = true) : FewOk q (fewS q) (needS q) := by
  obtain ⟨h1, h2⟩ := firstV_spec (q := q) false everyV_lt he
  have hlt : fewS q < 2 ^ q.prices.length := firstV_lt _ false
  have hm8 := hq.m8
  have h256 := hq.p256
  have hnl : needS q < 2 ^ q.prices.length := setN_lt _ _
  have hle : ∀ t, t < 2 ^ q.prices.length → enoughV q t = true → ones (fewS q) < ones t ∨ (ones (fewS q) = ones t ∧ fewS q ≤ t) := fun t ht he => by
    rcases h2 t ht he with h | h
    · exact .inr ⟨by rw [h]; rfl, by rw [h]; exact Nat.le_refl _⟩
    · rw [lessW_iff] at h
      have : muchV q false (firstV (enoughV q) (setsV q false)) = muchV q false t := rfl
      show ones (firstV _ _) < _ ∨ (ones (firstV _ _) = _ ∧ firstV _ _ ≤ _)
      omega
  have hneed : ∀ i, i < q.prices.length → (needS q).testBit i = !enoughV q (everyV q - 2 ^ i) := fun i hi => by
    unfold needS; rw [testBit_setN, decide_eq_true hi, Bool.true_and]
  refine ⟨hlt, hnl, h1, fun i hi hb => ?_, hneed, ?_, hle⟩
  · cases hc : enoughV q (fewS q - 2 ^ i) with
    | false => rfl
    | true =>
      have h3 := ones_cut ⟨fewS q, by omega⟩ ⟨i, by omega⟩ hb
      dsimp only at h3
      rcases hle (fewS q - 2 ^ i) (Nat.lt_of_le_of_lt (Nat.sub_le _ _) hlt) hc with h | h <;> omega
  · refine andNot_and ⟨needS q, by omega⟩ ⟨fewS q, by omega⟩ (andNot_sub ⟨q.prices.length, by omega⟩ _ _ hnl hlt fun i hi hb => ?_)
    rw [hneed i hi] at hb
    cases hs : (fewS q).testBit i with
    | true => rfl
    | false =>
      have : enoughV q (everyV q - 2 ^ i) = true := enough_mono hq ht (s := fewS q) (fun j hj hs2 => by
        rw [← hq.len] at hj
        have e : everyV q - 2 ^ i = 2 ^ q.prices.length - (2 ^ i + 1) := by unfold everyV; omega
        rw [e, Nat.testBit_two_pow_sub_succ (Nat.pow_lt_pow_right (by decide) hi), decide_eq_true hj, Bool.true_and, Nat.testBit_two_pow]
        have : ¬ i = j := fun h => by subst h; rw [hs] at hs2; cases hs2
        simp [this]) h1
      rw [this] at hb
      cases hb
end Go.Proofs.Ytabbmihakoeegaa

/- PlanCheapest, PlanBest (plain). -/
namespace Go.Proofs.Ytabbmihakoeegaa
set_option linter.unusedVariables false
set_option linter.unusedSimpArgs false
open Go.RowKit Stab

/-! ### the best ones -/
def BestI (q : PlanD) (most : Int) (S : Nat → Prop) (a : Nat × Int) : Prop :=
  S a.1 ∧ a.2 = widestV q.pr a.1 ∧ (ones a.1 : Int) ≤ most ∧ ∀ t, S t → (ones t : Int) ≤ most → a.2 < widestV q.pr t ∨ (a.2 = widestV q.pr t ∧ (a.1 = t ∨ lessW q false a.1 t = true))
theorem BestI.step {q : PlanD} {most : Int} {S : Nat → Prop} {a : Nat × Int} {s : Nat} (h : BestI q most S a) (hs : ∀ t, S t → t = s ∨ lessW q false t s = true) : BestI q most (fun t => S t ∨ t = s) (bestStep q most a s) := by
  obtain ⟨h1, h2, h3, h4⟩ := h
  unfold bestStep
  split
  · rename_i hc
    refine ⟨.inr rfl, rfl, hc.1, fun t ht hm => ?_⟩
    rcases ht with ht | rfl
    · have h5 := h4 t ht hm
      have h6 := hc.2
      left
      show widestV q.pr s < _
      omega
    · exact .inr ⟨rfl, .inl rfl⟩
  · rename_i hc
    refine ⟨.inl h1, h2, h3, fun t ht hm => ?_⟩
    rcases ht with ht | rfl
    · exact h4 t ht hm
    · have h5 : ¬ widestV q.pr t < a.2 := fun k => hc ⟨hm, k⟩
      by_cases h6 : a.2 < widestV q.pr t
      · exact .inl h6
      · exact .inr ⟨by omega, hs a.1 h1⟩
theorem BestI.fold {q : PlanD} {most : Int} : ∀ (l : List Nat) (S : Nat → Prop) (a : Nat × Int), BestI q most S a → Srt (fun x y => lessW q false x y = true) l → (∀ t, S t → ∀ s ∈ l, t = s ∨ lessW q false t s = true) → BestI q most (fun t => S t ∨ t ∈ l) (l.foldl (bestStep q most) a)
  | [], S, a, h, _, _ => by
    have e : (fun t => S t ∨ t ∈ ([] : List Nat)) = S := by funext t; simp
    rw [e]
    exact h
  | x :: l, S, a, h, hl, hS => by
    obtain ⟨hx, hl2⟩ := List.pairwise_cons.1 hl
    have h1 := BestI.fold l _ _ (h.step (s := x) (fun t ht => hS t ht x List.mem_cons_self)) hl2 (fun t ht s hs => by
      rcases ht with ht | rfl
      · exact hS t ht s (List.mem_cons_of_mem _ hs)
      · exact .inr (hx s hs))
    have e : (fun t => S t ∨ t ∈ x :: l) = fun t => (S t ∨ t = x) ∨ t ∈ l := by funext t; simp [or_assoc]
    rw [e]
    exact h1
theorem bestPV_spec (q : PlanD) {most : Int} (h0 : 0 ≤ most) : BestI q most (fun t => t < 2 ^ q.prices.length) (bestPV q most) := by
  have hz : ones 0 = 0 := by decide
  have h1 := BestI.fold (q := q) (most := most) (setsV q false) (fun t => t = 0) (0, widestV q.pr 0)
    ⟨rfl, rfl, by show ((ones 0 : Nat) : Int) ≤ most; rw [hz]; exact h0, fun t ht _ => by subst ht; exact .inr ⟨rfl, .inl rfl⟩⟩
    (sortV_srt (lessW_sto q false) _ List.nodup_range)
    (fun t ht s _ => by
      subst ht
      by_cases hs : s = 0
      · exact .inl hs.symm
      · refine .inr ((lessW_iff q false 0 s).2 (.inr ⟨rfl, ?_⟩))
        rw [hz]
        omega)
  have e : (fun t => t = 0 ∨ t ∈ setsV q false) = fun t => t < 2 ^ q.prices.length := by
    funext t
    have := Nat.two_pow_pos q.prices.length
    rw [setsV_mem, eq_iff_iff]
    constructor
    · rintro (rfl | h) <;> omega
    · intro h; exact .inr h
  rw [e] at h1
  exact h1
structure BestOk (q : PlanD) (many : Int) (s : Nat) (wd least all : Int) : Prop where
  lt : s < 2 ^ q.prices.length
  size : (ones s : Int) ≤ many
  own : widestV q.pr s = wd
  least : least ≤ wd
  all : widestV q.pr (everyV q) = all
  best : ∀ t, t < 2 ^ q.prices.length → (ones t : Int) ≤ many → wd < widestV q.pr t ∨ (wd = widestV q.pr t ∧ (ones s < ones t ∨ (ones s = ones t ∧ s ≤ t)))
theorem ones_le8 : ∀ t : Fin 256, ones t.val ≤ 8 := by decide +kernel
theorem every_sub {q : PlanD} (hq : OkQ q) (s : Nat) : Sub q.pr s (everyV q) := fun i hi _ => by
  rw [← hq.len] at hi
  unfold everyV
  rw [Nat.testBit_two_pow_sub_one]
  exact decide_eq_true hi
theorem best_ok {q : PlanD} (hq : OkQ q) (ht : truA q.pr ≠ []) {many : Int} (h0 : 0 ≤ many) (h8 : many ≤ 8) : BestOk q many (bestPV q many).1 (bestPV q many).2 (bestPV q (min 8 (many + 1))).2 (bestPV q 8).2 := by
  obtain ⟨a1, a2, a3, a4⟩ := bestPV_spec q h0
  obtain ⟨b1, b2, b3, b4⟩ := bestPV_spec q (most := min 8 (many + 1)) (by omega)
  obtain ⟨c1, c2, c3, c4⟩ := bestPV_spec q (most := 8) (by omega)
  have h256 := hq.p256
  refine ⟨a1, a3, a2.symm, ?_, ?_, fun t ht hm => ?_⟩
  · rcases b4 _ a1 (by omega) with h | h <;> omega
  · have e1 := @everyV_lt q
    have e2 := ones_le8 ⟨everyV q, by omega⟩
    dsimp only at e2
    have e3 := widest_mono hq.pr (every_sub hq (bestPV q 8).1) (truA_of_every hq ht _)
    rcases c4 _ e1 (by omega) with h | h <;> omega
  · rcases a4 t ht hm with h | ⟨h, k⟩
    · exact .inl h
    · refine .inr ⟨h, ?_⟩
      rcases k with k | k
      · rw [← k]; exact .inr ⟨rfl, Nat.le_refl _⟩
      · rw [lessW_iff] at k
        have e : muchV q false (bestPV q many).1 = muchV q false t := rfl
        omega
end Go.Proofs.Ytabbmihakoeegaa

/- A plan that comes in as an argument (plain). -/
namespace Go.Proofs.Ytabbmihakoeegaa
set_option linter.unusedVariables false
set_option linter.unusedSimpArgs false
open Go.ChangeShapes Go.WideShapes Go.ChangeAt Go.RowKit Go.Deep

section
variable {H : Type} {enc : TypeId × Value → H} {w : World} {base : Nat} {spare : Nat → Bool} {held : Bool}
theorem cells_ints : Try.prog.cellsOf 28 = 1 := by kernel_rfl
theorem cells_plan : Try.prog.cellsOf 30 = 8 := by kernel_rfl
set_option maxRecDepth 100000 in
theorem open_numsV {n : Nat} {v : Value} {x : DataW H × List MemPlace} (h : DataW.trod enc Try.prog w base spare held n 28 [v] = some x) : ∃ l, NumsAt w v l (fun k => k < w.heap.size) := by
  rcases open_slice Try.underlying28 h with ⟨h1, _⟩ | ⟨a, len, cap, m, k, D, Pl, h1, _, h2, h3, h4, _, h5⟩
  · exact ⟨[], none, 0, by simpa using h1, by simp, by simp, fun i hi => absurd hi (by simp)⟩
  · have hv : v = .slice (some a) len cap := by simpa using h1
    have hlm : len ≤ m := by rw [h4]; split <;> omega
    by_cases h0 : len = 0
    · subst h0
      exact ⟨[], some a, cap, hv, by simp, h3, fun i hi => absurd hi (by simp)⟩
    have hcells : ∀ i, i < len → ∃ s : Int, w.cell? (a.add i) = some (.int .i64 s) := fun i hi => by
      obtain ⟨cs', hc, ht⟩ := h5 i (by omega)
      rw [cells_int] at hc
      obtain ⟨_, hlen, hat⟩ := World.cells?_some hc
      have a0 := hat 0 (by omega)
      match cs', hlen with
      | [c0], _ =>
        obtain ⟨lo, rfl⟩ := open_int2 under3 ht
        rw [Go.Deep.add_add, Nat.mul_one] at a0
        exact ⟨lo, a0⟩
    obtain ⟨s0, hs0⟩ := hcells 0 (by omega)
    obtain ⟨hae, hab⟩ := addr_of_cell (a := a) hs0
    obtain ⟨l, hl, hq⟩ := choose_list (Q := fun i (s : Int) => w.cell? ⟨a.block, a.off + i, none⟩ = some (.int .i64 s)) len (fun i hi => by
      obtain ⟨s, e1⟩ := hcells i hi
      rw [hae, Addr.add_mid] at e1
      exact ⟨s, e1⟩)
    refine ⟨l, some a, cap, by rw [hv, hl], by omega, h3, fun i hi => ?_⟩
    exact ⟨a.block, a.off, by rw [← hae], hab, hab, hq i hi⟩
set_option maxRecDepth 100000 in
theorem open_pairV {n : Nat} {cs : List Value} {x : DataW H × List MemPlace} (h : DataW.trod enc Try.prog w base spare held n 27 cs = some x) : ∃ p bs rs, cs = (pairRow p bs rs).toList ∧ PairAt w p bs rs := by
  obtain ⟨xs, m, _, _, hl, hx, hg⟩ := DataW.trod_struct Try.underlying27 h
  rw [cells_pair] at hl
  match cs, hl with
  | [c0, c1, c2, c3, c4, c5], _ =>
    have h0 := hg 0 _ rfl
    have h1 := hg 1 _ rfl
    have h2 := hg 2 _ rfl
    have h3 := hg 3 _ rfl
    have hxl : xs.length = 4 := hx
    match xs, hxl with
    | [y0, y1, y2, y3], _ =>
      have e0 : DataW.trod enc Try.prog w base spare held m 22 [c0] = some y0 := by
        change DataW.trod enc Try.prog w base spare held m 22 (List.take (Try.prog.cellsOf 22) (List.drop 0 [c0, c1, c2, c3, c4, c5])) = some y0 at h0
        rw [cells_spans] at h0
        exact h0
      have e1 : DataW.trod enc Try.prog w base spare held m 24 [c1, c2] = some y1 := by
        change DataW.trod enc Try.prog w base spare held m 24 (List.take (Try.prog.cellsOf 24) (List.drop 1 [c0, c1, c2, c3, c4, c5])) = some y1 at h1
        rw [cells_span] at h1
        exact h1
      have e2 : DataW.trod enc Try.prog w base spare held m 24 [c3, c4] = some y2 := by
        change DataW.trod enc Try.prog w base spare held m 24 (List.take (Try.prog.cellsOf 24) (List.drop 3 [c0, c1, c2, c3, c4, c5])) = some y2 at h2
        rw [cells_span] at h2
        exact h2
      have e3 : DataW.trod enc Try.prog w base spare held m 25 [c5] = some y3 := by
        change DataW.trod enc Try.prog w base spare held m 25 (List.take (Try.prog.cellsOf 25) (List.drop 5 [c0, c1, c2, c3, c4, c5])) = some y3 at h3
        rw [cells_reads] at h3
        exact h3
      obtain ⟨bl, hbl⟩ := open_spansV e0
      obtain ⟨rl, hrl⟩ := open_readsV e3
      obtain ⟨zl, zh, hz⟩ := open_spanV e1
      obtain ⟨ql, qh, hq⟩ := open_spanV e2
      simp only [List.cons.injEq, and_true] at hz hq
      obtain ⟨rfl, rfl⟩ := hz
      obtain ⟨rfl, rfl⟩ := hq
      exact ⟨⟨bl, zl, zh, ql, qh, rl⟩, c0, c5, rfl, ⟨hbl, hrl⟩⟩
set_option maxRecDepth 100000 in
theorem open_plan {r : Reach} {b0 : Nat} {v : Value} {d : DataW H} {ps : List MemPlace} (hv : Value.okWide Try.prog w r b0 30 v) (h : DataW.Trod enc Try.prog w base spare held 30 v d ps) : ∃ q bs rs pv, v = .agg (planRow q bs rs pv) ∧ PlanAt w q bs rs pv := by
  obtain ⟨cs, rfl, hsz⟩ := okWide_struct Try.underlying30 hv
  obtain ⟨l⟩ := cs
  obtain ⟨fuel, hf⟩ := h
  obtain ⟨xs, m, _, _, hl, hx, hg⟩ := DataW.trod_struct Try.underlying30 hf
  match l, hsz.trans cells_plan with
  | [c0, c1, c2, c3, c4, c5, c6, c7], _ =>
    have h0 := hg 0 _ rfl
    have h1 := hg 1 _ rfl
    have h2 := hg 2 _ rfl
    have hxl : xs.length = 3 := hx
    match xs, hxl with
    | [y0, y1, y2], _ =>
      have e0 : DataW.trod enc Try.prog w base spare held m 27 [c0, c1, c2, c3, c4, c5] = some y0 := by
        change DataW.trod enc Try.prog w base spare held m 27 (List.take (Try.prog.cellsOf 27) (List.drop 0 [c0, c1, c2, c3, c4, c5, c6, c7])) = some y0 at h0
        rw [cells_pair] at h0
        exact h0
      have e1 : DataW.trod enc Try.prog w base spare held m 3 [c6] = some y1 := by
        change DataW.trod enc Try.prog w base spare held m 3 (List.take (Try.prog.cellsOf 3) (List.drop 6 [c0, c1, c2, c3, c4, c5, c6, c7])) = some y1 at h1
        rw [cells_int] at h1
        exact h1
      have e2 : DataW.trod enc Try.prog w base spare held m 28 [c7] = some y2 := by
        change DataW.trod enc Try.prog w base spare held m 28 (List.take (Try.prog.cellsOf 28) (List.drop 7 [c0, c1, c2, c3, c4, c5, c6, c7])) = some y2 at h2
        rw [cells_ints] at h2
        exact h2
      obtain ⟨p, bs, rs, hp, hpa⟩ := open_pairV e0
      obtain ⟨wd, rfl⟩ := open_int2 under3 e1
      obtain ⟨nl, hnl⟩ := open_numsV e2
      have hp2 : [c0, c1, c2, c3, c4, c5] = [bs, .int .i64 p.zl, .int .i64 p.zh, .int .i64 p.rl, .int .i64 p.rh, rs] := hp
      simp only [List.cons.injEq, and_true] at hp2
      obtain ⟨rfl, rfl, rfl, rfl, rfl, rfl⟩ := hp2
      exact ⟨⟨p, wd, nl⟩, c0, c5, c7, rfl, ⟨hpa, hnl⟩⟩
end

end Go.Proofs.Ytabbmihakoeegaa
