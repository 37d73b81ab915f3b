/- Texts Ep, Eq, Er, Es, Et in one file; each begins with a word on what it proves. -/
import Derived.Test.YtbmfphiecllggaaGreatDoorTie
import Derived.Test.YtbmfphiecllggaaGreatDoorCards
import Derived.SevenTiedAt
import Derived.Test.YtbmfphiecllggaaGreatDoorKn
import Derived.Test.YtbmfphiecllggaaGreatDoorKh
import Derived.Test.YtbmfphiecllggaaGreatDoorKf
import Derived.Test.YtbmfphiecllggaaGreatDoorKg
import Derived.Test.YtbmfphiecllggaaGreatDoorKj

/- The reference of jobs, walked: Alone, Most. -/
namespace Go.Proofs.YtbmfphiecllggaaGreatDoor
set_option linter.unusedVariables false
set_option linter.unusedSimpArgs false
open Go.RowKit Go.Shelf
attribute [local go_sem] Oper.semAt_some

/-! ### plain -/
theorem alone_can (j : JobD) (i : Nat) (h : i < j.ws.length) : canD j (2 ^ i) = !(rightsS j.st (j.ws.getD i (0, 0))).isEmpty := by
  rw [getD_lt j.ws (0, 0) i h]
  cases hr : rightsS j.st j.ws[i] with
  | cons s l => rw [can_one j i h (by rw [hr]; simp)]; rfl
  | nil =>
    cases hc : canD j (2 ^ i) with
    | false => rfl
    | true =>
      exfalso
      unfold canD scoreD at hc
      have hl : i < (rightsD j).length := by simpa [rightsD] using h
      rw [sel_oneJ _ i hl, show (rightsD j)[i] = rightsS j.st j.ws[i] by simp [rightsD], hr] at hc
      obtain ⟨x, hx⟩ := Option.isSome_iff_exists.1 hc
      obtain ⟨s, t, _, hm, _⟩ := ((score_specJ 8 [[]] (allD j)).2 x hx).1
      cases hm
def stepE (j : JobD) (b s : Nat) : Nat := if sizeJ 4 b < sizeJ 4 s ∧ canD j s = true then s else b
def mostE (j : JobD) (k : Nat) : Nat := (List.range k).foldl (stepE j) 0
theorem mostE_succ (j : JobD) (k : Nat) : mostE j (k + 1) = stepE j (mostE j k) k := by unfold mostE; rw [List.range_succ, List.foldl_append]; rfl
theorem mostE_ok (j : JobD) : ∀ k, canD j (mostE j k) = true ∧ (mostE j k = 0 ∨ mostE j k < k) ∧ ∀ s, s < k → canD j s = true → sizeJ 4 s ≤ sizeJ 4 (mostE j k) ∧ (sizeJ 4 s = sizeJ 4 (mostE j k) → mostE j k ≤ s)
  | 0 => ⟨can_zero j, .inl rfl, fun s h => absurd h (by omega)⟩
  | k + 1 => by
    obtain ⟨h1, h2, h3⟩ := mostE_ok j k
    rw [mostE_succ]
    unfold stepE
    by_cases hc : sizeJ 4 (mostE j k) < sizeJ 4 k ∧ canD j k = true
    · rw [if_pos hc]
      refine ⟨hc.2, .inr (by omega), fun s hs hcs => ?_⟩
      by_cases hsk : s = k
      · subst hsk; exact ⟨Nat.le_refl _, fun _ => Nat.le_refl _⟩
      · have := (h3 s (by omega) hcs).1
        exact ⟨by omega, fun h => by omega⟩
    · rw [if_neg hc]
      refine ⟨h1, by omega, fun s hs hcs => ?_⟩
      by_cases hsk : s = k
      · subst hsk
        have h4 : sizeJ 4 s ≤ sizeJ 4 (mostE j s) := Nat.le_of_not_lt fun h => hc ⟨h, hcs⟩
        exact ⟨h4, fun _ => by omega⟩
      · exact h3 s (by omega) hcs
theorem mostE_end {j : JobD} (hv : validJb j = true) : mostD j = ((((sizeJ 4 (mostE j (2 ^ j.ws.length)) : Nat) : Int), ((mostE j (2 ^ j.ws.length) : Nat) : Int)), 0) := by
  obtain ⟨b, h1, h2, h3, h4⟩ := most_facts hv
  obtain ⟨k1, k2, k3⟩ := mostE_ok j (2 ^ j.ws.length)
  have hpos := Nat.two_pow_pos j.ws.length
  have hlt : mostE j (2 ^ j.ws.length) < 2 ^ j.ws.length := by omega
  obtain ⟨e1, e2⟩ := h4 _ hlt k1
  obtain ⟨f1, f2⟩ := k3 b h2 h3
  have he : sizeJ 4 b = sizeJ 4 (mostE j (2 ^ j.ws.length)) := by omega
  have hb : b = mostE j (2 ^ j.ws.length) := Nat.le_antisymm (e2 he.symm) (f2 he)
  rw [h1, hb]
theorem aloneD_bad {j : JobD} (hv : validJb j = false) : aloneD j = (0, 1) := by unfold aloneD; rw [errD_bad hv]; rfl
theorem mostD_bad {j : JobD} (hv : validJb j = false) : mostD j = ((0, 0), 1) := by unfold mostD; rw [errD_bad hv]; rfl
theorem aloneE_ok {j : JobD} (hv : validJb j = true) : aloneD j = (((aloneN j : Nat) : Int), 0) := by unfold aloneD; rw [errD_ok hv]; rfl

/-! ### walked -/
set_option maxRecDepth 100000 in
set_option maxHeartbeats 4000000 in
theorem r12Alone_any (j : JobD) (h18 : validJb j = true → j.ws.length * j.st.bs.length ≤ 18) (bs ws : Value) (w : World) (hbs : SpansAt w bs j.st.bs (fun k => k < w.heap.size)) (hws : SpansAt w ws j.ws (fun k => k < w.heap.size)) :
    Calls Tryz.prog 14 #[jobV j bs ws] w fun e w' => e = .returned (.tuple #[.int .i64 (aloneD j).1, .int .i64 (aloneD j).2]) ∧ Below w.heap.size w w' := by
  have H18 := Lib.hid h18
  clear h18
  have HBS := Lib.hid hbs
  have HWS := Lib.hid hws
  obtain ⟨ao, cap, hv1, _⟩ := id hbs
  obtain ⟨ao2, cap2, hv2, _⟩ := id hws
  subst hv1 hv2
  obtain ⟨nb, hnb⟩ : ∃ n, n = j.st.bs.length := ⟨_, rfl⟩
  obtain ⟨nw, hnw⟩ : ∃ n, n = j.ws.length := ⟨_, rfl⟩
  obtain ⟨fl, hfl⟩ : ∃ x, x = j.st.film.1 := ⟨_, rfl⟩
  obtain ⟨fh, hfh⟩ : ∃ x, x = j.st.film.2 := ⟨_, rfl⟩
  have HJV := Lib.hid (show jobV j (.slice ao nb cap) (.slice ao2 nw cap2) = .agg #[.slice ao nb cap, .int .i64 fl, .int .i64 fh, .slice ao2 nw cap2] by unfold jobV; rw [← hfl, ← hfh])
  unfold jobV
  rw [← hnb, ← hnw, ← hfl, ← hfh]
  rw [← hnb] at HBS
  rw [← hnw] at HWS
  have HN := Lib.hid (And.intro hnb hnw)
  have HXw0 := Lib.hid (show (w.alloc (.cells #[.slice ao nb cap, .int .i64 fl, .int .i64 fh, .slice ao2 nw cap2] 28)).heap[w.heap.size]? = some (.cells #[.slice ao nb cap, .int .i64 fl, .int .i64 fh, .slice ao2 nw cap2] 28 (0, 0)) from heap_alloc_at _ _ _ rfl)
  have HBw0 := Lib.hid (Below.alloc' w (.cells #[.slice ao nb cap, .int .i64 fl, .int .i64 fh, .slice ao2 nw cap2] 28))
  clear hbs hws hnb hnw hfl hfh
  go_enter Tryz.func14, Tryz.ntmps14
  go_wp2_with fail
  have hc := r12check_any j true (.slice ao nb cap) (.slice ao2 nw cap2) _ (HBS.out.later HBw0.out.size (fun k h1 _ => HBw0.out.block k h1)).low (HWS.out.later HBw0.out.size (fun k h1 _ => HBw0.out.block k h1)).low
  rw [HJV.out] at hc
  refine hc.mono ?_
  rintro e w1 ⟨rfl, hb⟩
  clear hc
  dsimp only
  have HXw1 := Lib.hid ((hb.block _ (lt_of_block HXw0.out)).trans HXw0.out)
  have HBw1 := Lib.hid (HBw0.out.trans (hb.mono HBw0.out.size))
  clear hb
  cases hv : validJb j with
  | false =>
    have HD := Lib.hid (aloneD_bad hv)
    rw [errD_bad hv]
    clear hv
    go_wp2_with fail
    exact bodyPost_ret (v := .tuple #[.int .i64 0, .int .i64 1]) (by simp [results, Tryz.results14, go_sem]) rfl ⟨by rw [HD.out], HBw1.out⟩
  | true =>
    rw [errD_ok hv]
    have HV := Lib.hid hv
    have hnw4 : nw ≤ 4 := by rw [HN.out.2]; exact (validJb_parts hv).2.1
    clear hv
    go_wp2_with fail
    go_loopw [5, 6] (fun uv iv wr => ∃ i : Nat, i ≤ nw ∧ iv = .int .i64 i ∧ uv = .int .i64 (setJ (fun i => !((rightsS j.st (j.ws.getD i (0, 0))).isEmpty)) i : Nat) ∧ wr.heap[w.heap.size]? = some (.cells #[.slice ao nb cap, .int .i64 fl, .int .i64 fh, .slice ao2 nw cap2] 28 (0, 0)) ∧ Below w.heap.size w wr) (fun _ iv _ => nw - (intOf iv).toNat)
    case atStart => exact ⟨0, Nat.zero_le _, rfl, rfl, HXw1.out, HBw1.out⟩
    case round =>
      obtain ⟨i, hi, rfl, rfl, hx, hb⟩ := hrel
      have HXwr := Lib.hid hx
      have HBwr := Lib.hid hb
      clear hx hb
      have hsl := setJ_lt (fun i => !((rightsS j.st (j.ws.getD i (0, 0))).isEmpty)) i
      have hsn : setJ (fun i => !((rightsS j.st (j.ws.getD i (0, 0))).isEmpty)) (i + 1) = setJ (fun i => !((rightsS j.st (j.ws.getD i (0, 0))).isEmpty)) i + if (!((rightsS j.st (j.ws.getD i (0, 0))).isEmpty)) = true then 2 ^ i else 0 := rfl
      have hi16 : 2 ^ i ≤ 16 := (Nat.pow_le_pow_right (by decide) (by omega) : _ ≤ 2 ^ 4)
      obtain ⟨u, hu⟩ : ∃ u, u = setJ (fun i => !((rightsS j.st (j.ws.getD i (0, 0))).isEmpty)) i := ⟨_, rfl⟩
      rw [← hu] at hsl hsn ⊢
      by_cases hlt : i < nw
      · have hw : IntKind.i64.wrap ((i : Int) + 1) = ((i + 1 : Nat) : Int) := by rw [IntWalk.i64_in _ (by omega)]; omega
        have hlti : (i : Int) < (nw : Int) := by omega
        have hac := alone_can j i (by rw [← HN.out.2]; exact hlt)
        rw [← hac] at hsn
        have c0 : wr.cell? ⟨w.heap.size, 0, none⟩ = some (.slice ao nb cap) := by rw [cell_of_row _ _ _ _ _ _ HXwr.out]; rfl
        have c1 : wr.cell? ⟨w.heap.size, 1, none⟩ = some (.int .i64 fl) := by rw [cell_of_row _ _ _ _ _ _ HXwr.out]; rfl
        have c2 : wr.cell? ⟨w.heap.size, 2, none⟩ = some (.int .i64 fh) := by rw [cell_of_row _ _ _ _ _ _ HXwr.out]; rfl
        have c3 : wr.cell? ⟨w.heap.size, 3, none⟩ = some (.slice ao2 nw cap2) := by rw [cell_of_row _ _ _ _ _ _ HXwr.out]; rfl
        clear hac hu
        go_upto_region 8 with fail
        clear c0 c1 c2 c3
        have hS0 : SJ4 w.heap.size (.slice ao nb cap) (.slice ao2 nw cap2) fl fh wr := ⟨by rw [cell_of_row _ _ _ _ _ _ HXwr.out]; rfl, by rw [cell_of_row _ _ _ _ _ _ HXwr.out]; rfl, by rw [cell_of_row _ _ _ _ _ _ HXwr.out]; rfl, by rw [cell_of_row _ _ _ _ _ _ HXwr.out]; rfl⟩
        have HS0 := Lib.hid hS0
        clear hS0
        refine wp_region_held_drew (S := SJ4 w.heap.size (.slice ao nb cap) (.slice ao2 nw cap2) fl fh) (by kernel_rfl) (HS0.out.below (Below.refl _ _).drew) fun hS => ?_
        obtain ⟨D, hD⟩ : ∃ D, D = World.drew wr := ⟨_, rfl⟩
        have hb : Below wr.heap.size wr D := by rw [hD]; exact (Below.refl _ _).drew
        rw [← hD] at hS ⊢
        have HXD := Lib.hid ((hb.block _ (lt_of_block HXwr.out)).trans HXwr.out)
        have HBD := Lib.hid (HBwr.out.trans (hb.mono HBwr.out.size))
        clear hD hb HS0
        refine wpAnyH_take (i := 0) (v := ?_) rfl (by kernel_rfl) (by kernel_rfl) (by kernel_rfl) (fun _ _ _ h => h) (Or.inl ⟨by rfl, ?_⟩) hS ?_
        rotate_left
        · (intro W hSw; obtain ⟨q0, q1, q2, q3⟩ := hSw; go_simp; try with_reducible rfl)
        try simp only [List.getElem_toArray, List.getElem_cons_succ, List.getElem_cons_zero, Act.put, List.setIfInBounds_toArray, List.set_cons_zero, List.set_cons_succ]
        refine wpAnyH_take (i := 1) (v := ?_) rfl (by kernel_rfl) (by kernel_rfl) (by kernel_rfl) (fun _ _ _ h => h) (Or.inl ⟨by rfl, ?_⟩) hS ?_
        rotate_left
        · (intro W hSw; obtain ⟨q0, q1, q2, q3⟩ := hSw; go_simp; try with_reducible rfl)
        try simp only [List.getElem_toArray, List.getElem_cons_succ, List.getElem_cons_zero, Act.put, List.setIfInBounds_toArray, List.set_cons_zero, List.set_cons_succ]
        refine wpAnyH_call (k := 2) (by kernel_rfl) rfl rfl (f := 47) (args := #[.int .i64 i]) (by simp [execOp, go_sem, Act.eval, Act.put]) ?_
        refine (r12power_any i (by omega) D).mono ?_
        rintro e w' ⟨rfl, rfl⟩
        dsimp only
        obtain ⟨P, hP⟩ : ∃ P, P = 2 ^ i := ⟨_, rfl⟩
        rw [← hP] at hsl hi16 hsn ⊢
        have HP := Lib.hid hP
        have HSN := Lib.hid hsn
        clear hP hsn
        refine ⟨hS, ?_⟩
        try simp only [List.getElem_toArray, List.getElem_cons_succ, List.getElem_cons_zero, Act.put, List.setIfInBounds_toArray, List.set_cons_zero, List.set_cons_succ]
        have hc := r12can_any j HV.out (H18.out HV.out) P (by omega) (.slice ao nb cap) (.slice ao2 nw cap2) D (HBS.out.later HBD.out.size (fun k h1 _ => HBD.out.block k h1)).low (HWS.out.later HBD.out.size (fun k h1 _ => HBD.out.block k h1)).low
        rw [HJV.out] at hc
        refine wpAnyH_call (k := 3) (by kernel_rfl) rfl rfl (f := 46) (args := #[.agg #[.slice ao nb cap, .int .i64 fl, .int .i64 fh, .slice ao2 nw cap2], .int .i64 P]) (by simp [execOp, go_sem, Act.eval, Act.put]) ?_
        refine hc.mono ?_
        rintro e w5 ⟨rfl, hb⟩
        clear hc
        dsimp only
        have HXw5 := Lib.hid ((hb.block _ (lt_of_block HXD.out)).trans HXD.out)
        have HBw5 := Lib.hid (HBD.out.trans (hb.mono HBD.out.size))
        have hS9 := hS.below hb
        clear hb hS
        refine ⟨hS9, ?_⟩
        have hS := hS9
        clear hS9
        try simp only [List.getElem_toArray, List.getElem_cons_succ, List.getElem_cons_zero, Act.put, List.setIfInBounds_toArray, List.set_cons_zero, List.set_cons_succ]
        refine wpAnyH_done (by kernel_rfl) ?_ _
        try simp only [List.getElem_toArray, List.getElem_cons_succ, List.getElem_cons_zero, Act.put, List.setIfInBounds_toArray, List.set_cons_zero, List.set_cons_succ]
        clear hS
        have hsn := HSN.out
        rw [HP.out] at hsn
        cases hcb : canD j P with
        | true =>
          have HSN2 := Lib.hid (show setJ (fun i => !((rightsS j.st (j.ws.getD i (0, 0))).isEmpty)) (i + 1) = u + P by rw [hsn, ← HP.out, hcb, if_pos rfl])
          have hwp : IntKind.i64.wrap ((u : Int) + (P : Int)) = ((u + P : Nat) : Int) := by rw [IntWalk.i64_in _ (by omega)]; omega
          clear hcb hsn
          go_wp2_with fail
          refine (r12power_any i (by omega) w5).mono ?_
          rintro e w' ⟨rfl, rfl⟩
          dsimp only
          rw [← HP.out]
          go_wp2_with fail
          exact ⟨⟨i + 1, hlt, by push_cast; rfl, by rw [HSN2.out]; push_cast; rfl, HXw5.out, HBw5.out⟩, by simp [intOf]; omega⟩
        | false =>
          have HSN2 := Lib.hid (show setJ (fun i => !((rightsS j.st (j.ws.getD i (0, 0))).isEmpty)) (i + 1) = u by rw [hsn, ← HP.out, hcb, if_neg (by decide), Nat.add_zero])
          clear hcb hsn
          go_wp2_with fail
          exact ⟨⟨i + 1, hlt, by push_cast; rfl, by rw [HSN2.out], HXw5.out, HBw5.out⟩, by simp [intOf]; omega⟩
      · have hin : nw = i := by omega
        subst hin
        have hlti : ¬ (nw : Int) < (nw : Int) := by omega
        have HD := Lib.hid (show aloneD j = ((u : Int), 0) by rw [aloneE_ok HV.out, hu, HN.out.2]; rfl)
        have c0 : wr.cell? ⟨w.heap.size, 0, none⟩ = some (.slice ao nb cap) := by rw [cell_of_row _ _ _ _ _ _ HXwr.out]; rfl
        have c1 : wr.cell? ⟨w.heap.size, 1, none⟩ = some (.int .i64 fl) := by rw [cell_of_row _ _ _ _ _ _ HXwr.out]; rfl
        have c2 : wr.cell? ⟨w.heap.size, 2, none⟩ = some (.int .i64 fh) := by rw [cell_of_row _ _ _ _ _ _ HXwr.out]; rfl
        have c3 : wr.cell? ⟨w.heap.size, 3, none⟩ = some (.slice ao2 nw cap2) := by rw [cell_of_row _ _ _ _ _ _ HXwr.out]; rfl
        clear hlt hu hsn
        go_wp2_with fail
        exact bodyPost_ret (v := .tuple #[.int .i64 u, .int .i64 0]) (by simp [results, Tryz.results14, go_sem]) rfl ⟨by rw [HD.out], HBwr.out⟩
end Go.Proofs.YtbmfphiecllggaaGreatDoor

/- The reference of jobs, walked: Most, Why. -/
namespace Go.Proofs.YtbmfphiecllggaaGreatDoor
set_option linter.unusedVariables false
set_option linter.unusedSimpArgs false
open Go.RowKit Go.Shelf
attribute [local go_sem] Oper.semAt_some

/-! ### plain -/
def stepW (j : JobD) (b s : Nat) : Nat := if sizeJ 4 s < sizeJ 4 b ∧ canD j s = false then s else b
def whyE (j : JobD) (k : Nat) : Nat := (List.range k).foldl (stepW j) (everyD j)
theorem whyE_succ (j : JobD) (k : Nat) : whyE j (k + 1) = stepW j (whyE j k) k := by unfold whyE; rw [List.range_succ, List.foldl_append]; rfl
theorem whyE_ok {j : JobD} (hc : canD j (everyD j) = false) : ∀ k, canD j (whyE j k) = false ∧ (whyE j k = everyD j ∨ whyE j k < k) ∧ ∀ s, s < k → canD j s = false → sizeJ 4 (whyE j k) ≤ sizeJ 4 s ∧ (sizeJ 4 (whyE j k) = sizeJ 4 s → whyE j k ≤ s ∨ whyE j k = everyD j)
  | 0 => ⟨hc, .inl rfl, fun s h => absurd h (by omega)⟩
  | k + 1 => by
    obtain ⟨h1, h2, h3⟩ := whyE_ok hc k
    rw [whyE_succ]
    unfold stepW
    by_cases hs : sizeJ 4 k < sizeJ 4 (whyE j k) ∧ canD j k = false
    · rw [if_pos hs]
      refine ⟨hs.2, .inr (by omega), fun s hsk hcs => ?_⟩
      by_cases he : s = k
      · subst he; exact ⟨Nat.le_refl _, fun _ => .inl (Nat.le_refl _)⟩
      · have := (h3 s (by omega) hcs).1
        exact ⟨by omega, fun h => by omega⟩
    · rw [if_neg hs]
      refine ⟨h1, by omega, fun s hsk hcs => ?_⟩
      by_cases he : s = k
      · subst he
        have h4 : sizeJ 4 (whyE j s) ≤ sizeJ 4 s := Nat.le_of_not_lt fun h => hs ⟨h, hcs⟩
        exact ⟨h4, fun _ => by omega⟩
      · exact h3 s (by omega) hcs
theorem size_full : ∀ n ≤ 4, ∀ s < 2 ^ n, sizeJ 4 s = sizeJ 4 (2 ^ n - 1) → s = 2 ^ n - 1 := by decide
theorem whyE_end {j : JobD} (hv : validJb j = true) (hc : canD j (everyD j) = false) : whyD j = (((whyE j (2 ^ j.ws.length) : Nat) : Int), 0) := by
  have hn4 := (validJb_parts hv).2.1
  rcases why_facts hv with ⟨h1, _⟩ | ⟨_, s, h1, h2, h3, h4⟩
  · rw [hc] at h1; cases h1
  obtain ⟨k1, k2, k3⟩ := whyE_ok hc (2 ^ j.ws.length)
  have hpos := Nat.two_pow_pos j.ws.length
  have hlt : whyE j (2 ^ j.ws.length) < 2 ^ j.ws.length := by unfold everyD at k2; omega
  obtain ⟨e1, e2⟩ := h4 _ hlt k1
  obtain ⟨f1, f2⟩ := k3 s h2 h3
  have he : sizeJ 4 s = sizeJ 4 (whyE j (2 ^ j.ws.length)) := by omega
  have hb : s = whyE j (2 ^ j.ws.length) := by
    rcases f2 he.symm with h | h
    · exact Nat.le_antisymm (e2 he) h
    · rw [h] at he ⊢
      exact size_full _ hn4 s h2 he
  rw [h1, hb]
theorem whyE_can {j : JobD} (hv : validJb j = true) (hc : canD j (everyD j) = true) : whyD j = (0, 4) := by
  rcases why_facts hv with ⟨_, h⟩ | ⟨h1, _⟩
  · exact h
  · rw [hc] at h1; cases h1
theorem whyD_bad {j : JobD} (hv : validJb j = false) : whyD j = (0, 1) := by unfold whyD; rw [errD_bad hv]; rfl

/-! ### walked -/
set_option maxRecDepth 100000 in
set_option maxHeartbeats 4000000 in
theorem r12Most_any (j : JobD) (h18 : validJb j = true → j.ws.length * j.st.bs.length ≤ 18) (bs ws : Value) (w : World) (hbs : SpansAt w bs j.st.bs (fun k => k < w.heap.size)) (hws : SpansAt w ws j.ws (fun k => k < w.heap.size)) :
    Calls Tryz.prog 16 #[jobV j bs ws] w fun e w' => e = .returned (.tuple #[.int .i64 (mostD j).1.1, .int .i64 (mostD j).1.2, .int .i64 (mostD j).2]) ∧ Below w.heap.size w w' := by
  have H18 := Lib.hid h18
  clear h18
  have HBS := Lib.hid hbs
  have HWS := Lib.hid hws
  obtain ⟨ao, cap, hv1, _⟩ := id hbs
  obtain ⟨ao2, cap2, hv2, _⟩ := id hws
  subst hv1 hv2
  obtain ⟨nb, hnb⟩ : ∃ n, n = j.st.bs.length := ⟨_, rfl⟩
  obtain ⟨nw, hnw⟩ : ∃ n, n = j.ws.length := ⟨_, rfl⟩
  obtain ⟨fl, hfl⟩ : ∃ x, x = j.st.film.1 := ⟨_, rfl⟩
  obtain ⟨fh, hfh⟩ : ∃ x, x = j.st.film.2 := ⟨_, rfl⟩
  have HJV := Lib.hid (show jobV j (.slice ao nb cap) (.slice ao2 nw cap2) = .agg #[.slice ao nb cap, .int .i64 fl, .int .i64 fh, .slice ao2 nw cap2] by unfold jobV; rw [← hfl, ← hfh])
  unfold jobV
  rw [← hnb, ← hnw, ← hfl, ← hfh]
  rw [← hnb] at HBS
  rw [← hnw] at HWS
  have HN := Lib.hid (And.intro hnb hnw)
  have HXw0 := Lib.hid (show (w.alloc (.cells #[.slice ao nb cap, .int .i64 fl, .int .i64 fh, .slice ao2 nw cap2] 28)).heap[w.heap.size]? = some (.cells #[.slice ao nb cap, .int .i64 fl, .int .i64 fh, .slice ao2 nw cap2] 28 (0, 0)) from heap_alloc_at _ _ _ rfl)
  have HBw0 := Lib.hid (Below.alloc' w (.cells #[.slice ao nb cap, .int .i64 fl, .int .i64 fh, .slice ao2 nw cap2] 28))
  clear hbs hws hnb hnw hfl hfh
  go_enter Tryz.func16, Tryz.ntmps16
  go_wp2_with fail
  have hc := r12check_any j true (.slice ao nb cap) (.slice ao2 nw cap2) _ (HBS.out.later HBw0.out.size (fun k h1 _ => HBw0.out.block k h1)).low (HWS.out.later HBw0.out.size (fun k h1 _ => HBw0.out.block k h1)).low
  rw [HJV.out] at hc
  refine hc.mono ?_
  rintro e w1 ⟨rfl, hb⟩
  clear hc
  dsimp only
  have HXw1 := Lib.hid ((hb.block _ (lt_of_block HXw0.out)).trans HXw0.out)
  have HBw1 := Lib.hid (HBw0.out.trans (hb.mono HBw0.out.size))
  clear hb
  cases hv : validJb j with
  | false =>
    have HD := Lib.hid (mostD_bad hv)
    rw [errD_bad hv]
    clear hv
    go_wp2_with fail
    exact bodyPost_ret (v := .tuple #[.int .i64 0, .int .i64 0, .int .i64 1]) (by simp [results, Tryz.results16, go_sem]) rfl ⟨by rw [HD.out], HBw1.out⟩
  | true =>
    rw [errD_ok hv]
    have HV := Lib.hid hv
    have hnw4 : nw ≤ 4 := by rw [HN.out.2]; exact (validJb_parts hv).2.1
    have hp16 : 2 ^ nw ≤ 16 := (Nat.pow_le_pow_right (by decide) hnw4 : _ ≤ 2 ^ 4)
    have hpos := Nat.two_pow_pos nw
    obtain ⟨P, hP⟩ : ∃ P, P = 2 ^ nw := ⟨_, rfl⟩
    rw [← hP] at hp16 hpos
    obtain ⟨ev, hev⟩ : ∃ x, x = everyD j := ⟨_, rfl⟩
    have hevP : ev + 1 = P := by rw [hev, hP]; unfold everyD; rw [← HN.out.2]; have := Nat.two_pow_pos nw; omega
    have HP := Lib.hid hP
    have HEV := Lib.hid hev
    clear hv hP hev
    go_wp2_with fail
    go_loopw [6, 7] (fun bv sv wr => ∃ k : Nat, k ≤ P ∧ sv = .int .i64 k ∧ bv = .int .i64 (mostE j k : Nat) ∧ wr.heap[w.heap.size]? = some (.cells #[.slice ao nb cap, .int .i64 fl, .int .i64 fh, .slice ao2 nw cap2] 28 (0, 0)) ∧ Below w.heap.size w wr) (fun _ sv _ => P - (intOf sv).toNat)
    case atStart => exact ⟨0, Nat.zero_le _, rfl, rfl, HXw1.out, HBw1.out⟩
    case round =>
      obtain ⟨k, hk, rfl, rfl, hx, hb⟩ := hrel
      have HXwr := Lib.hid hx
      have HBwr := Lib.hid hb
      clear hx hb
      have hmk := (mostE_ok j k).2.1
      have hms := mostE_succ j k
      obtain ⟨b, hbe⟩ : ∃ b, b = mostE j k := ⟨_, rfl⟩
      rw [← hbe] at hmk hms ⊢
      have HBE := Lib.hid hbe
      have HMS := Lib.hid hms
      have hb16 : b < 16 ∨ b = 16 := by omega
      have hb256 : b < 256 := by omega
      clear hms hbe
      have c0 : wr.cell? ⟨w.heap.size, 0, none⟩ = some (.slice ao nb cap) := by rw [cell_of_row _ _ _ _ _ _ HXwr.out]; rfl
      have c1 : wr.cell? ⟨w.heap.size, 1, none⟩ = some (.int .i64 fl) := by rw [cell_of_row _ _ _ _ _ _ HXwr.out]; rfl
      have c2 : wr.cell? ⟨w.heap.size, 2, none⟩ = some (.int .i64 fh) := by rw [cell_of_row _ _ _ _ _ _ HXwr.out]; rfl
      have c3 : wr.cell? ⟨w.heap.size, 3, none⟩ = some (.slice ao2 nw cap2) := by rw [cell_of_row _ _ _ _ _ _ HXwr.out]; rfl
      go_wp2_with fail
      have hc := r12every_any j (by rw [← HN.out.2]; omega) (.slice ao nb cap) (.slice ao2 nw cap2) wr (HWS.out.later HBwr.out.size (fun k h1 _ => HBwr.out.block k h1)).low
      rw [HJV.out, ← HEV.out] at hc
      refine hc.mono ?_
      rintro e w2 ⟨rfl, hb⟩
      clear hc c0 c1 c2 c3
      dsimp only
      have HXw2 := Lib.hid ((hb.block _ (lt_of_block HXwr.out)).trans HXwr.out)
      have HBw2 := Lib.hid (HBwr.out.trans (hb.mono HBwr.out.size))
      clear hb
      by_cases hlt : k < P
      · have hle : (k : Int) ≤ (ev : Int) := by omega
        have hle2 : k ≤ ev := by omega
        have hw : IntKind.i64.wrap ((k : Int) + 1) = ((k + 1 : Nat) : Int) := by rw [IntWalk.i64_in _ (by omega)]; omega
        have hb16 : b < 16 := by omega
        go_wp2_with fail
        refine (r12size_any k (by omega) w2).mono ?_
        rintro e w' ⟨rfl, rfl⟩
        dsimp only
        go_wp2_with fail
        refine (r12size_any b hb256 w2).mono ?_
        rintro e w' ⟨rfl, rfl⟩
        dsimp only
        rw [size_four k (by omega), size_four b hb16]
        obtain ⟨zk, hzk⟩ : ∃ z, z = sizeJ 4 k := ⟨_, rfl⟩
        obtain ⟨zb, hzb⟩ : ∃ z, z = sizeJ 4 b := ⟨_, rfl⟩
        rw [← hzk, ← hzb]
        have hms := HMS.out
        unfold stepE at hms
        rw [← hzk, ← hzb] at hms
        clear hzk hzb
        by_cases hz : zb < zk
        · have hzi : (zb : Int) < (zk : Int) := by omega
          have HMS2 := Lib.hid hms
          have HZ := Lib.hid hz
          clear hms
          have c0 : w2.cell? ⟨w.heap.size, 0, none⟩ = some (.slice ao nb cap) := by rw [cell_of_row _ _ _ _ _ _ HXw2.out]; rfl
          have c1 : w2.cell? ⟨w.heap.size, 1, none⟩ = some (.int .i64 fl) := by rw [cell_of_row _ _ _ _ _ _ HXw2.out]; rfl
          have c2 : w2.cell? ⟨w.heap.size, 2, none⟩ = some (.int .i64 fh) := by rw [cell_of_row _ _ _ _ _ _ HXw2.out]; rfl
          have c3 : w2.cell? ⟨w.heap.size, 3, none⟩ = some (.slice ao2 nw cap2) := by rw [cell_of_row _ _ _ _ _ _ HXw2.out]; rfl
          go_wp2_with fail
          have hc := r12can_any j HV.out (H18.out HV.out) k (by omega) (.slice ao nb cap) (.slice ao2 nw cap2) w2 (HBS.out.later HBw2.out.size (fun k h1 _ => HBw2.out.block k h1)).low (HWS.out.later HBw2.out.size (fun k h1 _ => HBw2.out.block k h1)).low
          rw [HJV.out] at hc
          refine hc.mono ?_
          rintro e w3 ⟨rfl, hb⟩
          clear hc c0 c1 c2 c3
          dsimp only
          have HXw3 := Lib.hid ((hb.block _ (lt_of_block HXw2.out)).trans HXw2.out)
          have HBw3 := Lib.hid (HBw2.out.trans (hb.mono HBw2.out.size))
          clear hb
          cases hcb : canD j k with
          | true =>
            have HM3 := Lib.hid (show mostE j (k + 1) = k by rw [HMS2.out, if_pos ⟨HZ.out, hcb⟩])
            clear hcb
            go_wp2_with fail
            exact ⟨⟨k + 1, hlt, by push_cast; rfl, by rw [HM3.out], HXw3.out, HBw3.out⟩, by simp [intOf]; omega⟩
          | false =>
            have HM3 := Lib.hid (show mostE j (k + 1) = b by rw [HMS2.out, if_neg (fun h => by rw [hcb] at h; cases h.2)])
            clear hcb
            go_wp2_with fail
            exact ⟨⟨k + 1, hlt, by push_cast; rfl, by rw [HM3.out], HXw3.out, HBw3.out⟩, by simp [intOf]; omega⟩
        · have hzi : ¬ (zb : Int) < (zk : Int) := by omega
          rw [if_neg (fun h => hz h.1)] at hms
          have HM3 := Lib.hid hms
          clear hms
          go_wp2_with fail
          exact ⟨⟨k + 1, hlt, by push_cast; rfl, by rw [HM3.out], HXw2.out, HBw2.out⟩, by simp [intOf]; omega⟩
      · have hkP : k = P := by omega
        have hle : ¬ (k : Int) ≤ (ev : Int) := by omega
        have hle2 : ¬ k ≤ ev := by omega
        have hbP : b < 16 := by
          have h9 := (mostE_ok j k).2.1
          rw [← HBE.out] at h9
          omega
        have hme := mostE_end HV.out
        rw [← HN.out.2, ← HP.out, ← hkP, ← HBE.out, ← size_four b hbP] at hme
        have HME := Lib.hid hme
        clear hlt hme
        go_wp2_with fail
        refine (r12size_any b hb256 w2).mono ?_
        rintro e w' ⟨rfl, rfl⟩
        dsimp only
        obtain ⟨zb, hzb⟩ : ∃ z, z = sizeJ 8 b := ⟨_, rfl⟩
        rw [← hzb]
        have HZB := Lib.hid hzb
        clear hzb
        go_wp2_with fail
        exact bodyPost_ret (v := .tuple #[.int .i64 zb, .int .i64 b, .int .i64 0]) (by simp [results, Tryz.results16, go_sem]) rfl ⟨by rw [HME.out, HZB.out], HBw2.out⟩
end Go.Proofs.YtbmfphiecllggaaGreatDoor

/- The reference of jobs, walked: Why. -/
namespace Go.Proofs.YtbmfphiecllggaaGreatDoor
set_option linter.unusedVariables false
set_option linter.unusedSimpArgs false
open Go.RowKit Go.Shelf
attribute [local go_sem] Oper.semAt_some

set_option maxRecDepth 100000 in
set_option maxHeartbeats 4000000 in
theorem r12Why_any (j : JobD) (h18 : validJb j = true → j.ws.length * j.st.bs.length ≤ 18) (bs ws : Value) (w : World) (hbs : SpansAt w bs j.st.bs (fun k => k < w.heap.size)) (hws : SpansAt w ws j.ws (fun k => k < w.heap.size)) :
    Calls Tryz.prog 18 #[jobV j bs ws] w fun e w' => e = .returned (.tuple #[.int .i64 (whyD j).1, .int .i64 (whyD j).2]) ∧ Below w.heap.size w w' := by
  have H18 := Lib.hid h18
  clear h18
  have HBS := Lib.hid hbs
  have HWS := Lib.hid hws
  obtain ⟨ao, cap, hv1, _⟩ := id hbs
  obtain ⟨ao2, cap2, hv2, _⟩ := id hws
  subst hv1 hv2
  obtain ⟨nb, hnb⟩ : ∃ n, n = j.st.bs.length := ⟨_, rfl⟩
  obtain ⟨nw, hnw⟩ : ∃ n, n = j.ws.length := ⟨_, rfl⟩
  obtain ⟨fl, hfl⟩ : ∃ x, x = j.st.film.1 := ⟨_, rfl⟩
  obtain ⟨fh, hfh⟩ : ∃ x, x = j.st.film.2 := ⟨_, rfl⟩
  have HJV := Lib.hid (show jobV j (.slice ao nb cap) (.slice ao2 nw cap2) = .agg #[.slice ao nb cap, .int .i64 fl, .int .i64 fh, .slice ao2 nw cap2] by unfold jobV; rw [← hfl, ← hfh])
  unfold jobV
  rw [← hnb, ← hnw, ← hfl, ← hfh]
  rw [← hnb] at HBS
  rw [← hnw] at HWS
  have HN := Lib.hid (And.intro hnb hnw)
  have HXw0 := Lib.hid (show (w.alloc (.cells #[.slice ao nb cap, .int .i64 fl, .int .i64 fh, .slice ao2 nw cap2] 28)).heap[w.heap.size]? = some (.cells #[.slice ao nb cap, .int .i64 fl, .int .i64 fh, .slice ao2 nw cap2] 28 (0, 0)) from heap_alloc_at _ _ _ rfl)
  have HBw0 := Lib.hid (Below.alloc' w (.cells #[.slice ao nb cap, .int .i64 fl, .int .i64 fh, .slice ao2 nw cap2] 28))
  clear hbs hws hnb hnw hfl hfh
  go_enter Tryz.func18, Tryz.ntmps18
  go_wp2_with fail
  have hc := r12check_any j true (.slice ao nb cap) (.slice ao2 nw cap2) _ (HBS.out.later HBw0.out.size (fun k h1 _ => HBw0.out.block k h1)).low (HWS.out.later HBw0.out.size (fun k h1 _ => HBw0.out.block k h1)).low
  rw [HJV.out] at hc
  refine hc.mono ?_
  rintro e w1 ⟨rfl, hb⟩
  clear hc
  dsimp only
  have HXw1 := Lib.hid ((hb.block _ (lt_of_block HXw0.out)).trans HXw0.out)
  have HBw1 := Lib.hid (HBw0.out.trans (hb.mono HBw0.out.size))
  clear hb
  cases hv : validJb j with
  | false =>
    have HD := Lib.hid (whyD_bad hv)
    rw [errD_bad hv]
    clear hv
    go_wp2_with fail
    exact bodyPost_ret (v := .tuple #[.int .i64 0, .int .i64 1]) (by simp [results, Tryz.results18, go_sem]) rfl ⟨by rw [HD.out], HBw1.out⟩
  | true =>
    rw [errD_ok hv]
    have HV := Lib.hid hv
    have hnw4 : nw ≤ 4 := by rw [HN.out.2]; exact (validJb_parts hv).2.1
    have hp16 : 2 ^ nw ≤ 16 := (Nat.pow_le_pow_right (by decide) hnw4 : _ ≤ 2 ^ 4)
    have hpos := Nat.two_pow_pos nw
    obtain ⟨P, hP⟩ : ∃ P, P = 2 ^ nw := ⟨_, rfl⟩
    rw [← hP] at hp16 hpos
    obtain ⟨ev, hev⟩ : ∃ x, x = everyD j := ⟨_, rfl⟩
    have hevP : ev + 1 = P := by rw [hev, hP]; unfold everyD; rw [← HN.out.2]; have := Nat.two_pow_pos nw; omega
    have HP := Lib.hid hP
    have HEV := Lib.hid hev
    clear hv hP hev
    have c0 : w1.cell? ⟨w.heap.size, 0, none⟩ = some (.slice ao nb cap) := by rw [cell_of_row _ _ _ _ _ _ HXw1.out]; rfl
    have c1 : w1.cell? ⟨w.heap.size, 1, none⟩ = some (.int .i64 fl) := by rw [cell_of_row _ _ _ _ _ _ HXw1.out]; rfl
    have c2 : w1.cell? ⟨w.heap.size, 2, none⟩ = some (.int .i64 fh) := by rw [cell_of_row _ _ _ _ _ _ HXw1.out]; rfl
    have c3 : w1.cell? ⟨w.heap.size, 3, none⟩ = some (.slice ao2 nw cap2) := by rw [cell_of_row _ _ _ _ _ _ HXw1.out]; rfl
    go_upto_region 4 with fail
    clear c0 c1 c2 c3
    have hS0 : SJ4 w.heap.size (.slice ao nb cap) (.slice ao2 nw cap2) fl fh w1 := ⟨by rw [cell_of_row _ _ _ _ _ _ HXw1.out]; rfl, by rw [cell_of_row _ _ _ _ _ _ HXw1.out]; rfl, by rw [cell_of_row _ _ _ _ _ _ HXw1.out]; rfl, by rw [cell_of_row _ _ _ _ _ _ HXw1.out]; rfl⟩
    have HS0 := Lib.hid hS0
    clear hS0
    refine wp_region_held_drew (S := SJ4 w.heap.size (.slice ao nb cap) (.slice ao2 nw cap2) fl fh) (by kernel_rfl) (HS0.out.below (Below.refl _ _).drew) fun hS => ?_
    obtain ⟨D, hD⟩ : ∃ D, D = World.drew w1 := ⟨_, rfl⟩
    have hb : Below w1.heap.size w1 D := by rw [hD]; exact (Below.refl _ _).drew
    rw [← hD] at hS ⊢
    have HXD := Lib.hid ((hb.block _ (lt_of_block HXw1.out)).trans HXw1.out)
    have HBD := Lib.hid (HBw1.out.trans (hb.mono HBw1.out.size))
    clear hD hb HS0
    refine wpAnyH_take (i := 0) (v := ?_) rfl (by kernel_rfl) (by kernel_rfl) (by kernel_rfl) (fun _ _ _ h => h) (Or.inl ⟨by rfl, ?_⟩) hS ?_
    rotate_left
    · (intro W hSw; obtain ⟨q0, q1, q2, q3⟩ := hSw; go_simp; try with_reducible rfl)
    try simp only [List.getElem_toArray, List.getElem_cons_succ, List.getElem_cons_zero, Act.put, List.setIfInBounds_toArray, List.set_cons_zero, List.set_cons_succ]
    refine wpAnyH_take (i := 1) (v := ?_) rfl (by kernel_rfl) (by kernel_rfl) (by kernel_rfl) (fun _ _ _ h => h) (Or.inl ⟨by rfl, ?_⟩) hS ?_
    rotate_left
    · (intro W hSw; obtain ⟨q0, q1, q2, q3⟩ := hSw; go_simp; try with_reducible rfl)
    try simp only [List.getElem_toArray, List.getElem_cons_succ, List.getElem_cons_zero, Act.put, List.setIfInBounds_toArray, List.set_cons_zero, List.set_cons_succ]
    have hc := r12every_any j (by rw [← HN.out.2]; omega) (.slice ao nb cap) (.slice ao2 nw cap2) D (HWS.out.later HBD.out.size (fun k h1 _ => HBD.out.block k h1)).low
    rw [HJV.out, ← HEV.out] at hc
    refine wpAnyH_call (k := 2) (by kernel_rfl) rfl rfl (f := 50) (args := #[.agg #[.slice ao nb cap, .int .i64 fl, .int .i64 fh, .slice ao2 nw cap2]]) (by simp [execOp, go_sem, Act.eval, Act.put]) ?_
    refine hc.mono ?_
    rintro e w2 ⟨rfl, hb⟩
    clear hc
    dsimp only
    have HXw2 := Lib.hid ((hb.block _ (lt_of_block HXD.out)).trans HXD.out)
    have HBw2 := Lib.hid (HBD.out.trans (hb.mono HBD.out.size))
    have hS9 := hS.below hb
    clear hb hS
    refine ⟨hS9, ?_⟩
    have hS := hS9
    clear hS9
    try simp only [List.getElem_toArray, List.getElem_cons_succ, List.getElem_cons_zero, Act.put, List.setIfInBounds_toArray, List.set_cons_zero, List.set_cons_succ]
    have hc := r12can_any j HV.out (H18.out HV.out) ev (by omega) (.slice ao nb cap) (.slice ao2 nw cap2) w2 (HBS.out.later HBw2.out.size (fun k h1 _ => HBw2.out.block k h1)).low (HWS.out.later HBw2.out.size (fun k h1 _ => HBw2.out.block k h1)).low
    rw [HJV.out] at hc
    refine wpAnyH_call (k := 3) (by kernel_rfl) rfl rfl (f := 46) (args := #[.agg #[.slice ao nb cap, .int .i64 fl, .int .i64 fh, .slice ao2 nw cap2], .int .i64 ev]) (by simp [execOp, go_sem, Act.eval, Act.put]) ?_
    refine hc.mono ?_
    rintro e w3 ⟨rfl, hb⟩
    clear hc
    dsimp only
    have HXw3 := Lib.hid ((hb.block _ (lt_of_block HXw2.out)).trans HXw2.out)
    have HBw3 := Lib.hid (HBw2.out.trans (hb.mono HBw2.out.size))
    have hS9 := hS.below hb
    clear hb hS
    refine ⟨hS9, ?_⟩
    have hS := hS9
    clear hS9
    try simp only [List.getElem_toArray, List.getElem_cons_succ, List.getElem_cons_zero, Act.put, List.setIfInBounds_toArray, List.set_cons_zero, List.set_cons_succ]
    refine wpAnyH_done (by kernel_rfl) ?_ _
    try simp only [List.getElem_toArray, List.getElem_cons_succ, List.getElem_cons_zero, Act.put, List.setIfInBounds_toArray, List.set_cons_zero, List.set_cons_succ]
    clear hS
    cases hce : canD j ev with
    | true =>
      have HD := Lib.hid (whyE_can HV.out (by rw [← HEV.out]; exact hce))
      clear hce
      go_wp2_with fail
      exact bodyPost_ret (v := .tuple #[.int .i64 0, .int .i64 4]) (by simp [results, Tryz.results18, go_sem]) rfl ⟨by rw [HD.out], HBw3.out⟩
    | false =>
      have HCE := Lib.hid (show canD j (everyD j) = false by rw [← HEV.out]; exact hce)
      clear hce
      have c0 : w3.cell? ⟨w.heap.size, 0, none⟩ = some (.slice ao nb cap) := by rw [cell_of_row _ _ _ _ _ _ HXw3.out]; rfl
      have c1 : w3.cell? ⟨w.heap.size, 1, none⟩ = some (.int .i64 fl) := by rw [cell_of_row _ _ _ _ _ _ HXw3.out]; rfl
      have c2 : w3.cell? ⟨w.heap.size, 2, none⟩ = some (.int .i64 fh) := by rw [cell_of_row _ _ _ _ _ _ HXw3.out]; rfl
      have c3 : w3.cell? ⟨w.heap.size, 3, none⟩ = some (.slice ao2 nw cap2) := by rw [cell_of_row _ _ _ _ _ _ HXw3.out]; rfl
      go_wp2_with fail
      have hc := r12every_any j (by rw [← HN.out.2]; omega) (.slice ao nb cap) (.slice ao2 nw cap2) w3 (HWS.out.later HBw3.out.size (fun k h1 _ => HBw3.out.block k h1)).low
      rw [HJV.out, ← HEV.out] at hc
      refine hc.mono ?_
      rintro e w4 ⟨rfl, hb⟩
      clear hc c0 c1 c2 c3
      dsimp only
      have HXw4 := Lib.hid ((hb.block _ (lt_of_block HXw3.out)).trans HXw3.out)
      have HBw4 := Lib.hid (HBw3.out.trans (hb.mono HBw3.out.size))
      clear hb
      go_wp2_with fail
      go_loopw [5, 6] (fun bv sv wr => ∃ k : Nat, k ≤ P ∧ sv = .int .i64 k ∧ bv = .int .i64 (whyE j k : Nat) ∧ wr.heap[w.heap.size]? = some (.cells #[.slice ao nb cap, .int .i64 fl, .int .i64 fh, .slice ao2 nw cap2] 28 (0, 0)) ∧ Below w.heap.size w wr) (fun _ sv _ => P - (intOf sv).toNat)
      case atStart => exact ⟨0, Nat.zero_le _, rfl, by rw [HEV.out]; rfl, HXw4.out, HBw4.out⟩
      case round =>
        obtain ⟨k, hk, rfl, rfl, hx, hb⟩ := hrel
        have HXwr := Lib.hid hx
        have HBwr := Lib.hid hb
        clear hx hb
        have hmk := (whyE_ok HCE.out k).2.1
        have hms := whyE_succ j k
        obtain ⟨b, hbe⟩ : ∃ b, b = whyE j k := ⟨_, rfl⟩
        rw [← hbe, ← HEV.out] at hmk
        rw [← hbe] at hms ⊢
        have HBE := Lib.hid hbe
        have HMS := Lib.hid hms
        have hb16 : b < 16 ∨ b = 16 := by omega
        have hb256 : b < 256 := by omega
        clear hms hbe
        have c0 : wr.cell? ⟨w.heap.size, 0, none⟩ = some (.slice ao nb cap) := by rw [cell_of_row _ _ _ _ _ _ HXwr.out]; rfl
        have c1 : wr.cell? ⟨w.heap.size, 1, none⟩ = some (.int .i64 fl) := by rw [cell_of_row _ _ _ _ _ _ HXwr.out]; rfl
        have c2 : wr.cell? ⟨w.heap.size, 2, none⟩ = some (.int .i64 fh) := by rw [cell_of_row _ _ _ _ _ _ HXwr.out]; rfl
        have c3 : wr.cell? ⟨w.heap.size, 3, none⟩ = some (.slice ao2 nw cap2) := by rw [cell_of_row _ _ _ _ _ _ HXwr.out]; rfl
        go_wp2_with fail
        have hc := r12every_any j (by rw [← HN.out.2]; omega) (.slice ao nb cap) (.slice ao2 nw cap2) wr (HWS.out.later HBwr.out.size (fun k h1 _ => HBwr.out.block k h1)).low
        rw [HJV.out, ← HEV.out] at hc
        refine hc.mono ?_
        rintro e x2 ⟨rfl, hb⟩
        clear hc c0 c1 c2 c3
        dsimp only
        have HXx2 := Lib.hid ((hb.block _ (lt_of_block HXwr.out)).trans HXwr.out)
        have HBx2 := Lib.hid (HBwr.out.trans (hb.mono HBwr.out.size))
        clear hb
        by_cases hlt : k < P
        · have hle : (k : Int) ≤ (ev : Int) := by omega
          have hle2 : k ≤ ev := by omega
          have hw : IntKind.i64.wrap ((k : Int) + 1) = ((k + 1 : Nat) : Int) := by rw [IntWalk.i64_in _ (by omega)]; omega
          have hb16 : b < 16 := by omega
          go_wp2_with fail
          refine (r12size_any k (by omega) x2).mono ?_
          rintro e w' ⟨rfl, rfl⟩
          dsimp only
          go_wp2_with fail
          refine (r12size_any b hb256 x2).mono ?_
          rintro e w' ⟨rfl, rfl⟩
          dsimp only
          rw [size_four k (by omega), size_four b hb16]
          obtain ⟨zk, hzk⟩ : ∃ z, z = sizeJ 4 k := ⟨_, rfl⟩
          obtain ⟨zb, hzb⟩ : ∃ z, z = sizeJ 4 b := ⟨_, rfl⟩
          rw [← hzk, ← hzb]
          have hms := HMS.out
          unfold stepW at hms
          rw [← hzk, ← hzb] at hms
          clear hzk hzb
          by_cases hz : zk < zb
          · have hzi : (zk : Int) < (zb : Int) := by omega
            have HMS2 := Lib.hid hms
            have HZ := Lib.hid hz
            clear hms
            have c0 : x2.cell? ⟨w.heap.size, 0, none⟩ = some (.slice ao nb cap) := by rw [cell_of_row _ _ _ _ _ _ HXx2.out]; rfl
            have c1 : x2.cell? ⟨w.heap.size, 1, none⟩ = some (.int .i64 fl) := by rw [cell_of_row _ _ _ _ _ _ HXx2.out]; rfl
            have c2 : x2.cell? ⟨w.heap.size, 2, none⟩ = some (.int .i64 fh) := by rw [cell_of_row _ _ _ _ _ _ HXx2.out]; rfl
            have c3 : x2.cell? ⟨w.heap.size, 3, none⟩ = some (.slice ao2 nw cap2) := by rw [cell_of_row _ _ _ _ _ _ HXx2.out]; rfl
            go_wp2_with fail
            have hc := r12can_any j HV.out (H18.out HV.out) k (by omega) (.slice ao nb cap) (.slice ao2 nw cap2) x2 (HBS.out.later HBx2.out.size (fun k h1 _ => HBx2.out.block k h1)).low (HWS.out.later HBx2.out.size (fun k h1 _ => HBx2.out.block k h1)).low
            rw [HJV.out] at hc
            refine hc.mono ?_
            rintro e x3 ⟨rfl, hb⟩
            clear hc c0 c1 c2 c3
            dsimp only
            have HXx3 := Lib.hid ((hb.block _ (lt_of_block HXx2.out)).trans HXx2.out)
            have HBx3 := Lib.hid (HBx2.out.trans (hb.mono HBx2.out.size))
            clear hb
            cases hcb : canD j k with
            | false =>
              have HM3 := Lib.hid (show whyE j (k + 1) = k by rw [HMS2.out, if_pos ⟨HZ.out, hcb⟩])
              clear hcb
              go_wp2_with fail
              exact ⟨⟨k + 1, hlt, by push_cast; rfl, by rw [HM3.out], HXx3.out, HBx3.out⟩, by simp [intOf]; omega⟩
            | true =>
              have HM3 := Lib.hid (show whyE j (k + 1) = b by rw [HMS2.out, if_neg (fun h => by rw [hcb] at h; cases h.2)])
              clear hcb
              go_wp2_with fail
              exact ⟨⟨k + 1, hlt, by push_cast; rfl, by rw [HM3.out], HXx3.out, HBx3.out⟩, by simp [intOf]; omega⟩
          · have hzi : ¬ (zk : Int) < (zb : Int) := by omega
            rw [if_neg (fun h => hz h.1)] at hms
            have HM3 := Lib.hid hms
            clear hms
            go_wp2_with fail
            exact ⟨⟨k + 1, hlt, by push_cast; rfl, by rw [HM3.out], HXx2.out, HBx2.out⟩, by simp [intOf]; omega⟩
        · have hkP : k = P := by omega
          have hle : ¬ (k : Int) ≤ (ev : Int) := by omega
          have hle2 : ¬ k ≤ ev := by omega
          have hme := whyE_end HV.out HCE.out
          rw [← HN.out.2, ← HP.out, ← hkP, ← HBE.out] at hme
          have HME := Lib.hid hme
          clear hlt hme
          go_wp2_with fail
          exact bodyPost_ret (v := .tuple #[.int .i64 b, .int .i64 0]) (by simp [results, Tryz.results18, go_sem]) rfl ⟨by rw [HME.out], HBx2.out⟩
end Go.Proofs.YtbmfphiecllggaaGreatDoor

/- JobLooks, walked. -/
namespace Go.Proofs.YtbmfphiecllggaaGreatDoor
set_option linter.unusedVariables false
set_option linter.unusedSimpArgs false
open Go.RowKit Go.Shelf
attribute [local go_sem] Oper.semAt_some

set_option maxRecDepth 100000 in
set_option maxHeartbeats 8000000 in
theorem llooks_any (j : JobD) (bs ws : Value) (w : World) (hbs : SpansAt w bs j.st.bs (fun k => k < w.heap.size)) (hws : SpansAt w ws j.ws (fun k => k < w.heap.size)) (htz : TabZ w) :
    Calls Tryz.prog 4 #[jobV j bs ws] w fun e w' => e = .returned (.bool true) ∧ Below w.heap.size w w' := by
  have HBS := Lib.hid hbs
  have HWS := Lib.hid hws
  have HTZ := Lib.hid htz
  have h1z := htz.lt
  obtain ⟨ao, cap, hv1, _⟩ := id hbs
  obtain ⟨ao2, cap2, hv2, _⟩ := id hws
  subst hv1 hv2
  obtain ⟨nb, hnb⟩ : ∃ n, n = j.st.bs.length := ⟨_, rfl⟩
  obtain ⟨nw, hnw⟩ : ∃ n, n = j.ws.length := ⟨_, rfl⟩
  rw [← hnb] at HBS
  rw [← hnw] at HWS
  unfold jobV
  rw [← hnb, ← hnw]
  have HNB := Lib.hid hnb
  have HNW := Lib.hid hnw
  clear hbs hws htz hnb hnw
  obtain ⟨fl, hfl⟩ : ∃ x, x = j.st.film.1 := ⟨_, rfl⟩
  obtain ⟨fh, hfh⟩ : ∃ x, x = j.st.film.2 := ⟨_, rfl⟩
  rw [← hfl, ← hfh]
  have HFL := Lib.hid (And.intro hfl hfh)
  clear hfl hfh
  have HJV := Lib.hid (show jobV j (.slice ao nb cap) (.slice ao2 nw cap2) = .agg #[.slice ao nb cap, .int .i64 fl, .int .i64 fh, .slice ao2 nw cap2] by unfold jobV; rw [← HFL.out.1, ← HFL.out.2])
  have HBw0 := Lib.hid (Below.alloc' w (.cells #[.slice ao nb cap, .int .i64 fl, .int .i64 fh, .slice ao2 nw cap2] 28))
  have HXw0 := Lib.hid (show (w.alloc (.cells #[.slice ao nb cap, .int .i64 fl, .int .i64 fh, .slice ao2 nw cap2] 28)).heap[w.heap.size]? = some (.cells #[.slice ao nb cap, .int .i64 fl, .int .i64 fh, .slice ao2 nw cap2] 28 (0, 0)) from heap_alloc_at _ _ _ rfl)
  go_enter Tryz.func4, Tryz.ntmps4
  go_wp2_with fail
  have hc := heavyj_any j (.slice ao nb cap) (.slice ao2 nw cap2) none 0 0 (w.alloc (.cells #[.slice ao nb cap, .int .i64 fl, .int .i64 fh, .slice ao2 nw cap2] 28)) (HBS.out.later HBw0.out.size (fun k h1 _ => HBw0.out.block k h1)).low (HWS.out.later HBw0.out.size (fun k h1 _ => HBw0.out.block k h1)).low
  rw [HJV.out] at hc
  refine hc.mono ?_
  rintro e w1 ⟨rfl, hb⟩
  clear hc
  dsimp only
  have HXw1 := Lib.hid ((hb.block _ (lt_of_block HXw0.out)).trans HXw0.out)
  have HBw1 := Lib.hid (HBw0.out.trans (hb.mono HBw0.out.size))
  clear hb
  cases hhd : heavyD j 0 with
  | true =>
    clear hhd
    go_wp2_with fail
    refine (lawake_any _ (HTZ.out.below HBw1.out h1z)).mono ?_
    rintro e w9 ⟨rfl, hb9⟩
    dsimp only
    have HB9 := Lib.hid (HBw1.out.trans (hb9.mono HBw1.out.size))
    clear hb9
    go_wp2_with fail
    go_ret
    exact ⟨rfl, HB9.out⟩
  | false =>
    have HHD := Lib.hid (heavyD_no hhd)
    clear hhd
    have c0 : w1.cell? ⟨w.heap.size, 0, none⟩ = some (.slice ao nb cap) := by rw [cell_of_row _ _ _ _ _ _ HXw1.out]; rfl
    have c1 : w1.cell? ⟨w.heap.size, 1, none⟩ = some (.int .i64 fl) := by rw [cell_of_row _ _ _ _ _ _ HXw1.out]; rfl
    have c2 : w1.cell? ⟨w.heap.size, 2, none⟩ = some (.int .i64 fh) := by rw [cell_of_row _ _ _ _ _ _ HXw1.out]; rfl
    have c3 : w1.cell? ⟨w.heap.size, 3, none⟩ = some (.slice ao2 nw cap2) := by rw [cell_of_row _ _ _ _ _ _ HXw1.out]; rfl
    go_wp2_with fail
    obtain ⟨⟨a1, a2⟩, hal⟩ : ∃ y, y = aloneD j := ⟨_, rfl⟩
    obtain ⟨⟨⟨m1, m2⟩, m3⟩, hmo⟩ : ∃ y, y = mostD j := ⟨_, rfl⟩
    obtain ⟨⟨y1, y2⟩, hwy⟩ : ∃ y, y = whyD j := ⟨_, rfl⟩
    have HAL := Lib.hid hal
    have HMO := Lib.hid hmo
    have HWY := Lib.hid hwy
    clear hal hmo hwy
    have hc := Alone_any j (.slice ao nb cap) (.slice ao2 nw cap2) w1 (HBS.out.later HBw1.out.size (fun k h1 _ => HBw1.out.block k h1)).low (HWS.out.later HBw1.out.size (fun k h1 _ => HBw1.out.block k h1)).low
    rw [HJV.out, ← HAL.out] at hc
    refine hc.mono ?_
    rintro e w2 ⟨rfl, hb⟩
    clear hc c0 c1 c2 c3
    dsimp only
    have HXw2 := Lib.hid ((hb.block _ (lt_of_block HXw1.out)).trans HXw1.out)
    have HBw2 := Lib.hid (HBw1.out.trans (hb.mono HBw1.out.size))
    clear hb
    have c0 : w2.cell? ⟨w.heap.size, 0, none⟩ = some (.slice ao nb cap) := by rw [cell_of_row _ _ _ _ _ _ HXw2.out]; rfl
    have c1 : w2.cell? ⟨w.heap.size, 1, none⟩ = some (.int .i64 fl) := by rw [cell_of_row _ _ _ _ _ _ HXw2.out]; rfl
    have c2 : w2.cell? ⟨w.heap.size, 2, none⟩ = some (.int .i64 fh) := by rw [cell_of_row _ _ _ _ _ _ HXw2.out]; rfl
    have c3 : w2.cell? ⟨w.heap.size, 3, none⟩ = some (.slice ao2 nw cap2) := by rw [cell_of_row _ _ _ _ _ _ HXw2.out]; rfl
    go_wp2_with fail
    have hc := r12Alone_any j HHD.out.2.2.2 (.slice ao nb cap) (.slice ao2 nw cap2) w2 (HBS.out.later HBw2.out.size (fun k h1 _ => HBw2.out.block k h1)).low (HWS.out.later HBw2.out.size (fun k h1 _ => HBw2.out.block k h1)).low
    rw [HJV.out, ← HAL.out] at hc
    refine hc.mono ?_
    rintro e w3 ⟨rfl, hb⟩
    clear hc c0 c1 c2 c3
    dsimp only
    have HXw3 := Lib.hid ((hb.block _ (lt_of_block HXw2.out)).trans HXw2.out)
    have HBw3 := Lib.hid (HBw2.out.trans (hb.mono HBw2.out.size))
    clear hb
    have c0 : w3.cell? ⟨w.heap.size, 0, none⟩ = some (.slice ao nb cap) := by rw [cell_of_row _ _ _ _ _ _ HXw3.out]; rfl
    have c1 : w3.cell? ⟨w.heap.size, 1, none⟩ = some (.int .i64 fl) := by rw [cell_of_row _ _ _ _ _ _ HXw3.out]; rfl
    have c2 : w3.cell? ⟨w.heap.size, 2, none⟩ = some (.int .i64 fh) := by rw [cell_of_row _ _ _ _ _ _ HXw3.out]; rfl
    have c3 : w3.cell? ⟨w.heap.size, 3, none⟩ = some (.slice ao2 nw cap2) := by rw [cell_of_row _ _ _ _ _ _ HXw3.out]; rfl
    go_wp2_with fail
    have hc := Most_any j (.slice ao nb cap) (.slice ao2 nw cap2) w3 (HBS.out.later HBw3.out.size (fun k h1 _ => HBw3.out.block k h1)).low (HWS.out.later HBw3.out.size (fun k h1 _ => HBw3.out.block k h1)).low (HTZ.out.below HBw3.out h1z)
    rw [HJV.out, ← HMO.out] at hc
    refine hc.mono ?_
    rintro e w4 ⟨rfl, hb⟩
    clear hc c0 c1 c2 c3
    dsimp only
    have HXw4 := Lib.hid ((hb.block _ (lt_of_block HXw3.out)).trans HXw3.out)
    have HBw4 := Lib.hid (HBw3.out.trans (hb.mono HBw3.out.size))
    clear hb
    have c0 : w4.cell? ⟨w.heap.size, 0, none⟩ = some (.slice ao nb cap) := by rw [cell_of_row _ _ _ _ _ _ HXw4.out]; rfl
    have c1 : w4.cell? ⟨w.heap.size, 1, none⟩ = some (.int .i64 fl) := by rw [cell_of_row _ _ _ _ _ _ HXw4.out]; rfl
    have c2 : w4.cell? ⟨w.heap.size, 2, none⟩ = some (.int .i64 fh) := by rw [cell_of_row _ _ _ _ _ _ HXw4.out]; rfl
    have c3 : w4.cell? ⟨w.heap.size, 3, none⟩ = some (.slice ao2 nw cap2) := by rw [cell_of_row _ _ _ _ _ _ HXw4.out]; rfl
    go_wp2_with fail
    have hc := r12Most_any j HHD.out.2.2.2 (.slice ao nb cap) (.slice ao2 nw cap2) w4 (HBS.out.later HBw4.out.size (fun k h1 _ => HBw4.out.block k h1)).low (HWS.out.later HBw4.out.size (fun k h1 _ => HBw4.out.block k h1)).low
    rw [HJV.out, ← HMO.out] at hc
    refine hc.mono ?_
    rintro e w5 ⟨rfl, hb⟩
    clear hc c0 c1 c2 c3
    dsimp only
    have HXw5 := Lib.hid ((hb.block _ (lt_of_block HXw4.out)).trans HXw4.out)
    have HBw5 := Lib.hid (HBw4.out.trans (hb.mono HBw4.out.size))
    clear hb
    have c0 : w5.cell? ⟨w.heap.size, 0, none⟩ = some (.slice ao nb cap) := by rw [cell_of_row _ _ _ _ _ _ HXw5.out]; rfl
    have c1 : w5.cell? ⟨w.heap.size, 1, none⟩ = some (.int .i64 fl) := by rw [cell_of_row _ _ _ _ _ _ HXw5.out]; rfl
    have c2 : w5.cell? ⟨w.heap.size, 2, none⟩ = some (.int .i64 fh) := by rw [cell_of_row _ _ _ _ _ _ HXw5.out]; rfl
    have c3 : w5.cell? ⟨w.heap.size, 3, none⟩ = some (.slice ao2 nw cap2) := by rw [cell_of_row _ _ _ _ _ _ HXw5.out]; rfl
    go_wp2_with fail
    have hc := Why_any j (.slice ao nb cap) (.slice ao2 nw cap2) w5 (HBS.out.later HBw5.out.size (fun k h1 _ => HBw5.out.block k h1)).low (HWS.out.later HBw5.out.size (fun k h1 _ => HBw5.out.block k h1)).low (HTZ.out.below HBw5.out h1z)
    rw [HJV.out, ← HWY.out] at hc
    refine hc.mono ?_
    rintro e w6 ⟨rfl, hb⟩
    clear hc c0 c1 c2 c3
    dsimp only
    have HXw6 := Lib.hid ((hb.block _ (lt_of_block HXw5.out)).trans HXw5.out)
    have HBw6 := Lib.hid (HBw5.out.trans (hb.mono HBw5.out.size))
    clear hb
    have c0 : w6.cell? ⟨w.heap.size, 0, none⟩ = some (.slice ao nb cap) := by rw [cell_of_row _ _ _ _ _ _ HXw6.out]; rfl
    have c1 : w6.cell? ⟨w.heap.size, 1, none⟩ = some (.int .i64 fl) := by rw [cell_of_row _ _ _ _ _ _ HXw6.out]; rfl
    have c2 : w6.cell? ⟨w.heap.size, 2, none⟩ = some (.int .i64 fh) := by rw [cell_of_row _ _ _ _ _ _ HXw6.out]; rfl
    have c3 : w6.cell? ⟨w.heap.size, 3, none⟩ = some (.slice ao2 nw cap2) := by rw [cell_of_row _ _ _ _ _ _ HXw6.out]; rfl
    go_wp2_with fail
    have hc := r12Why_any j HHD.out.2.2.2 (.slice ao nb cap) (.slice ao2 nw cap2) w6 (HBS.out.later HBw6.out.size (fun k h1 _ => HBw6.out.block k h1)).low (HWS.out.later HBw6.out.size (fun k h1 _ => HBw6.out.block k h1)).low
    rw [HJV.out, ← HWY.out] at hc
    refine hc.mono ?_
    rintro e w7 ⟨rfl, hb⟩
    clear hc c0 c1 c2 c3
    dsimp only
    have HXw7 := Lib.hid ((hb.block _ (lt_of_block HXw6.out)).trans HXw6.out)
    have HBw7 := Lib.hid (HBw6.out.trans (hb.mono HBw6.out.size))
    clear hb
    go_wp2_with fail
    refine (lawake_any _ (HTZ.out.below HBw7.out h1z)).mono ?_
    rintro e w9 ⟨rfl, hb9⟩
    dsimp only
    have HB9 := Lib.hid (HBw7.out.trans (hb9.mono HBw7.out.size))
    clear hb9
    go_wp2_with fail
    go_ret
    exact ⟨rfl, HB9.out⟩
end Go.Proofs.YtbmfphiecllggaaGreatDoor

/- JobLooks: the law returns true, and its arguments read as they did. -/
namespace Go.Proofs.YtbmfphiecllggaaGreatDoor
set_option linter.unusedVariables false
set_option linter.unusedSimpArgs false
open Go.ChangeShapes Go.WideShapes Go.ChangeAt Go.RowKit Go.Deep
set_option maxRecDepth 100000 in
theorem jobLooks_lifted (os : Os) (started : os.Started) (H : Type) (enc : TypeId × Value → H) :
    ReturnsInHanded {} Tryz.checked os 4 .any (fun w args => (Rows.jobLooksSpec.pre enc Tryz.prog Tryz.f4 [] false w args ∧ laidMetH Tryz.prog laidB w) ∧ sizedMet enc Tryz.prog Tryz.f4 (OpenSpec.ofChange Rows.jobLooksSpec) false w args)
      (Rows.jobLooksSpec.post enc Tryz.prog Tryz.f4 false true false false) := by
  refine returnsInHanded_of_change_and (C := Tryz.checked) (X := fun w _ => laidMetH Tryz.prog laidB w) (fun _ _ _ hh h => h.of_heap hh) own_knob started (by kernel_rfl) Tryz.func4
    (ChangeSpec.witness_shaped (enc := enc) (C := Tryz.checked) (os := os) (X := fun w _ => laidMetH Tryz.prog laidB w) false (World.doorLaid Tryz.prog 400 os) #[.agg #[.slice none 0 0, .int .i64 0, .int .i64 0, .slice none 0 0]] 8 rfl (World.shaped_of_RefB (by kernel_rfl) (by kernel_rfl)) (by kernel_rfl) (by kernel_rfl) (by kernel_rfl) (door_met os _)) ?_
  intro W base args ds gs before hval0 hW _ _ hL _
  have hval : ∀ (j : Nat) t v, Tryz.f4.params[j]? = some t → args[j]? = some v → Value.okWide Tryz.prog W .any base t v := hval0
  have hW' := hW
  obtain ⟨p, q, hA0, hV, rfl, hfz, hnd⟩ := hW
  have hA : DataW.TrodAll enc Tryz.prog W 0 (fun _ => true) true Tryz.f4.params.toList args.toList ds p := hA0
  rw [Tryz.params4] at hA hval
  obtain ⟨rfl, rfl⟩ := trodVars_none hV
  clear hA0 hval0
  simp only [List.append_nil] at hW'
  have hst := hA
  have htz := of_laid hL
  obtain ⟨v0, d0, rfl, rfl, h0⟩ := trodAll_one hA
  obtain ⟨j, bs, ws, rfl, hbs, hws⟩ := open_jobV (hval 0 _ _ rfl rfl) h0
  refine (llooks_any j bs ws W hbs hws htz).mono fun e W' ⟨he, hb⟩ => ?_
  subst he
  exact ⟨_, rfl, lawEnd hW' rfl hst rfl (by decide +kernel) rfl rfl hb⟩
theorem jobLooks_over : Rows.jobLooksRow.holds Tryz.pinned (OpenSpec.ofChange Rows.jobLooksSpec) :=
  OpenClaim.holds_of_wide 4 Tryz.f4 rfl rfl rfl rfl rfl rfl rfl ⟨rfl, rfl, rfl, rfl, rfl⟩ rfl rfl rfl rfl rfl (by kernel_rfl) Tryz.func4 (by kernel_rfl)
    (of_decide_eq_true (by kernel_rfl)) (by unfold Func.isWrapper; first | (rw [if_pos (by decide +kernel)]; kernel_rfl) | (rw [if_neg (by decide +kernel)]; exact ⟨rfl, rfl⟩))
    (fun os started H enc _ => jobLooks_lifted os started H enc)
theorem job_looks : Rows.JobLooksCardSaid :=
  Claim7.holds_tied_plain_at .later [] [.data, .data] true (true, "b10382ac8671ca2007e8d9f3e1d106936a675b56188049218c01893cb5a1cd3f") true
    jobLooks_over (fun _ h => by cases h) (by kernel_rfl) (fun _ h => by cases h) jobLooks_row_tie rfl ⟨rfl, rfl⟩ (by kernel_rfl) rfl
    (fun f fn hf hfn => by
      obtain rfl : f = 4 := Option.some.inj ((show Tryz.prog.funcNamed "blockworks/blockworkslaw12.JobLooks" = some 4 by kernel_rfl).symm.trans hf) |>.symm
      obtain rfl : fn = Tryz.f4 := (Option.some.inj (Tryz.func4.symm.trans hfn)).symm
      exact ⟨by kernel_rfl, fun j t ht => by
        rw [Tryz.params4] at ht
        have hm : t ∈ [28] := by simpa using Array.mem_of_getElem? ht
        have hall : ([28].all fun u => !Tryz.prog.wantsStandIn u) = true := by kernel_rfl
        exact (show Tryz.prog.wantsStandIn t = false by simpa using List.all_eq_true.1 hall t hm)⟩)
    (by kernel_rfl)
#print axioms job_looks
end Go.Proofs.YtbmfphiecllggaaGreatDoor
