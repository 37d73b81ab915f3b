/- Texts Ep, Hs, Eu, Ev, Ew in one file; each begins with a word on what it proves. -/
import Derived.Test.YtbmfphiecllggaaGreatDoorKn
import Derived.Test.YtbmfphiecllggaaGreatDoorKl

/- The reference of jobs, walked: Alone, Most. -/
namespace Go.Proofs.YtbmfphiecllggaaGreatDoor
set_option linter.unusedVariables false
set_option linter.unusedSimpArgs false
open Go.RowKit Go.Shelf
attribute [local go_sem] Oper.semAt_some

/-! ### plain -/
theorem alone_can (j : JobD) (i : Nat) (h : i < j.ws.length) : canD j (2 ^ i) = !(rightsS j.st (j.ws.getD i (0, 0))).isEmpty := by
  rw [getD_lt j.ws (0, 0) i h]
  cases hr : rightsS j.st j.ws[i] with
  | cons s l => rw [can_one j i h (by rw [hr]; simp)]; rfl
  | nil =>
    cases hc : canD j (2 ^ i) with
    | false => rfl
    | true =>
      exfalso
      unfold canD scoreD at hc
      have hl : i < (rightsD j).length := by simpa [rightsD] using h
      rw [sel_oneJ _ i hl, show (rightsD j)[i] = rightsS j.st j.ws[i] by simp [rightsD], hr] at hc
      obtain ⟨x, hx⟩ := Option.isSome_iff_exists.1 hc
      obtain ⟨s, t, _, hm, _⟩ := ((score_specJ 8 [[]] (allD j)).2 x hx).1
      cases hm
def stepE (j : JobD) (b s : Nat) : Nat := if sizeJ 4 b < sizeJ 4 s ∧ canD j s = true then s else b
def mostE (j : JobD) (k : Nat) : Nat := (List.range k).foldl (stepE j) 0
theorem mostE_succ (j : JobD) (k : Nat) : mostE j (k + 1) = stepE j (mostE j k) k := by unfold mostE; rw [List.range_succ, List.foldl_append]; rfl
theorem mostE_ok (j : JobD) : ∀ k, canD j (mostE j k) = true ∧ (mostE j k = 0 ∨ mostE j k < k) ∧ ∀ s, s < k → canD j s = true → sizeJ 4 s ≤ sizeJ 4 (mostE j k) ∧ (sizeJ 4 s = sizeJ 4 (mostE j k) → mostE j k ≤ s)
  | 0 => ⟨can_zero j, .inl rfl, fun s h => absurd h (by omega)⟩
  | k + 1 => by
    obtain ⟨h1, h2, h3⟩ := mostE_ok j k
    rw [mostE_succ]
    unfold stepE
    by_cases hc : sizeJ 4 (mostE j k) < sizeJ 4 k ∧ canD j k = true
    · rw [if_pos hc]
      refine ⟨hc.2, .inr (by omega), fun s hs hcs => ?_⟩
      by_cases hsk : s = k
      · subst hsk; exact ⟨Nat.le_refl _, fun _ => Nat.le_refl _⟩
      · have := (h3 s (by omega) hcs).1
        exact ⟨by omega, fun h => by omega⟩
    · rw [if_neg hc]
      refine ⟨h1, by omega, fun s hs hcs => ?_⟩
      by_cases hsk : s = k
      · subst hsk
        have h4 : sizeJ 4 s ≤ sizeJ 4 (mostE j s) := Nat.le_of_not_lt fun h => hc ⟨h, hcs⟩
        exact ⟨h4, fun _ => by omega⟩
      · exact h3 s (by omega) hcs
theorem mostE_end {j : JobD} (hv : validJb j = true) : mostD j = ((((sizeJ 4 (mostE j (2 ^ j.ws.length)) : Nat) : Int), ((mostE j (2 ^ j.ws.length) : Nat) : Int)), 0) := by
  obtain ⟨b, h1, h2, h3, h4⟩ := most_facts hv
  obtain ⟨k1, k2, k3⟩ := mostE_ok j (2 ^ j.ws.length)
  have hpos := Nat.two_pow_pos j.ws.length
  have hlt : mostE j (2 ^ j.ws.length) < 2 ^ j.ws.length := by omega
  obtain ⟨e1, e2⟩ := h4 _ hlt k1
  obtain ⟨f1, f2⟩ := k3 b h2 h3
  have he : sizeJ 4 b = sizeJ 4 (mostE j (2 ^ j.ws.length)) := by omega
  have hb : b = mostE j (2 ^ j.ws.length) := Nat.le_antisymm (e2 he.symm) (f2 he)
  rw [h1, hb]
theorem aloneD_bad {j : JobD} (hv : validJb j = false) : aloneD j = (0, 1) := by unfold aloneD; rw [errD_bad hv]; rfl
theorem mostD_bad {j : JobD} (hv : validJb j = false) : mostD j = ((0, 0), 1) := by unfold mostD; rw [errD_bad hv]; rfl
theorem aloneE_ok {j : JobD} (hv : validJb j = true) : aloneD j = (((aloneN j : Nat) : Int), 0) := by unfold aloneD; rw [errD_ok hv]; rfl

/-! ### walked -/
set_option maxRecDepth 100000 in
set_option maxHeartbeats 4000000 in
theorem r12Alone_any (j : JobD) (h18 : validJb j = true → j.ws.length * j.st.bs.length ≤ 18) (bs ws : Value) (w : World) (hbs : SpansAt w bs j.st.bs (fun k => k < w.heap.size)) (hws : SpansAt w ws j.ws (fun k => k < w.heap.size)) :
    Calls Tryz.prog 14 #[jobV j bs ws] w fun e w' => e = .returned (.tuple #[.int .i64 (aloneD j).1, .int .i64 (aloneD j).2]) ∧ Below w.heap.size w w' := by
  have H18 := Lib.hid h18
  clear h18
  have HBS := Lib.hid hbs
  have HWS := Lib.hid hws
  obtain ⟨ao, cap, hv1, _⟩ := id hbs
  obtain ⟨ao2, cap2, hv2, _⟩ := id hws
  subst hv1 hv2
  obtain ⟨nb, hnb⟩ : ∃ n, n = j.st.bs.length := ⟨_, rfl⟩
  obtain ⟨nw, hnw⟩ : ∃ n, n = j.ws.length := ⟨_, rfl⟩
  obtain ⟨fl, hfl⟩ : ∃ x, x = j.st.film.1 := ⟨_, rfl⟩
  obtain ⟨fh, hfh⟩ : ∃ x, x = j.st.film.2 := ⟨_, rfl⟩
  have HJV := Lib.hid (show jobV j (.slice ao nb cap) (.slice ao2 nw cap2) = .agg #[.slice ao nb cap, .int .i64 fl, .int .i64 fh, .slice ao2 nw cap2] by unfold jobV; rw [← hfl, ← hfh])
  unfold jobV
  rw [← hnb, ← hnw, ← hfl, ← hfh]
  rw [← hnb] at HBS
  rw [← hnw] at HWS
  have HN := Lib.hid (And.intro hnb hnw)
  have HXw0 := Lib.hid (show (w.alloc (.cells #[.slice ao nb cap, .int .i64 fl, .int .i64 fh, .slice ao2 nw cap2] 28)).heap[w.heap.size]? = some (.cells #[.slice ao nb cap, .int .i64 fl, .int .i64 fh, .slice ao2 nw cap2] 28 (0, 0)) from heap_alloc_at _ _ _ rfl)
  have HBw0 := Lib.hid (Below.alloc' w (.cells #[.slice ao nb cap, .int .i64 fl, .int .i64 fh, .slice ao2 nw cap2] 28))
  clear hbs hws hnb hnw hfl hfh
  go_enter Tryz.func14, Tryz.ntmps14
  go_wp2_with fail
  have hc := r12check_any j true (.slice ao nb cap) (.slice ao2 nw cap2) _ (HBS.out.later HBw0.out.size (fun k h1 _ => HBw0.out.block k h1)).low (HWS.out.later HBw0.out.size (fun k h1 _ => HBw0.out.block k h1)).low
  rw [HJV.out] at hc
  refine hc.mono ?_
  rintro e w1 ⟨rfl, hb⟩
  clear hc
  dsimp only
  have HXw1 := Lib.hid ((hb.block _ (lt_of_block HXw0.out)).trans HXw0.out)
  have HBw1 := Lib.hid (HBw0.out.trans (hb.mono HBw0.out.size))
  clear hb
  cases hv : validJb j with
  | false =>
    have HD := Lib.hid (aloneD_bad hv)
    rw [errD_bad hv]
    clear hv
    go_wp2_with fail
    exact bodyPost_ret (v := .tuple #[.int .i64 0, .int .i64 1]) (by simp [results, Tryz.results14, go_sem]) rfl ⟨by rw [HD.out], HBw1.out⟩
  | true =>
    rw [errD_ok hv]
    have HV := Lib.hid hv
    have hnw4 : nw ≤ 4 := by rw [HN.out.2]; exact (validJb_parts hv).2.1
    clear hv
    go_wp2_with fail
    go_loopw [5, 6] (fun uv iv wr => ∃ i : Nat, i ≤ nw ∧ iv = .int .i64 i ∧ uv = .int .i64 (setJ (fun i => !((rightsS j.st (j.ws.getD i (0, 0))).isEmpty)) i : Nat) ∧ wr.heap[w.heap.size]? = some (.cells #[.slice ao nb cap, .int .i64 fl, .int .i64 fh, .slice ao2 nw cap2] 28 (0, 0)) ∧ Below w.heap.size w wr) (fun _ iv _ => nw - (intOf iv).toNat)
    case atStart => exact ⟨0, Nat.zero_le _, rfl, rfl, HXw1.out, HBw1.out⟩
    case round =>
      obtain ⟨i, hi, rfl, rfl, hx, hb⟩ := hrel
      have HXwr := Lib.hid hx
      have HBwr := Lib.hid hb
      clear hx hb
      have hsl := setJ_lt (fun i => !((rightsS j.st (j.ws.getD i (0, 0))).isEmpty)) i
      have hsn : setJ (fun i => !((rightsS j.st (j.ws.getD i (0, 0))).isEmpty)) (i + 1) = setJ (fun i => !((rightsS j.st (j.ws.getD i (0, 0))).isEmpty)) i + if (!((rightsS j.st (j.ws.getD i (0, 0))).isEmpty)) = true then 2 ^ i else 0 := rfl
      have hi16 : 2 ^ i ≤ 16 := (Nat.pow_le_pow_right (by decide) (by omega) : _ ≤ 2 ^ 4)
      obtain ⟨u, hu⟩ : ∃ u, u = setJ (fun i => !((rightsS j.st (j.ws.getD i (0, 0))).isEmpty)) i := ⟨_, rfl⟩
      rw [← hu] at hsl hsn ⊢
      by_cases hlt : i < nw
      · have hw : IntKind.i64.wrap ((i : Int) + 1) = ((i + 1 : Nat) : Int) := by rw [IntWalk.i64_in _ (by omega)]; omega
        have hlti : (i : Int) < (nw : Int) := by omega
        have hac := alone_can j i (by rw [← HN.out.2]; exact hlt)
        rw [← hac] at hsn
        have c0 : wr.cell? ⟨w.heap.size, 0, none⟩ = some (.slice ao nb cap) := by rw [cell_of_row _ _ _ _ _ _ HXwr.out]; rfl
        have c1 : wr.cell? ⟨w.heap.size, 1, none⟩ = some (.int .i64 fl) := by rw [cell_of_row _ _ _ _ _ _ HXwr.out]; rfl
        have c2 : wr.cell? ⟨w.heap.size, 2, none⟩ = some (.int .i64 fh) := by rw [cell_of_row _ _ _ _ _ _ HXwr.out]; rfl
        have c3 : wr.cell? ⟨w.heap.size, 3, none⟩ = some (.slice ao2 nw cap2) := by rw [cell_of_row _ _ _ _ _ _ HXwr.out]; rfl
        clear hac hu
        go_upto_region 8 with fail
        clear c0 c1 c2 c3
        have hS0 : SJ4 w.heap.size (.slice ao nb cap) (.slice ao2 nw cap2) fl fh wr := ⟨by rw [cell_of_row _ _ _ _ _ _ HXwr.out]; rfl, by rw [cell_of_row _ _ _ _ _ _ HXwr.out]; rfl, by rw [cell_of_row _ _ _ _ _ _ HXwr.out]; rfl, by rw [cell_of_row _ _ _ _ _ _ HXwr.out]; rfl⟩
        have HS0 := Lib.hid hS0
        clear hS0
        refine wp_region_held_drew (S := SJ4 w.heap.size (.slice ao nb cap) (.slice ao2 nw cap2) fl fh) (by kernel_rfl) (HS0.out.below (Below.refl _ _).drew) fun hS => ?_
        obtain ⟨D, hD⟩ : ∃ D, D = World.drew wr := ⟨_, rfl⟩
        have hb : Below wr.heap.size wr D := by rw [hD]; exact (Below.refl _ _).drew
        rw [← hD] at hS ⊢
        have HXD := Lib.hid ((hb.block _ (lt_of_block HXwr.out)).trans HXwr.out)
        have HBD := Lib.hid (HBwr.out.trans (hb.mono HBwr.out.size))
        clear hD hb HS0
        refine wpAnyH_take (i := 0) (v := ?_) rfl (by kernel_rfl) (by kernel_rfl) (by kernel_rfl) (fun _ _ _ h => h) (Or.inl ⟨by rfl, ?_⟩) hS ?_
        rotate_left
        · (intro W hSw; obtain ⟨q0, q1, q2, q3⟩ := hSw; go_simp; try with_reducible rfl)
        try simp only [List.getElem_toArray, List.getElem_cons_succ, List.getElem_cons_zero, Act.put, List.setIfInBounds_toArray, List.set_cons_zero, List.set_cons_succ]
        refine wpAnyH_take (i := 1) (v := ?_) rfl (by kernel_rfl) (by kernel_rfl) (by kernel_rfl) (fun _ _ _ h => h) (Or.inl ⟨by rfl, ?_⟩) hS ?_
        rotate_left
        · (intro W hSw; obtain ⟨q0, q1, q2, q3⟩ := hSw; go_simp; try with_reducible rfl)
        try simp only [List.getElem_toArray, List.getElem_cons_succ, List.getElem_cons_zero, Act.put, List.setIfInBounds_toArray, List.set_cons_zero, List.set_cons_succ]
        refine wpAnyH_call (k := 2) (by kernel_rfl) rfl rfl (f := 47) (args := #[.int .i64 i]) (by simp [execOp, go_sem, Act.eval, Act.put]) ?_
        refine (r12power_any i (by omega) D).mono ?_
        rintro e w' ⟨rfl, rfl⟩
        dsimp only
        obtain ⟨P, hP⟩ : ∃ P, P = 2 ^ i := ⟨_, rfl⟩
        rw [← hP] at hsl hi16 hsn ⊢
        have HP := Lib.hid hP
        have HSN := Lib.hid hsn
        clear hP hsn
        refine ⟨hS, ?_⟩
        try simp only [List.getElem_toArray, List.getElem_cons_succ, List.getElem_cons_zero, Act.put, List.setIfInBounds_toArray, List.set_cons_zero, List.set_cons_succ]
        have hc := r12can_any j HV.out (H18.out HV.out) P (by omega) (.slice ao nb cap) (.slice ao2 nw cap2) D (HBS.out.later HBD.out.size (fun k h1 _ => HBD.out.block k h1)).low (HWS.out.later HBD.out.size (fun k h1 _ => HBD.out.block k h1)).low
        rw [HJV.out] at hc
        refine wpAnyH_call (k := 3) (by kernel_rfl) rfl rfl (f := 46) (args := #[.agg #[.slice ao nb cap, .int .i64 fl, .int .i64 fh, .slice ao2 nw cap2], .int .i64 P]) (by simp [execOp, go_sem, Act.eval, Act.put]) ?_
        refine hc.mono ?_
        rintro e w5 ⟨rfl, hb⟩
        clear hc
        dsimp only
        have HXw5 := Lib.hid ((hb.block _ (lt_of_block HXD.out)).trans HXD.out)
        have HBw5 := Lib.hid (HBD.out.trans (hb.mono HBD.out.size))
        have hS9 := hS.below hb
        clear hb hS
        refine ⟨hS9, ?_⟩
        have hS := hS9
        clear hS9
        try simp only [List.getElem_toArray, List.getElem_cons_succ, List.getElem_cons_zero, Act.put, List.setIfInBounds_toArray, List.set_cons_zero, List.set_cons_succ]
        refine wpAnyH_done (by kernel_rfl) ?_ _
        try simp only [List.getElem_toArray, List.getElem_cons_succ, List.getElem_cons_zero, Act.put, List.setIfInBounds_toArray, List.set_cons_zero, List.set_cons_succ]
        clear hS
        have hsn := HSN.out
        rw [HP.out] at hsn
        cases hcb : canD j P with
        | true =>
          have HSN2 := Lib.hid (show setJ (fun i => !((rightsS j.st (j.ws.getD i (0, 0))).isEmpty)) (i + 1) = u + P by rw [hsn, ← HP.out, hcb, if_pos rfl])
          have hwp : IntKind.i64.wrap ((u : Int) + (P : Int)) = ((u + P : Nat) : Int) := by rw [IntWalk.i64_in _ (by omega)]; omega
          clear hcb hsn
          go_wp2_with fail
          refine (r12power_any i (by omega) w5).mono ?_
          rintro e w' ⟨rfl, rfl⟩
          dsimp only
          rw [← HP.out]
          go_wp2_with fail
          exact ⟨⟨i + 1, hlt, by push_cast; rfl, by rw [HSN2.out]; push_cast; rfl, HXw5.out, HBw5.out⟩, by simp [intOf]; omega⟩
        | false =>
          have HSN2 := Lib.hid (show setJ (fun i => !((rightsS j.st (j.ws.getD i (0, 0))).isEmpty)) (i + 1) = u by rw [hsn, ← HP.out, hcb, if_neg (by decide), Nat.add_zero])
          clear hcb hsn
          go_wp2_with fail
          exact ⟨⟨i + 1, hlt, by push_cast; rfl, by rw [HSN2.out], HXw5.out, HBw5.out⟩, by simp [intOf]; omega⟩
      · have hin : nw = i := by omega
        subst hin
        have hlti : ¬ (nw : Int) < (nw : Int) := by omega
        have HD := Lib.hid (show aloneD j = ((u : Int), 0) by rw [aloneE_ok HV.out, hu, HN.out.2]; rfl)
        have c0 : wr.cell? ⟨w.heap.size, 0, none⟩ = some (.slice ao nb cap) := by rw [cell_of_row _ _ _ _ _ _ HXwr.out]; rfl
        have c1 : wr.cell? ⟨w.heap.size, 1, none⟩ = some (.int .i64 fl) := by rw [cell_of_row _ _ _ _ _ _ HXwr.out]; rfl
        have c2 : wr.cell? ⟨w.heap.size, 2, none⟩ = some (.int .i64 fh) := by rw [cell_of_row _ _ _ _ _ _ HXwr.out]; rfl
        have c3 : wr.cell? ⟨w.heap.size, 3, none⟩ = some (.slice ao2 nw cap2) := by rw [cell_of_row _ _ _ _ _ _ HXwr.out]; rfl
        clear hlt hu hsn
        go_wp2_with fail
        exact bodyPost_ret (v := .tuple #[.int .i64 u, .int .i64 0]) (by simp [results, Tryz.results14, go_sem]) rfl ⟨by rw [HD.out], HBwr.out⟩
end Go.Proofs.YtbmfphiecllggaaGreatDoor

/- Rounds: the list that is told is the first, in order, of those with the fewest rounds. -/
namespace Go.Proofs.YtbmfphiecllggaaGreatDoor
set_option linter.unusedVariables false
set_option linter.unusedSimpArgs false

/-- Numbers that first come in order. -/
def GrowJ : Nat → List Nat → Prop
  | _, [] => True
  | n, x :: l => x ≤ n ∧ GrowJ (max n (x + 1)) l
/-- Not behind in order. -/
def LexJ : List Nat → List Nat → Prop
  | [], [] => True
  | a :: s, b :: t => a < b ∨ (a = b ∧ LexJ s t)
  | _, _ => False
theorem find_least9 {α : Type} (f : Nat → Option α) (b : α) : ∀ n, (List.range n).findSome? f = some b → ∃ i, i < n ∧ f i = some b ∧ ∀ k, k < i → f k = none
  | 0, h => by simp at h
  | n + 1, h => by
    rw [List.range_succ, List.findSome?_append] at h
    cases hn : (List.range n).findSome? f with
    | some c =>
      rw [hn, Option.some_or] at h
      obtain rfl : c = b := Option.some.inj h
      obtain ⟨i, h1, h2, h3⟩ := find_least9 f c n hn
      exact ⟨i, by omega, h2, h3⟩
    | none =>
      rw [hn, Option.none_or] at h
      refine ⟨n, by omega, ?_, fun k hk => ?_⟩
      · simpa using h
      · rw [List.findSome?_eq_none_iff] at hn
        exact hn k (List.mem_range.2 hk)
theorem with_bit : ∀ (l : List Nat) (n q : Nat), (withJ l 0 n).testBit q = decide (l[q]? = some n)
  | [], n, q => by simp [withJ]
  | x :: l, n, 0 => by
    rw [withJ, with_upJ, Nat.testBit_zero]
    split
    · rename_i h; subst h; simp
    · rename_i h; simp [h]
  | x :: l, n, q + 1 => by
    rw [withJ, with_upJ, Nat.testBit_succ, List.getElem?_cons_succ, ← with_bit l n q]
    congr 1
    split <;> omega
theorem on_more (can : Nat → Bool) (most : Nat) : ∀ (k : Nat) (rs l l' : List Nat), onJ can most k rs l = some l' → ∃ t, l' = l ++ t ∧ t.length = k ∧ GrowJ rs.length t ∧ ∀ x ∈ t, x < most
  | 0, rs, l, l', e => by
    have : l = l' := Option.some.inj e
    subst this; exact ⟨[], by simp, rfl, trivial, by simp⟩
  | k + 1, rs, l, l', e => by
    rw [onJ] at e
    obtain ⟨i, hi, h1⟩ := List.exists_of_findSome?_eq_some e
    rw [List.mem_range] at hi
    split at h1
    · obtain ⟨t, h2, h3, h4, h5⟩ := on_more can most k _ _ l' h1
      refine ⟨i :: t, by rw [h2]; simp, by simp [h3], ⟨by omega, ?_⟩, fun x hx => ?_⟩
      · rw [put_lenJ] at h4
        have : max rs.length (i + 1) = if i = rs.length then rs.length + 1 else rs.length := by split <;> omega
        rw [this]; exact h4
      · rcases List.mem_cons.1 hx with rfl | hx
        · omega
        · exact h5 x hx
    · cases h1
theorem GoodJ.get {can : Nat → Bool} {rs l : List Nat} (h : GoodJ can rs l) (i : Nat) (hi : i < rs.length) : rs.getD i 0 = withJ l 0 i := by
  have := congrArg (fun r => r[i]?) h.eq
  try dsimp only at this
  rw [List.getD_eq_getElem?_getD, this]
  simp [hi]
theorem put_get (can : Nat → Bool) {rs l : List Nat} (h : GoodJ can rs l) (i : Nat) (hi : i ≤ rs.length) : (putJ rs i l.length).getD i 0 = withJ (l ++ [i]) 0 i := by
  have hw : GoodJ (fun _ => true) rs l := ⟨fun _ _ => rfl, h.eq, h.lt⟩
  exact (hw.put hi rfl).get i (by rw [put_lenJ]; split <;> omega)
/-- Of all rounds that are right what is found is the first. -/
theorem on_first (can : Nat → Bool) (hsub : ∀ s t, can t = true → (∀ i, s.testBit i = true → t.testBit i = true) → can s = true) (most : Nat) : ∀ (t rs l : List Nat), GoodJ can rs l → GrowJ rs.length t → (∀ x ∈ t, x < most) → (∀ n, can (withJ (l ++ t) 0 n) = true) → ∃ t', onJ can most t.length rs l = some (l ++ t') ∧ LexJ t' t
  | [], rs, l, _, _, _, _ => ⟨[], by simp [onJ], trivial⟩
  | i :: t, rs, l, hg, hgr, hm, hc => by
    obtain ⟨hi, hgr⟩ := hgr
    have hci : can ((putJ rs i l.length).getD i 0) = true := by
      rw [put_get can hg i hi]
      refine hsub _ _ (hc i) fun q hq => ?_
      rw [with_bit] at hq ⊢
      rw [decide_eq_true_eq] at hq ⊢
      rw [show l ++ i :: t = (l ++ [i]) ++ t by simp, List.getElem?_append_left]
      · exact hq
      · exact (List.getElem?_eq_some_iff.1 hq).1
    have hgr2 : GrowJ (putJ rs i l.length).length t := by
      rw [put_lenJ]
      have : max rs.length (i + 1) = if i = rs.length then rs.length + 1 else rs.length := by split <;> omega
      rw [← this]; exact hgr
    obtain ⟨t', h1, h2⟩ := on_first can hsub most t _ _ (hg.put hi hci) hgr2 (fun x hx => hm x (List.mem_cons_of_mem _ hx)) (by simpa using hc)
    have hi2 := hm i List.mem_cons_self
    rw [List.length_cons, onJ]
    have hsome : ((List.range (min most (rs.length + 1))).findSome? fun i => if can ((putJ rs i l.length).getD i 0) then onJ can most t.length (putJ rs i l.length) (l ++ [i]) else none).isSome = true := by
      rw [List.isSome_findSome?, List.any_eq_true]
      refine ⟨i, List.mem_range.2 (by omega), ?_⟩
      rw [if_pos hci, h1]; rfl
    obtain ⟨l', hl'⟩ := Option.isSome_iff_exists.1 hsome
    obtain ⟨i0, hi0, h3, h4⟩ := find_least9 _ _ _ hl'
    rw [hl']
    try dsimp only at h3
    split at h3
    · obtain ⟨u, hu, _⟩ := on_more can most _ _ _ _ h3
      refine ⟨i0 :: u, by rw [hu]; simp, ?_⟩
      rcases Nat.lt_trichotomy i0 i with h | h | h
      · exact .inl h
      · subst h
        rw [h1] at h3
        rw [hu] at h3
        refine .inr ⟨rfl, ?_⟩
        have := List.append_cancel_left (Option.some.inj h3)
        rw [← this]; exact h2
      · have := h4 i h
        rw [if_pos hci, h1] at this
        cases this
    · cases h3
theorem grow_get : ∀ (l : List Nat) (n i : Nat) (h : i < l.length), GrowJ n l → l[i] ≤ (l.take i).foldl (fun n x => max n (x + 1)) n
  | [], _, _, h, _ => by simp at h
  | x :: l, n, 0, _, hg => by simpa using hg.1
  | x :: l, n, i + 1, h, hg => by
    have := grow_get l (max n (x + 1)) i (by simpa using h) hg.2
    simpa using this
theorem grow_of : ∀ (l : List Nat) (n : Nat), (∀ i (h : i < l.length), l[i] ≤ (l.take i).foldl (fun n x => max n (x + 1)) n) → GrowJ n l
  | [], _, _ => trivial
  | x :: l, n, h => by
    exact ⟨h 0 (Nat.zero_lt_succ _), grow_of l _ fun i hi => h (i + 1) (Nat.succ_lt_succ hi)⟩
theorem grow_numbers : ∀ (l : List Nat) (n : Nat), GrowJ n l → l.foldl (fun n x => max n (x + 1)) n ≤ n + l.length
  | [], _, _ => by simp
  | x :: l, n, h => by
    have := grow_numbers l _ h.2
    have := h.1
    simp only [List.foldl_cons, List.length_cons]
    omega
theorem lex_at : ∀ (s t : List Nat), LexJ s t → ∀ i (h : i < s.length) (h' : i < t.length), (∀ q (hq : q < s.length) (hq' : q < t.length), q < i → t[q] = s[q]) → s[i] ≤ t[i]
  | [], _, _, _, h, _, _ => by simp at h
  | _ :: _, [], _, _, _, h', _ => by simp at h'
  | a :: s, b :: t, hl, 0, _, _, _ => by
    rcases hl with h | ⟨h, _⟩
    · exact Nat.le_of_lt h
    · exact Nat.le_of_eq h
  | a :: s, b :: t, hl, i + 1, h, h', hq => by
    rcases hl with h1 | ⟨_, h1⟩
    · have := hq 0 (by simp) (by simp) (by omega)
      simp at this
      omega
    · exact lex_at s t h1 i (by simpa using h) (by simpa using h') fun q h2 h3 h4 => hq (q + 1) (Nat.succ_lt_succ h2) (Nat.succ_lt_succ h3) (by omega)
/-- What is told of rounds. -/
theorem rounds_told {j : JobD} (hv : validJb j = true) (h : aloneN j = everyD j) : ∃ l, roundsD j = (l, 0) ∧ l.length = j.ws.length ∧ (∀ i (h : i < l.length), l[i] ≤ numbersJ (l.take i)) ∧ numbersJ l ≤ j.ws.length ∧ (∀ k, canD j (withJ l 0 k) = true) ∧
    ∀ own : List Nat, own.length = j.ws.length → GrowJ 0 own → (∀ k, k < numbersJ own → canD j (withJ own 0 k) = true) → numbersJ l ≤ numbersJ own ∧ (numbersJ own = numbersJ l → LexJ l own) := by
  obtain ⟨l, rs, h1, h2, h3⟩ := rounds_some j h
  have hM := h1
  unfold roundsN at hM
  obtain ⟨M, hM1, hM2, hM3⟩ := find_least9 _ _ _ hM
  obtain ⟨t, ht, ht1, ht2, ht3⟩ := on_more (canD j) M j.ws.length [] [] l hM2
  rw [List.nil_append] at ht
  subst ht
  have hnM : numbersJ l ≤ M := numbers_le l 0 M (Nat.zero_le _) ht3
  have hn2 : numbersJ l ≤ j.ws.length := by omega
  have hall : ∀ (own : List Nat), (∀ k, k < numbersJ own → canD j (withJ own 0 k) = true) → ∀ k, canD j (withJ own 0 k) = true := fun own ho k => by
    by_cases hk : k < numbersJ own
    · exact ho k hk
    · rw [with_noneJ own 0 k fun x hx => Nat.lt_of_lt_of_le ((numbers_ge own 0).2 x hx) (by unfold numbersJ at hk; omega)]
      exact can_zero j
  refine ⟨l, ?_, h2, fun i hi => grow_get l 0 i hi ht2, hn2, hall l fun k hk => rounds_can h3 k hk, fun own ho1 ho2 ho3 => ?_⟩
  · unfold roundsD
    rw [errD_ok hv, if_neg (by decide), if_pos h, h1]; rfl
  obtain ⟨t', h5, h6⟩ := on_first (canD j) (fun s t => can_sub) (numbersJ own) own [] [] (GoodJ.nil _) ho2 (numbers_ge own 0).2 (by simpa using hall own ho3)
  rw [List.nil_append, ho1] at h5
  have hMN : M ≤ numbersJ own := by
    apply Classical.byContradiction
    intro hn
    have := hM3 (numbersJ own) (by omega)
    rw [h5] at this
    cases this
  refine ⟨by omega, fun he => ?_⟩
  have : M = numbersJ own := by omega
  rw [this, h5] at hM2
  rw [← Option.some.inj hM2]
  exact h6
/-- There is one round just if all can be met at once. -/
theorem rounds_one {j : JobD} (hv : validJb j = true) {l : List Nat} (hl : l.length = j.ws.length) (hn : 0 < j.ws.length) (hg : ∀ k, canD j (withJ l 0 k) = true)
    (hm : ∀ own : List Nat, own.length = j.ws.length → GrowJ 0 own → (∀ k, k < numbersJ own → canD j (withJ own 0 k) = true) → numbersJ l ≤ numbersJ own) : decide (numbersJ l = 1) = canD j (everyD j) := by
  cases hc : canD j (everyD j) with
  | true =>
    rw [decide_eq_true_eq]
    have h1 : numbersJ (List.replicate j.ws.length 0) ≤ 1 := numbers_le _ 0 1 (by omega) fun x hx => by rw [(List.mem_replicate.1 hx).2]; omega
    have h2 := hm (List.replicate j.ws.length 0) (by simp) (grow_of _ 0 fun i hi => by simp) fun k hk => can_all hc (by have := with_ltJ (List.replicate j.ws.length 0) k; rwa [List.length_replicate] at this)
    have h3 := (numbers_ge l 0).2 (l[0]'(by omega)) (List.getElem_mem _)
    unfold numbersJ at *
    omega
  | false =>
    rw [decide_eq_false_iff_not]
    intro h1
    have h2 : withJ l 0 0 = everyD j := by
      apply Nat.eq_of_testBit_eq
      intro q
      rw [with_bit]
      unfold everyD
      rw [Nat.testBit_two_pow_sub_one]
      by_cases hq : q < j.ws.length
      · have h3 := (numbers_ge l 0).2 (l[q]'(by omega)) (List.getElem_mem _)
        rw [decide_eq_true hq, decide_eq_true_eq, List.getElem?_eq_getElem (by omega)]
        unfold numbersJ at h1
        congr 1
        omega
      · rw [decide_eq_false hq, decide_eq_false_iff_not, List.getElem?_eq_none (by omega)]
        simp
    have := hg 0
    rw [h2, hc] at this
    cases this
end Go.Proofs.YtbmfphiecllggaaGreatDoor

/- The reference of jobs, walked: all lists of rounds. -/
namespace Go.Proofs.YtbmfphiecllggaaGreatDoor
set_option linter.unusedVariables false
set_option linter.unusedSimpArgs false
open Go.RowKit Go.Shelf
attribute [local go_sem] Oper.semAt_some

/-! ### plain -/
def listsL : Nat → List Nat → List (List Nat)
  | 0, b => [b]
  | k + 1, b => (List.range (numbersJ b + 1)).flatMap fun s => listsL k (b ++ [s])
theorem numbersE_snoc (l : List Nat) (x : Nat) : numbersJ (l ++ [x]) = max (numbersJ l) (x + 1) := by unfold numbersJ; rw [List.foldl_append]; rfl
theorem lists_mem : ∀ (k : Nat) (b p : List Nat), p ∈ listsL k b ↔ ∃ t, p = b ++ t ∧ t.length = k ∧ GrowJ (numbersJ b) t
  | 0, b, p => by
    rw [listsL, List.mem_singleton]
    constructor
    · rintro rfl; exact ⟨[], by simp, rfl, trivial⟩
    · rintro ⟨t, rfl, ht, _⟩
      rw [List.length_eq_zero_iff.1 ht, List.append_nil]
  | k + 1, b, p => by
    rw [listsL, List.mem_flatMap]
    constructor
    · rintro ⟨s, hs, h⟩
      rw [List.mem_range] at hs
      obtain ⟨t, rfl, ht, hg⟩ := (lists_mem k _ _).1 h
      rw [numbersE_snoc] at hg
      exact ⟨s :: t, by simp, by simp [ht], ⟨by omega, hg⟩⟩
    · rintro ⟨t, rfl, ht, hg⟩
      cases t with
      | nil => simp at ht
      | cons s t =>
        refine ⟨s, List.mem_range.2 (by have := hg.1; omega), (lists_mem k _ _).2 ⟨t, by simp, by simpa using ht, ?_⟩⟩
        rw [numbersE_snoc]
        exact hg.2
theorem lists_sorted : ∀ (k : Nat) (b : List Nat), (listsL k b).Pairwise LtL
  | 0, b => by rw [listsL]; simp
  | k + 1, b => by
    rw [listsL, List.pairwise_flatMap]
    refine ⟨fun s _ => lists_sorted k _, List.Pairwise.imp ?_ List.pairwise_lt_range⟩
    intro s s' hlt p hp q hq
    obtain ⟨t, rfl, _⟩ := (lists_mem k _ _).1 hp
    obtain ⟨u, rfl, _⟩ := (lists_mem k _ _).1 hq
    refine ⟨b.length, by simp, by simp, fun r hr => ?_, ?_⟩
    · rw [List.append_assoc, List.append_assoc, List.getElem?_append_left hr, List.getElem?_append_left hr]
    · simp [List.getD_eq_getElem?_getD]
      exact hlt
theorem lists_len : ∀ (k : Nat) (b : List Nat), numbersJ b ≤ b.length → b.length + k ≤ 4 → (listsL k b).length ≤ 5 ^ k
  | 0, b, _, _ => by rw [listsL]; simp
  | k + 1, b, hb, h4 => by
    rw [listsL]
    have : ∀ m, m ≤ numbersJ b + 1 → ((List.range m).flatMap fun s => listsL k (b ++ [s])).length ≤ m * 5 ^ k := by
      intro m
      induction m with
      | zero => intro _; simp
      | succ m ih =>
        intro hm
        rw [List.range_succ, List.flatMap_append, List.length_append, Nat.succ_mul]
        have h9 := lists_len k (b ++ [m]) (by rw [numbersE_snoc, List.length_append]; simp; omega) (by rw [List.length_append]; simp; omega)
        rw [show ([m].flatMap fun s => listsL k (b ++ [s])) = listsL k (b ++ [m]) by simp]
        exact Nat.add_le_add (ih (by omega)) h9
    refine Nat.le_trans (this _ (Nat.le_refl _)) ?_
    rw [Nat.pow_succ, Nat.mul_comm (5 ^ k)]
    exact Nat.mul_le_mul_right _ (by omega)
theorem lex_lt : ∀ (p q : List Nat), LexJ p q → LtL q p → False
  | p, q, h, ⟨i, h1, h2, h3, h4⟩ => by
    have h5 := lex_at p q h i h2 h1 fun r hr hr' hlt => by
      have := h3 r hlt
      rw [List.getElem?_eq_getElem hr', List.getElem?_eq_getElem hr] at this
      exact Option.some.inj this
    rw [getD_lt q 0 i h1, getD_lt p 0 i h2] at h4
    omega
/-- The first of those with the fewest rounds is what is told. -/
theorem rounds_first {j : JobD} (hv : validJb j = true) (h : aloneN j = everyD j) (pl : List (List Nat)) (hpl : pl = listsL j.ws.length []) (good : List Nat → Bool) (hgood : ∀ l, good l = true ↔ ∀ k, k < numbersJ l → canD j (withJ l 0 k) = true) :
    ∃ l0, roundsD j = (l0, 0) ∧ l0 ∈ pl ∧ good l0 = true ∧ ∀ i0 (h0 : i0 < pl.length), good pl[i0] = true → (∀ s (hs : s < pl.length), good pl[s] = true → numbersJ pl[i0] ≤ numbersJ pl[s] ∧ (numbersJ pl[s] = numbersJ pl[i0] → i0 ≤ s)) → pl[i0] = l0 := by
  obtain ⟨l0, h1, h2, h3, h4, h5, h6⟩ := rounds_told hv h
  have hgr : GrowJ 0 l0 := grow_of l0 0 h3
  have hmem : l0 ∈ pl := by rw [hpl]; exact (lists_mem _ _ _).2 ⟨l0, rfl, h2, hgr⟩
  have hg0 : good l0 = true := (hgood l0).2 fun k _ => h5 k
  refine ⟨l0, h1, hmem, hg0, fun i0 hi0 hg hmin => ?_⟩
  obtain ⟨i1, hi1, he⟩ := List.getElem_of_mem hmem
  obtain ⟨t, ht, hlt, hgt⟩ := (lists_mem j.ws.length [] pl[i0]).1 (by rw [← hpl]; exact List.getElem_mem hi0)
  rw [List.nil_append] at ht
  obtain ⟨e1, e2⟩ := h6 pl[i0] (by rw [ht]; exact hlt) (by rw [ht]; exact hgt) ((hgood _).1 hg)
  obtain ⟨f1, f2⟩ := hmin i1 hi1 (by rw [he]; exact hg0)
  rw [he] at f1 f2
  have hn : numbersJ pl[i0] = numbersJ l0 := Nat.le_antisymm f1 e1
  have hle := f2 hn.symm
  have hlex := e2 hn
  rcases Nat.lt_or_ge i0 i1 with hlt2 | hge
  · exfalso
    have hs := lists_sorted j.ws.length []
    rw [← hpl] at hs
    have := List.pairwise_iff_getElem.1 hs i0 i1 hi0 hi1 hlt2
    rw [he] at this
    exact lex_lt _ _ hlex this
  · have : i0 = i1 := by omega
    subst this
    exact he
end Go.Proofs.YtbmfphiecllggaaGreatDoor

/- The reference of jobs, walked: all lists of rounds. -/
namespace Go.Proofs.YtbmfphiecllggaaGreatDoor
set_option linter.unusedVariables false
set_option linter.unusedSimpArgs false
open Go.RowKit Go.Shelf
attribute [local go_sem] Oper.semAt_some

theorem wpList_append_fresh {ops : Array Oper} {rest : List Oper} {w : World} {o : Oper} {a : Act} {Q : Exit → Act → World → Prop} (hgd : o.guard = none) (s x : Operand)
    (ho : o.op = .call { callee := .builtin .append, args := #[s, x], argTypes := #[29, 29] }) (B g : Nat) (hg : w.heap[g]? = some (.cells #[] 3 (0, 0))) (hB : B ≤ g) (hs : a.eval s = .slice (some ⟨g, 0, none⟩) 0 0)
    (l : List Int) (xv : Value) (hx : a.eval x = xv) (Rd : Nat → Prop) (hn : NumsAt w xv l Rd) (hl : l.length ≤ 1000)
    (h : ∀ v' w', w'.ownsRow B 3 1 v' l.length (l.map (Value.int .i64)) → Keeps (fun k => k = g) w w' → wpList Tryz.prog ops Q rest (a.put o.dst v') w') : wpList Tryz.prog ops Q (o :: rest) a w :=
  wpList_plain hgd fun _ hK => wp_append_fresh s x ho B g hg hB hs l xv hx Rd hn hl fun v' w' h1 h2 => hK _ _ (h v' w' h1 h2)
theorem numsE_own {W : World} {bv : Value} {l : List Int} {Rd : Nat → Prop} (h : NumsAt W bv l Rd) : NumsAt W bv l (fun q => Rd q ∧ q < W.heap.size) := by
  obtain ⟨ao, cap, e1, e2, e3, e4⟩ := h
  exact ⟨ao, cap, e1, e2, e3, fun i hi => by obtain ⟨x, off, f1, f2, f3, f4⟩ := e4 i hi; exact ⟨x, off, f1, ⟨f2, f3⟩, f3, f4⟩⟩
def ListsR (k : Nat) (b : List Nat) (B : Nat) (out : Value) (L : List (List Nat)) (w : World) (e : Ending) (w' : World) : Prop :=
  ∃ v', e = .returned v' ∧ OutR w' B v' (L ++ listsL k b) ∧ Keeps (fun q => out.ownBlock = some q) w w' ∧ (v'.ownBlock = out.ownBlock ∨ ∀ q, v'.ownBlock = some q → w.heap.size ≤ q)
theorem lists_room (k : Nat) (b : List Nat) (L : List (List Nat)) (m C : Nat) (hb : numbersJ b ≤ b.length) (h4 : b.length + (k + 1) ≤ 4) (hm : m ≤ numbersJ b) (h : L.length + 5 ^ (k + 1) ≤ C) :
    (L ++ (List.range m).flatMap fun s => listsL k (b ++ [s])).length + 5 ^ k ≤ C := by
  have h1 : ∀ m, m ≤ numbersJ b → ((List.range m).flatMap fun s => listsL k (b ++ [s])).length ≤ m * 5 ^ k := by
    intro m
    induction m with
    | zero => intro _; simp
    | succ m ih =>
      intro hm
      rw [List.range_succ, List.flatMap_append, List.length_append, Nat.succ_mul]
      have h9 := lists_len k (b ++ [m]) (by rw [numbersE_snoc, List.length_append]; simp; omega) (by rw [List.length_append]; simp; omega)
      rw [show ([m].flatMap fun s => listsL k (b ++ [s])) = listsL k (b ++ [m]) by simp]
      exact Nat.add_le_add (ih (by omega)) h9
  have h2 := h1 m hm
  have h3 : (m + 1) * 5 ^ k ≤ 5 ^ (k + 1) := by
    rw [Nat.pow_succ, Nat.mul_comm (5 ^ k)]
    exact Nat.mul_le_mul_right _ (by omega)
  rw [List.length_append]
  rw [Nat.succ_mul] at h3
  generalize 5 ^ k = X at *
  generalize 5 ^ (k + 1) = Z at *
  generalize m * X = V at *
  omega
set_option maxRecDepth 100000 in
set_option maxHeartbeats 8000000 in
theorem r12lists_any {B many : Nat} (hm4 : many ≤ 4) : ∀ (k : Nat) (b : List Nat) (bv out : Value) (L : List (List Nat)) (w : World), b.length + k = many → numbersJ b ≤ b.length → L.length + 5 ^ k ≤ 1000000 → B ≤ w.heap.size →
    NumsAt w bv (b.map fun s : Nat => (s : Int)) (fun q => out.ownBlock ≠ some q) → bv.oneCell' = true → OutR w B out L →
    Calls Tryz.prog 57 #[.int .i64 many, bv, out] w (ListsR k b B out L w) := by
  intro k
  induction k with
  | zero =>
    intro b bv out L w hbk hbn hLb hB hbv ho hout
    have HLB := Lib.hid hLb
    have HBV := Lib.hid hbv
    have HO := Lib.hid ho
    have HOUT := Lib.hid hout
    have HBB := Lib.hid hB
    have HBN := Lib.hid hbn
    obtain ⟨ao3, cap3, hv3, _⟩ := id hbv
    subst hv3
    rw [List.length_map] at HBV HO ⊢
    obtain ⟨n, hn⟩ : ∃ n, n = b.length := ⟨_, rfl⟩
    rw [← hn]
    rw [← hn] at HBV HO hbk
    have HN := Lib.hid hn
    clear hbv hout hbn hLb hB ho hn
    go_enter Tryz.func57, Tryz.ntmps57
    have he : n = many := by omega
    have he2 : ((n : Int) == (many : Int)) = true := by rw [beq_iff_eq]; omega
    have hO1 := HOUT.out.below (Below.alloc' w (.cells #[.slice ao3 n cap3] 29))
    obtain ⟨vals, h1, h2⟩ := hO1
    have HR := Lib.hid (And.intro h1 h2)
    have hLle : L.length + 1 ≤ 1000000 := by have := HLB.out; simpa using this
    have hBle : B ≤ w.heap.size := HBB.out
    clear h1 h2 he
    go_wp2_with (first | (refine wpList_append_here rfl (.tmp 14) (.tmp 16) 74 rfl B 29 1 24 _ underIntsE infoIntsE rfl (by decide) out L.length vals rfl HR.out.1 w.heap.size 1 #[.slice ao3 n cap3] 29 (0, 0) rfl (heap_alloc_at _ _ _ rfl) rfl (by simp [Value.oneCell']) (by omega) (by decide) (by simp <;> omega) ?_))
    intro v7 W7 h7 hg7 ha7
    have ha7 : v7.ownBlock = out.ownBlock ∨ v7.ownBlock = some (w.alloc (.cells #[.slice ao3 n cap3] 29)).heap.size := ha7.imp id (fun h => h.trans (by simp))
    have hk7 := keeps_grown hg7
    have hbA : Below w.heap.size w (w.alloc (.cells #[.slice ao3 n cap3] 29)) := Below.alloc' _ _
    have ho7 : OutR W7 B v7 (L ++ [b]) := OutR.snoc HR.out.1 HR.out.2 rfl (HBV.out.later hbA.size (fun k h _ => hbA.block k h)) h7 hg7 ha7
    have H7 := Lib.hid (And.intro ho7 (And.intro ((Keeps.of_below (Mut := fun q => out.ownBlock = some q) hbA (fun q h1 h2 => absurd h2 (by omega))).trans (hk7.mono fun k _ e => e)) (show v7.ownBlock = out.ownBlock ∨ ∀ q, v7.ownBlock = some q → w.heap.size ≤ q from ha7.imp id (fun e q h => by rw [e] at h; injection h with h; have := hbA.size; rw [← h]; exact this))))
    clear h7 hg7 ha7 hk7 hbA ho7
    go_wp2_with fail
    go_ret
    exact ⟨v7, rfl, H7.out.1, H7.out.2.1, H7.out.2.2⟩
  | succ k ih =>
    have IH := Lib.hid ih
    clear ih
    intro b bv out L w hbk hbn hLb hB hbv ho hout
    have HLB := Lib.hid hLb
    have HBV := Lib.hid hbv
    have HO := Lib.hid ho
    have HOUT := Lib.hid hout
    have HBB := Lib.hid hB
    have HBN := Lib.hid hbn
    obtain ⟨ao3, cap3, hv3, _⟩ := id hbv
    subst hv3
    rw [List.length_map] at HBV HO ⊢
    obtain ⟨n, hn⟩ : ∃ n, n = b.length := ⟨_, rfl⟩
    rw [← hn]
    rw [← hn] at HBV HO hbk
    have HN := Lib.hid hn
    clear hbv hout hbn hLb hB ho hn
    go_enter Tryz.func57, Tryz.ntmps57
    have he : ¬ n = many := by omega
    have he2 : ((n : Int) == (many : Int)) = false := by rw [beq_eq_false_iff_ne]; omega
    have hn4 : n ≤ 4 := by omega
    clear he
    go_wp2_with fail
    go_loopw [7, 8] (fun mv iv wr => ∃ i : Nat, i ≤ n ∧ iv = .int .i64 i ∧ mv = .int .i64 (numbersJ (b.take i) : Nat) ∧ w = wr) (fun _ iv _ => n - (intOf iv).toNat)
    case atStart => exact ⟨0, Nat.zero_le _, rfl, rfl, rfl⟩
    case round =>
      obtain ⟨i, hi, rfl, rfl, hwr⟩ := hrel
      subst hwr
      have hnt : numbersJ (b.take i) ≤ numbersJ b := numbers_le _ 0 _ (Nat.zero_le _) (fun y hy => (numbers_ge b 0).2 y (List.mem_of_mem_take hy))
      have hnb := HBN.out
      rw [← HN.out] at hnb
      obtain ⟨m, hm⟩ : ∃ m, m = numbersJ (b.take i) := ⟨_, rfl⟩
      rw [← hm] at hnt ⊢
      by_cases hlt : i < n
      · have hw : IntKind.i64.wrap ((i : Int) + 1) = ((i + 1 : Nat) : Int) := by rw [IntWalk.i64_in _ (by omega)]; omega
        have hlti : (i : Int) < (n : Int) := by omega
        have hi0 : 0 ≤ (i : Int) := by omega
        have hil : i < b.length := by rw [← HN.out]; exact hlt
        obtain ⟨a9, c9, e9, _, _, hel⟩ := HBV.out
        injection e9 with e1 e2 e3
        obtain ⟨pb, po, hpe, _, _, e6⟩ := hel i (by rw [List.length_map]; exact hil)
        rw [List.getElem_map] at e6
        rw [hpe] at e1
        subst e1
        clear hel e2 e3 hpe
        have hnx := numbers_take b i hil
        rw [← hm] at hnx
        have hxb := (numbers_ge b 0).2 b[i] (List.getElem_mem hil)
        obtain ⟨x, hx⟩ : ∃ x, x = b[i] := ⟨_, rfl⟩
        rw [← hx] at e6 hnx hxb
        have hx4 : x < 5 := by unfold numbersJ at hnb; omega
        have hmm : max (m : Int) ((x : Int) + 1) = ((max m (x + 1) : Nat) : Int) := by omega
        have hwx : IntKind.i64.wrap ((x : Int) + 1) = (x : Int) + 1 := IntWalk.i64_in _ (by omega)
        have HM := Lib.hid hnx
        clear hm hx hnx
        go_wp2_with (first | (refine wpList_maxJ rfl (.tmp 24) (.tmp 29) rfl rfl (m : Int) ((x : Int) + 1) _ rfl rfl hmm ?_))
        exact ⟨⟨i + 1, hlt, by push_cast; rfl, by rw [HM.out], by first | rfl | trivial⟩, by simp [intOf]; omega⟩
      · have hin : n = i := by omega
        subst hin
        have hlti : ¬ (n : Int) < (n : Int) := by omega
        have hme : m = numbersJ b := by rw [hm, List.take_of_length_le (by rw [← HN.out]; exact Nat.le_refl _)]
        have HM := Lib.hid hme
        clear hlt hm hme hnt
        have hm4 : m ≤ 4 := by rw [HM.out]; omega
        clear hnb
        have HBVW := Lib.hid (numsE_own HBV.out)
        go_wp2_with fail
        go_loopw [2, 9] (fun ov sv wr => ∃ s : Nat, s ≤ m + 1 ∧ sv = .int .i64 s ∧ OutR wr B ov (L ++ (List.range s).flatMap fun s => listsL k (b ++ [s])) ∧ Keeps (fun q => out.ownBlock = some q) w wr ∧ (ov.ownBlock = out.ownBlock ∨ ∀ q, ov.ownBlock = some q → w.heap.size ≤ q)) (fun _ sv _ => m + 1 - (intOf sv).toNat)
        case atStart => exact ⟨0, Nat.zero_le _, rfl, by simpa using HOUT.out, Keeps.refl _ _, .inl rfl⟩
        case round =>
          obtain ⟨s, hs, rfl, hov, hkp, how⟩ := hrel
          obtain ⟨ov, hove⟩ : ∃ y, y = u2 := ⟨_, rfl⟩
          rw [← hove] at hov how ⊢
          have HOV := Lib.hid hov
          have HKP := Lib.hid hkp
          have HOW := Lib.hid how
          have HBVr := Lib.hid (HBVW.out.later (W := wr) hkp.size (fun q hq hm => hkp.block q hq hm.1))
          have hsz : w.heap.size ≤ wr.heap.size := hkp.size
          have HSZ := Lib.hid hsz
          clear hov hkp how hove hsz
          by_cases hlt : s ≤ m
          · have hw : IntKind.i64.wrap ((s : Int) + 1) = ((s + 1 : Nat) : Int) := by rw [IntWalk.i64_in _ (by omega)]; omega
            have hlti : (s : Int) ≤ (m : Int) := by omega
            have HLM := Lib.hid (show (L ++ (List.range s).flatMap fun s => listsL k (b ++ [s])).length + 5 ^ k ≤ 1000000 from lists_room k b L s 1000000 HBN.out (by rw [← HN.out]; omega) (by rw [← HM.out]; exact hlt) HLB.out)
            have HLT := Lib.hid hlt
            have hbl : (b.map fun s : Nat => (s : Int)).length ≤ 1000 := by rw [List.length_map, ← HN.out]; omega
            go_wp2_with (first | (refine wpList_append_fresh rfl (.tmp 37) (.tmp 38) rfl wr.heap.size wr.heap.size (heap_alloc_at _ _ _ rfl) (Nat.le_refl _) rfl (b.map fun s : Nat => (s : Int)) (.slice ao3 n cap3) rfl _ (HBVr.out.later (Below.alloc' wr (.cells #[] 3)).size (fun q h _ => (Below.alloc' wr (.cells #[] 3)).block q h)) hbl ?_))
            intro v4 W4 ho4 hk4
            have hb4 : Below wr.heap.size wr W4 := (Below.alloc' wr (.cells #[] 3)).trans (hk4.below (by simp) (fun q h e => by omega))
            have HO4 := Lib.hid (show World.ownsRow W4 wr.heap.size 3 1 v4 n ((b.map fun s : Nat => (s : Int)).map (Value.int .i64)) by rw [HN.out]; simpa using ho4)
            have HB4 := Lib.hid hb4
            have hs4 := hb4.size
            clear ho4 hk4 hb4 hbl
            go_wp2_with (first | (refine wpList_append_here rfl (.tmp 39) (.tmp 41) 29 rfl wr.heap.size 3 1 8 (.int .i64 0) underInts infoInt rfl (by decide) v4 n ((b.map fun s : Nat => (s : Int)).map (Value.int .i64)) rfl (own_below HO4.out (Below.alloc' _ _)) W4.heap.size 1 #[.int .i64 (s : Int)] 3 (0, 0) rfl (heap_alloc_at _ _ _ rfl) rfl (by simp [Value.oneCell']) (by omega) (by decide) (by simp <;> omega) ?_))
            intro v6 W6 ho6 hg6 _
            have hk6 := keeps_grown hg6
            have hb6 : Below wr.heap.size wr W6 := (HB4.out.alloc HB4.out.size (.cells #[.int .i64 (s : Int)] 3)).trans (hk6.below (by simp; omega) (fun q h e => by have := (HO4.out.lt q e).1; omega))
            have hn6 : NumsAt W6 v6 ((b ++ [s]).map fun s : Nat => (s : Int)) (fun q => wr.heap.size ≤ q) := nums_of_own (show n + 1 = _ by rw [List.length_map, List.length_append, HN.out]; rfl) (by rw [List.map_append, List.map_append, List.map_map]; exact ho6)
            have h1c : v6.oneCell' = true := by
              rcases ho6.2 with ⟨h, _⟩ | ⟨_, _, _, h, _⟩ <;> rw [h] <;> rfl
            have HN6 := Lib.hid (And.intro hn6 h1c)
            have HB6 := Lib.hid hb6
            clear hk6 hb6 hn6 h1c ho6 hg6 hs4
            go_wp2_with fail
            refine (IH.out (b ++ [s]) v6 ov (L ++ (List.range s).flatMap fun s => listsL k (b ++ [s])) W6 (by rw [List.length_append, ← HN.out]; simp; omega) (by rw [numbersE_snoc, List.length_append]; have := HBN.out; have := HM.out; have := HLT.out; simp; omega) HLM.out (Nat.le_trans HBB.out (Nat.le_trans HSZ.out HB6.out.size)) (HN6.out.1.mono fun q hq e => by have := (HOV.out.lt q e).2; omega) HN6.out.2 (HOV.out.below HB6.out)).mono ?_
            rintro e Y6 ⟨v7, rfl, ho7, hk7, hw7⟩
            dsimp only
            have hk06 : Keeps (fun q => out.ownBlock = some q) w Y6 := by
              refine ⟨hk7.os.trans (HB6.out.os.trans HKP.out.os), hk7.tape.trans (HB6.out.tape.trans HKP.out.tape), hk7.output.trans (HB6.out.output.trans HKP.out.output), Nat.le_trans HKP.out.size (Nat.le_trans HB6.out.size hk7.size), fun q hq hm => ?_⟩
              refine (hk7.block q (Nat.lt_of_lt_of_le hq (Nat.le_trans HKP.out.size HB6.out.size)) (fun e => ?_)).trans ((HB6.out.block q (Nat.lt_of_lt_of_le hq HKP.out.size)).trans (HKP.out.block q hq hm))
              rcases HOW.out with h | h
              · exact hm (by rw [← h]; exact e)
              · have := h q e; omega
            have how7 : v7.ownBlock = out.ownBlock ∨ ∀ q, v7.ownBlock = some q → w.heap.size ≤ q := by
              rcases hw7 with h | h
              · rw [h]; exact HOW.out
              · exact .inr fun q e => by have := h q e; have := HB6.out.size; have := HKP.out.size; omega
            have HK6 := Lib.hid (And.intro hk06 how7)
            have HO7 := Lib.hid ho7
            clear hk06 how7 ho7 hk7 hw7
            go_wp2_with fail
            refine ⟨⟨s + 1, by omega, by push_cast; rfl, ?_, HK6.out.1, HK6.out.2⟩, by simp [intOf]; omega⟩
            have h9 := HO7.out
            rw [List.append_assoc] at h9
            rw [List.range_succ, List.flatMap_append, show ([s].flatMap fun s => listsL k (b ++ [s])) = listsL k (b ++ [s]) by simp]
            exact h9
          · have hsP2 : s = m + 1 := by omega
            have hlti : ¬ (s : Int) ≤ (m : Int) := by omega
            have HRES := Lib.hid (show OutR wr B ov (L ++ listsL (k + 1) b) by
              rw [listsL, ← HM.out, ← hsP2]
              exact HOV.out)
            clear hlt hsP2
            go_wp2_with fail
            go_ret
            exact ⟨ov, rfl, HRES.out, HKP.out, HOW.out⟩
end Go.Proofs.YtbmfphiecllggaaGreatDoor

/- The reference of jobs, walked: are rounds right? -/
namespace Go.Proofs.YtbmfphiecllggaaGreatDoor
set_option linter.unusedVariables false
set_option linter.unusedSimpArgs false
open Go.RowKit Go.Shelf
attribute [local go_sem] Oper.semAt_some

def goodE (j : JobD) (l : List Nat) : Bool := (List.range (numbersJ l)).all fun k => canD j (withJ l 0 k)
theorem goodE_iff (j : JobD) (l : List Nat) : goodE j l = true ↔ ∀ k, k < numbersJ l → canD j (withJ l 0 k) = true := by
  unfold goodE
  rw [List.all_eq_true]
  exact ⟨fun h k hk => h k (List.mem_range.2 hk), fun h k hk => h k (List.mem_range.1 hk)⟩
set_option maxRecDepth 100000 in
set_option maxHeartbeats 4000000 in
theorem r12rounds_any (j : JobD) (hv : validJb j = true) (h18 : j.ws.length * j.st.bs.length ≤ 18) (l : List Nat) (hl : l.length ≤ 4) (hx : ∀ x ∈ l, x ≤ 1000) (bs ws v : Value) (w : World) (hbs : SpansAt w bs j.st.bs (fun k => k < w.heap.size)) (hws : SpansAt w ws j.ws (fun k => k < w.heap.size))
    (hlv : NumsAt w v (l.map fun s : Nat => (s : Int)) (fun k => k < w.heap.size)) :
    Calls Tryz.prog 59 #[jobV j bs ws, v] w fun e w' => e = .returned (.bool (goodE j l)) ∧ Below w.heap.size w w' := by
  have HV := Lib.hid hv
  have H18 := Lib.hid h18
  have HBS := Lib.hid hbs
  have HWS := Lib.hid hws
  have HXL := Lib.hid hx
  have HLV := Lib.hid hlv
  obtain ⟨ao, cap, hv1, _⟩ := id hbs
  obtain ⟨ao2, cap2, hv2, _⟩ := id hws
  obtain ⟨ao3, cap3, hv3, _⟩ := id hlv
  subst hv1 hv2 hv3
  rw [List.length_map] at HLV ⊢
  obtain ⟨nb, hnb⟩ : ∃ n, n = j.st.bs.length := ⟨_, rfl⟩
  obtain ⟨nw, hnw⟩ : ∃ n, n = j.ws.length := ⟨_, rfl⟩
  obtain ⟨nl, hnl⟩ : ∃ n, n = l.length := ⟨_, rfl⟩
  obtain ⟨fl, hfl⟩ : ∃ x, x = j.st.film.1 := ⟨_, rfl⟩
  obtain ⟨fh, hfh⟩ : ∃ x, x = j.st.film.2 := ⟨_, rfl⟩
  have HJV := Lib.hid (show jobV j (.slice ao nb cap) (.slice ao2 nw cap2) = .agg #[.slice ao nb cap, .int .i64 fl, .int .i64 fh, .slice ao2 nw cap2] by unfold jobV; rw [← hfl, ← hfh])
  unfold jobV
  rw [← hnb, ← hnw, ← hnl, ← hfl, ← hfh]
  rw [← hnb] at HBS
  rw [← hnw] at HWS
  rw [← hnl] at HLV hl
  have HNL := Lib.hid hnl
  have hnb2 := numbers_bound l hx
  have hnb3 := goodE_iff j l
  obtain ⟨m, hm⟩ : ∃ m, m = numbersJ l := ⟨_, rfl⟩
  rw [← hm] at hnb2 hnb3
  have HM := Lib.hid hm
  have HG := Lib.hid hnb3
  obtain ⟨gd, hgd⟩ : ∃ b, b = goodE j l := ⟨_, rfl⟩
  rw [← hgd] at HG ⊢
  have HXw0 := Lib.hid (show (w.alloc (.cells #[.slice ao nb cap, .int .i64 fl, .int .i64 fh, .slice ao2 nw cap2] 28)).heap[w.heap.size]? = some (.cells #[.slice ao nb cap, .int .i64 fl, .int .i64 fh, .slice ao2 nw cap2] 28 (0, 0)) from heap_alloc_at _ _ _ rfl)
  have HBw0 := Lib.hid (Below.alloc' w (.cells #[.slice ao nb cap, .int .i64 fl, .int .i64 fh, .slice ao2 nw cap2] 28))
  clear hnb3 hbs hws hlv hnb hnw hnl hfl hfh hx hm hgd hv h18
  go_enter Tryz.func59, Tryz.ntmps59
  go_wp2_with fail
  go_loopw [5] (fun kv wr => ∃ k : Nat, k ≤ m ∧ kv = .int .i64 k ∧ wr.heap[w.heap.size]? = some (.cells #[.slice ao nb cap, .int .i64 fl, .int .i64 fh, .slice ao2 nw cap2] 28 (0, 0)) ∧ Below w.heap.size w wr ∧ ∀ q, q < k → canD j (withJ l 0 q) = true) (fun kv _ => m - (intOf kv).toNat)
  case atStart => exact ⟨0, Nat.zero_le _, rfl, HXw0.out, HBw0.out, fun q h => absurd h (by omega)⟩
  case round =>
    obtain ⟨k, hk, rfl, hx, hb, hall⟩ := hrel
    have HXwr := Lib.hid hx
    have HBwr := Lib.hid hb
    have HALL := Lib.hid hall
    clear hx hb hall
    go_wp2_with fail
    refine (r12numbers_any l (.slice ao3 nl cap3) (fun k => k < w.heap.size) (by rw [← HNL.out]; omega) HXL.out wr (HLV.out.later HBwr.out.size (fun k h1 _ => HBwr.out.block k h1))).mono ?_
    rintro e w' ⟨rfl, rfl⟩
    dsimp only
    rw [← HM.out]
    by_cases hlt : k < m
    · have hw : IntKind.i64.wrap ((k : Int) + 1) = ((k + 1 : Nat) : Int) := by rw [IntWalk.i64_in _ (by omega)]; omega
      have hlti : (k : Int) < (m : Int) := by omega
      go_upto_region 4 with fail
      have hS0 : SJ4 w.heap.size (.slice ao nb cap) (.slice ao2 nw cap2) fl fh wr := ⟨by rw [cell_of_row _ _ _ _ _ _ HXwr.out]; rfl, by rw [cell_of_row _ _ _ _ _ _ HXwr.out]; rfl, by rw [cell_of_row _ _ _ _ _ _ HXwr.out]; rfl, by rw [cell_of_row _ _ _ _ _ _ HXwr.out]; rfl⟩
      have HS0 := Lib.hid hS0
      clear hS0
      refine wp_region_held_drew (S := SJ4 w.heap.size (.slice ao nb cap) (.slice ao2 nw cap2) fl fh) (by kernel_rfl) (HS0.out.below (Below.refl _ _).drew) fun hS => ?_
      obtain ⟨D, hD⟩ : ∃ D, D = World.drew wr := ⟨_, rfl⟩
      have hb : Below wr.heap.size wr D := by rw [hD]; exact (Below.refl _ _).drew
      rw [← hD] at hS ⊢
      have HXD := Lib.hid ((hb.block _ (lt_of_block HXwr.out)).trans HXwr.out)
      have HBD := Lib.hid (HBwr.out.trans (hb.mono HBwr.out.size))
      clear hD hb HS0
      refine wpAnyH_take (i := 0) (v := ?_) rfl (by kernel_rfl) (by kernel_rfl) (by kernel_rfl) (fun _ _ _ h => h) (Or.inl ⟨by rfl, ?_⟩) hS ?_
      rotate_left
      · (intro W hSw; obtain ⟨q0, q1, q2, q3⟩ := hSw; go_simp; try with_reducible rfl)
      try simp only [List.getElem_toArray, List.getElem_cons_succ, List.getElem_cons_zero, Act.put, List.setIfInBounds_toArray, List.set_cons_zero, List.set_cons_succ]
      refine wpAnyH_take (i := 1) (v := ?_) rfl (by kernel_rfl) (by kernel_rfl) (by kernel_rfl) (fun _ _ _ h => h) (Or.inl ⟨by rfl, ?_⟩) hS ?_
      rotate_left
      · (intro W hSw; obtain ⟨q0, q1, q2, q3⟩ := hSw; go_simp; try with_reducible rfl)
      try simp only [List.getElem_toArray, List.getElem_cons_succ, List.getElem_cons_zero, Act.put, List.setIfInBounds_toArray, List.set_cons_zero, List.set_cons_succ]
      refine wpAnyH_take (i := 2) (v := ?_) rfl (by kernel_rfl) (by kernel_rfl) (by kernel_rfl) (fun _ _ _ h => h) (Or.inl ⟨by rfl, ?_⟩) hS ?_
      rotate_left
      · (intro W hSw; obtain ⟨q0, q1, q2, q3⟩ := hSw; go_simp; try with_reducible rfl)
      try simp only [List.getElem_toArray, List.getElem_cons_succ, List.getElem_cons_zero, Act.put, List.setIfInBounds_toArray, List.set_cons_zero, List.set_cons_succ]
      have hwl := with_ltJ l k
      rw [← HNL.out] at hwl
      have hwl2 : 2 ^ nl ≤ 16 := (Nat.pow_le_pow_right (by decide) hl : _ ≤ 2 ^ 4)
      refine wpAnyH_call (k := 3) (by kernel_rfl) rfl rfl (f := 79) (args := #[.slice ao3 nl cap3, .int .i64 k]) (by simp [execOp, go_sem, Act.eval, Act.put]) ?_
      refine (r12with_any l (.slice ao3 nl cap3) (fun k => k < w.heap.size) (by rw [← HNL.out]; omega) k D (HLV.out.later HBD.out.size (fun k h1 _ => HBD.out.block k h1))).mono ?_
      rintro e w' ⟨rfl, rfl⟩
      dsimp only
      obtain ⟨ww, hww⟩ : ∃ y, y = withJ l 0 k := ⟨_, rfl⟩
      rw [← hww] at hwl ⊢
      have HWW := Lib.hid hww
      clear hww
      refine ⟨hS, ?_⟩
      try simp only [List.getElem_toArray, List.getElem_cons_succ, List.getElem_cons_zero, Act.put, List.setIfInBounds_toArray, List.set_cons_zero, List.set_cons_succ]
      have hc := r12can_any j HV.out H18.out ww (by omega) (.slice ao nb cap) (.slice ao2 nw cap2) D (HBS.out.later HBD.out.size (fun k h1 _ => HBD.out.block k h1)).low (HWS.out.later HBD.out.size (fun k h1 _ => HBD.out.block k h1)).low
      rw [HJV.out] at hc
      refine wpAnyH_call (k := 4) (by kernel_rfl) rfl rfl (f := 46) (args := #[.agg #[.slice ao nb cap, .int .i64 fl, .int .i64 fh, .slice ao2 nw cap2], .int .i64 ww]) (by simp [execOp, go_sem, Act.eval, Act.put]) ?_
      refine hc.mono ?_
      rintro e w9 ⟨rfl, hb⟩
      clear hc
      dsimp only
      have HXw9 := Lib.hid ((hb.block _ (lt_of_block HXD.out)).trans HXD.out)
      have HBw9 := Lib.hid (HBD.out.trans (hb.mono HBD.out.size))
      have hS9 := hS.below hb
      clear hb hS
      refine ⟨hS9, ?_⟩
      have hS := hS9
      clear hS9
      try simp only [List.getElem_toArray, List.getElem_cons_succ, List.getElem_cons_zero, Act.put, List.setIfInBounds_toArray, List.set_cons_zero, List.set_cons_succ]
      cases hcn : canD j ww with
      | true =>
        rw [HWW.out] at hcn
        have HCN := Lib.hid hcn
        clear hcn
        refine wpAnyH_take (i := 5) (v := ?_) rfl (by kernel_rfl) (by kernel_rfl) (by kernel_rfl) (fun _ _ _ h => h) (Or.inl ⟨by rfl, ?_⟩) hS ?_
        rotate_left
        · (intro W hSw; obtain ⟨q0, q1, q2, q3⟩ := hSw; go_simp; try with_reducible rfl)
        try simp only [List.getElem_toArray, List.getElem_cons_succ, List.getElem_cons_zero, Act.put, List.setIfInBounds_toArray, List.set_cons_zero, List.set_cons_succ]
        refine wpAnyH_done (by kernel_rfl) ?_ _
        try simp only [List.getElem_toArray, List.getElem_cons_succ, List.getElem_cons_zero, Act.put, List.setIfInBounds_toArray, List.set_cons_zero, List.set_cons_succ]
        clear hS
        go_wp2_with fail
        refine ⟨⟨k + 1, hlt, by push_cast; rfl, HXw9.out, HBw9.out, fun q hq => ?_⟩, by simp [intOf]; omega⟩
        by_cases hqk : q < k
        · exact HALL.out q hqk
        · rw [show q = k by omega]; exact HCN.out
      | false =>
        rw [HWW.out] at hcn
        have hgf : gd = false := by
          cases hg : gd with
          | false => rfl
          | true => have := HG.out.1 hg k hlt; rw [hcn] at this; cases this
        subst hgf
        clear hcn HG
        refine wpAnyH_take (i := 5) (v := ?_) rfl (by kernel_rfl) (by kernel_rfl) (by kernel_rfl) (fun _ _ _ h => h) (Or.inl ⟨by rfl, ?_⟩) hS ?_
        rotate_left
        · (intro W hSw; obtain ⟨q0, q1, q2, q3⟩ := hSw; go_simp; try with_reducible rfl)
        try simp only [List.getElem_toArray, List.getElem_cons_succ, List.getElem_cons_zero, Act.put, List.setIfInBounds_toArray, List.set_cons_zero, List.set_cons_succ]
        refine wpAnyH_done (by kernel_rfl) ?_ _
        try simp only [List.getElem_toArray, List.getElem_cons_succ, List.getElem_cons_zero, Act.put, List.setIfInBounds_toArray, List.set_cons_zero, List.set_cons_succ]
        clear hS
        go_wp2_with fail
        go_ret
        exact ⟨rfl, HBw9.out⟩
    · have hkn : m = k := by omega
      subst hkn
      have hlti : ¬ (m : Int) < (m : Int) := by omega
      have hgt : gd = true := HG.out.2 HALL.out
      subst hgt
      clear hlt HG
      go_wp2_with fail
      go_ret
      exact ⟨rfl, HBwr.out⟩
end Go.Proofs.YtbmfphiecllggaaGreatDoor
