/- Texts Ex, Ey, Ez, Eza in one file; each begins with a word on what it proves. -/
import Derived.Test.YtbmfphiecllggaaGreatDoorTie
import Derived.Test.YtbmfphiecllggaaGreatDoorCards
import Derived.SevenTiedAt
import Derived.Test.YtbmfphiecllggaaGreatDoorKp
import Derived.Test.YtbmfphiecllggaaGreatDoorKj
import Derived.Test.YtbmfphiecllggaaGreatDoorKn
import Derived.Test.YtbmfphiecllggaaGreatDoorKf
import Derived.Test.YtbmfphiecllggaaGreatDoorKg

/- The reference of jobs, walked: Rounds. -/
namespace Go.Proofs.YtbmfphiecllggaaGreatDoor
set_option linter.unusedVariables false
set_option linter.unusedSimpArgs false
open Go.RowKit Go.Shelf
attribute [local go_sem] Oper.semAt_some

def RoundsE (j : JobD) (w : World) (e : Ending) (w' : World) : Prop :=
  ∃ v, e = .returned (.tuple #[v, .int .i64 (roundsD j).2]) ∧ NumsAt w' v ((roundsD j).1.map fun s : Nat => (s : Int)) (fun k => k < w'.heap.size) ∧ Below w.heap.size w w'
theorem roundsE_bad {j : JobD} (hv : validJb j = false) : roundsD j = ([], 1) := by unfold roundsD; rw [errD_bad hv]; rfl
theorem roundsE_not {j : JobD} (hv : validJb j = true) (h : aloneN j ≠ everyD j) : roundsD j = ([], 4) := by unfold roundsD; rw [errD_ok hv, if_neg (by decide), if_neg h]
/-- What the search reads: the job, and two of the lists. -/
def SRn (x : Nat) (v0 v3 : Value) (f1 f2 : Int) (g i i0 : Nat) (u u0 : Value) (Y : World) : Prop :=
  Y.cell? ⟨x, 0, none⟩ = some v0 ∧ Y.cell? ⟨x, 1, none⟩ = some (.int .i64 f1) ∧ Y.cell? ⟨x, 2, none⟩ = some (.int .i64 f2) ∧ Y.cell? ⟨x, 3, none⟩ = some v3 ∧ Y.cell? ⟨g, i, none⟩ = some u ∧ Y.cell? ⟨g, i0, none⟩ = some u0
theorem SRn.below {x : Nat} {v0 v3 : Value} {f1 f2 : Int} {g i i0 : Nat} {u u0 : Value} {Y Y' : World} (h : SRn x v0 v3 f1 f2 g i i0 u u0 Y) (hb : Below Y.heap.size Y Y') : SRn x v0 v3 f1 f2 g i i0 u u0 Y' :=
  ⟨cell_below h.1 hb, cell_below h.2.1 hb, cell_below h.2.2.1 hb, cell_below h.2.2.2.1 hb, cell_below h.2.2.2.2.1 hb, cell_below h.2.2.2.2.2 hb⟩
/-- The best so far. -/
def BestR (j : JobD) (pl : List (List Nat)) (i : Nat) (bv : Value) : Prop :=
  (bv = .int .i64 (-1) ∧ ∀ s (h : s < pl.length), s < i → goodE j pl[s] = false) ∨ ∃ (i0 : Nat) (h0 : i0 < pl.length), i0 < i ∧ bv = .int .i64 i0 ∧ goodE j pl[i0] = true ∧ ∀ s (h : s < pl.length), s < i → goodE j pl[s] = true → numbersJ pl[i0] ≤ numbersJ pl[s] ∧ (numbersJ pl[s] = numbersJ pl[i0] → i0 ≤ s)
theorem bestR_skip {j : JobD} {pl : List (List Nat)} {i : Nat} {bv : Value} (h : BestR j pl i bv) (hi : i < pl.length) (hg : goodE j pl[i] = false) : BestR j pl (i + 1) bv := by
  rcases h with ⟨h1, h2⟩ | ⟨i0, h0, h1, h2, h3, h4⟩
  · refine .inl ⟨h1, fun s hs hsi => ?_⟩
    by_cases he : s = i
    · subst he; exact hg
    · exact h2 s hs (by omega)
  · refine .inr ⟨i0, h0, by omega, h2, h3, fun s hs hsi hgs => ?_⟩
    by_cases he : s = i
    · subst he; rw [hg] at hgs; cases hgs
    · exact h4 s hs (by omega) hgs
theorem bestR_keep {j : JobD} {pl : List (List Nat)} {i i0 : Nat} {bv : Value} (h : BestR j pl i bv) (hi : i < pl.length) (hb : bv = .int .i64 i0) (h0 : i0 < pl.length) (hn : numbersJ pl[i0] ≤ numbersJ pl[i]) : BestR j pl (i + 1) bv := by
  rcases h with ⟨h1, _⟩ | ⟨i1, h0', h1, h2, h3, h4⟩
  · rw [h1] at hb; injection hb with _ hb; omega
  · have he : i1 = i0 := by rw [h2] at hb; injection hb with _ hb; omega
    subst he
    refine .inr ⟨i1, h0', by omega, h2, h3, fun s hs hsi hgs => ?_⟩
    by_cases he : s = i
    · subst he; exact ⟨hn, fun _ => by omega⟩
    · exact h4 s hs (by omega) hgs
theorem bestR_first {j : JobD} {pl : List (List Nat)} {i : Nat} {bv : Value} (h : BestR j pl i bv) (hi : i < pl.length) (hg : goodE j pl[i] = true) (hb : bv = .int .i64 (-1) ∨ ∃ (i0 : Nat) (h0 : i0 < pl.length), bv = .int .i64 i0 ∧ numbersJ pl[i] < numbersJ pl[i0]) : BestR j pl (i + 1) (.int .i64 i) := by
  refine .inr ⟨i, hi, by omega, rfl, hg, fun s hs hsi hgs => ?_⟩
  by_cases he : s = i
  · subst he; exact ⟨Nat.le_refl _, fun _ => Nat.le_refl _⟩
  rcases h with ⟨h1, h2⟩ | ⟨i1, h0', h1, h2, h3, h4⟩
  · rw [h2 s hs (by omega)] at hgs; cases hgs
  · rcases hb with hb | ⟨i0, h0, hb, hlt⟩
    · rw [h2] at hb; injection hb with _ hb; omega
    · have he2 : i1 = i0 := by rw [h2] at hb; injection hb with _ hb; omega
      subst he2
      have := (h4 s hs (by omega) hgs).1
      exact ⟨by omega, fun h => by omega⟩
set_option maxRecDepth 100000 in
set_option maxHeartbeats 8000000 in
theorem r12Rounds_any (j : JobD) (h18 : validJb j = true → j.ws.length * j.st.bs.length ≤ 18) (bs ws : Value) (w : World) (hbs : SpansAt w bs j.st.bs (fun k => k < w.heap.size)) (hws : SpansAt w ws j.ws (fun k => k < w.heap.size)) :
    Calls Tryz.prog 20 #[jobV j bs ws] w (RoundsE j w) := by
  have H18 := Lib.hid h18
  clear h18
  have HBS := Lib.hid hbs
  have HWS := Lib.hid hws
  obtain ⟨ao, cap, hv1, _⟩ := id hbs
  obtain ⟨ao2, cap2, hv2, _⟩ := id hws
  subst hv1 hv2
  obtain ⟨nb, hnb⟩ : ∃ n, n = j.st.bs.length := ⟨_, rfl⟩
  obtain ⟨nw, hnw⟩ : ∃ n, n = j.ws.length := ⟨_, rfl⟩
  obtain ⟨fl, hfl⟩ : ∃ x, x = j.st.film.1 := ⟨_, rfl⟩
  obtain ⟨fh, hfh⟩ : ∃ x, x = j.st.film.2 := ⟨_, rfl⟩
  have HJV := Lib.hid (show jobV j (.slice ao nb cap) (.slice ao2 nw cap2) = .agg #[.slice ao nb cap, .int .i64 fl, .int .i64 fh, .slice ao2 nw cap2] by unfold jobV; rw [← hfl, ← hfh])
  unfold jobV
  rw [← hnb, ← hnw, ← hfl, ← hfh]
  rw [← hnb] at HBS
  rw [← hnw] at HWS
  have HN := Lib.hid (And.intro hnb hnw)
  have HXw0 := Lib.hid (show (w.alloc (.cells #[.slice ao nb cap, .int .i64 fl, .int .i64 fh, .slice ao2 nw cap2] 28)).heap[w.heap.size]? = some (.cells #[.slice ao nb cap, .int .i64 fl, .int .i64 fh, .slice ao2 nw cap2] 28 (0, 0)) from heap_alloc_at _ _ _ rfl)
  have HBw0 := Lib.hid (Below.alloc' w (.cells #[.slice ao nb cap, .int .i64 fl, .int .i64 fh, .slice ao2 nw cap2] 28))
  clear hbs hws hnb hnw hfl hfh
  go_enter Tryz.func20, Tryz.ntmps20
  go_wp2_with fail
  have hc := r12Alone_any j H18.out (.slice ao nb cap) (.slice ao2 nw cap2) _ (HBS.out.later HBw0.out.size (fun k h1 _ => HBw0.out.block k h1)).low (HWS.out.later HBw0.out.size (fun k h1 _ => HBw0.out.block k h1)).low
  rw [HJV.out] at hc
  refine hc.mono ?_
  rintro e w1 ⟨rfl, hb⟩
  clear hc
  dsimp only
  have HXw1 := Lib.hid ((hb.block _ (lt_of_block HXw0.out)).trans HXw0.out)
  have HBw1 := Lib.hid (HBw0.out.trans (hb.mono HBw0.out.size))
  clear hb
  cases hv : validJb j with
  | false =>
    have HD := Lib.hid (roundsE_bad hv)
    rw [aloneD_bad hv]
    clear hv
    go_wp2_with fail
    exact bodyPost_ret (v := .tuple #[.slice none 0 0, .int .i64 1]) (by simp [results, Tryz.results20, go_sem]) rfl ⟨_, by rw [HD.out], by rw [HD.out]; exact ⟨none, 0, rfl, by simp, by decide, fun i hi => absurd hi (by simp)⟩, HBw1.out⟩
  | true =>
    rw [aloneE_ok hv]
    have HV := Lib.hid hv
    have hnw4 : nw ≤ 4 := by rw [HN.out.2]; exact (validJb_parts hv).2.1
    have hrf := rounds_first hv (j := j)
    obtain ⟨al, hal⟩ : ∃ y, y = aloneN j := ⟨_, rfl⟩
    obtain ⟨ev, hev⟩ : ∃ y, y = everyD j := ⟨_, rfl⟩
    rw [← hal]
    rw [← hal, ← hev] at hrf
    have HAL := Lib.hid hal
    have HEV := Lib.hid hev
    have HRF := Lib.hid hrf
    clear hv hal hev hrf
    have c0 : w1.cell? ⟨w.heap.size, 0, none⟩ = some (.slice ao nb cap) := by rw [cell_of_row _ _ _ _ _ _ HXw1.out]; rfl
    have c1 : w1.cell? ⟨w.heap.size, 1, none⟩ = some (.int .i64 fl) := by rw [cell_of_row _ _ _ _ _ _ HXw1.out]; rfl
    have c2 : w1.cell? ⟨w.heap.size, 2, none⟩ = some (.int .i64 fh) := by rw [cell_of_row _ _ _ _ _ _ HXw1.out]; rfl
    have c3 : w1.cell? ⟨w.heap.size, 3, none⟩ = some (.slice ao2 nw cap2) := by rw [cell_of_row _ _ _ _ _ _ HXw1.out]; rfl
    go_wp2_with fail
    have hc := r12every_any j (by rw [← HN.out.2]; omega) (.slice ao nb cap) (.slice ao2 nw cap2) w1 (HWS.out.later HBw1.out.size (fun k h1 _ => HBw1.out.block k h1)).low
    rw [HJV.out, ← HEV.out] at hc
    refine hc.mono ?_
    rintro e w2 ⟨rfl, hb⟩
    clear hc c0 c1 c2 c3
    dsimp only
    have HXw2 := Lib.hid ((hb.block _ (lt_of_block HXw1.out)).trans HXw1.out)
    have HBw2 := Lib.hid (HBw1.out.trans (hb.mono HBw1.out.size))
    clear hb
    by_cases hae : al = ev
    · subst hae
      have c0 : w2.cell? ⟨w.heap.size, 0, none⟩ = some (.slice ao nb cap) := by rw [cell_of_row _ _ _ _ _ _ HXw2.out]; rfl
      have c1 : w2.cell? ⟨w.heap.size, 1, none⟩ = some (.int .i64 fl) := by rw [cell_of_row _ _ _ _ _ _ HXw2.out]; rfl
      have c2 : w2.cell? ⟨w.heap.size, 2, none⟩ = some (.int .i64 fh) := by rw [cell_of_row _ _ _ _ _ _ HXw2.out]; rfl
      have c3 : w2.cell? ⟨w.heap.size, 3, none⟩ = some (.slice ao2 nw cap2) := by rw [cell_of_row _ _ _ _ _ _ HXw2.out]; rfl
      go_wp2_with fail
      have hc := r12lists_any (B := w2.heap.size) hnw4 nw [] (.slice none 0 0) (.slice none 0 0) [] w2 (by simp) (by decide) (by have : 5 ^ nw ≤ 5 ^ 4 := Nat.pow_le_pow_right (by decide) hnw4; simp; omega) (Nat.le_refl _) ⟨none, 0, rfl, by simp, by decide, fun i hi => absurd hi (by simp)⟩ rfl (OutR.nil _ _)
      refine hc.mono ?_
      rintro e w3 ⟨v', rfl, ho, hk, hw⟩
      clear hc c0 c1 c2 c3
      dsimp only
      rw [List.nil_append] at ho
      obtain ⟨a6, c6, rfl⟩ := ho.shape
      have hb : Below w2.heap.size w2 w3 := hk.below (Nat.le_refl _) (fun q _ e => by simp [Value.ownBlock] at e)
      have HXw3 := Lib.hid ((hb.block _ (lt_of_block HXw2.out)).trans HXw2.out)
      have HBw3 := Lib.hid (HBw2.out.trans (hb.mono HBw2.out.size))
      clear hb
      have hmem := fun p => (lists_mem nw [] p)
      have hlen := lists_len nw [] (by decide) (by simp; omega)
      obtain ⟨pl, hpl⟩ : ∃ l, l = listsL nw [] := ⟨_, rfl⟩
      rw [← hpl] at ho hmem hlen ⊢
      obtain ⟨l0, hrd, hm0, hg0, hfin⟩ := HRF.out trivial pl (by rw [hpl, HN.out.2]) (goodE j) (goodE_iff j)
      have HFIN := Lib.hid (And.intro hrd (And.intro hm0 (And.intro hg0 hfin)))
      have HOUT := Lib.hid ho
      have hshort : ∀ p ∈ pl, p.length = j.ws.length ∧ ∀ x ∈ p, x ≤ 1000 := fun p hp => by
        obtain ⟨t, ht, hlt, hgt⟩ := (hmem p).1 hp
        rw [List.nil_append] at ht
        subst ht
        refine ⟨by rw [hlt, HN.out.2], fun x hx => ?_⟩
        have h1 := (numbers_ge p 0).2 x hx
        have h2 := grow_numbers p 0 hgt
        omega
      have HSH := Lib.hid hshort
      obtain ⟨np, hnp⟩ : ∃ n, n = pl.length := ⟨_, rfl⟩
      have hnp6 : np ≤ 1000 := by rw [hnp]; have : 5 ^ nw ≤ 5 ^ 4 := Nat.pow_le_pow_right (by decide) hnw4; omega
      rw [← hnp]
      have HNP := Lib.hid hnp
      clear ho hk hw hmem hlen hrd hm0 hg0 hfin hshort hnp hpl
      go_wp2_with fail
      go_loopw [7, 8] (fun bv iv wr => ∃ i : Nat, i ≤ np ∧ iv = .int .i64 i ∧ wr.heap[w.heap.size]? = some (.cells #[.slice ao nb cap, .int .i64 fl, .int .i64 fh, .slice ao2 nw cap2] 28 (0, 0)) ∧ Below w.heap.size w wr ∧ Below w3.heap.size w3 wr ∧ BestR j pl i bv) (fun _ iv _ => np - (intOf iv).toNat)
      case atStart => exact ⟨0, Nat.zero_le _, rfl, HXw3.out, HBw3.out, Below.refl _ _, .inl ⟨rfl, fun s _ h => absurd h (by omega)⟩⟩
      case round =>
        obtain ⟨i, hi, rfl, hx, hb, hb2, hbr⟩ := hrel
        have HXwr := Lib.hid hx
        have HBwr := Lib.hid hb
        have HB2 := Lib.hid hb2
        have HBR0 := Lib.hid hbr
        clear hx hb hb2
        by_cases hlt : i < np
        · have hw : IntKind.i64.wrap ((i : Int) + 1) = ((i + 1 : Nat) : Int) := by rw [IntWalk.i64_in _ (by omega)]; omega
          have hlti : (i : Int) < (np : Int) := by omega
          have hii0 : 0 ≤ (i : Int) := by omega
          have hil : i < pl.length := by rw [← HNP.out]; exact hlt
          have hor := HOUT.out.below HB2.out
          obtain ⟨g, u, hae, e1, hnu⟩ := hor.read i hil
          have hpf := HSH.out pl[i] (List.getElem_mem hil)
          obtain ⟨p, hp⟩ : ∃ y, y = pl[i] := ⟨_, rfl⟩
          rw [← hp] at hnu hpf
          have HPF := Lib.hid hpf
          have HPE := Lib.hid hp
          have HNU := Lib.hid hnu
          have HCU := Lib.hid (show wr.cell? ⟨g, i, none⟩ = some u by have := e1; rwa [Nat.zero_add] at this)
          rcases id hbr with ⟨hb1, _⟩ | ⟨i0, h0, hi0, hb1, _, _⟩
          · have HBR := Lib.hid (show BestR j pl i (.int .i64 (-1)) by rw [← hb1]; exact HBR0.out)
            have HCU0 := HCU
            subst hae
            rw [hb1]
            clear hbr hb1 HBR0 hor e1 hnu hpf hp
            go_upto_region 11 with fail
            have hS0 : SRn w.heap.size (.slice ao nb cap) (.slice ao2 nw cap2) fl fh g i i u u wr := ⟨by rw [cell_of_row _ _ _ _ _ _ HXwr.out]; rfl, by rw [cell_of_row _ _ _ _ _ _ HXwr.out]; rfl, by rw [cell_of_row _ _ _ _ _ _ HXwr.out]; rfl, by rw [cell_of_row _ _ _ _ _ _ HXwr.out]; rfl, HCU.out, HCU0.out⟩
            have HS0 := Lib.hid hS0
            clear hS0
            refine wp_region_held_drew (S := SRn w.heap.size (.slice ao nb cap) (.slice ao2 nw cap2) fl fh g i i u u) (by kernel_rfl) (HS0.out.below (Below.refl _ _).drew) fun hS => ?_
            obtain ⟨D, hD⟩ : ∃ D, D = World.drew wr := ⟨_, rfl⟩
            have hb : Below wr.heap.size wr D := by rw [hD]; exact (Below.refl _ _).drew
            rw [← hD] at hS ⊢
            have HXD := Lib.hid ((hb.block _ (lt_of_block HXwr.out)).trans HXwr.out)
            have HBD := Lib.hid (HBwr.out.trans (hb.mono HBwr.out.size))
            have HB2D := Lib.hid (HB2.out.trans (hb.mono HB2.out.size))
            have HNUD := Lib.hid (HNU.out.later hb.size (fun k h _ => hb.block k h)).lowE
            have HSZ := Lib.hid hb
            clear hD hb HS0
            refine wpAnyH_take (i := 0) (v := ?_) rfl (by kernel_rfl) (by kernel_rfl) (by kernel_rfl) (fun _ _ _ h => h) (Or.inl ⟨by rfl, ?_⟩) hS ?_
            rotate_left
            · (intro W hSw; obtain ⟨q0, q1, q2, q3, q4, q5⟩ := hSw; go_simp; try with_reducible rfl)
            try simp only [List.getElem_toArray, List.getElem_cons_succ, List.getElem_cons_zero, Act.put, List.setIfInBounds_toArray, List.set_cons_zero, List.set_cons_succ]
            refine wpAnyH_take (i := 1) (v := ?_) rfl (by kernel_rfl) (by kernel_rfl) (by kernel_rfl) (fun _ _ _ h => h) (Or.inl ⟨by rfl, ?_⟩) hS ?_
            rotate_left
            · (intro W hSw; obtain ⟨q0, q1, q2, q3, q4, q5⟩ := hSw; go_simp; try with_reducible rfl)
            try simp only [List.getElem_toArray, List.getElem_cons_succ, List.getElem_cons_zero, Act.put, List.setIfInBounds_toArray, List.set_cons_zero, List.set_cons_succ]
            refine wpAnyH_take (i := 2) (v := ?_) rfl (by kernel_rfl) (by kernel_rfl) (by kernel_rfl) (fun _ _ _ h => h) (Or.inl ⟨by rfl, ?_⟩) hS ?_
            rotate_left
            · (intro W hSw; obtain ⟨q0, q1, q2, q3, q4, q5⟩ := hSw; go_simp; try with_reducible rfl)
            try simp only [List.getElem_toArray, List.getElem_cons_succ, List.getElem_cons_zero, Act.put, List.setIfInBounds_toArray, List.set_cons_zero, List.set_cons_succ]
            refine wpAnyH_take (i := 3) (v := undef) rfl (by kernel_rfl) (by kernel_rfl) (by kernel_rfl) (fun _ _ _ h => h) (Or.inr ⟨by rfl, rfl⟩) hS ?_
            try simp only [List.getElem_toArray, List.getElem_cons_succ, List.getElem_cons_zero, Act.put, List.setIfInBounds_toArray, List.set_cons_zero, List.set_cons_succ]
            refine wpAnyH_take (i := 4) (v := undef) rfl (by kernel_rfl) (by kernel_rfl) (by kernel_rfl) (fun _ _ _ h => h) (Or.inr ⟨by rfl, rfl⟩) hS ?_
            try simp only [List.getElem_toArray, List.getElem_cons_succ, List.getElem_cons_zero, Act.put, List.setIfInBounds_toArray, List.set_cons_zero, List.set_cons_succ]
            refine wpAnyH_take (i := 5) (v := undef) rfl (by kernel_rfl) (by kernel_rfl) (by kernel_rfl) (fun _ _ _ h => h) (Or.inr ⟨by rfl, rfl⟩) hS ?_
            try simp only [List.getElem_toArray, List.getElem_cons_succ, List.getElem_cons_zero, Act.put, List.setIfInBounds_toArray, List.set_cons_zero, List.set_cons_succ]
            refine wpAnyH_take (i := 6) (v := undef) rfl (by kernel_rfl) (by kernel_rfl) (by kernel_rfl) (fun _ _ _ h => h) (Or.inr ⟨by rfl, rfl⟩) hS ?_
            try simp only [List.getElem_toArray, List.getElem_cons_succ, List.getElem_cons_zero, Act.put, List.setIfInBounds_toArray, List.set_cons_zero, List.set_cons_succ]
            refine wpAnyH_take (i := 7) (v := undef) rfl (by kernel_rfl) (by kernel_rfl) (by kernel_rfl) (fun _ _ _ h => h) (Or.inr ⟨by rfl, rfl⟩) hS ?_
            try simp only [List.getElem_toArray, List.getElem_cons_succ, List.getElem_cons_zero, Act.put, List.setIfInBounds_toArray, List.set_cons_zero, List.set_cons_succ]
            refine wpAnyH_take (i := 8) (v := undef) rfl (by kernel_rfl) (by kernel_rfl) (by kernel_rfl) (fun _ _ _ h => h) (Or.inr ⟨by rfl, rfl⟩) hS ?_
            try simp only [List.getElem_toArray, List.getElem_cons_succ, List.getElem_cons_zero, Act.put, List.setIfInBounds_toArray, List.set_cons_zero, List.set_cons_succ]
            refine wpAnyH_take (i := 9) (v := undef) rfl (by kernel_rfl) (by kernel_rfl) (by kernel_rfl) (fun _ _ _ h => h) (Or.inr ⟨by rfl, rfl⟩) hS ?_
            try simp only [List.getElem_toArray, List.getElem_cons_succ, List.getElem_cons_zero, Act.put, List.setIfInBounds_toArray, List.set_cons_zero, List.set_cons_succ]
            refine wpAnyH_take (i := 10) (v := undef) rfl (by kernel_rfl) (by kernel_rfl) (by kernel_rfl) (fun _ _ _ h => h) (Or.inr ⟨by rfl, rfl⟩) hS ?_
            try simp only [List.getElem_toArray, List.getElem_cons_succ, List.getElem_cons_zero, Act.put, List.setIfInBounds_toArray, List.set_cons_zero, List.set_cons_succ]
            refine wpAnyH_take (i := 11) (v := undef) rfl (by kernel_rfl) (by kernel_rfl) (by kernel_rfl) (fun _ _ _ h => h) (Or.inr ⟨by rfl, rfl⟩) hS ?_
            try simp only [List.getElem_toArray, List.getElem_cons_succ, List.getElem_cons_zero, Act.put, List.setIfInBounds_toArray, List.set_cons_zero, List.set_cons_succ]
            refine wpAnyH_take (i := 12) (v := undef) rfl (by kernel_rfl) (by kernel_rfl) (by kernel_rfl) (fun _ _ _ h => h) (Or.inr ⟨by rfl, rfl⟩) hS ?_
            try simp only [List.getElem_toArray, List.getElem_cons_succ, List.getElem_cons_zero, Act.put, List.setIfInBounds_toArray, List.set_cons_zero, List.set_cons_succ]
            refine wpAnyH_take (i := 13) (v := undef) rfl (by kernel_rfl) (by kernel_rfl) (by kernel_rfl) (fun _ _ _ h => h) (Or.inr ⟨by rfl, rfl⟩) hS ?_
            try simp only [List.getElem_toArray, List.getElem_cons_succ, List.getElem_cons_zero, Act.put, List.setIfInBounds_toArray, List.set_cons_zero, List.set_cons_succ]
            refine wpAnyH_take (i := 14) (v := ?_) rfl (by kernel_rfl) (by kernel_rfl) (by kernel_rfl) (fun _ _ _ h => h) (Or.inl ⟨by rfl, ?_⟩) hS ?_
            rotate_left
            · (intro W hSw; obtain ⟨q0, q1, q2, q3, q4, q5⟩ := hSw; go_simp; try with_reducible rfl)
            try simp only [List.getElem_toArray, List.getElem_cons_succ, List.getElem_cons_zero, Act.put, List.setIfInBounds_toArray, List.set_cons_zero, List.set_cons_succ]
            refine wpAnyH_take (i := 15) (v := ?_) rfl (by kernel_rfl) (by kernel_rfl) (by kernel_rfl) (fun _ _ _ h => h) (Or.inl ⟨by rfl, ?_⟩) hS ?_
            rotate_left
            · (intro W hSw; obtain ⟨q0, q1, q2, q3, q4, q5⟩ := hSw; go_simp; try with_reducible rfl)
            try simp only [List.getElem_toArray, List.getElem_cons_succ, List.getElem_cons_zero, Act.put, List.setIfInBounds_toArray, List.set_cons_zero, List.set_cons_succ]
            refine wpAnyH_take (i := 16) (v := ?_) rfl (by kernel_rfl) (by kernel_rfl) (by kernel_rfl) (fun _ _ _ h => h) (Or.inl ⟨by rfl, ?_⟩) hS ?_
            rotate_left
            · (intro W hSw; obtain ⟨q0, q1, q2, q3, q4, q5⟩ := hSw; go_simp; try with_reducible rfl)
            try simp only [List.getElem_toArray, List.getElem_cons_succ, List.getElem_cons_zero, Act.put, List.setIfInBounds_toArray, List.set_cons_zero, List.set_cons_succ]
            refine wpAnyH_take (i := 17) (v := ?_) rfl (by kernel_rfl) (by kernel_rfl) (by kernel_rfl) (fun _ _ _ h => h) (Or.inl ⟨by rfl, ?_⟩) hS ?_
            rotate_left
            · (intro W hSw; obtain ⟨q0, q1, q2, q3, q4, q5⟩ := hSw; go_simp; try with_reducible rfl)
            try simp only [List.getElem_toArray, List.getElem_cons_succ, List.getElem_cons_zero, Act.put, List.setIfInBounds_toArray, List.set_cons_zero, List.set_cons_succ]
            refine wpAnyH_take (i := 18) (v := ?_) rfl (by kernel_rfl) (by kernel_rfl) (by kernel_rfl) (fun _ _ _ h => h) (Or.inl ⟨by rfl, ?_⟩) hS ?_
            rotate_left
            · (intro W hSw; obtain ⟨q0, q1, q2, q3, q4, q5⟩ := hSw; go_simp; try with_reducible rfl)
            try simp only [List.getElem_toArray, List.getElem_cons_succ, List.getElem_cons_zero, Act.put, List.setIfInBounds_toArray, List.set_cons_zero, List.set_cons_succ]
            refine wpAnyH_take (i := 19) (v := ?_) rfl (by kernel_rfl) (by kernel_rfl) (by kernel_rfl) (fun _ _ _ h => h) (Or.inl ⟨by rfl, ?_⟩) hS ?_
            rotate_left
            · (intro W hSw; obtain ⟨q0, q1, q2, q3, q4, q5⟩ := hSw; go_simp; try with_reducible rfl)
            try simp only [List.getElem_toArray, List.getElem_cons_succ, List.getElem_cons_zero, Act.put, List.setIfInBounds_toArray, List.set_cons_zero, List.set_cons_succ]
            refine wpAnyH_take (i := 20) (v := ?_) rfl (by kernel_rfl) (by kernel_rfl) (by kernel_rfl) (fun _ _ _ h => h) (Or.inl ⟨by rfl, ?_⟩) hS ?_
            rotate_left
            · (intro W hSw; obtain ⟨q0, q1, q2, q3, q4, q5⟩ := hSw; go_simp; try with_reducible rfl)
            try simp only [List.getElem_toArray, List.getElem_cons_succ, List.getElem_cons_zero, Act.put, List.setIfInBounds_toArray, List.set_cons_zero, List.set_cons_succ]
            have hc := r12rounds_any j HV.out (H18.out HV.out) p (by rw [HPF.out.1, ← HN.out.2]; omega) HPF.out.2 (.slice ao nb cap) (.slice ao2 nw cap2) u D (HBS.out.later HBD.out.size (fun k h1 _ => HBD.out.block k h1)).low (HWS.out.later HBD.out.size (fun k h1 _ => HBD.out.block k h1)).low HNUD.out
            rw [HJV.out] at hc
            refine wpAnyH_call (k := 21) (by kernel_rfl) rfl rfl (f := 59) (args := #[.agg #[.slice ao nb cap, .int .i64 fl, .int .i64 fh, .slice ao2 nw cap2], u]) (by simp [execOp, go_sem, Act.eval, Act.put]) ?_
            refine hc.mono ?_
            rintro e w9 ⟨rfl, hb⟩
            clear hc
            dsimp only
            have HB29 := Lib.hid (HB2D.out.trans (hb.mono HB2D.out.size))
            have HXw9 := Lib.hid ((hb.block _ (lt_of_block HXD.out)).trans HXD.out)
            have HBw9 := Lib.hid (HBD.out.trans (hb.mono HBD.out.size))
            have hS9 := hS.below hb
            clear hb hS
            refine ⟨hS9, ?_⟩
            have hS := hS9
            clear hS9
            try simp only [List.getElem_toArray, List.getElem_cons_succ, List.getElem_cons_zero, Act.put, List.setIfInBounds_toArray, List.set_cons_zero, List.set_cons_succ]
            cases hgp : goodE j p with
            | true =>
              have HGP := Lib.hid hgp
              clear hgp
              refine wpAnyH_take (i := 22) (v := ?_) rfl (by kernel_rfl) (by kernel_rfl) (by kernel_rfl) (fun _ _ _ h => h) (Or.inl ⟨by rfl, ?_⟩) hS ?_
              rotate_left
              · (intro W hSw; obtain ⟨q0, q1, q2, q3, q4, q5⟩ := hSw; go_simp; try with_reducible rfl)
              try simp only [List.getElem_toArray, List.getElem_cons_succ, List.getElem_cons_zero, Act.put, List.setIfInBounds_toArray, List.set_cons_zero, List.set_cons_succ]
              refine wpAnyH_done (by kernel_rfl) ?_ _
              try simp only [List.getElem_toArray, List.getElem_cons_succ, List.getElem_cons_zero, Act.put, List.setIfInBounds_toArray, List.set_cons_zero, List.set_cons_succ]
              clear hS
              go_wp2_with fail
              refine ⟨⟨i + 1, hlt, by push_cast; rfl, HXw9.out, HBw9.out, HB29.out, bestR_first HBR.out hil (by rw [← HPE.out]; exact HGP.out) (.inl rfl)⟩, by simp [intOf]; omega⟩
            | false =>
              have HGP := Lib.hid hgp
              clear hgp
              refine wpAnyH_take (i := 22) (v := ?_) rfl (by kernel_rfl) (by kernel_rfl) (by kernel_rfl) (fun _ _ _ h => h) (Or.inl ⟨by rfl, ?_⟩) hS ?_
              rotate_left
              · (intro W hSw; obtain ⟨q0, q1, q2, q3, q4, q5⟩ := hSw; go_simp; try with_reducible rfl)
              try simp only [List.getElem_toArray, List.getElem_cons_succ, List.getElem_cons_zero, Act.put, List.setIfInBounds_toArray, List.set_cons_zero, List.set_cons_succ]
              refine wpAnyH_done (by kernel_rfl) ?_ _
              try simp only [List.getElem_toArray, List.getElem_cons_succ, List.getElem_cons_zero, Act.put, List.setIfInBounds_toArray, List.set_cons_zero, List.set_cons_succ]
              clear hS
              go_wp2_with fail
              refine ⟨⟨i + 1, hlt, by push_cast; rfl, HXw9.out, HBw9.out, HB29.out, bestR_skip HBR.out hil (by rw [← HPE.out]; exact HGP.out)⟩, by simp [intOf]; omega⟩
          · obtain ⟨g', u0, hae', e2, hnu0⟩ := hor.read i0 h0
            have hgg : g = g' := by rw [hae] at hae'; injection hae' with h; injection h with h _ _
            subst hgg
            have hpf0 := HSH.out pl[i0] (List.getElem_mem h0)
            obtain ⟨p0, hp0⟩ : ∃ y, y = pl[i0] := ⟨_, rfl⟩
            rw [← hp0] at hnu0 hpf0
            have HBR := Lib.hid (show BestR j pl i (.int .i64 i0) by rw [← hb1]; exact HBR0.out)
            have HPF0 := Lib.hid hpf0
            have HI0 := Lib.hid (And.intro h0 hp0)
            have HNU0 := Lib.hid hnu0
            have HCU0 := Lib.hid (show wr.cell? ⟨g, i0, none⟩ = some u0 by have := e2; rwa [Nat.zero_add] at this)
            have hneg : ¬ (i0 : Int) < 0 := by omega
            have hi00 : 0 ≤ (i0 : Int) := by omega
            have hi0n : (i0 : Int) < (np : Int) := by omega
            subst hae
            rw [hb1]
            clear hbr hb1 HBR0 hor e1 hnu hpf hp hae' e2 hnu0 hpf0 hp0
            go_upto_region 11 with fail
            have HNU0W := HNU0
            have hS0 : SRn w.heap.size (.slice ao nb cap) (.slice ao2 nw cap2) fl fh g i i0 u u0 wr := ⟨by rw [cell_of_row _ _ _ _ _ _ HXwr.out]; rfl, by rw [cell_of_row _ _ _ _ _ _ HXwr.out]; rfl, by rw [cell_of_row _ _ _ _ _ _ HXwr.out]; rfl, by rw [cell_of_row _ _ _ _ _ _ HXwr.out]; rfl, HCU.out, HCU0.out⟩
            have HS0 := Lib.hid hS0
            clear hS0
            refine wp_region_held_drew (S := SRn w.heap.size (.slice ao nb cap) (.slice ao2 nw cap2) fl fh g i i0 u u0) (by kernel_rfl) (HS0.out.below (Below.refl _ _).drew) fun hS => ?_
            obtain ⟨D, hD⟩ : ∃ D, D = World.drew wr := ⟨_, rfl⟩
            have hb : Below wr.heap.size wr D := by rw [hD]; exact (Below.refl _ _).drew
            rw [← hD] at hS ⊢
            have HXD := Lib.hid ((hb.block _ (lt_of_block HXwr.out)).trans HXwr.out)
            have HBD := Lib.hid (HBwr.out.trans (hb.mono HBwr.out.size))
            have HB2D := Lib.hid (HB2.out.trans (hb.mono HB2.out.size))
            have HNUD := Lib.hid (HNU.out.later hb.size (fun k h _ => hb.block k h)).lowE
            have HSZ := Lib.hid hb
            clear hD hb HS0
            have HNU0D := Lib.hid (HNU0W.out.later (W := D) HSZ.out.size (fun k h _ => HSZ.out.block k h)).lowE
            refine wpAnyH_take (i := 0) (v := ?_) rfl (by kernel_rfl) (by kernel_rfl) (by kernel_rfl) (fun _ _ _ h => h) (Or.inl ⟨by rfl, ?_⟩) hS ?_
            rotate_left
            · (intro W hSw; obtain ⟨q0, q1, q2, q3, q4, q5⟩ := hSw; go_simp; try with_reducible rfl)
            try simp only [List.getElem_toArray, List.getElem_cons_succ, List.getElem_cons_zero, Act.put, List.setIfInBounds_toArray, List.set_cons_zero, List.set_cons_succ]
            refine wpAnyH_take (i := 1) (v := ?_) rfl (by kernel_rfl) (by kernel_rfl) (by kernel_rfl) (fun _ _ _ h => h) (Or.inl ⟨by rfl, ?_⟩) hS ?_
            rotate_left
            · (intro W hSw; obtain ⟨q0, q1, q2, q3, q4, q5⟩ := hSw; go_simp; try with_reducible rfl)
            try simp only [List.getElem_toArray, List.getElem_cons_succ, List.getElem_cons_zero, Act.put, List.setIfInBounds_toArray, List.set_cons_zero, List.set_cons_succ]
            refine wpAnyH_take (i := 2) (v := ?_) rfl (by kernel_rfl) (by kernel_rfl) (by kernel_rfl) (fun _ _ _ h => h) (Or.inl ⟨by rfl, ?_⟩) hS ?_
            rotate_left
            · (intro W hSw; obtain ⟨q0, q1, q2, q3, q4, q5⟩ := hSw; go_simp; try with_reducible rfl)
            try simp only [List.getElem_toArray, List.getElem_cons_succ, List.getElem_cons_zero, Act.put, List.setIfInBounds_toArray, List.set_cons_zero, List.set_cons_succ]
            refine wpAnyH_take (i := 3) (v := ?_) rfl (by kernel_rfl) (by kernel_rfl) (by kernel_rfl) (fun _ _ _ h => h) (Or.inl ⟨by rfl, ?_⟩) hS ?_
            rotate_left
            · (intro W hSw; obtain ⟨q0, q1, q2, q3, q4, q5⟩ := hSw; go_simp; try with_reducible rfl)
            try simp only [List.getElem_toArray, List.getElem_cons_succ, List.getElem_cons_zero, Act.put, List.setIfInBounds_toArray, List.set_cons_zero, List.set_cons_succ]
            refine wpAnyH_take (i := 4) (v := ?_) rfl (by kernel_rfl) (by kernel_rfl) (by kernel_rfl) (fun _ _ _ h => h) (Or.inl ⟨by rfl, ?_⟩) hS ?_
            rotate_left
            · (intro W hSw; obtain ⟨q0, q1, q2, q3, q4, q5⟩ := hSw; go_simp; try with_reducible rfl)
            try simp only [List.getElem_toArray, List.getElem_cons_succ, List.getElem_cons_zero, Act.put, List.setIfInBounds_toArray, List.set_cons_zero, List.set_cons_succ]
            refine wpAnyH_take (i := 5) (v := ?_) rfl (by kernel_rfl) (by kernel_rfl) (by kernel_rfl) (fun _ _ _ h => h) (Or.inl ⟨by rfl, ?_⟩) hS ?_
            rotate_left
            · (intro W hSw; obtain ⟨q0, q1, q2, q3, q4, q5⟩ := hSw; go_simp; try with_reducible rfl)
            try simp only [List.getElem_toArray, List.getElem_cons_succ, List.getElem_cons_zero, Act.put, List.setIfInBounds_toArray, List.set_cons_zero, List.set_cons_succ]
            refine wpAnyH_take (i := 6) (v := ?_) rfl (by kernel_rfl) (by kernel_rfl) (by kernel_rfl) (fun _ _ _ h => h) (Or.inl ⟨by rfl, ?_⟩) hS ?_
            rotate_left
            · (intro W hSw; obtain ⟨q0, q1, q2, q3, q4, q5⟩ := hSw; go_simp; try with_reducible rfl)
            try simp only [List.getElem_toArray, List.getElem_cons_succ, List.getElem_cons_zero, Act.put, List.setIfInBounds_toArray, List.set_cons_zero, List.set_cons_succ]
            refine wpAnyH_take (i := 8) (v := ?_) rfl (by kernel_rfl) (by kernel_rfl) (by kernel_rfl) (fun _ _ _ h => h) (Or.inl ⟨by rfl, ?_⟩) hS ?_
            rotate_left
            · (intro W hSw; obtain ⟨q0, q1, q2, q3, q4, q5⟩ := hSw; go_simp; try with_reducible rfl)
            try simp only [List.getElem_toArray, List.getElem_cons_succ, List.getElem_cons_zero, Act.put, List.setIfInBounds_toArray, List.set_cons_zero, List.set_cons_succ]
            refine wpAnyH_take (i := 9) (v := ?_) rfl (by kernel_rfl) (by kernel_rfl) (by kernel_rfl) (fun _ _ _ h => h) (Or.inl ⟨by rfl, ?_⟩) hS ?_
            rotate_left
            · (intro W hSw; obtain ⟨q0, q1, q2, q3, q4, q5⟩ := hSw; go_simp; try with_reducible rfl)
            try simp only [List.getElem_toArray, List.getElem_cons_succ, List.getElem_cons_zero, Act.put, List.setIfInBounds_toArray, List.set_cons_zero, List.set_cons_succ]
            refine wpAnyH_take (i := 10) (v := ?_) rfl (by kernel_rfl) (by kernel_rfl) (by kernel_rfl) (fun _ _ _ h => h) (Or.inl ⟨by rfl, ?_⟩) hS ?_
            rotate_left
            · (intro W hSw; obtain ⟨q0, q1, q2, q3, q4, q5⟩ := hSw; go_simp; try with_reducible rfl)
            try simp only [List.getElem_toArray, List.getElem_cons_succ, List.getElem_cons_zero, Act.put, List.setIfInBounds_toArray, List.set_cons_zero, List.set_cons_succ]
            refine wpAnyH_take (i := 11) (v := ?_) rfl (by kernel_rfl) (by kernel_rfl) (by kernel_rfl) (fun _ _ _ h => h) (Or.inl ⟨by rfl, ?_⟩) hS ?_
            rotate_left
            · (intro W hSw; obtain ⟨q0, q1, q2, q3, q4, q5⟩ := hSw; go_simp; try with_reducible rfl)
            try simp only [List.getElem_toArray, List.getElem_cons_succ, List.getElem_cons_zero, Act.put, List.setIfInBounds_toArray, List.set_cons_zero, List.set_cons_succ]
            refine wpAnyH_call (k := 7) (by kernel_rfl) rfl rfl (f := 58) (args := #[u]) (by simp [execOp, go_sem, Act.eval, Act.put]) ?_
            refine (r12numbers_any p u _ (by rw [HPF.out.1, ← HN.out.2]; omega) HPF.out.2 D HNUD.out).mono ?_
            rintro e w' ⟨rfl, rfl⟩
            dsimp only
            obtain ⟨z, hze⟩ : ∃ z, z = numbersJ p := ⟨_, rfl⟩
            rw [← hze]
            refine ⟨hS, ?_⟩
            try simp only [List.getElem_toArray, List.getElem_cons_succ, List.getElem_cons_zero, Act.put, List.setIfInBounds_toArray, List.set_cons_zero, List.set_cons_succ]
            refine wpAnyH_call (k := 12) (by kernel_rfl) rfl rfl (f := 58) (args := #[u0]) (by simp [execOp, go_sem, Act.eval, Act.put]) ?_
            refine (r12numbers_any p0 u0 _ (by rw [HPF0.out.1, ← HN.out.2]; omega) HPF0.out.2 D HNU0D.out).mono ?_
            rintro e w' ⟨rfl, rfl⟩
            dsimp only
            obtain ⟨z0, hz0e⟩ : ∃ z, z = numbersJ p0 := ⟨_, rfl⟩
            rw [← hz0e]
            have HZ := Lib.hid (And.intro hze hz0e)
            clear hze hz0e
            refine ⟨hS, ?_⟩
            try simp only [List.getElem_toArray, List.getElem_cons_succ, List.getElem_cons_zero, Act.put, List.setIfInBounds_toArray, List.set_cons_zero, List.set_cons_succ]
            by_cases hz : z < z0
            · have hzi : (z : Int) < (z0 : Int) := by omega
              refine wpAnyH_take (i := 13) (v := ?_) rfl (by kernel_rfl) (by kernel_rfl) (by kernel_rfl) (fun _ _ _ h => h) (Or.inl ⟨by rfl, ?_⟩) hS ?_
              rotate_left
              · (intro W hSw; obtain ⟨q0, q1, q2, q3, q4, q5⟩ := hSw; go_simp; try with_reducible rfl)
              try simp only [List.getElem_toArray, List.getElem_cons_succ, List.getElem_cons_zero, Act.put, List.setIfInBounds_toArray, List.set_cons_zero, List.set_cons_succ]
              refine wpAnyH_take (i := 14) (v := ?_) rfl (by kernel_rfl) (by kernel_rfl) (by kernel_rfl) (fun _ _ _ h => h) (Or.inl ⟨by rfl, ?_⟩) hS ?_
              rotate_left
              · (intro W hSw; obtain ⟨q0, q1, q2, q3, q4, q5⟩ := hSw; go_simp; try with_reducible rfl)
              try simp only [List.getElem_toArray, List.getElem_cons_succ, List.getElem_cons_zero, Act.put, List.setIfInBounds_toArray, List.set_cons_zero, List.set_cons_succ]
              refine wpAnyH_take (i := 15) (v := ?_) rfl (by kernel_rfl) (by kernel_rfl) (by kernel_rfl) (fun _ _ _ h => h) (Or.inl ⟨by rfl, ?_⟩) hS ?_
              rotate_left
              · (intro W hSw; obtain ⟨q0, q1, q2, q3, q4, q5⟩ := hSw; go_simp; try with_reducible rfl)
              try simp only [List.getElem_toArray, List.getElem_cons_succ, List.getElem_cons_zero, Act.put, List.setIfInBounds_toArray, List.set_cons_zero, List.set_cons_succ]
              refine wpAnyH_take (i := 16) (v := ?_) rfl (by kernel_rfl) (by kernel_rfl) (by kernel_rfl) (fun _ _ _ h => h) (Or.inl ⟨by rfl, ?_⟩) hS ?_
              rotate_left
              · (intro W hSw; obtain ⟨q0, q1, q2, q3, q4, q5⟩ := hSw; go_simp; try with_reducible rfl)
              try simp only [List.getElem_toArray, List.getElem_cons_succ, List.getElem_cons_zero, Act.put, List.setIfInBounds_toArray, List.set_cons_zero, List.set_cons_succ]
              refine wpAnyH_take (i := 17) (v := ?_) rfl (by kernel_rfl) (by kernel_rfl) (by kernel_rfl) (fun _ _ _ h => h) (Or.inl ⟨by rfl, ?_⟩) hS ?_
              rotate_left
              · (intro W hSw; obtain ⟨q0, q1, q2, q3, q4, q5⟩ := hSw; go_simp; try with_reducible rfl)
              try simp only [List.getElem_toArray, List.getElem_cons_succ, List.getElem_cons_zero, Act.put, List.setIfInBounds_toArray, List.set_cons_zero, List.set_cons_succ]
              refine wpAnyH_take (i := 18) (v := ?_) rfl (by kernel_rfl) (by kernel_rfl) (by kernel_rfl) (fun _ _ _ h => h) (Or.inl ⟨by rfl, ?_⟩) hS ?_
              rotate_left
              · (intro W hSw; obtain ⟨q0, q1, q2, q3, q4, q5⟩ := hSw; go_simp; try with_reducible rfl)
              try simp only [List.getElem_toArray, List.getElem_cons_succ, List.getElem_cons_zero, Act.put, List.setIfInBounds_toArray, List.set_cons_zero, List.set_cons_succ]
              refine wpAnyH_take (i := 19) (v := ?_) rfl (by kernel_rfl) (by kernel_rfl) (by kernel_rfl) (fun _ _ _ h => h) (Or.inl ⟨by rfl, ?_⟩) hS ?_
              rotate_left
              · (intro W hSw; obtain ⟨q0, q1, q2, q3, q4, q5⟩ := hSw; go_simp; try with_reducible rfl)
              try simp only [List.getElem_toArray, List.getElem_cons_succ, List.getElem_cons_zero, Act.put, List.setIfInBounds_toArray, List.set_cons_zero, List.set_cons_succ]
              refine wpAnyH_take (i := 20) (v := ?_) rfl (by kernel_rfl) (by kernel_rfl) (by kernel_rfl) (fun _ _ _ h => h) (Or.inl ⟨by rfl, ?_⟩) hS ?_
              rotate_left
              · (intro W hSw; obtain ⟨q0, q1, q2, q3, q4, q5⟩ := hSw; go_simp; try with_reducible rfl)
              try simp only [List.getElem_toArray, List.getElem_cons_succ, List.getElem_cons_zero, Act.put, List.setIfInBounds_toArray, List.set_cons_zero, List.set_cons_succ]
              have hc := r12rounds_any j HV.out (H18.out HV.out) p (by rw [HPF.out.1, ← HN.out.2]; omega) HPF.out.2 (.slice ao nb cap) (.slice ao2 nw cap2) u D (HBS.out.later HBD.out.size (fun k h1 _ => HBD.out.block k h1)).low (HWS.out.later HBD.out.size (fun k h1 _ => HBD.out.block k h1)).low HNUD.out
              rw [HJV.out] at hc
              refine wpAnyH_call (k := 21) (by kernel_rfl) rfl rfl (f := 59) (args := #[.agg #[.slice ao nb cap, .int .i64 fl, .int .i64 fh, .slice ao2 nw cap2], u]) (by simp [execOp, go_sem, Act.eval, Act.put]) ?_
              refine hc.mono ?_
              rintro e w9 ⟨rfl, hb⟩
              clear hc
              dsimp only
              have HB29 := Lib.hid (HB2D.out.trans (hb.mono HB2D.out.size))
              have HXw9 := Lib.hid ((hb.block _ (lt_of_block HXD.out)).trans HXD.out)
              have HBw9 := Lib.hid (HBD.out.trans (hb.mono HBD.out.size))
              have hS9 := hS.below hb
              clear hb hS
              refine ⟨hS9, ?_⟩
              have hS := hS9
              clear hS9
              try simp only [List.getElem_toArray, List.getElem_cons_succ, List.getElem_cons_zero, Act.put, List.setIfInBounds_toArray, List.set_cons_zero, List.set_cons_succ]
              cases hgp : goodE j p with
              | true =>
                have HGP := Lib.hid hgp
                clear hgp
                refine wpAnyH_take (i := 22) (v := ?_) rfl (by kernel_rfl) (by kernel_rfl) (by kernel_rfl) (fun _ _ _ h => h) (Or.inl ⟨by rfl, ?_⟩) hS ?_
                rotate_left
                · (intro W hSw; obtain ⟨q0, q1, q2, q3, q4, q5⟩ := hSw; go_simp; try with_reducible rfl)
                try simp only [List.getElem_toArray, List.getElem_cons_succ, List.getElem_cons_zero, Act.put, List.setIfInBounds_toArray, List.set_cons_zero, List.set_cons_succ]
                refine wpAnyH_done (by kernel_rfl) ?_ _
                try simp only [List.getElem_toArray, List.getElem_cons_succ, List.getElem_cons_zero, Act.put, List.setIfInBounds_toArray, List.set_cons_zero, List.set_cons_succ]
                clear hS
                go_wp2_with fail
                refine ⟨⟨i + 1, hlt, by push_cast; rfl, HXw9.out, HBw9.out, HB29.out, bestR_first HBR.out hil (by rw [← HPE.out]; exact HGP.out) (.inr ⟨i0, HI0.out.1, rfl, by rw [← HPE.out, ← HI0.out.2, ← HZ.out.1, ← HZ.out.2]; exact hz⟩)⟩, by simp [intOf]; omega⟩
              | false =>
                have HGP := Lib.hid hgp
                clear hgp
                refine wpAnyH_take (i := 22) (v := ?_) rfl (by kernel_rfl) (by kernel_rfl) (by kernel_rfl) (fun _ _ _ h => h) (Or.inl ⟨by rfl, ?_⟩) hS ?_
                rotate_left
                · (intro W hSw; obtain ⟨q0, q1, q2, q3, q4, q5⟩ := hSw; go_simp; try with_reducible rfl)
                try simp only [List.getElem_toArray, List.getElem_cons_succ, List.getElem_cons_zero, Act.put, List.setIfInBounds_toArray, List.set_cons_zero, List.set_cons_succ]
                refine wpAnyH_done (by kernel_rfl) ?_ _
                try simp only [List.getElem_toArray, List.getElem_cons_succ, List.getElem_cons_zero, Act.put, List.setIfInBounds_toArray, List.set_cons_zero, List.set_cons_succ]
                clear hS
                go_wp2_with fail
                refine ⟨⟨i + 1, hlt, by push_cast; rfl, HXw9.out, HBw9.out, HB29.out, bestR_skip HBR.out hil (by rw [← HPE.out]; exact HGP.out)⟩, by simp [intOf]; omega⟩
            · have hzi : ¬ (z : Int) < (z0 : Int) := by omega
              refine wpAnyH_take (i := 13) (v := ?_) rfl (by kernel_rfl) (by kernel_rfl) (by kernel_rfl) (fun _ _ _ h => h) (Or.inl ⟨by rfl, ?_⟩) hS ?_
              rotate_left
              · (intro W hSw; obtain ⟨q0, q1, q2, q3, q4, q5⟩ := hSw; go_simp; try with_reducible rfl)
              try simp only [List.getElem_toArray, List.getElem_cons_succ, List.getElem_cons_zero, Act.put, List.setIfInBounds_toArray, List.set_cons_zero, List.set_cons_succ]
              refine wpAnyH_take (i := 14) (v := ?_) rfl (by kernel_rfl) (by kernel_rfl) (by kernel_rfl) (fun _ _ _ h => h) (Or.inl ⟨by rfl, ?_⟩) hS ?_
              rotate_left
              · (intro W hSw; obtain ⟨q0, q1, q2, q3, q4, q5⟩ := hSw; go_simp; try with_reducible rfl)
              try simp only [List.getElem_toArray, List.getElem_cons_succ, List.getElem_cons_zero, Act.put, List.setIfInBounds_toArray, List.set_cons_zero, List.set_cons_succ]
              refine wpAnyH_take (i := 15) (v := ?_) rfl (by kernel_rfl) (by kernel_rfl) (by kernel_rfl) (fun _ _ _ h => h) (Or.inl ⟨by rfl, ?_⟩) hS ?_
              rotate_left
              · (intro W hSw; obtain ⟨q0, q1, q2, q3, q4, q5⟩ := hSw; go_simp; try with_reducible rfl)
              try simp only [List.getElem_toArray, List.getElem_cons_succ, List.getElem_cons_zero, Act.put, List.setIfInBounds_toArray, List.set_cons_zero, List.set_cons_succ]
              refine wpAnyH_take (i := 16) (v := undef) rfl (by kernel_rfl) (by kernel_rfl) (by kernel_rfl) (fun _ _ _ h => h) (Or.inr ⟨by rfl, rfl⟩) hS ?_
              try simp only [List.getElem_toArray, List.getElem_cons_succ, List.getElem_cons_zero, Act.put, List.setIfInBounds_toArray, List.set_cons_zero, List.set_cons_succ]
              refine wpAnyH_take (i := 17) (v := undef) rfl (by kernel_rfl) (by kernel_rfl) (by kernel_rfl) (fun _ _ _ h => h) (Or.inr ⟨by rfl, rfl⟩) hS ?_
              try simp only [List.getElem_toArray, List.getElem_cons_succ, List.getElem_cons_zero, Act.put, List.setIfInBounds_toArray, List.set_cons_zero, List.set_cons_succ]
              refine wpAnyH_take (i := 18) (v := undef) rfl (by kernel_rfl) (by kernel_rfl) (by kernel_rfl) (fun _ _ _ h => h) (Or.inr ⟨by rfl, rfl⟩) hS ?_
              try simp only [List.getElem_toArray, List.getElem_cons_succ, List.getElem_cons_zero, Act.put, List.setIfInBounds_toArray, List.set_cons_zero, List.set_cons_succ]
              refine wpAnyH_take (i := 19) (v := undef) rfl (by kernel_rfl) (by kernel_rfl) (by kernel_rfl) (fun _ _ _ h => h) (Or.inr ⟨by rfl, rfl⟩) hS ?_
              try simp only [List.getElem_toArray, List.getElem_cons_succ, List.getElem_cons_zero, Act.put, List.setIfInBounds_toArray, List.set_cons_zero, List.set_cons_succ]
              refine wpAnyH_take (i := 20) (v := undef) rfl (by kernel_rfl) (by kernel_rfl) (by kernel_rfl) (fun _ _ _ h => h) (Or.inr ⟨by rfl, rfl⟩) hS ?_
              try simp only [List.getElem_toArray, List.getElem_cons_succ, List.getElem_cons_zero, Act.put, List.setIfInBounds_toArray, List.set_cons_zero, List.set_cons_succ]
              refine wpAnyH_take (i := 21) (v := undef) rfl (by kernel_rfl) (by kernel_rfl) (by kernel_rfl) (fun _ _ _ h => h) (Or.inr ⟨by rfl, rfl⟩) hS ?_
              try simp only [List.getElem_toArray, List.getElem_cons_succ, List.getElem_cons_zero, Act.put, List.setIfInBounds_toArray, List.set_cons_zero, List.set_cons_succ]
              refine wpAnyH_take (i := 22) (v := ?_) rfl (by kernel_rfl) (by kernel_rfl) (by kernel_rfl) (fun _ _ _ h => h) (Or.inl ⟨by rfl, ?_⟩) hS ?_
              rotate_left
              · (intro W hSw; obtain ⟨q0, q1, q2, q3, q4, q5⟩ := hSw; go_simp; try with_reducible rfl)
              try simp only [List.getElem_toArray, List.getElem_cons_succ, List.getElem_cons_zero, Act.put, List.setIfInBounds_toArray, List.set_cons_zero, List.set_cons_succ]
              refine wpAnyH_done (by kernel_rfl) ?_ _
              try simp only [List.getElem_toArray, List.getElem_cons_succ, List.getElem_cons_zero, Act.put, List.setIfInBounds_toArray, List.set_cons_zero, List.set_cons_succ]
              clear hS
              go_wp2_with fail
              exact ⟨⟨i + 1, hlt, by push_cast; rfl, HXD.out, HBD.out, HB2D.out, bestR_keep HBR.out hil rfl HI0.out.1 (by rw [← HPE.out, ← HI0.out.2, ← HZ.out.1, ← HZ.out.2]; omega)⟩, by simp [intOf]; omega⟩
        · have hin : np = i := by omega
          subst hin
          have hlti : ¬ (np : Int) < (np : Int) := by omega
          have hor := HOUT.out.below HB2.out
          rcases id hbr with ⟨_, hno⟩ | ⟨i0, h0, hi0, hb1, hg1, hmin⟩
          · exfalso
            obtain ⟨s, hs, he⟩ := List.getElem_of_mem HFIN.out.2.1
            have := hno s hs (by rw [HNP.out]; exact hs)
            rw [he, HFIN.out.2.2.1] at this
            cases this
          · have hpe := HFIN.out.2.2.2 i0 h0 hg1 (fun s hs hgs => hmin s hs (by rw [HNP.out]; exact hs) hgs)
            obtain ⟨g', u0, hae', e2, hnu0⟩ := hor.read i0 h0
            rw [hpe] at hnu0
            have HNU0 := Lib.hid hnu0
            have e3 : wr.cell? ⟨g', i0, none⟩ = some u0 := by have := e2; rwa [Nat.zero_add] at this
            have hi00 : 0 ≤ (i0 : Int) := by omega
            have hi0n : (i0 : Int) < (np : Int) := by omega
            have HRD := Lib.hid HFIN.out.1
            subst hae'
            rw [hb1]
            clear hbr hb1 HBR0 hor hnu0 hlt hmin hg1 hpe
            go_wp2_with fail
            exact bodyPost_ret (v := .tuple #[u0, .int .i64 0]) (by simp [results, Tryz.results20, go_sem]) rfl ⟨_, by rw [HRD.out], by rw [HRD.out]; exact HNU0.out, HBwr.out⟩
    · have hae2 : ((al : Int) == (ev : Int)) = false := by rw [beq_eq_false_iff_ne]; omega
      have HD := Lib.hid (roundsE_not HV.out (by rw [← HAL.out, ← HEV.out]; exact hae))
      clear hae
      go_wp2_with fail
      exact bodyPost_ret (v := .tuple #[.slice none 0 0, .int .i64 4]) (by simp [results, Tryz.results20, go_sem]) rfl ⟨_, by rw [HD.out], by rw [HD.out]; exact ⟨none, 0, rfl, by simp, by decide, fun i hi => absurd hi (by simp)⟩, HBw2.out⟩
end Go.Proofs.YtbmfphiecllggaaGreatDoor

/- The reference of jobs, walked: Lend. -/
namespace Go.Proofs.YtbmfphiecllggaaGreatDoor
set_option linter.unusedVariables false
set_option linter.unusedSimpArgs false
open Go.RowKit Go.Shelf
attribute [local go_sem] Oper.semAt_some

theorem lendD_bad {j : JobD} (hv : validJb j = false) : lendD j = (0, 1) := by unfold lendD; rw [errD_bad hv]; rfl
theorem lendE_not {j : JobD} (hv : validJb j = true) (hc : canD j (everyD j) = false) : lendD j = (0, 4) := by unfold lendD; rw [errD_ok hv, if_neg (by decide), hc]; rfl
def lendF9 (j : JobD) (b : Nat) : Bool := (scoreD j (everyD j) (afterJ (allD j) (2 ^ b))).isSome
theorem lendF_end (j : JobD) : setJ (lendF9 j) j.st.bs.length = lendN j := rfl
theorem without_len (j : JobD) (b : Nat) : (withoutD j b).st.bs.length ≤ j.st.bs.length := by
  show (j.st.bs.eraseIdx b).length ≤ _
  exact List.length_eraseIdx_le _ _
set_option maxRecDepth 100000 in
set_option maxHeartbeats 4000000 in
theorem r12Lend_any (j : JobD) (h18 : validJb j = true → j.ws.length * j.st.bs.length ≤ 18) (bs ws : Value) (w : World) (hbs : SpansAt w bs j.st.bs (fun k => k < w.heap.size)) (hws : SpansAt w ws j.ws (fun k => k < w.heap.size)) :
    Calls Tryz.prog 22 #[jobV j bs ws] w fun e w' => e = .returned (.tuple #[.int .i64 (lendD j).1, .int .i64 (lendD j).2]) ∧ Below w.heap.size w w' := by
  have H18 := Lib.hid h18
  clear h18
  have HBS := Lib.hid hbs
  have HWS := Lib.hid hws
  obtain ⟨ao, cap, hv1, _⟩ := id hbs
  obtain ⟨ao2, cap2, hv2, _⟩ := id hws
  subst hv1 hv2
  obtain ⟨nb, hnb⟩ : ∃ n, n = j.st.bs.length := ⟨_, rfl⟩
  obtain ⟨nw, hnw⟩ : ∃ n, n = j.ws.length := ⟨_, rfl⟩
  obtain ⟨fl, hfl⟩ : ∃ x, x = j.st.film.1 := ⟨_, rfl⟩
  obtain ⟨fh, hfh⟩ : ∃ x, x = j.st.film.2 := ⟨_, rfl⟩
  have HJV := Lib.hid (show jobV j (.slice ao nb cap) (.slice ao2 nw cap2) = .agg #[.slice ao nb cap, .int .i64 fl, .int .i64 fh, .slice ao2 nw cap2] by unfold jobV; rw [← hfl, ← hfh])
  unfold jobV
  rw [← hnb, ← hnw, ← hfl, ← hfh]
  rw [← hnb] at HBS
  rw [← hnw] at HWS
  have HN := Lib.hid (And.intro hnb hnw)
  have HXw0 := Lib.hid (show (w.alloc (.cells #[.slice ao nb cap, .int .i64 fl, .int .i64 fh, .slice ao2 nw cap2] 28)).heap[w.heap.size]? = some (.cells #[.slice ao nb cap, .int .i64 fl, .int .i64 fh, .slice ao2 nw cap2] 28 (0, 0)) from heap_alloc_at _ _ _ rfl)
  have HBw0 := Lib.hid (Below.alloc' w (.cells #[.slice ao nb cap, .int .i64 fl, .int .i64 fh, .slice ao2 nw cap2] 28))
  clear hbs hws hnb hnw hfl hfh
  go_enter Tryz.func22, Tryz.ntmps22
  go_wp2_with fail
  have hc := r12check_any j true (.slice ao nb cap) (.slice ao2 nw cap2) _ (HBS.out.later HBw0.out.size (fun k h1 _ => HBw0.out.block k h1)).low (HWS.out.later HBw0.out.size (fun k h1 _ => HBw0.out.block k h1)).low
  rw [HJV.out] at hc
  refine hc.mono ?_
  rintro e w1 ⟨rfl, hb⟩
  clear hc
  dsimp only
  have HXw1 := Lib.hid ((hb.block _ (lt_of_block HXw0.out)).trans HXw0.out)
  have HBw1 := Lib.hid (HBw0.out.trans (hb.mono HBw0.out.size))
  clear hb
  cases hv : validJb j with
  | false =>
    have HD := Lib.hid (lendD_bad hv)
    rw [errD_bad hv]
    clear hv
    go_wp2_with fail
    exact bodyPost_ret (v := .tuple #[.int .i64 0, .int .i64 1]) (by simp [results, Tryz.results22, go_sem]) rfl ⟨by rw [HD.out], HBw1.out⟩
  | true =>
    rw [errD_ok hv]
    have HV := Lib.hid hv
    have hnw4 : nw ≤ 4 := by rw [HN.out.2]; exact (validJb_parts hv).2.1
    have hnb8 : nb ≤ 8 := by rw [HN.out.1]; exact (validSt_parts (validJb_parts hv).1).1
    have hp16 : 2 ^ nw ≤ 16 := (Nat.pow_le_pow_right (by decide) hnw4 : _ ≤ 2 ^ 4)
    obtain ⟨ev, hev⟩ : ∃ x, x = everyD j := ⟨_, rfl⟩
    have hev2 : ev < 16 := by rw [hev]; unfold everyD; rw [← HN.out.2]; have := Nat.two_pow_pos nw; omega
    have HEV := Lib.hid hev
    clear hv hev hp16
    have c0 : w1.cell? ⟨w.heap.size, 0, none⟩ = some (.slice ao nb cap) := by rw [cell_of_row _ _ _ _ _ _ HXw1.out]; rfl
    have c1 : w1.cell? ⟨w.heap.size, 1, none⟩ = some (.int .i64 fl) := by rw [cell_of_row _ _ _ _ _ _ HXw1.out]; rfl
    have c2 : w1.cell? ⟨w.heap.size, 2, none⟩ = some (.int .i64 fh) := by rw [cell_of_row _ _ _ _ _ _ HXw1.out]; rfl
    have c3 : w1.cell? ⟨w.heap.size, 3, none⟩ = some (.slice ao2 nw cap2) := by rw [cell_of_row _ _ _ _ _ _ HXw1.out]; rfl
    go_upto_region 4 with fail
    clear c0 c1 c2 c3
    have hS0 : SJ4 w.heap.size (.slice ao nb cap) (.slice ao2 nw cap2) fl fh w1 := ⟨by rw [cell_of_row _ _ _ _ _ _ HXw1.out]; rfl, by rw [cell_of_row _ _ _ _ _ _ HXw1.out]; rfl, by rw [cell_of_row _ _ _ _ _ _ HXw1.out]; rfl, by rw [cell_of_row _ _ _ _ _ _ HXw1.out]; rfl⟩
    have HS0 := Lib.hid hS0
    clear hS0
    refine wp_region_held_drew (S := SJ4 w.heap.size (.slice ao nb cap) (.slice ao2 nw cap2) fl fh) (by kernel_rfl) (HS0.out.below (Below.refl _ _).drew) fun hS => ?_
    obtain ⟨D, hD⟩ : ∃ D, D = World.drew w1 := ⟨_, rfl⟩
    have hb : Below w1.heap.size w1 D := by rw [hD]; exact (Below.refl _ _).drew
    rw [← hD] at hS ⊢
    have HXD := Lib.hid ((hb.block _ (lt_of_block HXw1.out)).trans HXw1.out)
    have HBD := Lib.hid (HBw1.out.trans (hb.mono HBw1.out.size))
    clear hD hb HS0
    refine wpAnyH_take (i := 0) (v := ?_) rfl (by kernel_rfl) (by kernel_rfl) (by kernel_rfl) (fun _ _ _ h => h) (Or.inl ⟨by rfl, ?_⟩) hS ?_
    rotate_left
    · (intro W hSw; obtain ⟨q0, q1, q2, q3⟩ := hSw; go_simp; try with_reducible rfl)
    try simp only [List.getElem_toArray, List.getElem_cons_succ, List.getElem_cons_zero, Act.put, List.setIfInBounds_toArray, List.set_cons_zero, List.set_cons_succ]
    refine wpAnyH_take (i := 1) (v := ?_) rfl (by kernel_rfl) (by kernel_rfl) (by kernel_rfl) (fun _ _ _ h => h) (Or.inl ⟨by rfl, ?_⟩) hS ?_
    rotate_left
    · (intro W hSw; obtain ⟨q0, q1, q2, q3⟩ := hSw; go_simp; try with_reducible rfl)
    try simp only [List.getElem_toArray, List.getElem_cons_succ, List.getElem_cons_zero, Act.put, List.setIfInBounds_toArray, List.set_cons_zero, List.set_cons_succ]
    have hc := r12every_any j (by rw [← HN.out.2]; omega) (.slice ao nb cap) (.slice ao2 nw cap2) D (HWS.out.later HBD.out.size (fun k h1 _ => HBD.out.block k h1)).low
    rw [HJV.out, ← HEV.out] at hc
    refine wpAnyH_call (k := 2) (by kernel_rfl) rfl rfl (f := 50) (args := #[.agg #[.slice ao nb cap, .int .i64 fl, .int .i64 fh, .slice ao2 nw cap2]]) (by simp [execOp, go_sem, Act.eval, Act.put]) ?_
    refine hc.mono ?_
    rintro e w2 ⟨rfl, hb⟩
    clear hc
    dsimp only
    have HXw2 := Lib.hid ((hb.block _ (lt_of_block HXD.out)).trans HXD.out)
    have HBw2 := Lib.hid (HBD.out.trans (hb.mono HBD.out.size))
    have hS9 := hS.below hb
    clear hb hS
    refine ⟨hS9, ?_⟩
    have hS := hS9
    clear hS9
    try simp only [List.getElem_toArray, List.getElem_cons_succ, List.getElem_cons_zero, Act.put, List.setIfInBounds_toArray, List.set_cons_zero, List.set_cons_succ]
    have hc := r12can_any j HV.out (H18.out HV.out) ev (by omega) (.slice ao nb cap) (.slice ao2 nw cap2) w2 (HBS.out.later HBw2.out.size (fun k h1 _ => HBw2.out.block k h1)).low (HWS.out.later HBw2.out.size (fun k h1 _ => HBw2.out.block k h1)).low
    rw [HJV.out] at hc
    refine wpAnyH_call (k := 3) (by kernel_rfl) rfl rfl (f := 46) (args := #[.agg #[.slice ao nb cap, .int .i64 fl, .int .i64 fh, .slice ao2 nw cap2], .int .i64 ev]) (by simp [execOp, go_sem, Act.eval, Act.put]) ?_
    refine hc.mono ?_
    rintro e w3 ⟨rfl, hb⟩
    clear hc
    dsimp only
    have HXw3 := Lib.hid ((hb.block _ (lt_of_block HXw2.out)).trans HXw2.out)
    have HBw3 := Lib.hid (HBw2.out.trans (hb.mono HBw2.out.size))
    have hS9 := hS.below hb
    clear hb hS
    refine ⟨hS9, ?_⟩
    have hS := hS9
    clear hS9
    try simp only [List.getElem_toArray, List.getElem_cons_succ, List.getElem_cons_zero, Act.put, List.setIfInBounds_toArray, List.set_cons_zero, List.set_cons_succ]
    cases hce : canD j ev with
    | false =>
      have HD := Lib.hid (lendE_not HV.out (by rw [← HEV.out]; exact hce))
      clear hce
      refine wpAnyH_take (i := 4) (v := ?_) rfl (by kernel_rfl) (by kernel_rfl) (by kernel_rfl) (fun _ _ _ h => h) (Or.inl ⟨by rfl, ?_⟩) hS ?_
      rotate_left
      · (intro W hSw; obtain ⟨q0, q1, q2, q3⟩ := hSw; go_simp; try with_reducible rfl)
      try simp only [List.getElem_toArray, List.getElem_cons_succ, List.getElem_cons_zero, Act.put, List.setIfInBounds_toArray, List.set_cons_zero, List.set_cons_succ]
      refine wpAnyH_done (by kernel_rfl) ?_ _
      try simp only [List.getElem_toArray, List.getElem_cons_succ, List.getElem_cons_zero, Act.put, List.setIfInBounds_toArray, List.set_cons_zero, List.set_cons_succ]
      clear hS
      go_wp2_with fail
      exact bodyPost_ret (v := .tuple #[.int .i64 0, .int .i64 4]) (by simp [results, Tryz.results22, go_sem]) rfl ⟨by rw [HD.out], HBw3.out⟩
    | true =>
      have HD := Lib.hid (lendD_can HV.out (by rw [← HEV.out]; exact hce))
      clear hce
      refine wpAnyH_take (i := 4) (v := ?_) rfl (by kernel_rfl) (by kernel_rfl) (by kernel_rfl) (fun _ _ _ h => h) (Or.inl ⟨by rfl, ?_⟩) hS ?_
      rotate_left
      · (intro W hSw; obtain ⟨q0, q1, q2, q3⟩ := hSw; go_simp; try with_reducible rfl)
      try simp only [List.getElem_toArray, List.getElem_cons_succ, List.getElem_cons_zero, Act.put, List.setIfInBounds_toArray, List.set_cons_zero, List.set_cons_succ]
      refine wpAnyH_done (by kernel_rfl) ?_ _
      try simp only [List.getElem_toArray, List.getElem_cons_succ, List.getElem_cons_zero, Act.put, List.setIfInBounds_toArray, List.set_cons_zero, List.set_cons_succ]
      clear hS
      go_wp2_with fail
      go_loopw [5, 6] (fun uv iv wr => ∃ i : Nat, i ≤ nb ∧ iv = .int .i64 i ∧ uv = .int .i64 (setJ (lendF9 j) i : Nat) ∧ wr.heap[w.heap.size]? = some (.cells #[.slice ao nb cap, .int .i64 fl, .int .i64 fh, .slice ao2 nw cap2] 28 (0, 0)) ∧ Below w.heap.size w wr) (fun _ iv _ => nb - (intOf iv).toNat)
      case atStart => exact ⟨0, Nat.zero_le _, rfl, rfl, HXw3.out, HBw3.out⟩
      case round =>
        obtain ⟨i, hi, rfl, rfl, hx, hb⟩ := hrel
        have HXwr := Lib.hid hx
        have HBwr := Lib.hid hb
        clear hx hb
        have hsl := setJ_lt (lendF9 j) i
        have hsn : setJ (lendF9 j) (i + 1) = setJ (lendF9 j) i + if lendF9 j i = true then 2 ^ i else 0 := rfl
        have hi256 : 2 ^ i ≤ 256 := (Nat.pow_le_pow_right (by decide) (by omega) : _ ≤ 2 ^ 8)
        obtain ⟨u, hu⟩ : ∃ u, u = setJ (lendF9 j) i := ⟨_, rfl⟩
        rw [← hu] at hsl hsn ⊢
        by_cases hlt : i < nb
        · have hw : IntKind.i64.wrap ((i : Int) + 1) = ((i + 1 : Nat) : Int) := by rw [IntWalk.i64_in _ (by omega)]; omega
          have hlti : (i : Int) < (nb : Int) := by omega
          have hcw : canD (withoutD j i) ev = lendF9 j i := by rw [HEV.out]; exact can_without j i (by rw [← HN.out.1]; exact hlt)
          rw [← hcw] at hsn
          have c0 : wr.cell? ⟨w.heap.size, 0, none⟩ = some (.slice ao nb cap) := by rw [cell_of_row _ _ _ _ _ _ HXwr.out]; rfl
          have c1 : wr.cell? ⟨w.heap.size, 1, none⟩ = some (.int .i64 fl) := by rw [cell_of_row _ _ _ _ _ _ HXwr.out]; rfl
          have c2 : wr.cell? ⟨w.heap.size, 2, none⟩ = some (.int .i64 fh) := by rw [cell_of_row _ _ _ _ _ _ HXwr.out]; rfl
          have c3 : wr.cell? ⟨w.heap.size, 3, none⟩ = some (.slice ao2 nw cap2) := by rw [cell_of_row _ _ _ _ _ _ HXwr.out]; rfl
          clear hcw hu
          go_upto_region 10 with fail
          clear c0 c1 c2 c3
          have hS0 : SJ4 w.heap.size (.slice ao nb cap) (.slice ao2 nw cap2) fl fh wr := ⟨by rw [cell_of_row _ _ _ _ _ _ HXwr.out]; rfl, by rw [cell_of_row _ _ _ _ _ _ HXwr.out]; rfl, by rw [cell_of_row _ _ _ _ _ _ HXwr.out]; rfl, by rw [cell_of_row _ _ _ _ _ _ HXwr.out]; rfl⟩
          have HS0 := Lib.hid hS0
          clear hS0
          refine wp_region_held_drew (S := SJ4 w.heap.size (.slice ao nb cap) (.slice ao2 nw cap2) fl fh) (by kernel_rfl) (HS0.out.below (Below.refl _ _).drew) fun hS => ?_
          obtain ⟨D, hD⟩ : ∃ D, D = World.drew wr := ⟨_, rfl⟩
          have hb : Below wr.heap.size wr D := by rw [hD]; exact (Below.refl _ _).drew
          rw [← hD] at hS ⊢
          have HXD := Lib.hid ((hb.block _ (lt_of_block HXwr.out)).trans HXwr.out)
          have HBD := Lib.hid (HBwr.out.trans (hb.mono HBwr.out.size))
          clear hD hb HS0
          refine wpAnyH_take (i := 0) (v := ?_) rfl (by kernel_rfl) (by kernel_rfl) (by kernel_rfl) (fun _ _ _ h => h) (Or.inl ⟨by rfl, ?_⟩) hS ?_
          rotate_left
          · (intro W hSw; obtain ⟨q0, q1, q2, q3⟩ := hSw; go_simp; try with_reducible rfl)
          try simp only [List.getElem_toArray, List.getElem_cons_succ, List.getElem_cons_zero, Act.put, List.setIfInBounds_toArray, List.set_cons_zero, List.set_cons_succ]
          refine wpAnyH_take (i := 1) (v := ?_) rfl (by kernel_rfl) (by kernel_rfl) (by kernel_rfl) (fun _ _ _ h => h) (Or.inl ⟨by rfl, ?_⟩) hS ?_
          rotate_left
          · (intro W hSw; obtain ⟨q0, q1, q2, q3⟩ := hSw; go_simp; try with_reducible rfl)
          try simp only [List.getElem_toArray, List.getElem_cons_succ, List.getElem_cons_zero, Act.put, List.setIfInBounds_toArray, List.set_cons_zero, List.set_cons_succ]
          refine wpAnyH_take (i := 3) (v := ?_) rfl (by kernel_rfl) (by kernel_rfl) (by kernel_rfl) (fun _ _ _ h => h) (Or.inl ⟨by rfl, ?_⟩) hS ?_
          rotate_left
          · (intro W hSw; obtain ⟨q0, q1, q2, q3⟩ := hSw; go_simp; try with_reducible rfl)
          try simp only [List.getElem_toArray, List.getElem_cons_succ, List.getElem_cons_zero, Act.put, List.setIfInBounds_toArray, List.set_cons_zero, List.set_cons_succ]
          have hc := r12without_any j (by rw [← HN.out.1]; exact hnb8) i (.slice ao nb cap) (.slice ao2 nw cap2) D ⟨_, _, _, rfl⟩ (HBS.out.later HBD.out.size (fun k h1 _ => HBD.out.block k h1)).low
          rw [HJV.out] at hc
          refine wpAnyH_call (k := 2) (by kernel_rfl) rfl rfl (f := 60) (args := #[.agg #[.slice ao nb cap, .int .i64 fl, .int .i64 fh, .slice ao2 nw cap2], .int .i64 i]) (by simp [execOp, go_sem, Act.eval, Act.put]) ?_
          refine hc.mono ?_
          rintro e w5 ⟨⟨bv, rfl, hbv⟩, hb⟩
          clear hc
          dsimp only
          obtain ⟨a7, c7, hbe, _⟩ := id hbv
          subst hbe
          obtain ⟨nq, hnq⟩ : ∃ n, n = (withoutD j i).st.bs.length := ⟨_, rfl⟩
          rw [← hnq] at hbv ⊢
          have hjy : jobV (withoutD j i) (.slice a7 nq c7) (.slice ao2 nw cap2) = .agg #[.slice a7 nq c7, .int .i64 fl, .int .i64 fh, .slice ao2 nw cap2] := by
            have h9 := HJV.out
            unfold jobV at h9
            injection h9 with h9
            have e1 : j.st.film.1 = fl := by have := congrArg (fun a => a[1]?) h9; simpa using this
            have e2 : j.st.film.2 = fh := by have := congrArg (fun a => a[2]?) h9; simpa using this
            unfold jobV withoutD
            dsimp only
            rw [e1, e2]
          rw [hjy]
          have HJY := Lib.hid hjy
          have HBV := Lib.hid hbv.low
          clear hjy hnq hbv
          have HXw5 := Lib.hid ((hb.block _ (lt_of_block HXD.out)).trans HXD.out)
          have HBw5 := Lib.hid (HBD.out.trans (hb.mono HBD.out.size))
          have hS9 := hS.below hb
          clear hb hS
          refine ⟨hS9, ?_⟩
          have hS := hS9
          clear hS9
          try simp only [List.getElem_toArray, List.getElem_cons_succ, List.getElem_cons_zero, Act.put, List.setIfInBounds_toArray, List.set_cons_zero, List.set_cons_succ]
          have hc := r12every_any j (by rw [← HN.out.2]; omega) (.slice ao nb cap) (.slice ao2 nw cap2) w5 (HWS.out.later HBw5.out.size (fun k h1 _ => HBw5.out.block k h1)).low
          rw [HJV.out, ← HEV.out] at hc
          refine wpAnyH_call (k := 4) (by kernel_rfl) rfl rfl (f := 50) (args := #[.agg #[.slice ao nb cap, .int .i64 fl, .int .i64 fh, .slice ao2 nw cap2]]) (by simp [execOp, go_sem, Act.eval, Act.put]) ?_
          refine hc.mono ?_
          rintro e w6 ⟨rfl, hb⟩
          clear hc
          dsimp only
          have HBV6 := Lib.hid (HBV.out.later hb.size (fun k h _ => hb.block k h)).low
          have HXw6 := Lib.hid ((hb.block _ (lt_of_block HXw5.out)).trans HXw5.out)
          have HBw6 := Lib.hid (HBw5.out.trans (hb.mono HBw5.out.size))
          have hS9 := hS.below hb
          clear hb hS
          refine ⟨hS9, ?_⟩
          have hS := hS9
          clear hS9
          try simp only [List.getElem_toArray, List.getElem_cons_succ, List.getElem_cons_zero, Act.put, List.setIfInBounds_toArray, List.set_cons_zero, List.set_cons_succ]
          have hc := r12can_any (withoutD j i) (valid_without HV.out i) (Nat.le_trans (Nat.mul_le_mul_left _ (without_len j i)) (H18.out HV.out)) ev (by omega) (.slice a7 nq c7) (.slice ao2 nw cap2) w6 HBV6.out (HWS.out.later HBw6.out.size (fun k h1 _ => HBw6.out.block k h1)).low
          rw [HJY.out] at hc
          refine wpAnyH_call (k := 5) (by kernel_rfl) rfl rfl (f := 46) (args := #[.agg #[.slice a7 nq c7, .int .i64 fl, .int .i64 fh, .slice ao2 nw cap2], .int .i64 ev]) (by simp [execOp, go_sem, Act.eval, Act.put]) ?_
          refine hc.mono ?_
          rintro e w7 ⟨rfl, hb⟩
          clear hc
          dsimp only
          have HXw7 := Lib.hid ((hb.block _ (lt_of_block HXw6.out)).trans HXw6.out)
          have HBw7 := Lib.hid (HBw6.out.trans (hb.mono HBw6.out.size))
          have hS9 := hS.below hb
          clear hb hS
          refine ⟨hS9, ?_⟩
          have hS := hS9
          clear hS9
          try simp only [List.getElem_toArray, List.getElem_cons_succ, List.getElem_cons_zero, Act.put, List.setIfInBounds_toArray, List.set_cons_zero, List.set_cons_succ]
          refine wpAnyH_done (by kernel_rfl) ?_ _
          try simp only [List.getElem_toArray, List.getElem_cons_succ, List.getElem_cons_zero, Act.put, List.setIfInBounds_toArray, List.set_cons_zero, List.set_cons_succ]
          clear hS
          obtain ⟨P, hP⟩ : ∃ P, P = 2 ^ i := ⟨_, rfl⟩
          rw [← hP] at hsl hi256 hsn
          have HP := Lib.hid hP
          clear hP
          cases hcb : canD (withoutD j i) ev with
          | true =>
            have HSN2 := Lib.hid (show setJ (lendF9 j) (i + 1) = u + P by rw [hsn, hcb, if_pos rfl])
            have hwp : IntKind.i64.wrap ((u : Int) + (P : Int)) = ((u + P : Nat) : Int) := by rw [IntWalk.i64_in _ (by omega)]; omega
            clear hcb hsn
            go_wp2_with fail
            refine (r12power_any i (by omega) w7).mono ?_
            rintro e w' ⟨rfl, rfl⟩
            dsimp only
            rw [← HP.out]
            go_wp2_with fail
            exact ⟨⟨i + 1, hlt, by push_cast; rfl, by rw [HSN2.out]; push_cast; rfl, HXw7.out, HBw7.out⟩, by simp [intOf]; omega⟩
          | false =>
            have HSN2 := Lib.hid (show setJ (lendF9 j) (i + 1) = u by rw [hsn, hcb, if_neg (by decide), Nat.add_zero])
            clear hcb hsn
            go_wp2_with fail
            exact ⟨⟨i + 1, hlt, by push_cast; rfl, by rw [HSN2.out], HXw7.out, HBw7.out⟩, by simp [intOf]; omega⟩
        · have hin : nb = i := by omega
          subst hin
          have hlti : ¬ (nb : Int) < (nb : Int) := by omega
          have HD2 := Lib.hid (show lendD j = ((u : Int), 0) by rw [HD.out, hu, HN.out.1]; rfl)
          have c0 : wr.cell? ⟨w.heap.size, 0, none⟩ = some (.slice ao nb cap) := by rw [cell_of_row _ _ _ _ _ _ HXwr.out]; rfl
          have c1 : wr.cell? ⟨w.heap.size, 1, none⟩ = some (.int .i64 fl) := by rw [cell_of_row _ _ _ _ _ _ HXwr.out]; rfl
          have c2 : wr.cell? ⟨w.heap.size, 2, none⟩ = some (.int .i64 fh) := by rw [cell_of_row _ _ _ _ _ _ HXwr.out]; rfl
          have c3 : wr.cell? ⟨w.heap.size, 3, none⟩ = some (.slice ao2 nw cap2) := by rw [cell_of_row _ _ _ _ _ _ HXwr.out]; rfl
          clear hlt hu hsn
          go_wp2_with fail
          exact bodyPost_ret (v := .tuple #[.int .i64 u, .int .i64 0]) (by simp [results, Tryz.results22, go_sem]) rfl ⟨by rw [HD2.out], HBwr.out⟩
end Go.Proofs.YtbmfphiecllggaaGreatDoor

/- JobRounds, walked. -/
namespace Go.Proofs.YtbmfphiecllggaaGreatDoor
set_option linter.unusedVariables false
set_option linter.unusedSimpArgs false
open Go.RowKit Go.Shelf
attribute [local go_sem] Oper.semAt_some

theorem roundsE_len (j : JobD) : (roundsD j).1.length ≤ 4 := by
  cases hv : validJb j with
  | false => rw [roundsE_bad hv]; simp
  | true =>
    by_cases h : aloneN j = everyD j
    · obtain ⟨l, h1, h2, _⟩ := rounds_told hv h
      rw [h1]
      dsimp only
      rw [h2]
      exact (validJb_parts hv).2.1
    · rw [roundsE_not hv h]; simp
set_option maxRecDepth 100000 in
set_option maxHeartbeats 8000000 in
theorem lrounds_any (j : JobD) (bs ws : Value) (w : World) (hbs : SpansAt w bs j.st.bs (fun k => k < w.heap.size)) (hws : SpansAt w ws j.ws (fun k => k < w.heap.size)) (htz : TabZ w) :
    Calls Tryz.prog 5 #[jobV j bs ws] w fun e w' => e = .returned (.bool true) ∧ Below w.heap.size w w' := by
  have HBS := Lib.hid hbs
  have HWS := Lib.hid hws
  have HTZ := Lib.hid htz
  have h1z := htz.lt
  obtain ⟨ao, cap, hv1, _⟩ := id hbs
  obtain ⟨ao2, cap2, hv2, _⟩ := id hws
  subst hv1 hv2
  obtain ⟨nb, hnb⟩ : ∃ n, n = j.st.bs.length := ⟨_, rfl⟩
  obtain ⟨nw, hnw⟩ : ∃ n, n = j.ws.length := ⟨_, rfl⟩
  rw [← hnb] at HBS
  rw [← hnw] at HWS
  unfold jobV
  rw [← hnb, ← hnw]
  have HNB := Lib.hid hnb
  have HNW := Lib.hid hnw
  clear hbs hws htz hnb hnw
  obtain ⟨fl, hfl⟩ : ∃ x, x = j.st.film.1 := ⟨_, rfl⟩
  obtain ⟨fh, hfh⟩ : ∃ x, x = j.st.film.2 := ⟨_, rfl⟩
  rw [← hfl, ← hfh]
  have HFL := Lib.hid (And.intro hfl hfh)
  clear hfl hfh
  have HJV := Lib.hid (show jobV j (.slice ao nb cap) (.slice ao2 nw cap2) = .agg #[.slice ao nb cap, .int .i64 fl, .int .i64 fh, .slice ao2 nw cap2] by unfold jobV; rw [← HFL.out.1, ← HFL.out.2])
  have HBw0 := Lib.hid (Below.alloc' w (.cells #[.slice ao nb cap, .int .i64 fl, .int .i64 fh, .slice ao2 nw cap2] 28))
  have HXw0 := Lib.hid (show (w.alloc (.cells #[.slice ao nb cap, .int .i64 fl, .int .i64 fh, .slice ao2 nw cap2] 28)).heap[w.heap.size]? = some (.cells #[.slice ao nb cap, .int .i64 fl, .int .i64 fh, .slice ao2 nw cap2] 28 (0, 0)) from heap_alloc_at _ _ _ rfl)
  go_enter Tryz.func5, Tryz.ntmps5
  go_wp2_with fail
  have hc := heavyj_any j (.slice ao nb cap) (.slice ao2 nw cap2) none 0 0 (w.alloc (.cells #[.slice ao nb cap, .int .i64 fl, .int .i64 fh, .slice ao2 nw cap2] 28)) (HBS.out.later HBw0.out.size (fun k h1 _ => HBw0.out.block k h1)).low (HWS.out.later HBw0.out.size (fun k h1 _ => HBw0.out.block k h1)).low
  rw [HJV.out] at hc
  refine hc.mono ?_
  rintro e w1 ⟨rfl, hb⟩
  clear hc
  dsimp only
  have HXw1 := Lib.hid ((hb.block _ (lt_of_block HXw0.out)).trans HXw0.out)
  have HBw1 := Lib.hid (HBw0.out.trans (hb.mono HBw0.out.size))
  clear hb
  cases hhd : heavyD j 0 with
  | true =>
    clear hhd
    go_wp2_with fail
    refine (lawake_any _ (HTZ.out.below HBw1.out h1z)).mono ?_
    rintro e w9 ⟨rfl, hb9⟩
    dsimp only
    have HB9 := Lib.hid (HBw1.out.trans (hb9.mono HBw1.out.size))
    clear hb9
    go_wp2_with fail
    go_ret
    exact ⟨rfl, HB9.out⟩
  | false =>
    have HHD := Lib.hid (heavyD_no hhd)
    clear hhd
    have c0 : w1.cell? ⟨w.heap.size, 0, none⟩ = some (.slice ao nb cap) := by rw [cell_of_row _ _ _ _ _ _ HXw1.out]; rfl
    have c1 : w1.cell? ⟨w.heap.size, 1, none⟩ = some (.int .i64 fl) := by rw [cell_of_row _ _ _ _ _ _ HXw1.out]; rfl
    have c2 : w1.cell? ⟨w.heap.size, 2, none⟩ = some (.int .i64 fh) := by rw [cell_of_row _ _ _ _ _ _ HXw1.out]; rfl
    have c3 : w1.cell? ⟨w.heap.size, 3, none⟩ = some (.slice ao2 nw cap2) := by rw [cell_of_row _ _ _ _ _ _ HXw1.out]; rfl
    go_wp2_with fail
    obtain ⟨⟨pl, pe⟩, hal⟩ : ∃ y, y = roundsD j := ⟨_, rfl⟩
    obtain ⟨⟨y1, y2⟩, hle⟩ : ∃ y, y = lendD j := ⟨_, rfl⟩
    have hpl : pl.length ≤ 4 := by have := roundsE_len j; rw [← hal] at this; exact this
    have HPL := Lib.hid hpl
    have HPD := Lib.hid hal
    have HLE := Lib.hid hle
    clear hal hle hpl
    have hc := Rounds_any j (.slice ao nb cap) (.slice ao2 nw cap2) w1 (HBS.out.later HBw1.out.size (fun k h1 _ => HBw1.out.block k h1)).low (HWS.out.later HBw1.out.size (fun k h1 _ => HBw1.out.block k h1)).low (HTZ.out.below HBw1.out h1z)
    unfold RoundsR at hc
    rw [HJV.out, ← HPD.out] at hc
    refine hc.mono ?_
    rintro e w2 ⟨pv, rfl, hpv, hb⟩
    clear hc c0 c1 c2 c3
    dsimp only at hpv ⊢
    have HPV2 := Lib.hid hpv.lowE
    have HXw2 := Lib.hid ((hb.block _ (lt_of_block HXw1.out)).trans HXw1.out)
    have HBw2 := Lib.hid (HBw1.out.trans (hb.mono HBw1.out.size))
    clear hb
    clear hpv
    have c0 : w2.cell? ⟨w.heap.size, 0, none⟩ = some (.slice ao nb cap) := by rw [cell_of_row _ _ _ _ _ _ HXw2.out]; rfl
    have c1 : w2.cell? ⟨w.heap.size, 1, none⟩ = some (.int .i64 fl) := by rw [cell_of_row _ _ _ _ _ _ HXw2.out]; rfl
    have c2 : w2.cell? ⟨w.heap.size, 2, none⟩ = some (.int .i64 fh) := by rw [cell_of_row _ _ _ _ _ _ HXw2.out]; rfl
    have c3 : w2.cell? ⟨w.heap.size, 3, none⟩ = some (.slice ao2 nw cap2) := by rw [cell_of_row _ _ _ _ _ _ HXw2.out]; rfl
    go_wp2_with fail
    have hc := r12Rounds_any j HHD.out.2.2.2 (.slice ao nb cap) (.slice ao2 nw cap2) w2 (HBS.out.later HBw2.out.size (fun k h1 _ => HBw2.out.block k h1)).low (HWS.out.later HBw2.out.size (fun k h1 _ => HBw2.out.block k h1)).low
    unfold RoundsE at hc
    rw [HJV.out, ← HPD.out] at hc
    refine hc.mono ?_
    rintro e w3 ⟨qv, rfl, hqv, hb⟩
    clear hc c0 c1 c2 c3
    dsimp only at hqv ⊢
    have HPV3 := Lib.hid (HPV2.out.later hb.size (fun k h _ => hb.block k h)).lowE
    have HQV3 := Lib.hid hqv
    have HXw3 := Lib.hid ((hb.block _ (lt_of_block HXw2.out)).trans HXw2.out)
    have HBw3 := Lib.hid (HBw2.out.trans (hb.mono HBw2.out.size))
    clear hb
    clear hqv
    have c0 : w3.cell? ⟨w.heap.size, 0, none⟩ = some (.slice ao nb cap) := by rw [cell_of_row _ _ _ _ _ _ HXw3.out]; rfl
    have c1 : w3.cell? ⟨w.heap.size, 1, none⟩ = some (.int .i64 fl) := by rw [cell_of_row _ _ _ _ _ _ HXw3.out]; rfl
    have c2 : w3.cell? ⟨w.heap.size, 2, none⟩ = some (.int .i64 fh) := by rw [cell_of_row _ _ _ _ _ _ HXw3.out]; rfl
    have c3 : w3.cell? ⟨w.heap.size, 3, none⟩ = some (.slice ao2 nw cap2) := by rw [cell_of_row _ _ _ _ _ _ HXw3.out]; rfl
    go_wp2_with fail
    have hc := Lend_any j (.slice ao nb cap) (.slice ao2 nw cap2) w3 (HBS.out.later HBw3.out.size (fun k h1 _ => HBw3.out.block k h1)).low (HWS.out.later HBw3.out.size (fun k h1 _ => HBw3.out.block k h1)).low (HTZ.out.below HBw3.out h1z)
    rw [HJV.out, ← HLE.out] at hc
    refine hc.mono ?_
    rintro e w4 ⟨rfl, hb⟩
    clear hc c0 c1 c2 c3
    dsimp only
    have HPV4 := Lib.hid (HPV3.out.later hb.size (fun k h _ => hb.block k h)).lowE
    have HQV4 := Lib.hid (HQV3.out.later hb.size (fun k h _ => hb.block k h)).lowE
    have HXw4 := Lib.hid ((hb.block _ (lt_of_block HXw3.out)).trans HXw3.out)
    have HBw4 := Lib.hid (HBw3.out.trans (hb.mono HBw3.out.size))
    clear hb
    have c0 : w4.cell? ⟨w.heap.size, 0, none⟩ = some (.slice ao nb cap) := by rw [cell_of_row _ _ _ _ _ _ HXw4.out]; rfl
    have c1 : w4.cell? ⟨w.heap.size, 1, none⟩ = some (.int .i64 fl) := by rw [cell_of_row _ _ _ _ _ _ HXw4.out]; rfl
    have c2 : w4.cell? ⟨w.heap.size, 2, none⟩ = some (.int .i64 fh) := by rw [cell_of_row _ _ _ _ _ _ HXw4.out]; rfl
    have c3 : w4.cell? ⟨w.heap.size, 3, none⟩ = some (.slice ao2 nw cap2) := by rw [cell_of_row _ _ _ _ _ _ HXw4.out]; rfl
    go_wp2_with fail
    have hc := r12Lend_any j HHD.out.2.2.2 (.slice ao nb cap) (.slice ao2 nw cap2) w4 (HBS.out.later HBw4.out.size (fun k h1 _ => HBw4.out.block k h1)).low (HWS.out.later HBw4.out.size (fun k h1 _ => HBw4.out.block k h1)).low
    rw [HJV.out, ← HLE.out] at hc
    refine hc.mono ?_
    rintro e w5 ⟨rfl, hb⟩
    clear hc c0 c1 c2 c3
    dsimp only
    have HPV5 := Lib.hid (HPV4.out.later hb.size (fun k h _ => hb.block k h)).lowE
    have HQV5 := Lib.hid (HQV4.out.later hb.size (fun k h _ => hb.block k h)).lowE
    have HXw5 := Lib.hid ((hb.block _ (lt_of_block HXw4.out)).trans HXw4.out)
    have HBw5 := Lib.hid (HBw4.out.trans (hb.mono HBw4.out.size))
    clear hb
    go_wp2_with fail
    have hc := r12ints_any (pl.map fun s : Nat => (s : Int)) (pl.map fun s : Nat => (s : Int)) pv qv _ _ (by rw [List.length_map]; have := HPL.out; omega) (by rw [List.length_map]; have := HPL.out; omega) w5 HPV5.out HQV5.out
    rw [decide_eq_true rfl] at hc
    refine hc.mono ?_
    rintro e w6 ⟨rfl, hb⟩
    clear hc
    dsimp only
    have HXw6 := Lib.hid ((hb.block _ (lt_of_block HXw5.out)).trans HXw5.out)
    have HBw6 := Lib.hid (HBw5.out.trans (hb.mono HBw5.out.size))
    clear hb
    go_wp2_with fail
    refine (lawake_any _ (HTZ.out.below HBw6.out h1z)).mono ?_
    rintro e w9 ⟨rfl, hb9⟩
    dsimp only
    have HB9 := Lib.hid (HBw6.out.trans (hb9.mono HBw6.out.size))
    clear hb9
    go_wp2_with fail
    go_ret
    exact ⟨rfl, HB9.out⟩
end Go.Proofs.YtbmfphiecllggaaGreatDoor

/- JobRounds: the law returns true, and its arguments read as they did. -/
namespace Go.Proofs.YtbmfphiecllggaaGreatDoor
set_option linter.unusedVariables false
set_option linter.unusedSimpArgs false
open Go.ChangeShapes Go.WideShapes Go.ChangeAt Go.RowKit Go.Deep
set_option maxRecDepth 100000 in
theorem jobRounds_lifted (os : Os) (started : os.Started) (H : Type) (enc : TypeId × Value → H) :
    ReturnsInHanded {} Tryz.checked os 5 .any (fun w args => (Rows.jobRoundsSpec.pre enc Tryz.prog Tryz.f5 [] false w args ∧ laidMetH Tryz.prog laidB w) ∧ sizedMet enc Tryz.prog Tryz.f5 (OpenSpec.ofChange Rows.jobRoundsSpec) false w args)
      (Rows.jobRoundsSpec.post enc Tryz.prog Tryz.f5 false true false false) := by
  refine returnsInHanded_of_change_and (C := Tryz.checked) (X := fun w _ => laidMetH Tryz.prog laidB w) (fun _ _ _ hh h => h.of_heap hh) own_knob started (by kernel_rfl) Tryz.func5
    (ChangeSpec.witness_shaped (enc := enc) (C := Tryz.checked) (os := os) (X := fun w _ => laidMetH Tryz.prog laidB w) false (World.doorLaid Tryz.prog 400 os) #[.agg #[.slice none 0 0, .int .i64 0, .int .i64 0, .slice none 0 0]] 8 rfl (World.shaped_of_RefB (by kernel_rfl) (by kernel_rfl)) (by kernel_rfl) (by kernel_rfl) (by kernel_rfl) (door_met os _)) ?_
  intro W base args ds gs before hval0 hW _ _ hL _
  have hval : ∀ (j : Nat) t v, Tryz.f5.params[j]? = some t → args[j]? = some v → Value.okWide Tryz.prog W .any base t v := hval0
  have hW' := hW
  obtain ⟨p, q, hA0, hV, rfl, hfz, hnd⟩ := hW
  have hA : DataW.TrodAll enc Tryz.prog W 0 (fun _ => true) true Tryz.f5.params.toList args.toList ds p := hA0
  rw [Tryz.params5] at hA hval
  obtain ⟨rfl, rfl⟩ := trodVars_none hV
  clear hA0 hval0
  simp only [List.append_nil] at hW'
  have hst := hA
  have htz := of_laid hL
  obtain ⟨v0, d0, rfl, rfl, h0⟩ := trodAll_one hA
  obtain ⟨j, bs, ws, rfl, hbs, hws⟩ := open_jobV (hval 0 _ _ rfl rfl) h0
  refine (lrounds_any j bs ws W hbs hws htz).mono fun e W' ⟨he, hb⟩ => ?_
  subst he
  exact ⟨_, rfl, lawEnd hW' rfl hst rfl (by decide +kernel) rfl rfl hb⟩
theorem jobRounds_over : Rows.jobRoundsRow.holds Tryz.pinned (OpenSpec.ofChange Rows.jobRoundsSpec) :=
  OpenClaim.holds_of_wide 5 Tryz.f5 rfl rfl rfl rfl rfl rfl rfl ⟨rfl, rfl, rfl, rfl, rfl⟩ rfl rfl rfl rfl rfl (by kernel_rfl) Tryz.func5 (by kernel_rfl)
    (of_decide_eq_true (by kernel_rfl)) (by unfold Func.isWrapper; first | (rw [if_pos (by decide +kernel)]; kernel_rfl) | (rw [if_neg (by decide +kernel)]; exact ⟨rfl, rfl⟩))
    (fun os started H enc _ => jobRounds_lifted os started H enc)
theorem job_rounds : Rows.JobRoundsCardSaid :=
  Claim7.holds_tied_plain_at .later [] [.data, .data] true (true, "b10382ac8671ca2007e8d9f3e1d106936a675b56188049218c01893cb5a1cd3f") true
    jobRounds_over (fun _ h => by cases h) (by kernel_rfl) (fun _ h => by cases h) jobRounds_row_tie rfl ⟨rfl, rfl⟩ (by kernel_rfl) rfl
    (fun f fn hf hfn => by
      obtain rfl : f = 5 := Option.some.inj ((show Tryz.prog.funcNamed "blockworks/blockworkslaw12.JobRounds" = some 5 by kernel_rfl).symm.trans hf) |>.symm
      obtain rfl : fn = Tryz.f5 := (Option.some.inj (Tryz.func5.symm.trans hfn)).symm
      exact ⟨by kernel_rfl, fun j t ht => by
        rw [Tryz.params5] at ht
        have hm : t ∈ [28] := by simpa using Array.mem_of_getElem? ht
        have hall : ([28].all fun u => !Tryz.prog.wantsStandIn u) = true := by kernel_rfl
        exact (show Tryz.prog.wantsStandIn t = false by simpa using List.all_eq_true.1 hall t hm)⟩)
    (by kernel_rfl)
#print axioms job_rounds
end Go.Proofs.YtbmfphiecllggaaGreatDoor
