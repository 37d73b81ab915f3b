/- Texts He, Hf in one file; each begins with a word on what it proves. -/
import Derived.Test.YtbmfphiecllggaaDoorTie
import Derived.Test.YtbmfphiecllggaaDoorCards
import Derived.SevenTiedAt
import Derived.Test.YtbmfphiecllggaaDoorKl
import Derived.Test.YtbmfphiecllggaaDoorKj
import Derived.Test.YtbmfphiecllggaaDoorKh
import Derived.Test.YtbmfphiecllggaaDoorKg

/- JobTrue, walked. -/
namespace Go.Proofs.YtbmfphiecllggaaDoor
set_option linter.unusedVariables false
set_option linter.unusedSimpArgs false
open Go.RowKit Go.Shelf
attribute [local go_sem] Oper.semAt_some

theorem none_plan (n : Nat) : ∀ {R : List (List Nat)} {av : Nat} {l : List Nat} (Rs : List (List Nat)) (i used : Nat), wrongJ Rs i used (l.map fun (n : Nat) => (n : Int)) = none → R = Rs.drop i → l.length = R.length → (∀ s ∈ l, s < 2 ^ n) → (∀ k, k < n → used.testBit k = false → av.testBit k = true) → PlanJ R av l
  | [], _, [], _, _, _, _, _, _, _, _ => rfl
  | [], _, _ :: _, _, _, _, _, _, h, _, _ => by simp at h
  | _ :: _, _, [], _, _, _, _, _, h, _, _ => by simp at h
  | R :: R', av, s :: t, Rs, i, used, h, hd, hl, hlt, hu => by
    have hi : Rs.getD i [] = R := by
      have := congrArg List.head? hd
      rw [List.head?_cons, List.head?_drop] at this
      rw [List.getD_eq_getElem?_getD, ← this]; rfl
    rw [List.map_cons, wrongJ] at h
    simp only [Int.toNat_natCast] at h
    rw [hi] at h
    by_cases h1 : s ∈ R
    · rw [if_neg (by simpa using h1)] at h
      by_cases h2 : s &&& used ≠ 0
      · rw [if_pos h2] at h; cases h
      · rw [if_neg h2] at h
        have h2 : s &&& used = 0 := by simpa using h2
        have hb : ∀ k, s.testBit k = true → used.testBit k = false := fun k hk => by
          have := congrArg (fun x => x.testBit k) h2
          simpa [Nat.testBit_and, hk] using this
        have hsn : ∀ k, s.testBit k = true → k < n := fun k hk => by
          apply Classical.byContradiction
          intro hkn
          have := Nat.testBit_lt_two_pow (Nat.lt_of_lt_of_le (hlt s List.mem_cons_self) (Nat.pow_le_pow_right (by decide) (by omega : n ≤ k)))
          rw [this] at hk; cases hk
        refine ⟨s, t, rfl, h1, (subJ_iff s av).2 fun k hk => hu k (hsn k hk) (hb k hk), none_plan n Rs (i + 1) (used ||| s) h ?_ (by simpa using hl) (fun x hx => hlt x (List.mem_cons_of_mem _ hx)) fun k hk hk2 => ?_⟩
        · have := congrArg List.tail hd
          rw [List.tail_cons, List.tail_drop] at this
          exact this
        · rw [Nat.testBit_or, Bool.or_eq_false_iff] at hk2
          rw [afterJ_bit, hu k hk hk2.1, hk2.2]; rfl
    · rw [if_pos (by simpa using h1)] at h; cases h
/-- Sets drawn at will: they are a plan, or a want and a rule is told. -/
theorem check_cases {x : JobD} (hv : validJb x = true) {p : List Nat} (hl : p.length = x.ws.length) (hp : ∀ s ∈ p, 1 ≤ s ∧ s < 2 ^ x.st.bs.length) :
    (PlanJ (rightsD x) (allD x) p ∧ checkD x (p.map fun n : Nat => (n : Int)) = ((0, 0), 4)) ∨ ∃ a b, checkD x (p.map fun n : Nat => (n : Int)) = ((a, b), 0) := by
  have hi : isPlanD x (p.map fun n : Nat => (n : Int)) = true := by
    unfold isPlanD
    rw [List.length_map, hl, decide_eq_true rfl, Bool.true_and, List.all_eq_true]
    intro n hn
    obtain ⟨s, hs, rfl⟩ := List.mem_map.1 hn
    have h1 := hp s hs
    have h4 : ((2 ^ x.st.bs.length : Nat) : Int) = (2 : Int) ^ x.st.bs.length := by simp
    unfold isSetS
    simp only [Bool.and_eq_true, decide_eq_true_eq]
    omega
  have he : errD x (isPlanD x (p.map fun n : Nat => (n : Int))) = 0 := by rw [hi]; exact errD_ok hv
  unfold checkD
  rw [he, if_neg (by decide)]
  cases h : wrongJ (rightsD x) 0 0 (p.map fun n : Nat => (n : Int)) with
  | none =>
    refine .inl ⟨none_plan x.st.bs.length (rightsD x) 0 0 h (by simp) (by rw [hl]; unfold rightsD; simp) (fun s hs => (hp s hs).2) fun k hk _ => ?_, rfl⟩
    unfold allD
    rw [Nat.testBit_two_pow_sub_one]
    exact decide_eq_true hk
  | some y => exact .inr ⟨_, _, rfl⟩
theorem cannot_empty {x : JobD} (hb : x.st.bs.length = 0) (hw : x.ws.length ≠ 0) : canD x (everyD x) = false := by
  cases h : canD x (everyD x) with
  | false => rfl
  | true =>
    have hf := plan_facts (can_told h)
    have hl := hf.len
    have hr := mem_rightsJ.1 (hf.right 0 (by omega) (by omega))
    have h1 : (toldJ 8 (rightsD x) (allD x))[0]'(by omega) < 2 ^ x.st.bs.length := hr.1
    have h2 : (toldJ 8 (rightsD x) (allD x))[0]'(by omega) ≠ 0 := hr.2.1
    rw [hb] at h1
    omega
theorem invalidD {x : JobD} (hv : validJb x = false) : planD x = ([], 1) ∧ aloneD x = (0, 1) ∧ roundsD x = ([], 1) := by
  have he : errD x true = 1 := by unfold errD; rw [hv]; rfl
  unfold planD aloneD roundsD
  rw [he]
  exact ⟨rfl, rfl, rfl⟩
/-- What the drawing of a block's length reads. -/
def SD (ob db bb b2 : Nat) (ov : Value) (lo hi : Int) (Y : World) : Prop :=
  Y.cell? ⟨ob, 0, none⟩ = some ov ∧ Y.cell? ⟨db, 0, none⟩ = some (.func (.func 73) #[] #[.pointer (some ⟨b2 + 1, 0, none⟩), .pointer (some ⟨b2, 0, none⟩)]) ∧ Y.cell? ⟨bb, 0, none⟩ = some (.int .i64 lo) ∧ Y.cell? ⟨bb, 1, none⟩ = some (.int .i64 hi)
theorem SD.below {ob db bb b2 : Nat} {ov : Value} {lo hi : Int} {Y Y' : World} (h : SD ob db bb b2 ov lo hi Y) (hb : Below Y.heap.size Y Y') : SD ob db bb b2 ov lo hi Y' :=
  ⟨cell_below h.1 hb, cell_below h.2.1 hb, cell_below h.2.2.1 hb, cell_below h.2.2.2 hb⟩
theorem SD.keeps {ob db bb b2 q : Nat} {ov : Value} {lo hi : Int} {Y Y' : World} (h : SD ob db bb b2 ov lo hi Y) (hq : q < db ∧ q < ob ∧ q < bb) (hk : Keeps (fun k => k = q) Y Y') : SD ob db bb b2 ov lo hi Y' := by
  have hc : ∀ b i u, q < b → Y.cell? ⟨b, i, none⟩ = some u → Y'.cell? ⟨b, i, none⟩ = some u := fun b i u hb h => (World.cell?_of_block (w := Y) (w' := Y') (a := ⟨b, i, none⟩) (hk.block b (lt_of_cell h) (by omega))).trans h
  exact ⟨hc _ _ _ hq.2.1 h.1, hc _ _ _ hq.1 h.2.1, hc _ _ _ hq.2.2 h.2.2.1, hc _ _ _ hq.2.2 h.2.2.2⟩
theorem made_cases {j : JobD} {w w' : World} {e : Ending} (h : MadeJ j w e w') : Below w.heap.size w w' ∧ ((j.st.bs.length = 0 ∧ j.ws.length ≠ 0 ∧ e = .returned (.tuple #[.slice none 0 0, .bool false])) ∨ ∃ (p : List Nat) (v : Value), p.length = j.ws.length ∧ (∀ s ∈ p, 1 ≤ s ∧ s < 2 ^ j.st.bs.length) ∧ e = .returned (.tuple #[v, .bool true]) ∧ NumsAt w' v (p.map fun s : Nat => (s : Int)) (fun k => w.heap.size ≤ k)) := by
  rcases h with ⟨h1, h2, h3⟩ | ⟨h1, p, v, h2, h3, h4, h5, h6⟩
  · refine ⟨h3, ?_⟩
    by_cases h : j.ws.length = 0
    · rw [decide_eq_true h] at h2
      exact .inr ⟨[], .slice none 0 0, h.symm, by simp, h2, none, 0, rfl, by decide, by decide, fun i hi => absurd hi (by simp)⟩
    · rw [decide_eq_false h] at h2
      exact .inl ⟨h1, h, h2⟩
  · exact ⟨h6, .inr ⟨p, v, h2, h3, h4, h5⟩⟩
set_option maxRecDepth 100000 in
set_option maxHeartbeats 8000000 in
theorem true_any (j : JobD) (bs ws : Value) (l : List Int) (v : Value) (w : World) (hbs : SpansAt w bs j.st.bs (fun k => k < w.heap.size)) (hws : SpansAt w ws j.ws (fun k => k < w.heap.size)) (hus : SmallAt .u8 w v l (fun k => k < w.heap.size)) (htz : TabZ w) :
    Calls Tryd.prog 4 #[jobV j bs ws, v] w fun e w' => e = .returned (.bool true) ∧ Below w.heap.size w w' := by
  have HBS := Lib.hid hbs
  have HWS := Lib.hid hws
  have HUS := Lib.hid hus
  have HTZ := Lib.hid htz
  have h1z := htz.lt
  obtain ⟨ao, cap, hv1, _⟩ := id hbs
  obtain ⟨ao2, cap2, hv2, _⟩ := id hws
  obtain ⟨ao3, cap3, hv3, _⟩ := id hus
  subst hv1 hv2 hv3
  obtain ⟨nb, hnb⟩ : ∃ n, n = j.st.bs.length := ⟨_, rfl⟩
  obtain ⟨nw, hnw⟩ : ∃ n, n = j.ws.length := ⟨_, rfl⟩
  obtain ⟨nu, hnu⟩ : ∃ n, n = l.length := ⟨_, rfl⟩
  rw [← hnb] at HBS
  rw [← hnw] at HWS
  rw [← hnu] at HUS
  unfold jobV
  rw [← hnb, ← hnw, ← hnu]
  have HNB := Lib.hid hnb
  have HNW := Lib.hid hnw
  have HNU := Lib.hid hnu
  clear hbs hws hus htz hnb hnw hnu
  obtain ⟨fl, hfl⟩ : ∃ x, x = j.st.film.1 := ⟨_, rfl⟩
  obtain ⟨fh, hfh⟩ : ∃ x, x = j.st.film.2 := ⟨_, rfl⟩
  rw [← hfl, ← hfh]
  have HFL := Lib.hid (And.intro hfl hfh)
  clear hfl hfh
  have HJV := Lib.hid (show jobV j (.slice ao nb cap) (.slice ao2 nw cap2) = .agg #[.slice ao nb cap, .int .i64 fl, .int .i64 fh, .slice ao2 nw cap2] by unfold jobV; rw [← HFL.out.1, ← HFL.out.2])
  have HBw0 := Lib.hid (Below.alloc' w (.cells #[.slice ao nb cap, .int .i64 fl, .int .i64 fh, .slice ao2 nw cap2] 28))
  have HXw0 := Lib.hid (show (w.alloc (.cells #[.slice ao nb cap, .int .i64 fl, .int .i64 fh, .slice ao2 nw cap2] 28)).heap[w.heap.size]? = some (.cells #[.slice ao nb cap, .int .i64 fl, .int .i64 fh, .slice ao2 nw cap2] 28 (0, 0)) from heap_alloc_at _ _ _ rfl)
  go_enter Tryd.func4, Tryd.ntmps4
  go_wp2_with fail
  have hc := far_any j nb cap nw cap2 0 0 ao ao2 none (w.alloc (.cells #[.slice ao nb cap, .int .i64 fl, .int .i64 fh, .slice ao2 nw cap2] 28))
  rw [HJV.out] at hc
  refine hc.mono ?_
  rintro e w1 ⟨rfl, hb⟩
  clear hc
  dsimp only
  have HXw1 := Lib.hid ((hb.block _ (lt_of_block HXw0.out)).trans HXw0.out)
  have HBw1 := Lib.hid (HBw0.out.trans (hb.mono HBw0.out.size))
  clear hb
  by_cases h40 : 40 < max nb (max nw 0)
  · rw [decide_eq_true h40]
    clear h40
    go_wp2_with fail
    refine (lawake_any _ (HTZ.out.below HBw1.out h1z)).mono ?_
    rintro e w9 ⟨rfl, hb9⟩
    dsimp only
    have HB9 := Lib.hid (HBw1.out.trans (hb9.mono HBw1.out.size))
    clear hb9
    go_wp2_with fail
    go_ret
    exact ⟨rfl, HB9.out⟩
  · rw [decide_eq_false h40]
    clear h40
    have c0 : w1.cell? ⟨w.heap.size, 0, none⟩ = some (.slice ao nb cap) := by rw [cell_of_row _ _ _ _ _ _ HXw1.out]; rfl
    have c1 : w1.cell? ⟨w.heap.size, 1, none⟩ = some (.int .i64 fl) := by rw [cell_of_row _ _ _ _ _ _ HXw1.out]; rfl
    have c2 : w1.cell? ⟨w.heap.size, 2, none⟩ = some (.int .i64 fh) := by rw [cell_of_row _ _ _ _ _ _ HXw1.out]; rfl
    have c3 : w1.cell? ⟨w.heap.size, 3, none⟩ = some (.slice ao2 nw cap2) := by rw [cell_of_row _ _ _ _ _ _ HXw1.out]; rfl
    go_wp2_with fail
    have hc := Plan_any j (.slice ao nb cap) (.slice ao2 nw cap2) w1 (HBS.out.later HBw1.out.size (fun k h1 _ => HBw1.out.block k h1)).low9 (HWS.out.later HBw1.out.size (fun k h1 _ => HBw1.out.block k h1)).low9 (HTZ.out.below HBw1.out h1z)
    rw [HJV.out] at hc
    refine hc.mono ?_
    rintro e w2 ⟨pv, rfl, hpv, hb⟩
    clear hc c0 c1 c2 c3
    dsimp only
    have HXw2 := Lib.hid ((hb.block _ (lt_of_block HXw1.out)).trans HXw1.out)
    have HBw2 := Lib.hid (HBw1.out.trans (hb.mono HBw1.out.size))
    clear hb
    have c0 : w2.cell? ⟨w.heap.size, 0, none⟩ = some (.slice ao nb cap) := by rw [cell_of_row _ _ _ _ _ _ HXw2.out]; rfl
    have c1 : w2.cell? ⟨w.heap.size, 1, none⟩ = some (.int .i64 fl) := by rw [cell_of_row _ _ _ _ _ _ HXw2.out]; rfl
    have c2 : w2.cell? ⟨w.heap.size, 2, none⟩ = some (.int .i64 fh) := by rw [cell_of_row _ _ _ _ _ _ HXw2.out]; rfl
    have c3 : w2.cell? ⟨w.heap.size, 3, none⟩ = some (.slice ao2 nw cap2) := by rw [cell_of_row _ _ _ _ _ _ HXw2.out]; rfl
    obtain ⟨a6, c6, hpve, _⟩ := id hpv
    subst hpve
    rw [List.length_map] at hpv ⊢
    obtain ⟨pd, hpd⟩ : ∃ x, x = planD j := ⟨_, rfl⟩
    rw [← hpd] at hpv ⊢
    have HPD := Lib.hid hpd
    have HPV := Lib.hid (hpv.mono (Rd' := fun k => True) (fun _ _ => trivial))
    obtain ⟨pe, hpe⟩ : ∃ x, x = pd.2 := ⟨_, rfl⟩
    obtain ⟨np, hnp⟩ : ∃ x, x = pd.1.length := ⟨_, rfl⟩
    rw [← hnp] at HPV
    rw [← hpe, ← hnp]
    have HPE := Lib.hid (And.intro hpe hnp)
    clear hpv hpd hpe hnp
    go_wp2_with fail
    have hc := r12job_any j (.slice ao nb cap) (.slice ao2 nw cap2) w2 (HBS.out.later HBw2.out.size (fun k h1 _ => HBw2.out.block k h1)).low9 (HWS.out.later HBw2.out.size (fun k h1 _ => HBw2.out.block k h1)).low9
    rw [HJV.out] at hc
    refine hc.mono ?_
    rintro e w3 ⟨rfl, hb⟩
    clear hc c0 c1 c2 c3
    dsimp only
    have HPV3 := Lib.hid (HPV.out.later hb.size (fun k h _ => hb.block k h)).low9
    have HXw3 := Lib.hid ((hb.block _ (lt_of_block HXw2.out)).trans HXw2.out)
    have HBw3 := Lib.hid (HBw2.out.trans (hb.mono HBw2.out.size))
    clear hb
    have c0 : w3.cell? ⟨w.heap.size, 0, none⟩ = some (.slice ao nb cap) := by rw [cell_of_row _ _ _ _ _ _ HXw3.out]; rfl
    have c1 : w3.cell? ⟨w.heap.size, 1, none⟩ = some (.int .i64 fl) := by rw [cell_of_row _ _ _ _ _ _ HXw3.out]; rfl
    have c2 : w3.cell? ⟨w.heap.size, 2, none⟩ = some (.int .i64 fh) := by rw [cell_of_row _ _ _ _ _ _ HXw3.out]; rfl
    have c3 : w3.cell? ⟨w.heap.size, 3, none⟩ = some (.slice ao2 nw cap2) := by rw [cell_of_row _ _ _ _ _ _ HXw3.out]; rfl
    cases hv : validJb j with
    | false =>
      obtain ⟨i1, i2, i3⟩ := invalidD hv
      have hpe0 : pe = 1 := by rw [HPE.out.1, HPD.out, i1]
      have hnp0 : np = 0 := by rw [HPE.out.2, HPD.out, i1]; rfl
      subst hpe0 hnp0
      have HI := Lib.hid (And.intro i2 i3)
      clear hv i1 i2 i3
      go_wp2_with fail
      have hc := Alone_any j (.slice ao nb cap) (.slice ao2 nw cap2) w3 (HBS.out.later HBw3.out.size (fun k h1 _ => HBw3.out.block k h1)).low9 (HWS.out.later HBw3.out.size (fun k h1 _ => HBw3.out.block k h1)).low9
      rw [HJV.out, HI.out.1] at hc
      refine hc.mono ?_
      rintro e w4 ⟨rfl, hb⟩
      clear hc c0 c1 c2 c3
      dsimp only
      have HXw4 := Lib.hid ((hb.block _ (lt_of_block HXw3.out)).trans HXw3.out)
      have HBw4 := Lib.hid (HBw3.out.trans (hb.mono HBw3.out.size))
      clear hb
      have c0 : w4.cell? ⟨w.heap.size, 0, none⟩ = some (.slice ao nb cap) := by rw [cell_of_row _ _ _ _ _ _ HXw4.out]; rfl
      have c1 : w4.cell? ⟨w.heap.size, 1, none⟩ = some (.int .i64 fl) := by rw [cell_of_row _ _ _ _ _ _ HXw4.out]; rfl
      have c2 : w4.cell? ⟨w.heap.size, 2, none⟩ = some (.int .i64 fh) := by rw [cell_of_row _ _ _ _ _ _ HXw4.out]; rfl
      have c3 : w4.cell? ⟨w.heap.size, 3, none⟩ = some (.slice ao2 nw cap2) := by rw [cell_of_row _ _ _ _ _ _ HXw4.out]; rfl
      go_wp2_with fail
      have hc := Rounds_any j (.slice ao nb cap) (.slice ao2 nw cap2) w4 (HBS.out.later HBw4.out.size (fun k h1 _ => HBw4.out.block k h1)).low9 (HWS.out.later HBw4.out.size (fun k h1 _ => HBw4.out.block k h1)).low9 (HTZ.out.below HBw4.out h1z)
      rw [HJV.out] at hc
      refine hc.mono ?_
      rintro e w5 ⟨rv, rfl, hrv, hb⟩
      clear hc c0 c1 c2 c3
      dsimp only
      have HXw5 := Lib.hid ((hb.block _ (lt_of_block HXw4.out)).trans HXw4.out)
      have HBw5 := Lib.hid (HBw4.out.trans (hb.mono HBw4.out.size))
      clear hb
      obtain ⟨ar, cr, hre, _⟩ := id hrv
      subst hre
      rw [List.length_map, HI.out.2]
      clear hrv
      go_wp2_with fail
      refine (lawake_any _ (HTZ.out.below HBw5.out h1z)).mono ?_
      rintro e w9 ⟨rfl, hb9⟩
      dsimp only
      have HB9 := Lib.hid (HBw5.out.trans (hb9.mono HBw5.out.size))
      clear hb9
      go_wp2_with fail
      go_ret
      exact ⟨rfl, HB9.out⟩
    | true =>
      have HV := Lib.hid hv
      have hnw4 : nw ≤ 4 := by rw [HNW.out]; exact (validJb_parts hv).2.1
      have hnb8 : nb ≤ 8 := by rw [HNB.out]; exact (validSt_parts (validJb_parts hv).1).1
      have hp2 : (canD j (everyD j) = true ∧ pe = 0 ∧ nw = np ∧ PlanFacts j pd.1) ∨ (canD j (everyD j) = false ∧ pe = 4 ∧ np = 0) := by
        cases hc : canD j (everyD j) with
        | true =>
          have h9 := planD_can hv hc
          have hpf := plan_facts (can_told hc)
          rw [HPE.out.1, HPE.out.2, HPD.out, h9]
          exact .inl ⟨rfl, rfl, by rw [HNW.out]; exact hpf.len.symm, hpf⟩
        | false =>
          have h9 := planD_cannot hv hc
          rw [HPE.out.1, HPE.out.2, HPD.out, h9]
          exact .inr ⟨rfl, rfl, rfl⟩
      have HP2 := Lib.hid hp2
      clear hv hp2
      rcases HP2.out with ⟨hc1, rfl, rfl, hpf⟩ | ⟨hc1, rfl, rfl⟩
      · have HC := Lib.hid (And.intro hc1 hpf)
        clear hc1 hpf HP2
        go_wp2_with fail
        refine (ldraws_any l (.slice ao3 nu cap3) w3 (by rw [HNU.out] at HUS ⊢; exact (HUS.out.later HBw3.out.size (fun k h1 _ => HBw3.out.block k h1)).mono (fun k h1 _ => h1))).mono ?_
        rintro e w5 ⟨rfl, hs5, hdr, hb45⟩
        clear c0 c1 c2 c3
        dsimp only
        obtain ⟨b2, hb2⟩ : ∃ x, x = w3.heap.size := ⟨_, rfl⟩
        rw [← hb2] at hs5 hdr
        try rw [← hb2]
        have hwb : w.heap.size < b2 := by rw [hb2]; exact lt_of_block HXw3.out
        have HS5 := Lib.hid (And.intro hs5 (And.intro hb2 hb45))
        have HDR := Lib.hid hdr
        have hx5 := (hb45.block _ (lt_of_block HXw3.out)).trans HXw3.out
        have HXw5 := Lib.hid hx5
        clear hs5 hdr hb2 hb45 hx5
        go_upto_region 12 with fail
        have h5s := HS5.out.1
        obtain ⟨db, hdb⟩ : ∃ x, x = w5.heap.size := ⟨_, rfl⟩
        obtain ⟨ob, hob⟩ : ∃ x, x = db + 1 := ⟨_, rfl⟩
        refine wp_name (fun W => W.heap.size = ob + 1 ∧ W.heap[db]? = some (.cells #[ldrawV b2] 39 (0, 0)) ∧ W.heap[ob]? = some (.cells #[.slice none 0 0] 32 (0, 0)) ∧ Below w5.heap.size w5 W) ⟨by rw [hob, hdb]; simp, ?_, ?_, ((Below.refl _ _).alloc (Nat.le_refl _) _).alloc (by simp) _⟩ ?_
        · exact (hget_old _ _ _ (by simp; omega)).trans (heap_alloc_at _ _ _ hdb)
        · exact heap_alloc_at _ _ _ (by rw [hob, hdb]; simp)
        rintro w6 ⟨hs6, hd6, ho6, hb56⟩
        rw [← hdb, ← hob]
        have HOB := Lib.hid (show db = b2 + 2 ∧ ob = b2 + 3 by omega)
        have hx6 := (hb56.block _ (lt_of_block HXw5.out)).trans HXw5.out
        have HXw6 := Lib.hid hx6
        have HBw6 := Lib.hid (HBw3.out.trans ((HS5.out.2.2.trans (hb56.mono HS5.out.2.2.size)).mono HBw3.out.size))
        have HD6 := Lib.hid (HDR.out.later hb56.size (fun k h _ => hb56.block k h))
        have HR6 := Lib.hid (And.intro hd6 (And.intro ho6 hs6))
        have HPV6 := Lib.hid ((HPV3.out.later HS5.out.2.2.size (fun k h _ => HS5.out.2.2.block k h)).later hb56.size (fun k h _ => hb56.block k h))
        have hob1 : b2 + 2 ≤ db ∧ db + 1 ≤ ob := by omega
        clear hdb hob h5s hs6
        have c0 : w6.cell? ⟨w.heap.size, 0, none⟩ = some (.slice ao nb cap) := by rw [cell_of_row _ _ _ _ _ _ HXw6.out]; rfl
        have c1 : w6.cell? ⟨w.heap.size, 1, none⟩ = some (.int .i64 fl) := by rw [cell_of_row _ _ _ _ _ _ HXw6.out]; rfl
        have c2 : w6.cell? ⟨w.heap.size, 2, none⟩ = some (.int .i64 fh) := by rw [cell_of_row _ _ _ _ _ _ HXw6.out]; rfl
        have c3 : w6.cell? ⟨w.heap.size, 3, none⟩ = some (.slice ao2 nw cap2) := by rw [cell_of_row _ _ _ _ _ _ HXw6.out]; rfl
        clear hb56 hx6 hd6 ho6
        go_wp2_with fail
        clear c0 c1 c2 c3
        go_loopw [88] (fun iv wr => ∃ (i : Nat) (xs : List Int) (ov : Value), i ≤ nb ∧ iv = .int .i64 i ∧ xs.length = i ∧ (∀ q (h : q < xs.length) (h' : q < j.st.bs.length), j.st.bs[q].1 ≤ xs[q] ∧ xs[q] ≤ j.st.bs[q].2) ∧ wr.heap[ob]? = some (.cells #[ov] 32 (0, 0)) ∧ wr.ownsRow (ob + 1) 3 1 ov i (xs.map (Value.int .i64)) ∧ DrawJ .u8 49 l (b2 + 1) b2 (b2 + 2) (.slice ao3 nu cap3) i wr ∧ Keeps (fun k => k = b2 + 1 ∨ k = ob) w6 wr) (fun iv _ => nb - (intOf iv).toNat)
        case atStart => exact ⟨0, [], _, Nat.zero_le _, rfl, rfl, fun q h => by simp at h, HR6.out.2.1, World.ownsRow_nil _ _ _ _, HD6.out, Keeps.refl _ _⟩
        case round =>
          obtain ⟨i, xs, ov, hi, rfl, hxl, hxs, hor, hown, hdr, hk⟩ := hrel
          have HXL := Lib.hid hxl
          have HXS := Lib.hid hxs
          have HOR := Lib.hid hor
          have HOWN := Lib.hid hown
          have HD := Lib.hid hdr
          have HK := Lib.hid hk
          have hsz : ob + 1 ≤ wr.heap.size := by have := hk.size; have := HR6.out.2.2; omega
          have hlow : ∀ k, k < b2 → wr.heap[k]? = w6.heap[k]? := fun k hk' => hk.block k (by have := HR6.out.2.2; omega) (by omega)
          have HLOW := Lib.hid hlow
          have HSp := Lib.hid ((HBS.out.later HBw6.out.size (fun k h1 _ => HBw6.out.block k h1)).later (W := wr) hk.size (fun k h1 h2 => hk.block k h1 (by omega)))
          have HDB := Lib.hid ((hk.block db (by have := HR6.out.2.2; omega) (by omega)).trans HR6.out.1)
          clear hxl hxs hor hown hdr hk hlow
          by_cases hlt : i < nb
          · have hw : IntKind.i64.wrap ((i : Int) + 1) = ((i + 1 : Nat) : Int) := by rw [IntWalk.i64_in _ (by omega)]; omega
            have hlti : (i : Int) < (nb : Int) := by omega
            have hil : i < j.st.bs.length := by rw [← HNB.out]; exact hlt
            obtain ⟨ao', cap', hv', _, _, hel⟩ := HSp.out
            injection hv' with hao hnn hcap
            subst hao hcap
            clear hnn
            obtain ⟨b, off, rfl, hbw, hbl, e0, e1⟩ := hel i hil
            have hok := (validSt_parts (validJb_parts HV.out).1).2.2 _ (List.getElem_mem hil)
            unfold blockOk at hok
            simp only [Bool.and_eq_true, decide_eq_true_eq] at hok
            obtain ⟨⟨lo, hi'⟩, hx⟩ : ∃ x, x = j.st.bs[i] := ⟨_, rfl⟩
            rw [← hx] at e0 e1 hok
            have HX := Lib.hid hx
            have HOK := Lib.hid hok
            clear hx hel hok
            go_upto_region 15 with fail
            clear e0 e1
            obtain ⟨bb, hbb⟩ : ∃ x, x = wr.heap.size := ⟨_, rfl⟩
            obtain ⟨A, hA⟩ : ∃ A, A = wr.alloc (.cells #[.int .i64 lo, .int .i64 hi'] 24) := ⟨_, rfl⟩
            have hAr : A.heap[bb]? = some (.cells #[.int .i64 lo, .int .i64 hi'] 24 (0, 0)) := by rw [hA, hbb]; exact heap_alloc_at _ _ _ rfl
            have hBA : Below wr.heap.size wr A := by rw [hA]; exact Below.alloc' _ _
            try rw [← hA]
            try rw [← hbb]
            have hbb2 : ob + 1 ≤ bb := by omega
            have HBA := Lib.hid hBA
            have HAO := Lib.hid ((hBA.block _ (lt_of_block HOR.out)).trans HOR.out)
            have HAD := Lib.hid ((hBA.block _ (lt_of_block HDB.out)).trans HDB.out)
            have hS0 : SD ob db bb b2 ov lo hi' A := ⟨by rw [cell_of_row _ _ _ _ _ _ HAO.out]; rfl, by rw [cell_of_row _ _ _ _ _ _ HAD.out]; rfl, by rw [cell_of_row _ _ _ _ _ _ hAr]; rfl, by rw [cell_of_row _ _ _ _ _ _ hAr]; rfl⟩
            clear hA hbb hAr hBA
            refine wp_region_tail 5 #[false, false, false, false, false, true, true] (SD ob db bb b2 ov lo hi') (by kernel_rfl) (by kernel_rfl) (by rfl) (hS0.below (Below.refl _ _).drew) fun hS => ?_
            obtain ⟨D, hD⟩ : ∃ D, D = A.drew := ⟨_, rfl⟩
            have hAD : Below A.heap.size A D := by rw [hD]; exact (Below.refl _ _).drew
            rw [← hD] at hS ⊢
            have HWD := Lib.hid (HBA.out.trans (hAD.mono HBA.out.size))
            clear hD hAD hS0
            refine wpAnyH_take (i := 0) (v := ?_) rfl (by kernel_rfl) (by kernel_rfl) (by kernel_rfl) (fun _ _ _ h => h) (Or.inl ⟨by rfl, ?_⟩) hS ?_
            rotate_left
            · (intro W hSw; obtain ⟨q0, q1, q2, q3⟩ := hSw; go_simp; try with_reducible rfl)
            try simp only [List.getElem_toArray, List.getElem_cons_succ, List.getElem_cons_zero, Act.put, List.setIfInBounds_toArray, List.set_cons_zero, List.set_cons_succ]
            refine wpAnyH_take (i := 1) (v := ?_) rfl (by kernel_rfl) (by kernel_rfl) (by kernel_rfl) (fun _ _ _ h => h) (Or.inl ⟨by rfl, ?_⟩) hS ?_
            rotate_left
            · (intro W hSw; obtain ⟨q0, q1, q2, q3⟩ := hSw; go_simp; try with_reducible rfl)
            try simp only [List.getElem_toArray, List.getElem_cons_succ, List.getElem_cons_zero, Act.put, List.setIfInBounds_toArray, List.set_cons_zero, List.set_cons_succ]
            refine wpAnyH_take (i := 2) (v := ?_) rfl (by kernel_rfl) (by kernel_rfl) (by kernel_rfl) (fun _ _ _ h => h) (Or.inl ⟨by rfl, ?_⟩) hS ?_
            rotate_left
            · (intro W hSw; obtain ⟨q0, q1, q2, q3⟩ := hSw; go_simp; try with_reducible rfl)
            try simp only [List.getElem_toArray, List.getElem_cons_succ, List.getElem_cons_zero, Act.put, List.setIfInBounds_toArray, List.set_cons_zero, List.set_cons_succ]
            refine wpAnyH_call (k := 3) (by kernel_rfl) rfl rfl (f := 73) (args := #[.agg #[.int .i64 lo, .int .i64 hi'], .pointer (some ⟨b2 + 1, 0, none⟩), .pointer (some ⟨b2, 0, none⟩)]) (by simp [execOp, go_sem, Act.eval, Act.put]) ?_
            refine (ldraw_any l (b2 + 1) b2 (b2 + 2) i _ lo hi' (by have := HOK.out; omega) (by omega) _ (HD.out.later HWD.out.size (fun k h _ => HWD.out.block k h))).mono ?_
            rintro e E ⟨m, hm1, hm2, rfl, hdE, hkE⟩
            dsimp only
            have hS := hS.keeps (by omega) hkE
            refine ⟨hS, ?_⟩
            have HM := Lib.hid (And.intro hm1 hm2)
            have hkrE : Keeps (fun k => k = b2 + 1) wr E := (Keeps.of_below HWD.out (fun k h1 h2 => absurd h2 (by omega))).trans hkE
            have HE := Lib.hid (And.intro hdE hkrE)
            clear hdE hkE hkrE hm1 hm2
            try simp only [List.getElem_toArray, List.getElem_cons_succ, List.getElem_cons_zero, Act.put, List.setIfInBounds_toArray, List.set_cons_zero, List.set_cons_succ]
            refine wpAnyH_ready (rs := [4]) (by kernel_rfl) (by simp) ?_
            refine AllReadyH.cons rfl (fun K hK => ?_) AllReadyH.nil
            go_simp
            obtain ⟨g, hg⟩ : ∃ x, x = E.heap.size := ⟨_, rfl⟩
            obtain ⟨F, hF⟩ : ∃ F, F = E.alloc (.cells #[.int .i64 m] 3) := ⟨_, rfl⟩
            have hFr : F.heap[g]? = some (.cells #[.int .i64 m] 3 (0, 0)) := by rw [hF, hg]; exact heap_alloc_at _ _ _ rfl
            have hEF : Below E.heap.size E F := by rw [hF]; exact Below.alloc' _ _
            have hkrF : Keeps (fun k => k = b2 + 1) wr F := HE.out.2.trans (Keeps.of_below hEF (fun k h1 h2 => absurd h2 (by omega)))
            have hownF : F.ownsRow (ob + 1) 3 1 ov i (xs.map (Value.int .i64)) := own_block HOWN.out (fun k e => hkrF.block k (HOWN.out.lt k e).2 (fun h => by have := (HOWN.out.lt k e).1; omega))
            have horF := (hkrF.block ob (lt_of_block HOR.out) (by omega)).trans HOR.out
            have hdF := HE.out.1.later hEF.size (fun k h _ => hEF.block k h)
            have hgo : ob + 1 ≤ g := by rw [hg]; have := HE.out.2.size; omega
            try rw [← hF]
            try rw [← hg]
            have hS2 := hS.below hEF
            have HF := Lib.hid (And.intro hFr (And.intro hkrF (And.intro hownF (And.intro horF hdF))))
            have hkF := hkrF.size
            clear hg hF hFr hEF hkrF hownF horF hdF hS
            refine hK _ _ hS2 (fun hS => ?_)
            clear hK K hS2
            try simp only [List.getElem_toArray, List.getElem_cons_succ, List.getElem_cons_zero, Act.put, List.setIfInBounds_toArray, List.set_cons_zero, List.set_cons_succ]
            refine wpAnyH_done (by kernel_rfl) ?_ _
            unfold TailQ
            simp only [List.drop_succ_cons, List.drop_zero]
            clear hS
            go_wp2_with (first | (refine wpList_append_here rfl (.tmp 92) (.tmp 96) 32 rfl (ob + 1) 3 1 8 _ underInts infoInt rfl (by decide) ov i _ rfl HF.out.2.2.1 g 1 #[.int .i64 m] 3 (0, 0) rfl HF.out.1 rfl (by simp [Value.oneCell']) (by omega) (by decide) (by have := lt_of_block HF.out.1; omega) ?_))
            intro v7 W7 hown7 hg7 hat7
            obtain ⟨a7, c7, rfl⟩ : ∃ a c, v7 = .slice a (i + 1) c := by
              rcases hown7.2 with ⟨h3, h4⟩ | ⟨g, cap, cur, h3, _⟩
              · omega
              · exact ⟨_, _, h3⟩
            have hk7 := keeps_grown hg7
            have hobk : ∀ k, ov.ownBlock = some k → ob + 1 ≤ k := fun k e => (HOWN.out.lt k e).1
            have hlow7 : ∀ k, k < ob + 1 → W7.heap[k]? = F.heap[k]? := fun k h => hk7.block k (by omega) (fun e => by have := hobk k e; omega)
            have hd7 := HF.out.2.2.2.2.later (W := W7) hk7.size (fun k _ h => hlow7 k (by omega))
            have hk57 : Keeps (fun k => k = b2 + 1 ∨ k = ob) w6 W7 := by
              have h1 : Keeps (fun k => k = b2 + 1 ∨ k = ob) w6 F := HK.out.trans (HF.out.2.1.mono fun k _ h => Or.inl h)
              exact h1.transNew hk7 (fun k e => by have := hobk k e; have := HR6.out.2.2; omega)
            have hor7 := (hlow7 ob (by omega)).trans HF.out.2.2.2.1
            have p0 : W7.cell? ⟨ob, 0, none⟩ = some ov := by rw [cell_of_row _ _ _ _ _ _ hor7]; rfl
            have pf : ∀ k, W7.frozen? ⟨ob, k, none⟩ = false := fun k => frozen_of_row _ _ _ _ _ hor7
            have H7 := Lib.hid (And.intro hown7 (And.intro hd7 (And.intro hk57 hor7)))
            clear hown7 hg7 hat7 hk7 hobk hlow7 hd7 hk57 hor7
            go_upto_region 16 with fail
            obtain ⟨G, hG⟩ : ∃ G, G = W7.setCell ⟨ob, 0, none⟩ (.slice a7 (i + 1) c7) := ⟨_, rfl⟩
            have hGr : G.heap[ob]? = some (.cells #[.slice a7 (i + 1) c7] 32 (0, 0)) := by rw [hG]; simp [World.setCell, Array.getElem?_modify, H7.out.2.2.2]
            have hGk : Keeps (fun k => k = ob) W7 G := by rw [hG]; exact Keeps.setCell (Mut := fun k => k = ob) _ _ _ rfl
            have hGo : G.ownsRow (ob + 1) 3 1 (.slice a7 (i + 1) c7) (i + 1) (xs.map (Value.int .i64) ++ [.int .i64 m]) := own_block H7.out.1 (fun k e => hGk.block k (H7.out.1.lt k e).2 (fun h => by have := (H7.out.1.lt k e).1; omega))
            have hGd := H7.out.2.1.later hGk.size (fun k h h2 => hGk.block k h (by omega))
            have hGK : Keeps (fun k => k = b2 + 1 ∨ k = ob) w6 G := H7.out.2.2.1.trans (hGk.mono fun k _ h => Or.inr h)
            rw [← hG]
            have HG := Lib.hid (And.intro hGr (And.intro hGo (And.intro hGd hGK)))
            clear hG hGr hGk hGo hGd hGK p0 pf
            go_wp2_with fail
            refine ⟨⟨i + 1, xs ++ [m], _, hlt, by push_cast; rfl, by rw [List.length_append, HXL.out]; rfl, fun q h h' => ?_, HG.out.1, by rw [List.map_append]; exact HG.out.2.1, HG.out.2.2.1, HG.out.2.2.2⟩, by simp [intOf]; omega⟩
            by_cases hq : q < xs.length
            · rw [List.getElem_append_left hq]
              exact HXS.out q hq h'
            · have hqi : q = i := by rw [List.length_append, HXL.out] at h; simp at h; rw [HXL.out] at hq; omega
              subst hqi
              rw [List.getElem_append_right (by rw [HXL.out]; exact Nat.le_refl _)]
              simp only [HXL.out, Nat.sub_self, List.getElem_cons_zero]
              rw [← HX.out]
              exact HM.out
          · have hin : nb = i := by omega
            subst hin
            have hlti : ¬ (nb : Int) < (nb : Int) := by omega
            have hnum := nums_of_own (show nb = xs.length from HXL.out.symm) HOWN.out
            obtain ⟨ao4, cap4, hve, _⟩ := id hnum
            subst hve
            rw [HXL.out] at hnum HOR
            have HNUM := Lib.hid (hnum.mono (Rd' := fun k => b2 + 2 ≤ k) (fun k h => by omega))
            have HXwr := Lib.hid ((HK.out.block _ (lt_of_block HXw6.out) (by have := HOB.out; omega)).trans HXw6.out)
            have HBwr := Lib.hid (HBw6.out.trans (HK.out.below HBw6.out.size (fun k h e => by omega)))
            have hws9 := (HWS.out.later HBw6.out.size (fun k h1 _ => HBw6.out.block k h1)).later (W := wr) HK.out.size (fun k h1 h2 => HK.out.block k h1 (by omega))
            have HWSwr := Lib.hid (hws9.mono9 (Rd' := fun k => k ≠ b2 + 1) (fun k h1 h2 => by omega))
            have hpv9 := HPV6.out.later (W := wr) HK.out.size (fun k h1 h2 => HK.out.block k h1 (by have := HS5.out.2.1; omega))
            have HPVr := Lib.hid (hpv9.mono (Rd' := fun k => k ≠ b2 + 1) (fun k h => by have := HS5.out.2.1; omega))
            have hus9 := (HUS.out.later HBw6.out.size (fun k h1 _ => HBw6.out.block k h1)).later (W' := wr) HK.out.size (fun k h1 h2 => HK.out.block k h1 (by omega))
            have HUSwr := Lib.hid hus9
            have HDBwr := Lib.hid ((HK.out.block db (by have := HR6.out.2.2; omega) (by omega)).trans HR6.out.1)
            have eg := enters_of (P := Tryd.prog) Tryd.func29 (by kernel_rfl) rfl
            clear hnum hws9 hpv9 hus9 hlt
            go_wp2_with fail
            refine (lgood_any j HV.out pd.1 HC.out.2 l xs (.slice ao3 nu cap3) _ w.heap.size ob db b2 nb nw cap cap2 cap4 nb ao ao2 ao4 HNB.out HNW.out HXL.out (by omega) HXS.out wr hwb (by omega) (by omega) (by rw [← HFL.out.1, ← HFL.out.2]; exact HXwr.out) HOR.out HDBwr.out HWSwr.out HPVr.out HD.out HNUM.out).mono ?_
            rintro e w10 ⟨rfl, hd10, hk10⟩
            dsimp only
            have HDw10 := Lib.hid hd10
            have HKw10 := Lib.hid (HK.out.trans (hk10.mono (Mut' := fun k => k = b2 + 1 ∨ k = ob) fun k _ h => Or.inl h))
            have HXw10 := Lib.hid ((hk10.block _ (lt_of_block HXwr.out) (by omega)).trans HXwr.out)
            have HBw10 := Lib.hid (HBwr.out.trans (hk10.below HBwr.out.size (fun k h e => by omega)))
            have HWSw10 := Lib.hid (HWSwr.out.later (W := w10) hk10.size (fun k h1 h2 => hk10.block k h1 h2))
            have HSpw10 := Lib.hid (HSp.out.later (W := w10) hk10.size (fun k h1 h2 => hk10.block k h1 (by omega)))
            have HUSw10 := Lib.hid (HUSwr.out.later (W' := w10) hk10.size (fun k h1 h2 => hk10.block k h1 (by omega)))
            have HNUMw10 := Lib.hid (HNUM.out.later (W := w10) hk10.size (fun k h1 h2 => hk10.block k h1 (by omega)))
            have HORw10 := Lib.hid ((hk10.block ob (lt_of_block HOR.out) (by omega)).trans HOR.out)
            have HDBw10 := Lib.hid ((hk10.block db (lt_of_block HDBwr.out) (by omega)).trans HDBwr.out)
            clear hd10 hk10 HWSwr HSp HUSwr HNUM HOR HDBwr HPVr HK HD HXwr HBwr
            have c0 : w10.cell? ⟨w.heap.size, 0, none⟩ = some (.slice ao nb cap) := by rw [cell_of_row _ _ _ _ _ _ HXw10.out]; rfl
            have c1 : w10.cell? ⟨w.heap.size, 1, none⟩ = some (.int .i64 fl) := by rw [cell_of_row _ _ _ _ _ _ HXw10.out]; rfl
            have c2 : w10.cell? ⟨w.heap.size, 2, none⟩ = some (.int .i64 fh) := by rw [cell_of_row _ _ _ _ _ _ HXw10.out]; rfl
            have c3 : w10.cell? ⟨w.heap.size, 3, none⟩ = some (.slice ao2 nw cap2) := by rw [cell_of_row _ _ _ _ _ _ HXw10.out]; rfl
            go_wp2_with fail
            have hc := made_any j HV.out l (.slice ao3 nu cap3) (.slice ao nb cap) (.slice ao2 nw cap2) w10 HSpw10.out.low9 HWSw10.out.low9 (by rw [HNU.out] at HUSw10 ⊢; exact HUSw10.out.mono (fun k h _ => h))
            rw [HJV.out] at hc
            refine hc.mono ?_
            intro e w11 hm
            obtain ⟨hb11, hm⟩ := made_cases hm
            rcases hm with ⟨hb0, hw0, rfl⟩ | ⟨p, v, hpl, hps, rfl, hpn⟩
            · clear hc
              dsimp only
              have h9 := cannot_empty (x := j) hb0 hw0
              rw [HC.out.1] at h9
              cases h9
            · clear hc c0 c1 c2 c3
              dsimp only
              obtain ⟨a8, c8, hve8, _⟩ := id hpn
              subst hve8
              have hpl2 : p.length = nw := by rw [hpl, HNW.out]
              rw [List.length_map, hpl2] at hpn ⊢
              have hs10 := HKw10.out.size
              have hs6 := HR6.out.2.2
              have HPN := Lib.hid (hpn.mono (Rd' := fun k => k ≠ b2 + 1) (fun k h => by omega))
              have HPL := Lib.hid (And.intro hpl (And.intro hps hpl2))
              have HXw11 := Lib.hid ((hb11.block _ (lt_of_block HXw10.out)).trans HXw10.out)
              have HBw11 := Lib.hid (HBw10.out.trans (hb11.mono HBw10.out.size))
              have HWSw11 := Lib.hid (HWSw10.out.later (W := w11) hb11.size (fun k h1 h2 => hb11.block k h1))
              have HSpw11 := Lib.hid (HSpw10.out.later (W := w11) hb11.size (fun k h1 h2 => hb11.block k h1))
              have HNUMw11 := Lib.hid (HNUMw10.out.later (W := w11) hb11.size (fun k h1 h2 => hb11.block k h1))
              have HORw11 := Lib.hid ((hb11.block ob (lt_of_block HORw10.out)).trans HORw10.out)
              have HDBw11 := Lib.hid ((hb11.block db (lt_of_block HDBw10.out)).trans HDBw10.out)
              have HDw11 := Lib.hid (HDw10.out.later (W := w11) hb11.size (fun k h1 h2 => hb11.block k h1))
              clear hpl hps hpn hb11
              have c0 : w11.cell? ⟨w.heap.size, 0, none⟩ = some (.slice ao nb cap) := by rw [cell_of_row _ _ _ _ _ _ HXw11.out]; rfl
              have c1 : w11.cell? ⟨w.heap.size, 1, none⟩ = some (.int .i64 fl) := by rw [cell_of_row _ _ _ _ _ _ HXw11.out]; rfl
              have c2 : w11.cell? ⟨w.heap.size, 2, none⟩ = some (.int .i64 fh) := by rw [cell_of_row _ _ _ _ _ _ HXw11.out]; rfl
              have c3 : w11.cell? ⟨w.heap.size, 3, none⟩ = some (.slice ao2 nw cap2) := by rw [cell_of_row _ _ _ _ _ _ HXw11.out]; rfl
              go_wp2_with fail
              have hc := Check_any j (.slice ao nb cap) (.slice ao2 nw cap2) (p.map fun s : Nat => (s : Int)) (.slice a8 nw c8) w11 HSpw11.out.low9 HWSw11.out.low9 HPN.out.low9 (by rw [List.length_map, HPL.out.2.2]; omega)
              rw [HJV.out] at hc
              refine hc.mono ?_
              rintro e w12 ⟨rfl, hb12⟩
              clear hc c0 c1 c2 c3
              dsimp only
              have HXw12 := Lib.hid ((hb12.block _ (lt_of_block HXw11.out)).trans HXw11.out)
              have HBw12 := Lib.hid (HBw11.out.trans (hb12.mono HBw11.out.size))
              rcases check_cases HV.out HPL.out.1 HPL.out.2.1 with ⟨hpj, hck⟩ | ⟨ca, cb, hck⟩
              · rw [hck]
                clear hck
                dsimp only
                have HPF := Lib.hid (plan_facts hpj)
                have HWSw12 := Lib.hid (HWSw11.out.later (W := w12) hb12.size (fun k h1 h2 => hb12.block k h1))
                have HPNw12 := Lib.hid (HPN.out.later (W := w12) hb12.size (fun k h1 h2 => hb12.block k h1))
                have HNUMw12 := Lib.hid (HNUMw11.out.later (W := w12) hb12.size (fun k h1 h2 => hb12.block k h1))
                have HORw12 := Lib.hid ((hb12.block ob (lt_of_block HORw11.out)).trans HORw11.out)
                have HDBw12 := Lib.hid ((hb12.block db (lt_of_block HDBw11.out)).trans HDBw11.out)
                have HDw12 := Lib.hid (HDw11.out.later (W := w12) hb12.size (fun k h1 h2 => hb12.block k h1))
                clear hpj hb12
                go_wp2_with fail
                refine (lgood_any j HV.out p HPF.out l xs (.slice ao3 nu cap3) _ w.heap.size ob db b2 nb nw cap cap2 cap4 (nb + 8 * nw) ao ao2 ao4 HNB.out HNW.out HXL.out (by omega) HXS.out w12 hwb (by omega) (by omega) (by rw [← HFL.out.1, ← HFL.out.2]; exact HXw12.out) HORw12.out HDBw12.out HWSw12.out HPNw12.out HDw12.out HNUMw12.out).mono ?_
                rintro e w13 ⟨rfl, hd13, hk13⟩
                dsimp only
                have HBw13 := Lib.hid (HBw12.out.trans (hk13.below HBw12.out.size (fun k h e => by omega)))
                clear hd13 hk13
                go_wp2_with fail
                refine (lawake_any _ (HTZ.out.below HBw13.out h1z)).mono ?_
                rintro e w9 ⟨rfl, hb9⟩
                dsimp only
                have HB9 := Lib.hid (HBw13.out.trans (hb9.mono HBw13.out.size))
                clear hb9
                go_wp2_with fail
                go_ret
                exact ⟨rfl, HB9.out⟩
              · rw [hck]
                clear hck hb12
                dsimp only
                go_wp2_with fail
                refine (lawake_any _ (HTZ.out.below HBw12.out h1z)).mono ?_
                rintro e w9 ⟨rfl, hb9⟩
                dsimp only
                have HB9 := Lib.hid (HBw12.out.trans (hb9.mono HBw12.out.size))
                clear hb9
                go_wp2_with fail
                go_ret
                exact ⟨rfl, HB9.out⟩
      · have HC := Lib.hid hc1
        clear hc1 HP2
        go_wp2_with fail
        refine (ldraws_any l (.slice ao3 nu cap3) w3 (by rw [HNU.out] at HUS ⊢; exact (HUS.out.later HBw3.out.size (fun k h1 _ => HBw3.out.block k h1)).mono (fun k h1 _ => h1))).mono ?_
        rintro e w5 ⟨rfl, hs5, hdr, hb45⟩
        clear c0 c1 c2 c3
        dsimp only
        obtain ⟨b2, hb2⟩ : ∃ x, x = w3.heap.size := ⟨_, rfl⟩
        rw [← hb2] at hs5 hdr
        try rw [← hb2]
        have hwb : w.heap.size < b2 := by rw [hb2]; exact lt_of_block HXw3.out
        have HS5 := Lib.hid (And.intro hs5 (And.intro hb2 hb45))
        have HDR := Lib.hid hdr
        have hx5 := (hb45.block _ (lt_of_block HXw3.out)).trans HXw3.out
        have HXw5 := Lib.hid hx5
        clear hs5 hdr hb2 hb45 hx5
        go_upto_region 12 with fail
        have h5s := HS5.out.1
        obtain ⟨db, hdb⟩ : ∃ x, x = w5.heap.size := ⟨_, rfl⟩
        obtain ⟨ob, hob⟩ : ∃ x, x = db + 1 := ⟨_, rfl⟩
        refine wp_name (fun W => W.heap.size = ob + 1 ∧ W.heap[db]? = some (.cells #[ldrawV b2] 39 (0, 0)) ∧ W.heap[ob]? = some (.cells #[.slice none 0 0] 32 (0, 0)) ∧ Below w5.heap.size w5 W) ⟨by rw [hob, hdb]; simp, ?_, ?_, ((Below.refl _ _).alloc (Nat.le_refl _) _).alloc (by simp) _⟩ ?_
        · exact (hget_old _ _ _ (by simp; omega)).trans (heap_alloc_at _ _ _ hdb)
        · exact heap_alloc_at _ _ _ (by rw [hob, hdb]; simp)
        rintro w6 ⟨hs6, hd6, ho6, hb56⟩
        rw [← hdb, ← hob]
        have HOB := Lib.hid (show db = b2 + 2 ∧ ob = b2 + 3 by omega)
        have hx6 := (hb56.block _ (lt_of_block HXw5.out)).trans HXw5.out
        have HXw6 := Lib.hid hx6
        have HBw6 := Lib.hid (HBw3.out.trans ((HS5.out.2.2.trans (hb56.mono HS5.out.2.2.size)).mono HBw3.out.size))
        have HD6 := Lib.hid (HDR.out.later hb56.size (fun k h _ => hb56.block k h))
        have HR6 := Lib.hid (And.intro hd6 (And.intro ho6 hs6))
        have HPV6 := Lib.hid ((HPV3.out.later HS5.out.2.2.size (fun k h _ => HS5.out.2.2.block k h)).later hb56.size (fun k h _ => hb56.block k h))
        have hob1 : b2 + 2 ≤ db ∧ db + 1 ≤ ob := by omega
        clear hdb hob h5s hs6
        have c0 : w6.cell? ⟨w.heap.size, 0, none⟩ = some (.slice ao nb cap) := by rw [cell_of_row _ _ _ _ _ _ HXw6.out]; rfl
        have c1 : w6.cell? ⟨w.heap.size, 1, none⟩ = some (.int .i64 fl) := by rw [cell_of_row _ _ _ _ _ _ HXw6.out]; rfl
        have c2 : w6.cell? ⟨w.heap.size, 2, none⟩ = some (.int .i64 fh) := by rw [cell_of_row _ _ _ _ _ _ HXw6.out]; rfl
        have c3 : w6.cell? ⟨w.heap.size, 3, none⟩ = some (.slice ao2 nw cap2) := by rw [cell_of_row _ _ _ _ _ _ HXw6.out]; rfl
        clear hb56 hx6 hd6 ho6
        go_wp2_with fail
        clear c0 c1 c2 c3
        go_loopw [88] (fun iv wr => ∃ (i : Nat) (xs : List Int) (ov : Value), i ≤ nb ∧ iv = .int .i64 i ∧ xs.length = i ∧ (∀ q (h : q < xs.length) (h' : q < j.st.bs.length), j.st.bs[q].1 ≤ xs[q] ∧ xs[q] ≤ j.st.bs[q].2) ∧ wr.heap[ob]? = some (.cells #[ov] 32 (0, 0)) ∧ wr.ownsRow (ob + 1) 3 1 ov i (xs.map (Value.int .i64)) ∧ DrawJ .u8 49 l (b2 + 1) b2 (b2 + 2) (.slice ao3 nu cap3) i wr ∧ Keeps (fun k => k = b2 + 1 ∨ k = ob) w6 wr) (fun iv _ => nb - (intOf iv).toNat)
        case atStart => exact ⟨0, [], _, Nat.zero_le _, rfl, rfl, fun q h => by simp at h, HR6.out.2.1, World.ownsRow_nil _ _ _ _, HD6.out, Keeps.refl _ _⟩
        case round =>
          obtain ⟨i, xs, ov, hi, rfl, hxl, hxs, hor, hown, hdr, hk⟩ := hrel
          have HXL := Lib.hid hxl
          have HXS := Lib.hid hxs
          have HOR := Lib.hid hor
          have HOWN := Lib.hid hown
          have HD := Lib.hid hdr
          have HK := Lib.hid hk
          have hsz : ob + 1 ≤ wr.heap.size := by have := hk.size; have := HR6.out.2.2; omega
          have hlow : ∀ k, k < b2 → wr.heap[k]? = w6.heap[k]? := fun k hk' => hk.block k (by have := HR6.out.2.2; omega) (by omega)
          have HLOW := Lib.hid hlow
          have HSp := Lib.hid ((HBS.out.later HBw6.out.size (fun k h1 _ => HBw6.out.block k h1)).later (W := wr) hk.size (fun k h1 h2 => hk.block k h1 (by omega)))
          have HDB := Lib.hid ((hk.block db (by have := HR6.out.2.2; omega) (by omega)).trans HR6.out.1)
          clear hxl hxs hor hown hdr hk hlow
          by_cases hlt : i < nb
          · have hw : IntKind.i64.wrap ((i : Int) + 1) = ((i + 1 : Nat) : Int) := by rw [IntWalk.i64_in _ (by omega)]; omega
            have hlti : (i : Int) < (nb : Int) := by omega
            have hil : i < j.st.bs.length := by rw [← HNB.out]; exact hlt
            obtain ⟨ao', cap', hv', _, _, hel⟩ := HSp.out
            injection hv' with hao hnn hcap
            subst hao hcap
            clear hnn
            obtain ⟨b, off, rfl, hbw, hbl, e0, e1⟩ := hel i hil
            have hok := (validSt_parts (validJb_parts HV.out).1).2.2 _ (List.getElem_mem hil)
            unfold blockOk at hok
            simp only [Bool.and_eq_true, decide_eq_true_eq] at hok
            obtain ⟨⟨lo, hi'⟩, hx⟩ : ∃ x, x = j.st.bs[i] := ⟨_, rfl⟩
            rw [← hx] at e0 e1 hok
            have HX := Lib.hid hx
            have HOK := Lib.hid hok
            clear hx hel hok
            go_upto_region 15 with fail
            clear e0 e1
            obtain ⟨bb, hbb⟩ : ∃ x, x = wr.heap.size := ⟨_, rfl⟩
            obtain ⟨A, hA⟩ : ∃ A, A = wr.alloc (.cells #[.int .i64 lo, .int .i64 hi'] 24) := ⟨_, rfl⟩
            have hAr : A.heap[bb]? = some (.cells #[.int .i64 lo, .int .i64 hi'] 24 (0, 0)) := by rw [hA, hbb]; exact heap_alloc_at _ _ _ rfl
            have hBA : Below wr.heap.size wr A := by rw [hA]; exact Below.alloc' _ _
            try rw [← hA]
            try rw [← hbb]
            have hbb2 : ob + 1 ≤ bb := by omega
            have HBA := Lib.hid hBA
            have HAO := Lib.hid ((hBA.block _ (lt_of_block HOR.out)).trans HOR.out)
            have HAD := Lib.hid ((hBA.block _ (lt_of_block HDB.out)).trans HDB.out)
            have hS0 : SD ob db bb b2 ov lo hi' A := ⟨by rw [cell_of_row _ _ _ _ _ _ HAO.out]; rfl, by rw [cell_of_row _ _ _ _ _ _ HAD.out]; rfl, by rw [cell_of_row _ _ _ _ _ _ hAr]; rfl, by rw [cell_of_row _ _ _ _ _ _ hAr]; rfl⟩
            clear hA hbb hAr hBA
            refine wp_region_tail 5 #[false, false, false, false, false, true, true] (SD ob db bb b2 ov lo hi') (by kernel_rfl) (by kernel_rfl) (by rfl) (hS0.below (Below.refl _ _).drew) fun hS => ?_
            obtain ⟨D, hD⟩ : ∃ D, D = A.drew := ⟨_, rfl⟩
            have hAD : Below A.heap.size A D := by rw [hD]; exact (Below.refl _ _).drew
            rw [← hD] at hS ⊢
            have HWD := Lib.hid (HBA.out.trans (hAD.mono HBA.out.size))
            clear hD hAD hS0
            refine wpAnyH_take (i := 0) (v := ?_) rfl (by kernel_rfl) (by kernel_rfl) (by kernel_rfl) (fun _ _ _ h => h) (Or.inl ⟨by rfl, ?_⟩) hS ?_
            rotate_left
            · (intro W hSw; obtain ⟨q0, q1, q2, q3⟩ := hSw; go_simp; try with_reducible rfl)
            try simp only [List.getElem_toArray, List.getElem_cons_succ, List.getElem_cons_zero, Act.put, List.setIfInBounds_toArray, List.set_cons_zero, List.set_cons_succ]
            refine wpAnyH_take (i := 1) (v := ?_) rfl (by kernel_rfl) (by kernel_rfl) (by kernel_rfl) (fun _ _ _ h => h) (Or.inl ⟨by rfl, ?_⟩) hS ?_
            rotate_left
            · (intro W hSw; obtain ⟨q0, q1, q2, q3⟩ := hSw; go_simp; try with_reducible rfl)
            try simp only [List.getElem_toArray, List.getElem_cons_succ, List.getElem_cons_zero, Act.put, List.setIfInBounds_toArray, List.set_cons_zero, List.set_cons_succ]
            refine wpAnyH_take (i := 2) (v := ?_) rfl (by kernel_rfl) (by kernel_rfl) (by kernel_rfl) (fun _ _ _ h => h) (Or.inl ⟨by rfl, ?_⟩) hS ?_
            rotate_left
            · (intro W hSw; obtain ⟨q0, q1, q2, q3⟩ := hSw; go_simp; try with_reducible rfl)
            try simp only [List.getElem_toArray, List.getElem_cons_succ, List.getElem_cons_zero, Act.put, List.setIfInBounds_toArray, List.set_cons_zero, List.set_cons_succ]
            refine wpAnyH_call (k := 3) (by kernel_rfl) rfl rfl (f := 73) (args := #[.agg #[.int .i64 lo, .int .i64 hi'], .pointer (some ⟨b2 + 1, 0, none⟩), .pointer (some ⟨b2, 0, none⟩)]) (by simp [execOp, go_sem, Act.eval, Act.put]) ?_
            refine (ldraw_any l (b2 + 1) b2 (b2 + 2) i _ lo hi' (by have := HOK.out; omega) (by omega) _ (HD.out.later HWD.out.size (fun k h _ => HWD.out.block k h))).mono ?_
            rintro e E ⟨m, hm1, hm2, rfl, hdE, hkE⟩
            dsimp only
            have hS := hS.keeps (by omega) hkE
            refine ⟨hS, ?_⟩
            have HM := Lib.hid (And.intro hm1 hm2)
            have hkrE : Keeps (fun k => k = b2 + 1) wr E := (Keeps.of_below HWD.out (fun k h1 h2 => absurd h2 (by omega))).trans hkE
            have HE := Lib.hid (And.intro hdE hkrE)
            clear hdE hkE hkrE hm1 hm2
            try simp only [List.getElem_toArray, List.getElem_cons_succ, List.getElem_cons_zero, Act.put, List.setIfInBounds_toArray, List.set_cons_zero, List.set_cons_succ]
            refine wpAnyH_ready (rs := [4]) (by kernel_rfl) (by simp) ?_
            refine AllReadyH.cons rfl (fun K hK => ?_) AllReadyH.nil
            go_simp
            obtain ⟨g, hg⟩ : ∃ x, x = E.heap.size := ⟨_, rfl⟩
            obtain ⟨F, hF⟩ : ∃ F, F = E.alloc (.cells #[.int .i64 m] 3) := ⟨_, rfl⟩
            have hFr : F.heap[g]? = some (.cells #[.int .i64 m] 3 (0, 0)) := by rw [hF, hg]; exact heap_alloc_at _ _ _ rfl
            have hEF : Below E.heap.size E F := by rw [hF]; exact Below.alloc' _ _
            have hkrF : Keeps (fun k => k = b2 + 1) wr F := HE.out.2.trans (Keeps.of_below hEF (fun k h1 h2 => absurd h2 (by omega)))
            have hownF : F.ownsRow (ob + 1) 3 1 ov i (xs.map (Value.int .i64)) := own_block HOWN.out (fun k e => hkrF.block k (HOWN.out.lt k e).2 (fun h => by have := (HOWN.out.lt k e).1; omega))
            have horF := (hkrF.block ob (lt_of_block HOR.out) (by omega)).trans HOR.out
            have hdF := HE.out.1.later hEF.size (fun k h _ => hEF.block k h)
            have hgo : ob + 1 ≤ g := by rw [hg]; have := HE.out.2.size; omega
            try rw [← hF]
            try rw [← hg]
            have hS2 := hS.below hEF
            have HF := Lib.hid (And.intro hFr (And.intro hkrF (And.intro hownF (And.intro horF hdF))))
            have hkF := hkrF.size
            clear hg hF hFr hEF hkrF hownF horF hdF hS
            refine hK _ _ hS2 (fun hS => ?_)
            clear hK K hS2
            try simp only [List.getElem_toArray, List.getElem_cons_succ, List.getElem_cons_zero, Act.put, List.setIfInBounds_toArray, List.set_cons_zero, List.set_cons_succ]
            refine wpAnyH_done (by kernel_rfl) ?_ _
            unfold TailQ
            simp only [List.drop_succ_cons, List.drop_zero]
            clear hS
            go_wp2_with (first | (refine wpList_append_here rfl (.tmp 92) (.tmp 96) 32 rfl (ob + 1) 3 1 8 _ underInts infoInt rfl (by decide) ov i _ rfl HF.out.2.2.1 g 1 #[.int .i64 m] 3 (0, 0) rfl HF.out.1 rfl (by simp [Value.oneCell']) (by omega) (by decide) (by have := lt_of_block HF.out.1; omega) ?_))
            intro v7 W7 hown7 hg7 hat7
            obtain ⟨a7, c7, rfl⟩ : ∃ a c, v7 = .slice a (i + 1) c := by
              rcases hown7.2 with ⟨h3, h4⟩ | ⟨g, cap, cur, h3, _⟩
              · omega
              · exact ⟨_, _, h3⟩
            have hk7 := keeps_grown hg7
            have hobk : ∀ k, ov.ownBlock = some k → ob + 1 ≤ k := fun k e => (HOWN.out.lt k e).1
            have hlow7 : ∀ k, k < ob + 1 → W7.heap[k]? = F.heap[k]? := fun k h => hk7.block k (by omega) (fun e => by have := hobk k e; omega)
            have hd7 := HF.out.2.2.2.2.later (W := W7) hk7.size (fun k _ h => hlow7 k (by omega))
            have hk57 : Keeps (fun k => k = b2 + 1 ∨ k = ob) w6 W7 := by
              have h1 : Keeps (fun k => k = b2 + 1 ∨ k = ob) w6 F := HK.out.trans (HF.out.2.1.mono fun k _ h => Or.inl h)
              exact h1.transNew hk7 (fun k e => by have := hobk k e; have := HR6.out.2.2; omega)
            have hor7 := (hlow7 ob (by omega)).trans HF.out.2.2.2.1
            have p0 : W7.cell? ⟨ob, 0, none⟩ = some ov := by rw [cell_of_row _ _ _ _ _ _ hor7]; rfl
            have pf : ∀ k, W7.frozen? ⟨ob, k, none⟩ = false := fun k => frozen_of_row _ _ _ _ _ hor7
            have H7 := Lib.hid (And.intro hown7 (And.intro hd7 (And.intro hk57 hor7)))
            clear hown7 hg7 hat7 hk7 hobk hlow7 hd7 hk57 hor7
            go_upto_region 16 with fail
            obtain ⟨G, hG⟩ : ∃ G, G = W7.setCell ⟨ob, 0, none⟩ (.slice a7 (i + 1) c7) := ⟨_, rfl⟩
            have hGr : G.heap[ob]? = some (.cells #[.slice a7 (i + 1) c7] 32 (0, 0)) := by rw [hG]; simp [World.setCell, Array.getElem?_modify, H7.out.2.2.2]
            have hGk : Keeps (fun k => k = ob) W7 G := by rw [hG]; exact Keeps.setCell (Mut := fun k => k = ob) _ _ _ rfl
            have hGo : G.ownsRow (ob + 1) 3 1 (.slice a7 (i + 1) c7) (i + 1) (xs.map (Value.int .i64) ++ [.int .i64 m]) := own_block H7.out.1 (fun k e => hGk.block k (H7.out.1.lt k e).2 (fun h => by have := (H7.out.1.lt k e).1; omega))
            have hGd := H7.out.2.1.later hGk.size (fun k h h2 => hGk.block k h (by omega))
            have hGK : Keeps (fun k => k = b2 + 1 ∨ k = ob) w6 G := H7.out.2.2.1.trans (hGk.mono fun k _ h => Or.inr h)
            rw [← hG]
            have HG := Lib.hid (And.intro hGr (And.intro hGo (And.intro hGd hGK)))
            clear hG hGr hGk hGo hGd hGK p0 pf
            go_wp2_with fail
            refine ⟨⟨i + 1, xs ++ [m], _, hlt, by push_cast; rfl, by rw [List.length_append, HXL.out]; rfl, fun q h h' => ?_, HG.out.1, by rw [List.map_append]; exact HG.out.2.1, HG.out.2.2.1, HG.out.2.2.2⟩, by simp [intOf]; omega⟩
            by_cases hq : q < xs.length
            · rw [List.getElem_append_left hq]
              exact HXS.out q hq h'
            · have hqi : q = i := by rw [List.length_append, HXL.out] at h; simp at h; rw [HXL.out] at hq; omega
              subst hqi
              rw [List.getElem_append_right (by rw [HXL.out]; exact Nat.le_refl _)]
              simp only [HXL.out, Nat.sub_self, List.getElem_cons_zero]
              rw [← HX.out]
              exact HM.out
          · have hin : nb = i := by omega
            subst hin
            have hlti : ¬ (nb : Int) < (nb : Int) := by omega
            have hnum := nums_of_own (show nb = xs.length from HXL.out.symm) HOWN.out
            obtain ⟨ao4, cap4, hve, _⟩ := id hnum
            subst hve
            rw [HXL.out] at hnum HOR
            have HNUM := Lib.hid (hnum.mono (Rd' := fun k => b2 + 2 ≤ k) (fun k h => by omega))
            have HXwr := Lib.hid ((HK.out.block _ (lt_of_block HXw6.out) (by have := HOB.out; omega)).trans HXw6.out)
            have HBwr := Lib.hid (HBw6.out.trans (HK.out.below HBw6.out.size (fun k h e => by omega)))
            have hws9 := (HWS.out.later HBw6.out.size (fun k h1 _ => HBw6.out.block k h1)).later (W := wr) HK.out.size (fun k h1 h2 => HK.out.block k h1 (by omega))
            have HWSwr := Lib.hid (hws9.mono9 (Rd' := fun k => k ≠ b2 + 1) (fun k h1 h2 => by omega))
            have hpv9 := HPV6.out.later (W := wr) HK.out.size (fun k h1 h2 => HK.out.block k h1 (by have := HS5.out.2.1; omega))
            have HPVr := Lib.hid (hpv9.mono (Rd' := fun k => k ≠ b2 + 1) (fun k h => by have := HS5.out.2.1; omega))
            have hus9 := (HUS.out.later HBw6.out.size (fun k h1 _ => HBw6.out.block k h1)).later (W' := wr) HK.out.size (fun k h1 h2 => HK.out.block k h1 (by omega))
            have HUSwr := Lib.hid hus9
            have HDBwr := Lib.hid ((HK.out.block db (by have := HR6.out.2.2; omega) (by omega)).trans HR6.out.1)
            have eg := enters_of (P := Tryd.prog) Tryd.func29 (by kernel_rfl) rfl
            clear hnum hws9 hpv9 hus9 hlt
            have HDwr := HD
            have HKwr := HK
            have HSpwr := HSp
            have HNUMwr := HNUM
            have HORwr := HOR
            have c0 : wr.cell? ⟨w.heap.size, 0, none⟩ = some (.slice ao nb cap) := by rw [cell_of_row _ _ _ _ _ _ HXwr.out]; rfl
            have c1 : wr.cell? ⟨w.heap.size, 1, none⟩ = some (.int .i64 fl) := by rw [cell_of_row _ _ _ _ _ _ HXwr.out]; rfl
            have c2 : wr.cell? ⟨w.heap.size, 2, none⟩ = some (.int .i64 fh) := by rw [cell_of_row _ _ _ _ _ _ HXwr.out]; rfl
            have c3 : wr.cell? ⟨w.heap.size, 3, none⟩ = some (.slice ao2 nw cap2) := by rw [cell_of_row _ _ _ _ _ _ HXwr.out]; rfl
            go_wp2_with fail
            have hc := made_any j HV.out l (.slice ao3 nu cap3) (.slice ao nb cap) (.slice ao2 nw cap2) wr HSpwr.out.low9 HWSwr.out.low9 (by rw [HNU.out] at HUSwr ⊢; exact HUSwr.out.mono (fun k h _ => h))
            rw [HJV.out] at hc
            refine hc.mono ?_
            intro e w11 hm
            obtain ⟨hb11, hm⟩ := made_cases hm
            rcases hm with ⟨hb0, hw0, rfl⟩ | ⟨p, v, hpl, hps, rfl, hpn⟩
            · clear hc
              dsimp only
              have HBw11 := Lib.hid (HBwr.out.trans (hb11.mono HBwr.out.size))
              clear hb11
              go_wp2_with fail
              refine (lawake_any _ (HTZ.out.below HBw11.out h1z)).mono ?_
              rintro e w9 ⟨rfl, hb9⟩
              dsimp only
              have HB9 := Lib.hid (HBw11.out.trans (hb9.mono HBw11.out.size))
              clear hb9
              go_wp2_with fail
              go_ret
              exact ⟨rfl, HB9.out⟩
            · clear hc c0 c1 c2 c3
              dsimp only
              obtain ⟨a8, c8, hve8, _⟩ := id hpn
              subst hve8
              have hpl2 : p.length = nw := by rw [hpl, HNW.out]
              rw [List.length_map, hpl2] at hpn ⊢
              have hs10 := HKwr.out.size
              have hs6 := HR6.out.2.2
              have HPN := Lib.hid (hpn.mono (Rd' := fun k => k ≠ b2 + 1) (fun k h => by omega))
              have HPL := Lib.hid (And.intro hpl (And.intro hps hpl2))
              have HXw11 := Lib.hid ((hb11.block _ (lt_of_block HXwr.out)).trans HXwr.out)
              have HBw11 := Lib.hid (HBwr.out.trans (hb11.mono HBwr.out.size))
              have HWSw11 := Lib.hid (HWSwr.out.later (W := w11) hb11.size (fun k h1 h2 => hb11.block k h1))
              have HSpw11 := Lib.hid (HSpwr.out.later (W := w11) hb11.size (fun k h1 h2 => hb11.block k h1))
              have HNUMw11 := Lib.hid (HNUMwr.out.later (W := w11) hb11.size (fun k h1 h2 => hb11.block k h1))
              have HORw11 := Lib.hid ((hb11.block ob (lt_of_block HORwr.out)).trans HORwr.out)
              have HDBw11 := Lib.hid ((hb11.block db (lt_of_block HDBwr.out)).trans HDBwr.out)
              have HDw11 := Lib.hid (HDwr.out.later (W := w11) hb11.size (fun k h1 h2 => hb11.block k h1))
              clear hpl hps hpn hb11
              have c0 : w11.cell? ⟨w.heap.size, 0, none⟩ = some (.slice ao nb cap) := by rw [cell_of_row _ _ _ _ _ _ HXw11.out]; rfl
              have c1 : w11.cell? ⟨w.heap.size, 1, none⟩ = some (.int .i64 fl) := by rw [cell_of_row _ _ _ _ _ _ HXw11.out]; rfl
              have c2 : w11.cell? ⟨w.heap.size, 2, none⟩ = some (.int .i64 fh) := by rw [cell_of_row _ _ _ _ _ _ HXw11.out]; rfl
              have c3 : w11.cell? ⟨w.heap.size, 3, none⟩ = some (.slice ao2 nw cap2) := by rw [cell_of_row _ _ _ _ _ _ HXw11.out]; rfl
              go_wp2_with fail
              have hc := Check_any j (.slice ao nb cap) (.slice ao2 nw cap2) (p.map fun s : Nat => (s : Int)) (.slice a8 nw c8) w11 HSpw11.out.low9 HWSw11.out.low9 HPN.out.low9 (by rw [List.length_map, HPL.out.2.2]; omega)
              rw [HJV.out] at hc
              refine hc.mono ?_
              rintro e w12 ⟨rfl, hb12⟩
              clear hc c0 c1 c2 c3
              dsimp only
              have HXw12 := Lib.hid ((hb12.block _ (lt_of_block HXw11.out)).trans HXw11.out)
              have HBw12 := Lib.hid (HBw11.out.trans (hb12.mono HBw11.out.size))
              rcases check_cases HV.out HPL.out.1 HPL.out.2.1 with ⟨hpj, hck⟩ | ⟨ca, cb, hck⟩
              · rw [hck]
                clear hck
                dsimp only
                have h9 := can_of_plan hpj
                rw [HC.out] at h9
                cases h9
              · rw [hck]
                clear hck hb12
                dsimp only
                go_wp2_with fail
                refine (lawake_any _ (HTZ.out.below HBw12.out h1z)).mono ?_
                rintro e w9 ⟨rfl, hb9⟩
                dsimp only
                have HB9 := Lib.hid (HBw12.out.trans (hb9.mono HBw12.out.size))
                clear hb9
                go_wp2_with fail
                go_ret
                exact ⟨rfl, HB9.out⟩
end Go.Proofs.YtbmfphiecllggaaDoor

/- JobTrue: the law returns true, and its arguments read as they did. -/
namespace Go.Proofs.YtbmfphiecllggaaDoor
set_option linter.unusedVariables false
set_option linter.unusedSimpArgs false
open Go.ChangeShapes Go.WideShapes Go.ChangeAt Go.RowKit Go.Deep
set_option maxRecDepth 100000 in
theorem jobTrue_lifted (os : Os) (started : os.Started) (H : Type) (enc : TypeId × Value → H) :
    ReturnsInHanded {} Tryd.checked os 4 .any (fun w args => (Rows.jobTrueSpec.pre enc Tryd.prog Tryd.f4 [] false w args ∧ laidMetH Tryd.prog laidB w) ∧ sizedMet enc Tryd.prog Tryd.f4 (OpenSpec.ofChange Rows.jobTrueSpec) false w args)
      (Rows.jobTrueSpec.post enc Tryd.prog Tryd.f4 false true false false) := by
  refine returnsInHanded_of_change_and (C := Tryd.checked) (X := fun w _ => laidMetH Tryd.prog laidB w) (fun _ _ _ hh h => h.of_heap hh) own_knob started (by kernel_rfl) Tryd.func4
    (ChangeSpec.witness_shaped (enc := enc) (C := Tryd.checked) (os := os) (X := fun w _ => laidMetH Tryd.prog laidB w) false (World.doorLaid Tryd.prog 400 os) #[.agg #[.slice none 0 0, .int .i64 0, .int .i64 0, .slice none 0 0], .slice none 0 0] 8 rfl (World.shaped_of_RefB (by kernel_rfl) (by kernel_rfl)) (by kernel_rfl) (by kernel_rfl) (by kernel_rfl) (door_met os _)) ?_
  intro W base args ds gs before hval0 hW _ _ hL _
  have hval : ∀ (j : Nat) t v, Tryd.f4.params[j]? = some t → args[j]? = some v → Value.okWide Tryd.prog W .any base t v := hval0
  have hW' := hW
  obtain ⟨p, q, hA0, hV, rfl, hfz, hnd⟩ := hW
  have hA : DataW.TrodAll enc Tryd.prog W 0 (fun _ => true) true Tryd.f4.params.toList args.toList ds p := hA0
  rw [Tryd.params4] at hA hval
  obtain ⟨rfl, rfl⟩ := trodVars_none hV
  clear hA0 hval0
  simp only [List.append_nil] at hW'
  have hst := hA
  have htz := of_laid hL
  obtain ⟨v0, v1, d0, d1, p0, p1, rfl, rfl, rfl, h0, h1⟩ := trodAll_two hA
  obtain ⟨j, bs, ws, rfl, hbs, hws⟩ := open_jobV (hval 0 _ _ rfl rfl) h0
  obtain ⟨fuel, hf⟩ := h1
  obtain ⟨ao, len, cap, rfl⟩ := okWide_slice Tryd.underlying49 (hval 1 _ _ rfl rfl)
  obtain ⟨l, hus⟩ := open_smallV (v := .slice ao len cap) Tryd.underlying49 (by kernel_rfl) (by kernel_rfl) (fun _ h => by have := u8_range h; omega) hf
  refine (true_any j bs ws l _ W hbs hws hus htz).mono fun e W' ⟨he, hb⟩ => ?_
  subst he
  exact ⟨_, rfl, lawEnd hW' rfl hst rfl (by decide +kernel) rfl rfl hb⟩
theorem jobTrue_over : Rows.jobTrueRow.holds Tryd.pinned (OpenSpec.ofChange Rows.jobTrueSpec) :=
  OpenClaim.holds_of_wide 4 Tryd.f4 rfl rfl rfl rfl rfl rfl rfl ⟨rfl, rfl, rfl, rfl, rfl⟩ rfl rfl rfl rfl rfl (by kernel_rfl) Tryd.func4 (by kernel_rfl)
    (of_decide_eq_true (by kernel_rfl)) (by unfold Func.isWrapper; first | (rw [if_pos (by decide +kernel)]; kernel_rfl) | (rw [if_neg (by decide +kernel)]; exact ⟨rfl, rfl⟩))
    (fun os started H enc _ => jobTrue_lifted os started H enc)
theorem job_true : Rows.JobTrueCardSaid :=
  Claim7.holds_tied_plain_at .later [] [.data, .data] true (true, "0142e81380ab833cdd0b1d3ff1be0aee862e67f2dcc1be2b06267f938ad4868f") true
    jobTrue_over (fun _ h => by cases h) (by kernel_rfl) (fun _ h => by cases h) jobTrue_row_tie rfl ⟨rfl, rfl⟩ (by kernel_rfl) rfl
    (fun f fn hf hfn => by
      obtain rfl : f = 4 := Option.some.inj ((show Tryd.prog.funcNamed "blockworks/blockworkslaw12.JobTrue" = some 4 by kernel_rfl).symm.trans hf) |>.symm
      obtain rfl : fn = Tryd.f4 := (Option.some.inj (Tryd.func4.symm.trans hfn)).symm
      exact ⟨by kernel_rfl, fun j t ht => by
        rw [Tryd.params4] at ht
        have hm : t ∈ [28, 49] := by simpa using Array.mem_of_getElem? ht
        have hall : ([28, 49].all fun u => !Tryd.prog.wantsStandIn u) = true := by kernel_rfl
        exact (show Tryd.prog.wantsStandIn t = false by simpa using List.all_eq_true.1 hall t hm)⟩)
    (by kernel_rfl)
#print axioms job_true
end Go.Proofs.YtbmfphiecllggaaDoor
