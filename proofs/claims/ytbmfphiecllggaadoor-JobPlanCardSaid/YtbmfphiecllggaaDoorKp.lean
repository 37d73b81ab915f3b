/- Texts Hl, Hm, Hn, Ho, Hp in one file; each begins with a word on what it proves. -/
import Derived.Test.YtbmfphiecllggaaDoorTie
import Derived.Test.YtbmfphiecllggaaDoorCards
import Derived.SevenTiedAt
import Derived.Test.YtbmfphiecllggaaDoorKj
import Derived.Test.YtbmfphiecllggaaDoorKn
import Derived.Test.YtbmfphiecllggaaDoorKo
import Derived.Test.YtbmfphiecllggaaDoorKg

/- The plan told is the first of the cheapest, in order of the numbers. -/
namespace Go.Proofs.YtbmfphiecllggaaDoor
set_option linter.unusedVariables false
set_option linter.unusedSimpArgs false

def FirstJ (m : Nat) (Rs : List (List Nat)) (av : Nat) (seen : List Nat) : Option (Nat × Nat) → Prop
  | none => ∀ s ∈ seen, subJ s av = true → scoreJ m Rs (afterJ av s) = none
  | some y => y.1 ∈ seen ∧ ∀ s ∈ seen, subJ s av = true → ∀ x, scoreJ m Rs (afterJ av s) = some x → y.2 ≤ sizeJ m s + x.2 ∧ (y.2 = sizeJ m s + x.2 → y.1 ≤ s)
theorem first_foldJ (m : Nat) (Rs : List (List Nat)) (av : Nat) : ∀ (R seen : List Nat) (b : Option (Nat × Nat)), (∀ a ∈ seen, ∀ c ∈ R, a < c) → R.Pairwise (· < ·) → FirstJ m Rs av seen b →
    FirstJ m Rs av (seen ++ R) (R.foldl (fun best s => if subJ s av then (match scoreJ m Rs (afterJ av s) with
      | none => best
      | some x => if (match best with | none => true | some y => decide (sizeJ m s + x.2 < y.2)) then some (s, sizeJ m s + x.2) else best) else best) b)
  | [], seen, b, _, _, h => by simpa using h
  | s :: R, seen, b, hlt, hsr, h => by
    obtain ⟨hs1, hs2⟩ := List.pairwise_cons.1 hsr
    rw [List.foldl_cons, show seen ++ s :: R = (seen ++ [s]) ++ R by simp]
    refine first_foldJ m Rs av R (seen ++ [s]) _ (fun a ha c hc => ?_) hs2 ?_
    · rcases List.mem_append.1 ha with ha | ha
      · exact hlt a ha c (List.mem_cons_of_mem _ hc)
      · rw [List.mem_singleton.1 ha]; exact hs1 c hc
    by_cases hsub : subJ s av = true
    · rw [if_pos hsub]
      cases hsc : scoreJ m Rs (afterJ av s) with
      | none =>
        cases b with
        | none =>
          intro t ht htb
          rcases List.mem_append.1 ht with ht | ht
          · exact h t ht htb
          · rw [List.mem_singleton.1 ht]; exact hsc
        | some y =>
          refine ⟨List.mem_append_left _ h.1, fun t ht htb x hx => ?_⟩
          rcases List.mem_append.1 ht with ht | ht
          · exact h.2 t ht htb x hx
          · rw [List.mem_singleton.1 ht, hsc] at hx; cases hx
      | some x0 =>
        dsimp only
        cases b with
        | none =>
          dsimp only
          rw [if_pos rfl]
          refine ⟨List.mem_append_right _ (List.mem_singleton.2 rfl), fun t ht htb x hx => ?_⟩
          rcases List.mem_append.1 ht with ht | ht
          · rw [h t ht htb] at hx; cases hx
          · rw [List.mem_singleton.1 ht] at hx ⊢
            rw [hsc] at hx
            obtain rfl : x0 = x := Option.some.inj hx
            exact ⟨Nat.le_refl _, fun _ => Nat.le_refl _⟩
        | some y =>
          dsimp only
          by_cases hlt2 : sizeJ m s + x0.2 < y.2
          · rw [if_pos (decide_eq_true hlt2)]
            refine ⟨List.mem_append_right _ (List.mem_singleton.2 rfl), fun t ht htb x hx => ?_⟩
            rcases List.mem_append.1 ht with ht | ht
            · have := (h.2 t ht htb x hx).1
              dsimp only
              omega
            · rw [List.mem_singleton.1 ht] at hx ⊢
              rw [hsc] at hx
              obtain rfl : x0 = x := Option.some.inj hx
              exact ⟨Nat.le_refl _, fun _ => Nat.le_refl _⟩
          · rw [if_neg (by rw [decide_eq_true_eq]; exact hlt2)]
            refine ⟨List.mem_append_left _ h.1, fun t ht htb x hx => ?_⟩
            rcases List.mem_append.1 ht with ht | ht
            · exact h.2 t ht htb x hx
            · rw [List.mem_singleton.1 ht] at hx ⊢
              rw [hsc] at hx
              obtain rfl : x0 = x := Option.some.inj hx
              refine ⟨by omega, fun _ => ?_⟩
              exact Nat.le_of_lt (hlt _ h.1 s List.mem_cons_self)
    · rw [if_neg hsub]
      cases b with
      | none =>
        intro t ht htb
        rcases List.mem_append.1 ht with ht | ht
        · exact h t ht htb
        · rw [List.mem_singleton.1 ht] at htb; exact absurd htb hsub
      | some y =>
        refine ⟨List.mem_append_left _ h.1, fun t ht htb x hx => ?_⟩
        rcases List.mem_append.1 ht with ht | ht
        · exact h.2 t ht htb x hx
        · rw [List.mem_singleton.1 ht] at htb; exact absurd htb hsub
/-- Of the plans as cheap as that told, none comes before it. -/
theorem told_first (m : Nat) : ∀ (Rs : List (List Nat)) (av : Nat) (l : List Nat), (∀ R ∈ Rs, R.Pairwise (· < ·)) → PlanJ Rs av l → costJ m l = costJ m (toldJ m Rs av) →
    ∀ i (h : i < l.length) (h' : i < (toldJ m Rs av).length), (∀ q (hq : q < l.length) (hq' : q < (toldJ m Rs av).length), q < i → l[q] = (toldJ m Rs av)[q]) → (toldJ m Rs av)[i] ≤ l[i]
  | [], av, l, _, _, _, i, _, h', _ => absurd h' (by simp [toldJ])
  | R :: Rs, av, l, hR, hp, hc, i, h, h', hq => by
    obtain ⟨s, t, rfl, h1, h2, h3⟩ := id hp
    cases hy : scoreJ m (R :: Rs) av with
    | none => exact absurd hp ((score_specJ m _ _).1 hy _)
    | some y =>
      have htold : toldJ m (R :: Rs) av = y.1 :: toldJ m Rs (afterJ av y.1) := by rw [toldJ, hy]
      have hcy := ((score_specJ m _ _).2 y hy).2.1
      have hf : FirstJ m Rs av R (scoreJ m (R :: Rs) av) := by
        have := first_foldJ m Rs av R [] none (fun a ha => by cases ha) (hR R List.mem_cons_self) (fun s hs => by cases hs)
        rw [List.nil_append] at this
        rw [scoreJ]
        exact this
      rw [hy] at hf
      cases hx : scoreJ m Rs (afterJ av s) with
      | none => exact absurd h3 ((score_specJ m _ _).1 hx t)
      | some x =>
        obtain ⟨g1, g2⟩ := hf.2 s h1 h2 x hx
        have hxs := (score_specJ m _ _).2 x hx
        have hct : costJ m (s :: t) = sizeJ m s + costJ m t := by unfold costJ; simp
        have hxt := hxs.2.2 t h3
        have hys : y.1 ≤ s := g2 (by omega)
        simp only [htold] at h' hq ⊢
        cases i with
        | zero => exact hys
        | succ i =>
          have h0 := hq 0 (by simp) (by simp) (by omega)
          have h0 : s = y.1 := by simpa using h0
          subst h0
          refine told_first m Rs (afterJ av y.1) t (fun R' hR' => hR R' (List.mem_cons_of_mem _ hR')) h3 (by rw [hxs.2.1]; omega) i (by simpa using h) (by simpa using h') (fun q hq1 hq2 hqi => ?_)
          have := hq (q + 1) (by simpa using hq1) (by simpa using hq2) (by omega)
          simpa using this
theorem rights_sorted (x : JobD) : ∀ R ∈ rightsD x, R.Pairwise (· < ·) := fun R hR => by
  unfold rightsD at hR
  obtain ⟨w, _, rfl⟩ := List.mem_map.1 hR
  exact List.Pairwise.filter _ List.pairwise_lt_range
end Go.Proofs.YtbmfphiecllggaaDoor

/- JobPlan$1: how many blocks a plan has. -/
namespace Go.Proofs.YtbmfphiecllggaaDoor
set_option linter.unusedVariables false
set_option linter.unusedSimpArgs false
open Go.RowKit Go.Shelf
attribute [local go_sem] Oper.semAt_some

theorem size_le8 : ∀ s < 256, sizeJ 8 s ≤ 8 := by decide +kernel
theorem cost_take (p : List Nat) (k : Nat) (h : k < p.length) : costJ 8 (p.take (k + 1)) = costJ 8 (p.take k) + sizeJ 8 p[k] := by
  unfold costJ
  rw [List.take_succ_eq_append_getElem h, List.map_append, List.sum_append]
  simp
theorem cost_le (p : List Nat) (hp : ∀ s ∈ p, s < 256) : costJ 8 p ≤ 8 * p.length := by
  induction p with
  | nil => simp [costJ]
  | cons s p ih =>
    have h1 := ih (fun x hx => hp x (List.mem_cons_of_mem _ hx))
    have h2 := size_le8 s (hp s List.mem_cons_self)
    unfold costJ at h1 ⊢
    simp only [List.map_cons, List.sum_cons, List.length_cons]
    omega
set_option maxRecDepth 100000 in
set_option maxHeartbeats 4000000 in
theorem lcost_any (p : List Nat) (hp : ∀ s ∈ p, s < 256) (np c : Nat) (ap : Option Addr) (hl : np = p.length) (h4 : np ≤ 1000) (fb : Nat) (w : World) (hf : w.heap[fb]? = some (.cells #[.func (.func 24) #[] #[]] 47 (0, 0)))
    (hlv : NumsAt w (.slice ap np c) (p.map fun s : Nat => (s : Int)) (fun k => k < w.heap.size)) :
    Calls Tryd.prog 34 #[.slice ap np c, .pointer (some ⟨fb, 0, none⟩)] w fun e w' => e = .returned (.int .i64 (costJ 8 p : Nat)) ∧ w = w' := by
  have HL := Lib.hid hl
  have HP := Lib.hid hp
  have HLV := Lib.hid hlv
  have c0 : w.cell? ⟨fb, 0, none⟩ = some (.func (.func 24) #[] #[]) := by rw [cell_of_row _ _ _ _ _ _ hf]; rfl
  have eg := enters_of (P := Tryd.prog) Tryd.func24 (by kernel_rfl) rfl
  clear hl hp hlv hf
  go_enter Tryd.func34, Tryd.ntmps34
  go_wp2_with fail
  go_loopw [3, 8] (fun uv kv wr => ∃ k : Nat, k ≤ np ∧ kv = .int .i64 k ∧ uv = .int .i64 (costJ 8 (p.take k) : Nat) ∧ w = wr) (fun _ kv _ => np - (intOf kv).toNat)
  case atStart => exact ⟨0, Nat.zero_le _, rfl, rfl, rfl⟩
  case round =>
    obtain ⟨k, hk, rfl, rfl, hwr⟩ := hrel
    subst hwr
    have hcl := cost_le (p.take k) (fun s hs => HP.out s (List.mem_of_mem_take hs))
    have hcl2 : costJ 8 (p.take k) ≤ 8 * k := Nat.le_trans hcl (Nat.mul_le_mul_left 8 (List.length_take_le _ _))
    clear hcl
    by_cases hlt : k < np
    · obtain ⟨cs, hcs⟩ : ∃ x, x = costJ 8 (p.take k) := ⟨_, rfl⟩
      rw [← hcs] at hcl2 ⊢
      have hwk : IntKind.i64.wrap ((k : Int) + 1) = ((k + 1 : Nat) : Int) := by rw [IntWalk.i64_in _ (by omega)]; omega
      have hlti : (k : Int) < (np : Int) := by omega
      have hkp : k < p.length := by rw [← HL.out]; exact hlt
      obtain ⟨a9, c9, e9, _, _, hel⟩ := HLV.out
      rw [List.length_map, ← HL.out] at e9
      injection e9 with e1 e2 e3
      subst e1 e3
      clear e2
      obtain ⟨pb, po, rfl, _, _, e3⟩ := hel k (by rw [List.length_map]; exact hkp)
      rw [List.getElem_map] at e3
      obtain ⟨s, hs⟩ : ∃ x, x = p[k] := ⟨_, rfl⟩
      have hs256 : s < 256 := by rw [hs]; exact HP.out _ (List.getElem_mem hkp)
      rw [← hs] at e3
      have hun : costJ 8 (p.take (k + 1)) = cs + sizeJ 8 s := by rw [cost_take p k hkp, ← hcs, ← hs]
      have HUN := Lib.hid hun
      have hmx : max (0 : Int) (s : Int) = (s : Int) := by omega
      clear hcs hs hel hun
      go_wp2_with (first | (refine wpList_maxJ rfl (.const (.int .i64 0)) (.tmp 14) rfl rfl (0 : Int) (s : Int) _ rfl rfl hmx ?_))
      refine (r4size_any s hs256 _).mono ?_
      rintro e w' ⟨rfl, rfl⟩
      dsimp only
      have hz := size_le8 s hs256
      obtain ⟨z, hze⟩ : ∃ z, z = sizeJ 8 s := ⟨_, rfl⟩
      rw [← hze] at hz ⊢
      have HZ := Lib.hid hze
      have hwz : IntKind.i64.wrap ((cs : Int) + (z : Int)) = ((cs + z : Nat) : Int) := by rw [IntWalk.i64_in _ (by omega)]; omega
      clear hze hmx
      go_wp2_with fail
      exact ⟨⟨k + 1, hlt, by push_cast; rfl, by rw [HUN.out, ← HZ.out]; push_cast; rfl, trivial⟩, by simp [intOf]; omega⟩
    · have hkn : np = k := by omega
      subst hkn
      have hlti : ¬ (np : Int) < (np : Int) := by omega
      rw [show p.take np = p by rw [HL.out]; exact List.take_length]
      clear hcl2 hlt
      go_wp2_with fail
      go_ret
      exact ⟨rfl, rfl⟩
end Go.Proofs.YtbmfphiecllggaaDoor

/- A want alone: the plan told is the stack of the fewest blocks. -/
namespace Go.Proofs.YtbmfphiecllggaaDoor
set_option linter.unusedVariables false
set_option linter.unusedSimpArgs false

theorem sel_single {α : Type} : ∀ (l : List α) (k : Nat) (h : k < l.length), selJ l (2 ^ k) = [l[k]]
  | x :: l, 0, _ => by
    rw [selJ, if_pos (by decide)]
    have : ∀ l : List α, selJ l (2 ^ 0 / 2) = [] := fun l => by
      have h0 : 2 ^ 0 / 2 = 0 := by decide
      rw [h0]
      induction l with
      | nil => rfl
      | cons y l ih => rw [selJ]; simpa using ih
    rw [this]; rfl
  | x :: l, k + 1, h => by
    have h1 : 2 ^ (k + 1) % 2 ≠ 1 := by rw [Nat.pow_succ]; omega
    have h2 : 2 ^ (k + 1) / 2 = 2 ^ k := by rw [Nat.pow_succ]; omega
    rw [selJ, if_neg h1, h2, sel_single l k (by simpa using h)]
    rfl
theorem plan_one {x : JobD} {want : Int × Int} (hv : validJb x = true) (hw : x.ws = [want]) :
    (rightsS x.st want = [] ∧ planD x = ([], 4)) ∨ ∃ t : Nat, leastJ (rightsS x.st want) = some t ∧ t < 2 ^ x.st.bs.length ∧ planD x = ([t], 0) := by
  have hR : rightsD x = [rightsS x.st want] := by unfold rightsD; rw [hw]; rfl
  cases hl : leastJ (rightsS x.st want) with
  | none =>
    have h0 := least_none.1 hl
    refine .inl ⟨h0, planD_cannot hv ?_⟩
    cases hc : canD x (everyD x) with
    | false => rfl
    | true =>
      have hp := can_told hc
      rw [hR] at hp
      obtain ⟨s, _, _, h1, _⟩ := hp
      rw [h0] at h1; cases h1
  | some t =>
    have hf := least_some hl
    have ht2 : t < 2 ^ x.st.bs.length := (mem_rightsJ.1 hf.is).1
    have hpt : PlanJ (rightsD x) (allD x) [t] := by
      rw [hR]
      exact ⟨t, [], rfl, hf.is, sub_all ht2, rfl⟩
    have hc := can_of_plan hpt
    refine .inr ⟨t, rfl, ht2, ?_⟩
    rw [planD_can hv hc]
    have hp := can_told hc
    have hcan := hc
    rw [can_every] at hcan
    obtain ⟨y, hy⟩ := Option.isSome_iff_exists.1 hcan
    obtain ⟨_, hcost, hmin⟩ := (score_specJ 8 _ _).2 y hy
    have hmin := hmin _ hpt
    have hfst := told_first 8 (rightsD x) (allD x) [t] (rights_sorted x) hpt
    obtain ⟨p, hpe⟩ : ∃ p, p = toldJ 8 (rightsD x) (allD x) := ⟨_, rfl⟩
    rw [← hpe] at hp hcost
    rw [hR] at hp
    obtain ⟨s, tl, hps, h1, _, h3⟩ := hp
    have h3 : tl = [] := h3
    subst h3
    have hsy : sizeJ 8 s = y.2 := by rw [← hcost, hps]; simp [costJ]
    have hct : costJ 8 [t] = sizeJ 8 t := by simp [costJ]
    have hst : s = t := by
      rcases hf.le s h1 with e | e
      · exact e
      · unfold LessJ at e
        rcases e with e | ⟨e1, e2⟩
        · omega
        · have h9 := hfst (by rw [← hpe, hps, hct]; simp [costJ]; omega) 0 (by simp) (by rw [← hpe, hps]; simp) (fun q _ _ hq => absurd hq (by omega))
          simp only [← hpe, hps, List.getElem_cons_zero] at h9
          omega
    rw [← hpe, hps, hst]
end Go.Proofs.YtbmfphiecllggaaDoor

/- JobPlan, walked. -/
namespace Go.Proofs.YtbmfphiecllggaaDoor
set_option linter.unusedVariables false
set_option linter.unusedSimpArgs false
open Go.RowKit Go.Shelf
attribute [local go_sem] Oper.semAt_some

theorem alonej_bit (j : JobD) (q : Nat) (h : q < j.ws.length) : (aloneN j).testBit q = !(rightsS j.st j.ws[q]).isEmpty := by
  unfold aloneN
  rw [setJ_bit, decide_eq_true h, Bool.true_and, List.getD_eq_getElem?_getD, List.getElem?_eq_getElem h]
  rfl
theorem alonej_lt (j : JobD) : aloneN j < 2 ^ j.ws.length := setJ_lt _ _
theorem alonejD_ok {j : JobD} (hv : validJb j = true) : aloneD j = (((aloneN j : Nat) : Int), 0) := by unfold aloneD; rw [errD_ok hv]; rfl
theorem fewestj_ok {j : JobD} (hv : validJb j = true) (q : Nat) (h : q < j.ws.length) : errS j.st (wantOk j.ws[q]) = 0 := by
  obtain ⟨h1, _, h3⟩ := validJb_parts hv
  unfold errS
  rw [h1, h3 _ (List.getElem_mem h)]
  rfl
/-- What a want alone comes to: it has no stack, or the plan told is that of the fewest blocks. -/
theorem want_alone {j : JobD} (hv : validJb j = true) (q : Nat) (h : q < j.ws.length) :
    (planD (onlyD j (2 ^ q)) = ([], 4) ∧ fewestS j.st j.ws[q] = (0, 4) ∧ (aloneN j).testBit q = false ∧ canD j (everyD j) = false) ∨
    ∃ t : Nat, planD (onlyD j (2 ^ q)) = ([t], 0) ∧ fewestS j.st j.ws[q] = (((t : Nat) : Int), 0) ∧ (aloneN j).testBit q = true ∧ t < 2 ^ j.st.bs.length := by
  have hw : (onlyD j (2 ^ q)).ws = [j.ws[q]] := sel_single j.ws q h
  rcases plan_one (valid_only hv (2 ^ q)) hw with ⟨h1, h2⟩ | ⟨t, h1, h2, h3⟩
  · have h1 : rightsS j.st j.ws[q] = [] := h1
    refine .inl ⟨h2, ?_, by rw [alonej_bit j q h, h1]; rfl, ?_⟩
    · unfold fewestS
      rw [fewestj_ok hv q h, if_neg (by decide), least_none.2 h1]
    · cases hc : canD j (everyD j) with
      | false => rfl
      | true =>
        have hf := plan_facts (can_told hc)
        have := hf.right q (by rw [hf.len]; exact h) h
        rw [h1] at this; cases this
  · have h1 : leastJ (rightsS j.st j.ws[q]) = some t := h1
    refine .inr ⟨t, h3, fewest_someS (fewestj_ok hv q h) h1, ?_, h2⟩
    rw [alonej_bit j q h]
    cases hr : rightsS j.st j.ws[q] with
    | nil => rw [hr] at h1; cases h1
    | cons a b => rfl
theorem pow_q (q : Nat) (h : q < 4) : ∃ P : Nat, P = 2 ^ q ∧ P ≤ 8 ∧ wrap64 (2 ^ q) = (P : Int) ∧ IntKind.i64.wrap (2 ^ q) = (P : Int) := by
  have hs8 := shl_one ⟨q, by omega⟩
  dsimp only at hs8
  have hPle : 2 ^ q ≤ 8 := (Nat.pow_le_pow_right (by decide) (by omega : q ≤ 3) : _ ≤ 2 ^ 3)
  have hP2 : (2 : Int) ^ q = ((2 ^ q : Nat) : Int) := by simp
  obtain ⟨P, hP⟩ : ∃ P, P = 2 ^ q := ⟨_, rfl⟩
  rw [← hP] at hs8 hPle hP2
  refine ⟨P, hP, hPle, by rw [← hs8], ?_⟩
  rw [hP2]
  exact IntWalk.i64_in _ (by omega)
theorem mod_q (x : Int) (n : Nat) (hx : 0 ≤ x) (hn : 0 < n) : ∃ q : Nat, x % (n : Int) = q ∧ q < n := by
  have h1 := Int.emod_nonneg x (b := (n : Int)) (by omega)
  have h2 := Int.emod_lt_of_pos x (b := (n : Int)) (by omega)
  exact ⟨(x % (n : Int)).toNat, by omega, by omega⟩
def SN (x : Nat) (v0 v3 : Value) (f1 f2 : Int) (b off q : Nat) (lo hi : Int) (Y : World) : Prop :=
  Y.cell? ⟨x, 0, none⟩ = some v0 ∧ Y.cell? ⟨x, 1, none⟩ = some (.int .i64 f1) ∧ Y.cell? ⟨x, 2, none⟩ = some (.int .i64 f2) ∧ Y.cell? ⟨x, 3, none⟩ = some v3 ∧ Y.cell? ⟨b, off + q * 2, none⟩ = some (.int .i64 lo) ∧ Y.cell? ⟨b, off + q * 2 + 1, none⟩ = some (.int .i64 hi)
theorem SN.below {x : Nat} {v0 v3 : Value} {f1 f2 : Int} {b off q : Nat} {lo hi : Int} {Y Y' : World} (h : SN x v0 v3 f1 f2 b off q lo hi Y) (hb : Below Y.heap.size Y Y') : SN x v0 v3 f1 f2 b off q lo hi Y' :=
  ⟨cell_below h.1 hb, cell_below h.2.1 hb, cell_below h.2.2.1 hb, cell_below h.2.2.2.1 hb, cell_below h.2.2.2.2.1 hb, cell_below h.2.2.2.2.2 hb⟩
/-- What the comparison of two plans reads. -/
def SP2 (fb qb qo ob oo i : Nat) (x2 x1 : Int) (Y : World) : Prop :=
  Y.cell? ⟨fb, 0, none⟩ = some (.func (.func 24) #[] #[]) ∧ Y.cell? ⟨qb, qo + i, none⟩ = some (.int .i64 x2) ∧ Y.cell? ⟨ob, oo + i, none⟩ = some (.int .i64 x1)
theorem SP2.below {fb qb qo ob oo i : Nat} {x2 x1 : Int} {Y Y' : World} (h : SP2 fb qb qo ob oo i x2 x1 Y) (hb : Below Y.heap.size Y Y') : SP2 fb qb qo ob oo i x2 x1 Y' :=
  ⟨cell_below h.1 hb, cell_below h.2.1 hb, cell_below h.2.2 hb⟩
set_option maxRecDepth 100000 in
set_option maxHeartbeats 8000000 in
theorem lplan_any (j : JobD) (bs ws : Value) (l : List Int) (v : Value) (x : Int) (hx : 0 ≤ x ∧ x < 256) (w : World) (hbs : SpansAt w bs j.st.bs (fun k => k < w.heap.size)) (hws : SpansAt w ws j.ws (fun k => k < w.heap.size)) (hus : SmallAt .u8 w v l (fun k => k < w.heap.size)) (htz : TabZ w) :
    Calls Tryd.prog 6 #[jobV j bs ws, v, .int .u8 x] w fun e w' => e = .returned (.bool true) ∧ Below w.heap.size w w' := by
  have HBS := Lib.hid hbs
  have HWS := Lib.hid hws
  have HUS := Lib.hid hus
  have HTZ := Lib.hid htz
  have h1z := htz.lt
  obtain ⟨ao, cap, hv1, _⟩ := id hbs
  obtain ⟨ao2, cap2, hv2, _⟩ := id hws
  obtain ⟨ao3, cap3, hv3, _⟩ := id hus
  subst hv1 hv2 hv3
  obtain ⟨nb, hnb⟩ : ∃ n, n = j.st.bs.length := ⟨_, rfl⟩
  obtain ⟨nw, hnw⟩ : ∃ n, n = j.ws.length := ⟨_, rfl⟩
  obtain ⟨nu, hnu⟩ : ∃ n, n = l.length := ⟨_, rfl⟩
  rw [← hnb] at HBS
  rw [← hnw] at HWS
  rw [← hnu] at HUS
  unfold jobV
  rw [← hnb, ← hnw, ← hnu]
  have HNB := Lib.hid hnb
  have HNW := Lib.hid hnw
  have HNU := Lib.hid hnu
  clear hbs hws hus htz hnb hnw hnu
  obtain ⟨fl, hfl⟩ : ∃ x, x = j.st.film.1 := ⟨_, rfl⟩
  obtain ⟨fh, hfh⟩ : ∃ x, x = j.st.film.2 := ⟨_, rfl⟩
  rw [← hfl, ← hfh]
  have HFL := Lib.hid (And.intro hfl hfh)
  clear hfl hfh
  have HJV := Lib.hid (show jobV j (.slice ao nb cap) (.slice ao2 nw cap2) = .agg #[.slice ao nb cap, .int .i64 fl, .int .i64 fh, .slice ao2 nw cap2] by unfold jobV; rw [← HFL.out.1, ← HFL.out.2])
  have HBw0 := Lib.hid (Below.alloc' w (.cells #[.slice ao nb cap, .int .i64 fl, .int .i64 fh, .slice ao2 nw cap2] 28))
  have HXw0 := Lib.hid (show (w.alloc (.cells #[.slice ao nb cap, .int .i64 fl, .int .i64 fh, .slice ao2 nw cap2] 28)).heap[w.heap.size]? = some (.cells #[.slice ao nb cap, .int .i64 fl, .int .i64 fh, .slice ao2 nw cap2] 28 (0, 0)) from heap_alloc_at _ _ _ rfl)
  go_enter Tryd.func6, Tryd.ntmps6
  go_wp2_with fail
  have hc := fine_any j (.slice ao nb cap) (.slice ao2 nw cap2) _ (HBS.out.later HBw0.out.size (fun k h1 _ => HBw0.out.block k h1)).low9 (HWS.out.later HBw0.out.size (fun k h1 _ => HBw0.out.block k h1)).low9
  rw [HJV.out] at hc
  refine hc.mono ?_
  rintro e w1 ⟨rfl, hb⟩
  clear hc
  dsimp only
  have HXw1 := Lib.hid ((hb.block _ (lt_of_block HXw0.out)).trans HXw0.out)
  have HBw1 := Lib.hid (HBw0.out.trans (hb.mono HBw0.out.size))
  clear hb
  cases hv : validJb j with
  | false =>
    clear hv
    go_wp2_with fail
    refine (lawake_any _ (HTZ.out.below HBw1.out h1z)).mono ?_
    rintro e w9 ⟨rfl, hb9⟩
    dsimp only
    have HB9 := Lib.hid (HBw1.out.trans (hb9.mono HBw1.out.size))
    clear hb9
    go_wp2_with fail
    go_ret
    exact ⟨rfl, HB9.out⟩
  | true =>
    have HV := Lib.hid hv
    have hnw4 : nw ≤ 4 := by rw [HNW.out]; exact (validJb_parts hv).2.1
    have hnb8 : nb ≤ 8 := by rw [HNB.out]; exact (validSt_parts (validJb_parts hv).1).1
    clear hv
    have c0 : w1.cell? ⟨w.heap.size, 0, none⟩ = some (.slice ao nb cap) := by rw [cell_of_row _ _ _ _ _ _ HXw1.out]; rfl
    have c1 : w1.cell? ⟨w.heap.size, 1, none⟩ = some (.int .i64 fl) := by rw [cell_of_row _ _ _ _ _ _ HXw1.out]; rfl
    have c2 : w1.cell? ⟨w.heap.size, 2, none⟩ = some (.int .i64 fh) := by rw [cell_of_row _ _ _ _ _ _ HXw1.out]; rfl
    have c3 : w1.cell? ⟨w.heap.size, 3, none⟩ = some (.slice ao2 nw cap2) := by rw [cell_of_row _ _ _ _ _ _ HXw1.out]; rfl
    go_wp2_with fail
    have hc := Plan_any j (.slice ao nb cap) (.slice ao2 nw cap2) w1 (HBS.out.later HBw1.out.size (fun k h1 _ => HBw1.out.block k h1)).low9 (HWS.out.later HBw1.out.size (fun k h1 _ => HBw1.out.block k h1)).low9 (HTZ.out.below HBw1.out h1z)
    rw [HJV.out] at hc
    refine hc.mono ?_
    rintro e w2 ⟨pv, rfl, hpv, hb⟩
    clear hc c0 c1 c2 c3
    dsimp only
    have HXw2 := Lib.hid ((hb.block _ (lt_of_block HXw1.out)).trans HXw1.out)
    have HBw2 := Lib.hid (HBw1.out.trans (hb.mono HBw1.out.size))
    clear hb
    have c0 : w2.cell? ⟨w.heap.size, 0, none⟩ = some (.slice ao nb cap) := by rw [cell_of_row _ _ _ _ _ _ HXw2.out]; rfl
    have c1 : w2.cell? ⟨w.heap.size, 1, none⟩ = some (.int .i64 fl) := by rw [cell_of_row _ _ _ _ _ _ HXw2.out]; rfl
    have c2 : w2.cell? ⟨w.heap.size, 2, none⟩ = some (.int .i64 fh) := by rw [cell_of_row _ _ _ _ _ _ HXw2.out]; rfl
    have c3 : w2.cell? ⟨w.heap.size, 3, none⟩ = some (.slice ao2 nw cap2) := by rw [cell_of_row _ _ _ _ _ _ HXw2.out]; rfl
    obtain ⟨a6, c6, hpve, _⟩ := id hpv
    subst hpve
    rw [List.length_map] at hpv ⊢
    cases hc : canD j (everyD j) with
    | false =>
      have h9 := planD_cannot HV.out hc
      rw [h9]
      have HC := Lib.hid hc
      clear hpv hc h9
      go_wp2_with fail
      have hc := made_any j HV.out l (.slice ao3 nu cap3) (.slice ao nb cap) (.slice ao2 nw cap2) w2 (HBS.out.later HBw2.out.size (fun k h1 _ => HBw2.out.block k h1)).low9 (HWS.out.later HBw2.out.size (fun k h1 _ => HBw2.out.block k h1)).low9 (by rw [HNU.out] at HUS ⊢; exact (HUS.out.later HBw2.out.size (fun k h1 _ => HBw2.out.block k h1)).mono (fun k h1 _ => h1))
      rw [HJV.out] at hc
      refine hc.mono ?_
      intro e w3 hm
      obtain ⟨hb, hm⟩ := made_cases hm
      have hm2 : ∃ mv mb, e = .returned (.tuple #[mv, .bool mb]) := by
        rcases hm with ⟨_, _, h⟩ | ⟨_, v, _, _, h, _⟩
        · exact ⟨_, _, h⟩
        · exact ⟨_, _, h⟩
      obtain ⟨mv, mb, rfl⟩ := hm2
      clear hc hm c0 c1 c2 c3
      dsimp only
      have HXw3 := Lib.hid ((hb.block _ (lt_of_block HXw2.out)).trans HXw2.out)
      have HBw3 := Lib.hid (HBw2.out.trans (hb.mono HBw2.out.size))
      clear hb
      have c0 : w3.cell? ⟨w.heap.size, 0, none⟩ = some (.slice ao nb cap) := by rw [cell_of_row _ _ _ _ _ _ HXw3.out]; rfl
      have c1 : w3.cell? ⟨w.heap.size, 1, none⟩ = some (.int .i64 fl) := by rw [cell_of_row _ _ _ _ _ _ HXw3.out]; rfl
      have c2 : w3.cell? ⟨w.heap.size, 2, none⟩ = some (.int .i64 fh) := by rw [cell_of_row _ _ _ _ _ _ HXw3.out]; rfl
      have c3 : w3.cell? ⟨w.heap.size, 3, none⟩ = some (.slice ao2 nw cap2) := by rw [cell_of_row _ _ _ _ _ _ HXw3.out]; rfl
      have hnw0 : nw = 0 → False := fun h => by
        have h9 := HC.out
        rw [show everyD j = 0 by unfold everyD; rw [← HNW.out, h], can_zero] at h9
        cases h9
      clear c0 c1 c2 c3
      go_upto_region 7 with fail
      obtain ⟨fb, hfb⟩ : ∃ y, y = w3.heap.size := ⟨_, rfl⟩
      refine wp_name (fun W => W.heap[fb]? = some (.cells #[.func (.func 24) #[] #[]] 47 (0, 0)) ∧ Below w3.heap.size w3 W) ⟨heap_alloc_at _ _ _ hfb, Below.alloc' _ _⟩ ?_
      rintro w4 ⟨hfr, hb⟩
      rw [← hfb]
      have HFB := Lib.hid hfr
      have HB34 := Lib.hid hb
      have HXw4 := Lib.hid ((hb.block _ (lt_of_block HXw3.out)).trans HXw3.out)
      have HBw4 := Lib.hid (HBw3.out.trans (hb.mono HBw3.out.size))
      clear hb
      clear hfb hfr
      have c0 : w4.cell? ⟨w.heap.size, 0, none⟩ = some (.slice ao nb cap) := by rw [cell_of_row _ _ _ _ _ _ HXw4.out]; rfl
      have c1 : w4.cell? ⟨w.heap.size, 1, none⟩ = some (.int .i64 fl) := by rw [cell_of_row _ _ _ _ _ _ HXw4.out]; rfl
      have c2 : w4.cell? ⟨w.heap.size, 2, none⟩ = some (.int .i64 fh) := by rw [cell_of_row _ _ _ _ _ _ HXw4.out]; rfl
      have c3 : w4.cell? ⟨w.heap.size, 3, none⟩ = some (.slice ao2 nw cap2) := by rw [cell_of_row _ _ _ _ _ _ HXw4.out]; rfl
      go_upto_region 23 with fail
      have HSPr := Lib.hid (HBS.out.later HBw4.out.size (fun k h1 _ => HBw4.out.block k h1)).low9
      by_cases hn0 : nw = 0
      · have hn0i : ((nw : Int) == 0) = true := by rw [hn0]; rfl
        have hn0j : (nw : Int) = 0 := by omega
        have HN0 := Lib.hid hn0
        clear hn0
        exact (hnw0 HN0.out).elim
      · have hn0i : ((nw : Int) == 0) = false := by rw [beq_eq_false_iff_ne]; omega
        have hn1 : 0 < nw := by omega
        obtain ⟨q, hq, hqn⟩ := mod_q x nw hx.1 hn1
        have hcx : IntKind.i64.wrap x = x := IntWalk.i64_in _ (by omega)
        have hx0 : 0 ≤ x := hx.1
        have hqn2 : q < j.ws.length := by rw [← HNW.out]; exact hqn
        obtain ⟨a9, c9, e9, _, _, hel⟩ := HWS.out.later (W := w4) HBw4.out.size (fun k h1 _ => HBw4.out.block k h1)
        injection e9 with e1 e2 e3
        subst e1 e3
        clear e2
        obtain ⟨wb, wo, rfl, _, _, e4, e5⟩ := hel q hqn2
        have hwa := want_alone HV.out q hqn2
        obtain ⟨⟨lo, hi⟩, hwant⟩ : ∃ y, y = j.ws[q] := ⟨_, rfl⟩
        rw [← hwant] at e4 e5 hwa
        have hS0 : SN w.heap.size (.slice ao nb cap) (.slice (some ⟨wb, wo, none⟩) nw cap2) fl fh wb wo q lo hi w4 := ⟨by rw [cell_of_row _ _ _ _ _ _ HXw4.out]; rfl, by rw [cell_of_row _ _ _ _ _ _ HXw4.out]; rfl, by rw [cell_of_row _ _ _ _ _ _ HXw4.out]; rfl, by rw [cell_of_row _ _ _ _ _ _ HXw4.out]; rfl, e4, e5⟩
        have HSN := Lib.hid hS0
        obtain ⟨P, hP, hPle, hs9, hs10⟩ := pow_q q (Nat.lt_of_lt_of_le hqn hnw4)
        rw [← hP] at hwa
        have HWA := Lib.hid hwa
        clear hS0 e4 e5 hel hwant hP hwa
        go_upto_region 26 with fail
        rw [hq]
        clear hq hcx hx0
        clear c0 c1 c2 c3
        refine wp_region_held_drew (S := SN w.heap.size (.slice ao nb cap) (.slice (some ⟨wb, wo, none⟩) nw cap2) fl fh wb wo q lo hi) (by kernel_rfl) ((HSN.out).below (Below.refl _ _).drew) fun hS => ?_
        obtain ⟨D, hD⟩ : ∃ D, D = World.drew w4 := ⟨_, rfl⟩
        have hAD : Below w4.heap.size w4 D := by rw [hD]; exact (Below.refl _ _).drew
        rw [← hD] at hS ⊢
        have HBD := Lib.hid (HBw4.out.trans (hAD.mono HBw4.out.size))
        clear hD hAD HSN
        refine wpAnyH_take (i := 0) (v := ?_) rfl (by kernel_rfl) (by kernel_rfl) (by kernel_rfl) (fun _ _ _ h => h) (Or.inl ⟨by rfl, ?_⟩) hS ?_
        rotate_left
        · (intro W hSw; obtain ⟨q0, q1, q2, q3, q4, q5⟩ := hSw; go_simp; try with_reducible rfl)
        try simp only [List.getElem_toArray, List.getElem_cons_succ, List.getElem_cons_zero, Act.put, List.setIfInBounds_toArray, List.set_cons_zero, List.set_cons_succ]
        refine wpAnyH_take (i := 1) (v := ?_) rfl (by kernel_rfl) (by kernel_rfl) (by kernel_rfl) (fun _ _ _ h => h) (Or.inl ⟨by rfl, ?_⟩) hS ?_
        rotate_left
        · (intro W hSw; obtain ⟨q0, q1, q2, q3, q4, q5⟩ := hSw; go_simp; try with_reducible rfl)
        try simp only [List.getElem_toArray, List.getElem_cons_succ, List.getElem_cons_zero, Act.put, List.setIfInBounds_toArray, List.set_cons_zero, List.set_cons_succ]
        refine wpAnyH_take (i := 2) (v := ?_) rfl (by kernel_rfl) (by kernel_rfl) (by kernel_rfl) (fun _ _ _ h => h) (Or.inl ⟨by rfl, ?_⟩) hS ?_
        rotate_left
        · (intro W hSw; obtain ⟨q0, q1, q2, q3, q4, q5⟩ := hSw; go_simp; try with_reducible rfl)
        try simp only [List.getElem_toArray, List.getElem_cons_succ, List.getElem_cons_zero, Act.put, List.setIfInBounds_toArray, List.set_cons_zero, List.set_cons_succ]
        clear hs9 hs10
        have hc := r12only_any j (by rw [← HNW.out]; exact Nat.le_trans hnw4 (by decide)) P (Nat.lt_of_le_of_lt hPle (by decide)) (.slice ao nb cap) (.slice (some ⟨wb, wo, none⟩) nw cap2) D ⟨_, _, _, rfl⟩ (HWS.out.later HBD.out.size (fun k h1 _ => HBD.out.block k h1)).low9
        rw [HJV.out] at hc
        refine wpAnyH_call (k := 3) (by kernel_rfl) rfl rfl (f := 19) (args := #[.agg #[.slice ao nb cap, .int .i64 fl, .int .i64 fh, .slice (some ⟨wb, wo, none⟩) nw cap2], .int .i64 P]) (by simp [execOp, go_sem, Act.eval, Act.put]) ?_
        refine hc.mono ?_
        rintro e w5 ⟨⟨wv, rfl, hwv⟩, hb⟩
        clear hc
        dsimp only
        obtain ⟨a5, c5, rfl, _⟩ := id hwv
        obtain ⟨nx, hnx⟩ : ∃ n, n = (onlyD j P).ws.length := ⟨_, rfl⟩
        rw [← hnx] at hwv ⊢
        have HWV := Lib.hid hwv.low9
        have hjx : jobV (onlyD j P) (.slice ao nb cap) (.slice a5 nx c5) = .agg #[.slice ao nb cap, .int .i64 fl, .int .i64 fh, .slice a5 nx c5] := by unfold jobV onlyD; dsimp only; rw [← HFL.out.1, ← HFL.out.2]
        rw [hjx]
        have HJX := Lib.hid hjx
        have HBw5 := Lib.hid (HBD.out.trans (hb.mono HBD.out.size))
        have hS5 := hS.below hb
        clear hwv hjx hb hnx hS
        refine ⟨hS5, ?_⟩
        have hS := hS5
        clear hS5
        try simp only [List.getElem_toArray, List.getElem_cons_succ, List.getElem_cons_zero, Act.put, List.setIfInBounds_toArray, List.set_cons_zero, List.set_cons_succ]
        have hc := Plan_any (onlyD j P) (.slice ao nb cap) (.slice a5 nx c5) w5 (HBS.out.later HBw5.out.size (fun k h1 _ => HBw5.out.block k h1)).low9 HWV.out (HTZ.out.below HBw5.out h1z)
        rw [HJX.out] at hc
        refine wpAnyH_call (k := 4) (by kernel_rfl) rfl rfl (f := 20) (args := #[.agg #[.slice ao nb cap, .int .i64 fl, .int .i64 fh, .slice a5 nx c5]]) (by simp [execOp, go_sem, Act.eval, Act.put]) ?_
        refine hc.mono ?_
        rintro e w6 ⟨pv, rfl, hpv, hb⟩
        clear hc
        dsimp only
        obtain ⟨a7, c7, hpve, _⟩ := id hpv
        subst hpve
        rw [List.length_map] at hpv ⊢
        obtain ⟨px, hpx⟩ : ∃ y, y = planD (onlyD j P) := ⟨_, rfl⟩
        rw [← hpx] at hpv HWA ⊢
        have HPX := Lib.hid hpv.low9
        have HBw6 := Lib.hid (HBw5.out.trans (hb.mono HBw5.out.size))
        have hS6 := hS.below hb
        clear hb hS hpv hpx
        refine ⟨hS6, ?_⟩
        have hS := hS6
        clear hS6
        try simp only [List.getElem_toArray, List.getElem_cons_succ, List.getElem_cons_zero, Act.put, List.setIfInBounds_toArray, List.set_cons_zero, List.set_cons_succ]
        refine wpAnyH_take (i := 5) (v := ?_) rfl (by kernel_rfl) (by kernel_rfl) (by kernel_rfl) (fun _ _ _ h => h) (Or.inl ⟨by rfl, ?_⟩) hS ?_
        rotate_left
        · (intro W hSw; obtain ⟨q0, q1, q2, q3, q4, q5⟩ := hSw; go_simp; try with_reducible rfl)
        try simp only [List.getElem_toArray, List.getElem_cons_succ, List.getElem_cons_zero, Act.put, List.setIfInBounds_toArray, List.set_cons_zero, List.set_cons_succ]
        refine wpAnyH_take (i := 6) (v := ?_) rfl (by kernel_rfl) (by kernel_rfl) (by kernel_rfl) (fun _ _ _ h => h) (Or.inl ⟨by rfl, ?_⟩) hS ?_
        rotate_left
        · (intro W hSw; obtain ⟨q0, q1, q2, q3, q4, q5⟩ := hSw; go_simp; try with_reducible rfl)
        try simp only [List.getElem_toArray, List.getElem_cons_succ, List.getElem_cons_zero, Act.put, List.setIfInBounds_toArray, List.set_cons_zero, List.set_cons_succ]
        refine wpAnyH_take (i := 7) (v := ?_) rfl (by kernel_rfl) (by kernel_rfl) (by kernel_rfl) (fun _ _ _ h => h) (Or.inl ⟨by rfl, ?_⟩) hS ?_
        rotate_left
        · (intro W hSw; obtain ⟨q0, q1, q2, q3, q4, q5⟩ := hSw; go_simp; try with_reducible rfl)
        try simp only [List.getElem_toArray, List.getElem_cons_succ, List.getElem_cons_zero, Act.put, List.setIfInBounds_toArray, List.set_cons_zero, List.set_cons_succ]
        refine wpAnyH_take (i := 8) (v := ?_) rfl (by kernel_rfl) (by kernel_rfl) (by kernel_rfl) (fun _ _ _ h => h) (Or.inl ⟨by rfl, ?_⟩) hS ?_
        rotate_left
        · (intro W hSw; obtain ⟨q0, q1, q2, q3, q4, q5⟩ := hSw; go_simp; try with_reducible rfl)
        try simp only [List.getElem_toArray, List.getElem_cons_succ, List.getElem_cons_zero, Act.put, List.setIfInBounds_toArray, List.set_cons_zero, List.set_cons_succ]
        refine wpAnyH_take (i := 9) (v := ?_) rfl (by kernel_rfl) (by kernel_rfl) (by kernel_rfl) (fun _ _ _ h => h) (Or.inl ⟨by rfl, ?_⟩) hS ?_
        rotate_left
        · (intro W hSw; obtain ⟨q0, q1, q2, q3, q4, q5⟩ := hSw; go_simp; try with_reducible rfl)
        try simp only [List.getElem_toArray, List.getElem_cons_succ, List.getElem_cons_zero, Act.put, List.setIfInBounds_toArray, List.set_cons_zero, List.set_cons_succ]
        refine wpAnyH_done (by kernel_rfl) ?_ _
        try simp only [List.getElem_toArray, List.getElem_cons_succ, List.getElem_cons_zero, Act.put, List.setIfInBounds_toArray, List.set_cons_zero, List.set_cons_succ]
        have HSN := Lib.hid hS
        have HXw6 := Lib.hid hS
        clear hS
        go_upto_region 27 with fail
        refine wp_region_held_drew (S := SN w.heap.size (.slice ao nb cap) (.slice (some ⟨wb, wo, none⟩) nw cap2) fl fh wb wo q lo hi) (by kernel_rfl) ((HSN.out).below (Below.refl _ _).drew) fun hS => ?_
        obtain ⟨D, hD⟩ : ∃ D, D = World.drew w6 := ⟨_, rfl⟩
        have hAD : Below w6.heap.size w6 D := by rw [hD]; exact (Below.refl _ _).drew
        rw [← hD] at hS ⊢
        have HB7 := Lib.hid (HBw6.out.trans (hAD.mono HBw6.out.size))
        have hb6D := hAD
        clear hD HSN
        refine wpAnyH_take (i := 0) (v := ?_) rfl (by kernel_rfl) (by kernel_rfl) (by kernel_rfl) (fun _ _ _ h => h) (Or.inl ⟨by rfl, ?_⟩) hS ?_
        rotate_left
        · (intro W hSw; obtain ⟨q0, q1, q2, q3, q4, q5⟩ := hSw; go_simp; try with_reducible rfl)
        try simp only [List.getElem_toArray, List.getElem_cons_succ, List.getElem_cons_zero, Act.put, List.setIfInBounds_toArray, List.set_cons_zero, List.set_cons_succ]
        refine wpAnyH_take (i := 1) (v := ?_) rfl (by kernel_rfl) (by kernel_rfl) (by kernel_rfl) (fun _ _ _ h => h) (Or.inl ⟨by rfl, ?_⟩) hS ?_
        rotate_left
        · (intro W hSw; obtain ⟨q0, q1, q2, q3, q4, q5⟩ := hSw; go_simp; try with_reducible rfl)
        try simp only [List.getElem_toArray, List.getElem_cons_succ, List.getElem_cons_zero, Act.put, List.setIfInBounds_toArray, List.set_cons_zero, List.set_cons_succ]
        refine wpAnyH_take (i := 2) (v := ?_) rfl (by kernel_rfl) (by kernel_rfl) (by kernel_rfl) (fun _ _ _ h => h) (Or.inl ⟨by rfl, ?_⟩) hS ?_
        rotate_left
        · (intro W hSw; obtain ⟨q0, q1, q2, q3, q4, q5⟩ := hSw; go_simp; try with_reducible rfl)
        try simp only [List.getElem_toArray, List.getElem_cons_succ, List.getElem_cons_zero, Act.put, List.setIfInBounds_toArray, List.set_cons_zero, List.set_cons_succ]
        refine wpAnyH_take (i := 3) (v := ?_) rfl (by kernel_rfl) (by kernel_rfl) (by kernel_rfl) (fun _ _ _ h => h) (Or.inl ⟨by rfl, ?_⟩) hS ?_
        rotate_left
        · (intro W hSw; obtain ⟨q0, q1, q2, q3, q4, q5⟩ := hSw; go_simp; try with_reducible rfl)
        try simp only [List.getElem_toArray, List.getElem_cons_succ, List.getElem_cons_zero, Act.put, List.setIfInBounds_toArray, List.set_cons_zero, List.set_cons_succ]
        refine wpAnyH_take (i := 4) (v := ?_) rfl (by kernel_rfl) (by kernel_rfl) (by kernel_rfl) (fun _ _ _ h => h) (Or.inl ⟨by rfl, ?_⟩) hS ?_
        rotate_left
        · (intro W hSw; obtain ⟨q0, q1, q2, q3, q4, q5⟩ := hSw; go_simp; try with_reducible rfl)
        try simp only [List.getElem_toArray, List.getElem_cons_succ, List.getElem_cons_zero, Act.put, List.setIfInBounds_toArray, List.set_cons_zero, List.set_cons_succ]
        refine wpAnyH_take (i := 5) (v := ?_) rfl (by kernel_rfl) (by kernel_rfl) (by kernel_rfl) (fun _ _ _ h => h) (Or.inl ⟨by rfl, ?_⟩) hS ?_
        rotate_left
        · (intro W hSw; obtain ⟨q0, q1, q2, q3, q4, q5⟩ := hSw; go_simp; try with_reducible rfl)
        try simp only [List.getElem_toArray, List.getElem_cons_succ, List.getElem_cons_zero, Act.put, List.setIfInBounds_toArray, List.set_cons_zero, List.set_cons_succ]
        refine wpAnyH_take (i := 6) (v := ?_) rfl (by kernel_rfl) (by kernel_rfl) (by kernel_rfl) (fun _ _ _ h => h) (Or.inl ⟨by rfl, ?_⟩) hS ?_
        rotate_left
        · (intro W hSw; obtain ⟨q0, q1, q2, q3, q4, q5⟩ := hSw; go_simp; try with_reducible rfl)
        try simp only [List.getElem_toArray, List.getElem_cons_succ, List.getElem_cons_zero, Act.put, List.setIfInBounds_toArray, List.set_cons_zero, List.set_cons_succ]
        have hc := fewestS_any j.st (.slice ao nb cap) (lo, hi) D (HBS.out.later HB7.out.size (fun k h1 _ => HB7.out.block k h1)).low9
        have hsv : stackV j.st (.slice ao nb cap) = .agg #[.slice ao nb cap, .int .i64 fl, .int .i64 fh] := by unfold stackV; rw [← HFL.out.1, ← HFL.out.2]
        rw [hsv] at hc
        refine wpAnyH_call (k := 7) (by kernel_rfl) rfl rfl (f := 23) (args := #[.agg #[.slice ao nb cap, .int .i64 fl, .int .i64 fh], .agg #[.int .i64 lo, .int .i64 hi]]) (by simp [execOp, go_sem, Act.eval, Act.put]) ?_
        refine hc.mono ?_
        rintro e w7 ⟨rfl, hb⟩
        clear hc hsv
        dsimp only
        obtain ⟨fx, hfx⟩ : ∃ y, y = fewestS j.st (lo, hi) := ⟨_, rfl⟩
        rw [← hfx] at HWA ⊢
        have HPX7 := Lib.hid (HPX.out.later (hb6D.trans (hb.mono hb6D.size)).size (fun k h _ => (hb6D.trans (hb.mono hb6D.size)).block k h)).low9
        have HBw7 := Lib.hid (HB7.out.trans (hb.mono HB7.out.size))
        have hS7 := hS.below hb
        clear hb hS hfx hb6D hAD
        refine ⟨hS7, ?_⟩
        have hS := hS7
        clear hS7
        try simp only [List.getElem_toArray, List.getElem_cons_succ, List.getElem_cons_zero, Act.put, List.setIfInBounds_toArray, List.set_cons_zero, List.set_cons_succ]
        refine wpAnyH_take (i := 8) (v := ?_) rfl (by kernel_rfl) (by kernel_rfl) (by kernel_rfl) (fun _ _ _ h => h) (Or.inl ⟨by rfl, ?_⟩) hS ?_
        rotate_left
        · (intro W hSw; obtain ⟨q0, q1, q2, q3, q4, q5⟩ := hSw; go_simp; try with_reducible rfl)
        try simp only [List.getElem_toArray, List.getElem_cons_succ, List.getElem_cons_zero, Act.put, List.setIfInBounds_toArray, List.set_cons_zero, List.set_cons_succ]
        refine wpAnyH_take (i := 9) (v := ?_) rfl (by kernel_rfl) (by kernel_rfl) (by kernel_rfl) (fun _ _ _ h => h) (Or.inl ⟨by rfl, ?_⟩) hS ?_
        rotate_left
        · (intro W hSw; obtain ⟨q0, q1, q2, q3, q4, q5⟩ := hSw; go_simp; try with_reducible rfl)
        try simp only [List.getElem_toArray, List.getElem_cons_succ, List.getElem_cons_zero, Act.put, List.setIfInBounds_toArray, List.set_cons_zero, List.set_cons_succ]
        refine wpAnyH_take (i := 10) (v := ?_) rfl (by kernel_rfl) (by kernel_rfl) (by kernel_rfl) (fun _ _ _ h => h) (Or.inl ⟨by rfl, ?_⟩) hS ?_
        rotate_left
        · (intro W hSw; obtain ⟨q0, q1, q2, q3, q4, q5⟩ := hSw; go_simp; try with_reducible rfl)
        try simp only [List.getElem_toArray, List.getElem_cons_succ, List.getElem_cons_zero, Act.put, List.setIfInBounds_toArray, List.set_cons_zero, List.set_cons_succ]
        refine wpAnyH_take (i := 11) (v := ?_) rfl (by kernel_rfl) (by kernel_rfl) (by kernel_rfl) (fun _ _ _ h => h) (Or.inl ⟨by rfl, ?_⟩) hS ?_
        rotate_left
        · (intro W hSw; obtain ⟨q0, q1, q2, q3, q4, q5⟩ := hSw; go_simp; try with_reducible rfl)
        try simp only [List.getElem_toArray, List.getElem_cons_succ, List.getElem_cons_zero, Act.put, List.setIfInBounds_toArray, List.set_cons_zero, List.set_cons_succ]
        refine wpAnyH_take (i := 12) (v := ?_) rfl (by kernel_rfl) (by kernel_rfl) (by kernel_rfl) (fun _ _ _ h => h) (Or.inl ⟨by rfl, ?_⟩) hS ?_
        rotate_left
        · (intro W hSw; obtain ⟨q0, q1, q2, q3, q4, q5⟩ := hSw; go_simp; try with_reducible rfl)
        try simp only [List.getElem_toArray, List.getElem_cons_succ, List.getElem_cons_zero, Act.put, List.setIfInBounds_toArray, List.set_cons_zero, List.set_cons_succ]
        refine wpAnyH_done (by kernel_rfl) ?_ _
        try simp only [List.getElem_toArray, List.getElem_cons_succ, List.getElem_cons_zero, Act.put, List.setIfInBounds_toArray, List.set_cons_zero, List.set_cons_succ]
        obtain ⟨c0, c1, c2, c3, _, _⟩ := id hS
        clear hS
        go_wp2_with fail
        have hc := Alone_any j (.slice ao nb cap) (.slice (some ⟨wb, wo, none⟩) nw cap2) w7 (HBS.out.later HBw7.out.size (fun k h1 _ => HBw7.out.block k h1)).low9 (HWS.out.later HBw7.out.size (fun k h1 _ => HBw7.out.block k h1)).low9
        rw [HJV.out] at hc
        refine hc.mono ?_
        rw [alonejD_ok HV.out]
        rintro e w8 ⟨rfl, hb⟩
        clear hc c0 c1 c2 c3
        dsimp only
        have HPX8 := Lib.hid (HPX7.out.later hb.size (fun k h _ => hb.block k h)).low9
        have HBw8 := Lib.hid (HBw7.out.trans (hb.mono HBw7.out.size))
        obtain ⟨al, hal⟩ : ∃ y, y = aloneN j := ⟨_, rfl⟩
        have hal16 : al < 2 ^ nw := by rw [hal, HNW.out]; exact alonej_lt j
        rw [← hal] at HWA ⊢
        clear hb hal
        have hal8 : al < 256 := Nat.lt_of_lt_of_le hal16 (Nat.le_trans (Nat.pow_le_pow_right (by decide) hnw4) (by decide : 2 ^ 4 ≤ 256))
        have hq8 : q < 8 := Nat.lt_of_lt_of_le hqn (Nat.le_trans hnw4 (by decide))
        have hb1 := bit1_i64 ⟨q, hq8⟩ ⟨al, hal8⟩
        have hq0 : 0 ≤ (q : Int) := by omega
        dsimp only at hb1
        rcases HWA.out with ⟨g1, g2, g3, g4⟩ | ⟨t, g1, g2, g3, g4⟩
        · rw [g3] at hb1
          rw [g1] at HPX8 ⊢
          rw [g2]
          clear HWA HPX HPX7 HPX8 g1 g2 g3
          go_wp2_with fail
          refine (lawake_any _ (HTZ.out.below HBw8.out h1z)).mono ?_
          rintro e w9 ⟨rfl, hb9⟩
          dsimp only
          have HB9 := Lib.hid (HBw8.out.trans (hb9.mono HBw8.out.size))
          clear hb9
          go_wp2_with fail
          go_ret
          exact ⟨rfl, HB9.out⟩
        · rw [g3] at hb1
          rw [g1] at HPX8 ⊢
          rw [g2]
          obtain ⟨a9, c9, e9, _, _, hel⟩ := HPX8.out
          injection e9 with e1 e2 e3
          subst e1 e3
          clear e2
          obtain ⟨tb, to, rfl, _, _, e6⟩ := hel 0 (by simp)
          have e6 : w8.cell? ⟨tb, to, none⟩ = some (.int .i64 t) := e6
          clear hel HWA HPX HPX7 HPX8 g1 g2 g3
          go_wp2_with fail
          refine (lawake_any _ (HTZ.out.below HBw8.out h1z)).mono ?_
          rintro e w9 ⟨rfl, hb9⟩
          dsimp only
          have HB9 := Lib.hid (HBw8.out.trans (hb9.mono HBw8.out.size))
          clear hb9
          go_wp2_with fail
          go_ret
          exact ⟨rfl, HB9.out⟩
    | true =>
      have h9 := planD_can HV.out hc
      have hpl := can_told hc
      have hft := told_first 8 (rightsD j) (allD j)
      obtain ⟨p, hp⟩ : ∃ p, p = toldJ 8 (rightsD j) (allD j) := ⟨_, rfl⟩
      rw [← hp] at h9 hpl hft
      rw [h9] at hpv ⊢
      have hpf := plan_facts hpl
      have hplen : p.length = nw := by rw [hpf.len, HNW.out]
      rw [hplen] at hpv ⊢
      have HPV := Lib.hid hpv.low9
      have HPL := Lib.hid (And.intro hpl (And.intro hpf (And.intro hplen hp)))
      have HC := Lib.hid hc
      clear hpv hc h9 hpl hft hp hpf hplen
      go_wp2_with fail
      have hc := made_any j HV.out l (.slice ao3 nu cap3) (.slice ao nb cap) (.slice ao2 nw cap2) w2 (HBS.out.later HBw2.out.size (fun k h1 _ => HBw2.out.block k h1)).low9 (HWS.out.later HBw2.out.size (fun k h1 _ => HBw2.out.block k h1)).low9 (by rw [HNU.out] at HUS ⊢; exact (HUS.out.later HBw2.out.size (fun k h1 _ => HBw2.out.block k h1)).mono (fun k h1 _ => h1))
      rw [HJV.out] at hc
      refine hc.mono ?_
      intro e w3 hm
      obtain ⟨hb, hm⟩ := made_cases hm
      have HPV3 := Lib.hid (HPV.out.later hb.size (fun k h _ => hb.block k h)).low9
      rcases hm with ⟨_, _, rfl⟩ | ⟨p2, v2, hpl, hps, rfl, hpn⟩
      · clear hc c0 c1 c2 c3
        dsimp only
        have HXw3 := Lib.hid ((hb.block _ (lt_of_block HXw2.out)).trans HXw2.out)
        have HBw3 := Lib.hid (HBw2.out.trans (hb.mono HBw2.out.size))
        clear hb
        go_upto_region 7 with fail
        obtain ⟨fb, hfb⟩ : ∃ y, y = w3.heap.size := ⟨_, rfl⟩
        refine wp_name (fun W => W.heap[fb]? = some (.cells #[.func (.func 24) #[] #[]] 47 (0, 0)) ∧ Below w3.heap.size w3 W) ⟨heap_alloc_at _ _ _ hfb, Below.alloc' _ _⟩ ?_
        rintro w4 ⟨hfr, hb⟩
        rw [← hfb]
        have HFB := Lib.hid hfr
        have HB34 := Lib.hid hb
        have HXw4 := Lib.hid ((hb.block _ (lt_of_block HXw3.out)).trans HXw3.out)
        have HBw4 := Lib.hid (HBw3.out.trans (hb.mono HBw3.out.size))
        clear hb
        clear hfb hfr
        have HPV4 := Lib.hid (HPV3.out.later HB34.out.size (fun k h _ => HB34.out.block k h)).low9
        have c0 : w4.cell? ⟨w.heap.size, 0, none⟩ = some (.slice ao nb cap) := by rw [cell_of_row _ _ _ _ _ _ HXw4.out]; rfl
        have c1 : w4.cell? ⟨w.heap.size, 1, none⟩ = some (.int .i64 fl) := by rw [cell_of_row _ _ _ _ _ _ HXw4.out]; rfl
        have c2 : w4.cell? ⟨w.heap.size, 2, none⟩ = some (.int .i64 fh) := by rw [cell_of_row _ _ _ _ _ _ HXw4.out]; rfl
        have c3 : w4.cell? ⟨w.heap.size, 3, none⟩ = some (.slice ao2 nw cap2) := by rw [cell_of_row _ _ _ _ _ _ HXw4.out]; rfl
        go_wp2_with fail
        have hc := Check_any j (.slice ao nb cap) (.slice ao2 nw cap2) (p.map fun s : Nat => (s : Int)) (.slice a6 nw c6) w4 (HBS.out.later HBw4.out.size (fun k h1 _ => HBw4.out.block k h1)).low9 (HWS.out.later HBw4.out.size (fun k h1 _ => HBw4.out.block k h1)).low9 HPV4.out (by rw [List.length_map, HPL.out.2.2.1]; omega)
        rw [HJV.out, check_plan HV.out HPL.out.1] at hc
        refine hc.mono ?_
        rintro e w5 ⟨rfl, hb⟩
        clear hc c0 c1 c2 c3
        dsimp only
        have HB45 := Lib.hid hb
        have HXw5 := Lib.hid ((hb.block _ (lt_of_block HXw4.out)).trans HXw4.out)
        have HBw5 := Lib.hid (HBw4.out.trans (hb.mono HBw4.out.size))
        clear hb
        have c0 : w5.cell? ⟨w.heap.size, 0, none⟩ = some (.slice ao nb cap) := by rw [cell_of_row _ _ _ _ _ _ HXw5.out]; rfl
        have c1 : w5.cell? ⟨w.heap.size, 1, none⟩ = some (.int .i64 fl) := by rw [cell_of_row _ _ _ _ _ _ HXw5.out]; rfl
        have c2 : w5.cell? ⟨w.heap.size, 2, none⟩ = some (.int .i64 fh) := by rw [cell_of_row _ _ _ _ _ _ HXw5.out]; rfl
        have c3 : w5.cell? ⟨w.heap.size, 3, none⟩ = some (.slice ao2 nw cap2) := by rw [cell_of_row _ _ _ _ _ _ HXw5.out]; rfl
        go_upto_region 23 with fail
        have HSPr := Lib.hid (HBS.out.later HBw5.out.size (fun k h1 _ => HBw5.out.block k h1)).low9
        by_cases hn0 : nw = 0
        · have hn0i : ((nw : Int) == 0) = true := by rw [hn0]; rfl
          have hn0j : (nw : Int) = 0 := by omega
          have HN0 := Lib.hid hn0
          clear hn0
          go_wp2_with fail
          refine (lawake_any _ (HTZ.out.below HBw5.out h1z)).mono ?_
          rintro e w9 ⟨rfl, hb9⟩
          dsimp only
          have HB9 := Lib.hid (HBw5.out.trans (hb9.mono HBw5.out.size))
          clear hb9
          go_wp2_with fail
          go_ret
          exact ⟨rfl, HB9.out⟩
        · have hn0i : ((nw : Int) == 0) = false := by rw [beq_eq_false_iff_ne]; omega
          have hn1 : 0 < nw := by omega
          obtain ⟨q, hq, hqn⟩ := mod_q x nw hx.1 hn1
          have hcx : IntKind.i64.wrap x = x := IntWalk.i64_in _ (by omega)
          have hx0 : 0 ≤ x := hx.1
          have hqn2 : q < j.ws.length := by rw [← HNW.out]; exact hqn
          obtain ⟨a9, c9, e9, _, _, hel⟩ := HWS.out.later (W := w5) HBw5.out.size (fun k h1 _ => HBw5.out.block k h1)
          injection e9 with e1 e2 e3
          subst e1 e3
          clear e2
          obtain ⟨wb, wo, rfl, _, _, e4, e5⟩ := hel q hqn2
          have hwa := want_alone HV.out q hqn2
          obtain ⟨⟨lo, hi⟩, hwant⟩ : ∃ y, y = j.ws[q] := ⟨_, rfl⟩
          rw [← hwant] at e4 e5 hwa
          have hS0 : SN w.heap.size (.slice ao nb cap) (.slice (some ⟨wb, wo, none⟩) nw cap2) fl fh wb wo q lo hi w5 := ⟨by rw [cell_of_row _ _ _ _ _ _ HXw5.out]; rfl, by rw [cell_of_row _ _ _ _ _ _ HXw5.out]; rfl, by rw [cell_of_row _ _ _ _ _ _ HXw5.out]; rfl, by rw [cell_of_row _ _ _ _ _ _ HXw5.out]; rfl, e4, e5⟩
          have HSN := Lib.hid hS0
          obtain ⟨P, hP, hPle, hs9, hs10⟩ := pow_q q (Nat.lt_of_lt_of_le hqn hnw4)
          rw [← hP] at hwa
          have HWA := Lib.hid hwa
          clear hS0 e4 e5 hel hwant hP hwa
          go_upto_region 26 with fail
          rw [hq]
          clear hq hcx hx0
          clear c0 c1 c2 c3
          refine wp_region_held_drew (S := SN w.heap.size (.slice ao nb cap) (.slice (some ⟨wb, wo, none⟩) nw cap2) fl fh wb wo q lo hi) (by kernel_rfl) ((HSN.out).below (Below.refl _ _).drew) fun hS => ?_
          obtain ⟨D, hD⟩ : ∃ D, D = World.drew w5 := ⟨_, rfl⟩
          have hAD : Below w5.heap.size w5 D := by rw [hD]; exact (Below.refl _ _).drew
          rw [← hD] at hS ⊢
          have HBD := Lib.hid (HBw5.out.trans (hAD.mono HBw5.out.size))
          clear hD hAD HSN
          refine wpAnyH_take (i := 0) (v := ?_) rfl (by kernel_rfl) (by kernel_rfl) (by kernel_rfl) (fun _ _ _ h => h) (Or.inl ⟨by rfl, ?_⟩) hS ?_
          rotate_left
          · (intro W hSw; obtain ⟨q0, q1, q2, q3, q4, q5⟩ := hSw; go_simp; try with_reducible rfl)
          try simp only [List.getElem_toArray, List.getElem_cons_succ, List.getElem_cons_zero, Act.put, List.setIfInBounds_toArray, List.set_cons_zero, List.set_cons_succ]
          refine wpAnyH_take (i := 1) (v := ?_) rfl (by kernel_rfl) (by kernel_rfl) (by kernel_rfl) (fun _ _ _ h => h) (Or.inl ⟨by rfl, ?_⟩) hS ?_
          rotate_left
          · (intro W hSw; obtain ⟨q0, q1, q2, q3, q4, q5⟩ := hSw; go_simp; try with_reducible rfl)
          try simp only [List.getElem_toArray, List.getElem_cons_succ, List.getElem_cons_zero, Act.put, List.setIfInBounds_toArray, List.set_cons_zero, List.set_cons_succ]
          refine wpAnyH_take (i := 2) (v := ?_) rfl (by kernel_rfl) (by kernel_rfl) (by kernel_rfl) (fun _ _ _ h => h) (Or.inl ⟨by rfl, ?_⟩) hS ?_
          rotate_left
          · (intro W hSw; obtain ⟨q0, q1, q2, q3, q4, q5⟩ := hSw; go_simp; try with_reducible rfl)
          try simp only [List.getElem_toArray, List.getElem_cons_succ, List.getElem_cons_zero, Act.put, List.setIfInBounds_toArray, List.set_cons_zero, List.set_cons_succ]
          clear hs9 hs10
          have hc := r12only_any j (by rw [← HNW.out]; exact Nat.le_trans hnw4 (by decide)) P (Nat.lt_of_le_of_lt hPle (by decide)) (.slice ao nb cap) (.slice (some ⟨wb, wo, none⟩) nw cap2) D ⟨_, _, _, rfl⟩ (HWS.out.later HBD.out.size (fun k h1 _ => HBD.out.block k h1)).low9
          rw [HJV.out] at hc
          refine wpAnyH_call (k := 3) (by kernel_rfl) rfl rfl (f := 19) (args := #[.agg #[.slice ao nb cap, .int .i64 fl, .int .i64 fh, .slice (some ⟨wb, wo, none⟩) nw cap2], .int .i64 P]) (by simp [execOp, go_sem, Act.eval, Act.put]) ?_
          refine hc.mono ?_
          rintro e w5 ⟨⟨wv, rfl, hwv⟩, hb⟩
          clear hc
          dsimp only
          obtain ⟨a5, c5, rfl, _⟩ := id hwv
          obtain ⟨nx, hnx⟩ : ∃ n, n = (onlyD j P).ws.length := ⟨_, rfl⟩
          rw [← hnx] at hwv ⊢
          have HWV := Lib.hid hwv.low9
          have hjx : jobV (onlyD j P) (.slice ao nb cap) (.slice a5 nx c5) = .agg #[.slice ao nb cap, .int .i64 fl, .int .i64 fh, .slice a5 nx c5] := by unfold jobV onlyD; dsimp only; rw [← HFL.out.1, ← HFL.out.2]
          rw [hjx]
          have HJX := Lib.hid hjx
          have HBw5 := Lib.hid (HBD.out.trans (hb.mono HBD.out.size))
          have hS5 := hS.below hb
          clear hwv hjx hb hnx hS
          refine ⟨hS5, ?_⟩
          have hS := hS5
          clear hS5
          try simp only [List.getElem_toArray, List.getElem_cons_succ, List.getElem_cons_zero, Act.put, List.setIfInBounds_toArray, List.set_cons_zero, List.set_cons_succ]
          have hc := Plan_any (onlyD j P) (.slice ao nb cap) (.slice a5 nx c5) w5 (HBS.out.later HBw5.out.size (fun k h1 _ => HBw5.out.block k h1)).low9 HWV.out (HTZ.out.below HBw5.out h1z)
          rw [HJX.out] at hc
          refine wpAnyH_call (k := 4) (by kernel_rfl) rfl rfl (f := 20) (args := #[.agg #[.slice ao nb cap, .int .i64 fl, .int .i64 fh, .slice a5 nx c5]]) (by simp [execOp, go_sem, Act.eval, Act.put]) ?_
          refine hc.mono ?_
          rintro e w6 ⟨pv, rfl, hpv, hb⟩
          clear hc
          dsimp only
          obtain ⟨a7, c7, hpve, _⟩ := id hpv
          subst hpve
          rw [List.length_map] at hpv ⊢
          obtain ⟨px, hpx⟩ : ∃ y, y = planD (onlyD j P) := ⟨_, rfl⟩
          rw [← hpx] at hpv HWA ⊢
          have HPX := Lib.hid hpv.low9
          have HBw6 := Lib.hid (HBw5.out.trans (hb.mono HBw5.out.size))
          have hS6 := hS.below hb
          clear hb hS hpv hpx
          refine ⟨hS6, ?_⟩
          have hS := hS6
          clear hS6
          try simp only [List.getElem_toArray, List.getElem_cons_succ, List.getElem_cons_zero, Act.put, List.setIfInBounds_toArray, List.set_cons_zero, List.set_cons_succ]
          refine wpAnyH_take (i := 5) (v := ?_) rfl (by kernel_rfl) (by kernel_rfl) (by kernel_rfl) (fun _ _ _ h => h) (Or.inl ⟨by rfl, ?_⟩) hS ?_
          rotate_left
          · (intro W hSw; obtain ⟨q0, q1, q2, q3, q4, q5⟩ := hSw; go_simp; try with_reducible rfl)
          try simp only [List.getElem_toArray, List.getElem_cons_succ, List.getElem_cons_zero, Act.put, List.setIfInBounds_toArray, List.set_cons_zero, List.set_cons_succ]
          refine wpAnyH_take (i := 6) (v := ?_) rfl (by kernel_rfl) (by kernel_rfl) (by kernel_rfl) (fun _ _ _ h => h) (Or.inl ⟨by rfl, ?_⟩) hS ?_
          rotate_left
          · (intro W hSw; obtain ⟨q0, q1, q2, q3, q4, q5⟩ := hSw; go_simp; try with_reducible rfl)
          try simp only [List.getElem_toArray, List.getElem_cons_succ, List.getElem_cons_zero, Act.put, List.setIfInBounds_toArray, List.set_cons_zero, List.set_cons_succ]
          refine wpAnyH_take (i := 7) (v := ?_) rfl (by kernel_rfl) (by kernel_rfl) (by kernel_rfl) (fun _ _ _ h => h) (Or.inl ⟨by rfl, ?_⟩) hS ?_
          rotate_left
          · (intro W hSw; obtain ⟨q0, q1, q2, q3, q4, q5⟩ := hSw; go_simp; try with_reducible rfl)
          try simp only [List.getElem_toArray, List.getElem_cons_succ, List.getElem_cons_zero, Act.put, List.setIfInBounds_toArray, List.set_cons_zero, List.set_cons_succ]
          refine wpAnyH_take (i := 8) (v := ?_) rfl (by kernel_rfl) (by kernel_rfl) (by kernel_rfl) (fun _ _ _ h => h) (Or.inl ⟨by rfl, ?_⟩) hS ?_
          rotate_left
          · (intro W hSw; obtain ⟨q0, q1, q2, q3, q4, q5⟩ := hSw; go_simp; try with_reducible rfl)
          try simp only [List.getElem_toArray, List.getElem_cons_succ, List.getElem_cons_zero, Act.put, List.setIfInBounds_toArray, List.set_cons_zero, List.set_cons_succ]
          refine wpAnyH_take (i := 9) (v := ?_) rfl (by kernel_rfl) (by kernel_rfl) (by kernel_rfl) (fun _ _ _ h => h) (Or.inl ⟨by rfl, ?_⟩) hS ?_
          rotate_left
          · (intro W hSw; obtain ⟨q0, q1, q2, q3, q4, q5⟩ := hSw; go_simp; try with_reducible rfl)
          try simp only [List.getElem_toArray, List.getElem_cons_succ, List.getElem_cons_zero, Act.put, List.setIfInBounds_toArray, List.set_cons_zero, List.set_cons_succ]
          refine wpAnyH_done (by kernel_rfl) ?_ _
          try simp only [List.getElem_toArray, List.getElem_cons_succ, List.getElem_cons_zero, Act.put, List.setIfInBounds_toArray, List.set_cons_zero, List.set_cons_succ]
          have HSN := Lib.hid hS
          have HXw6 := Lib.hid hS
          clear hS
          go_upto_region 27 with fail
          refine wp_region_held_drew (S := SN w.heap.size (.slice ao nb cap) (.slice (some ⟨wb, wo, none⟩) nw cap2) fl fh wb wo q lo hi) (by kernel_rfl) ((HSN.out).below (Below.refl _ _).drew) fun hS => ?_
          obtain ⟨D, hD⟩ : ∃ D, D = World.drew w6 := ⟨_, rfl⟩
          have hAD : Below w6.heap.size w6 D := by rw [hD]; exact (Below.refl _ _).drew
          rw [← hD] at hS ⊢
          have HB7 := Lib.hid (HBw6.out.trans (hAD.mono HBw6.out.size))
          have hb6D := hAD
          clear hD HSN
          refine wpAnyH_take (i := 0) (v := ?_) rfl (by kernel_rfl) (by kernel_rfl) (by kernel_rfl) (fun _ _ _ h => h) (Or.inl ⟨by rfl, ?_⟩) hS ?_
          rotate_left
          · (intro W hSw; obtain ⟨q0, q1, q2, q3, q4, q5⟩ := hSw; go_simp; try with_reducible rfl)
          try simp only [List.getElem_toArray, List.getElem_cons_succ, List.getElem_cons_zero, Act.put, List.setIfInBounds_toArray, List.set_cons_zero, List.set_cons_succ]
          refine wpAnyH_take (i := 1) (v := ?_) rfl (by kernel_rfl) (by kernel_rfl) (by kernel_rfl) (fun _ _ _ h => h) (Or.inl ⟨by rfl, ?_⟩) hS ?_
          rotate_left
          · (intro W hSw; obtain ⟨q0, q1, q2, q3, q4, q5⟩ := hSw; go_simp; try with_reducible rfl)
          try simp only [List.getElem_toArray, List.getElem_cons_succ, List.getElem_cons_zero, Act.put, List.setIfInBounds_toArray, List.set_cons_zero, List.set_cons_succ]
          refine wpAnyH_take (i := 2) (v := ?_) rfl (by kernel_rfl) (by kernel_rfl) (by kernel_rfl) (fun _ _ _ h => h) (Or.inl ⟨by rfl, ?_⟩) hS ?_
          rotate_left
          · (intro W hSw; obtain ⟨q0, q1, q2, q3, q4, q5⟩ := hSw; go_simp; try with_reducible rfl)
          try simp only [List.getElem_toArray, List.getElem_cons_succ, List.getElem_cons_zero, Act.put, List.setIfInBounds_toArray, List.set_cons_zero, List.set_cons_succ]
          refine wpAnyH_take (i := 3) (v := ?_) rfl (by kernel_rfl) (by kernel_rfl) (by kernel_rfl) (fun _ _ _ h => h) (Or.inl ⟨by rfl, ?_⟩) hS ?_
          rotate_left
          · (intro W hSw; obtain ⟨q0, q1, q2, q3, q4, q5⟩ := hSw; go_simp; try with_reducible rfl)
          try simp only [List.getElem_toArray, List.getElem_cons_succ, List.getElem_cons_zero, Act.put, List.setIfInBounds_toArray, List.set_cons_zero, List.set_cons_succ]
          refine wpAnyH_take (i := 4) (v := ?_) rfl (by kernel_rfl) (by kernel_rfl) (by kernel_rfl) (fun _ _ _ h => h) (Or.inl ⟨by rfl, ?_⟩) hS ?_
          rotate_left
          · (intro W hSw; obtain ⟨q0, q1, q2, q3, q4, q5⟩ := hSw; go_simp; try with_reducible rfl)
          try simp only [List.getElem_toArray, List.getElem_cons_succ, List.getElem_cons_zero, Act.put, List.setIfInBounds_toArray, List.set_cons_zero, List.set_cons_succ]
          refine wpAnyH_take (i := 5) (v := ?_) rfl (by kernel_rfl) (by kernel_rfl) (by kernel_rfl) (fun _ _ _ h => h) (Or.inl ⟨by rfl, ?_⟩) hS ?_
          rotate_left
          · (intro W hSw; obtain ⟨q0, q1, q2, q3, q4, q5⟩ := hSw; go_simp; try with_reducible rfl)
          try simp only [List.getElem_toArray, List.getElem_cons_succ, List.getElem_cons_zero, Act.put, List.setIfInBounds_toArray, List.set_cons_zero, List.set_cons_succ]
          refine wpAnyH_take (i := 6) (v := ?_) rfl (by kernel_rfl) (by kernel_rfl) (by kernel_rfl) (fun _ _ _ h => h) (Or.inl ⟨by rfl, ?_⟩) hS ?_
          rotate_left
          · (intro W hSw; obtain ⟨q0, q1, q2, q3, q4, q5⟩ := hSw; go_simp; try with_reducible rfl)
          try simp only [List.getElem_toArray, List.getElem_cons_succ, List.getElem_cons_zero, Act.put, List.setIfInBounds_toArray, List.set_cons_zero, List.set_cons_succ]
          have hc := fewestS_any j.st (.slice ao nb cap) (lo, hi) D (HBS.out.later HB7.out.size (fun k h1 _ => HB7.out.block k h1)).low9
          have hsv : stackV j.st (.slice ao nb cap) = .agg #[.slice ao nb cap, .int .i64 fl, .int .i64 fh] := by unfold stackV; rw [← HFL.out.1, ← HFL.out.2]
          rw [hsv] at hc
          refine wpAnyH_call (k := 7) (by kernel_rfl) rfl rfl (f := 23) (args := #[.agg #[.slice ao nb cap, .int .i64 fl, .int .i64 fh], .agg #[.int .i64 lo, .int .i64 hi]]) (by simp [execOp, go_sem, Act.eval, Act.put]) ?_
          refine hc.mono ?_
          rintro e w7 ⟨rfl, hb⟩
          clear hc hsv
          dsimp only
          obtain ⟨fx, hfx⟩ : ∃ y, y = fewestS j.st (lo, hi) := ⟨_, rfl⟩
          rw [← hfx] at HWA ⊢
          have HPX7 := Lib.hid (HPX.out.later (hb6D.trans (hb.mono hb6D.size)).size (fun k h _ => (hb6D.trans (hb.mono hb6D.size)).block k h)).low9
          have HBw7 := Lib.hid (HB7.out.trans (hb.mono HB7.out.size))
          have hS7 := hS.below hb
          clear hb hS hfx hb6D hAD
          refine ⟨hS7, ?_⟩
          have hS := hS7
          clear hS7
          try simp only [List.getElem_toArray, List.getElem_cons_succ, List.getElem_cons_zero, Act.put, List.setIfInBounds_toArray, List.set_cons_zero, List.set_cons_succ]
          refine wpAnyH_take (i := 8) (v := ?_) rfl (by kernel_rfl) (by kernel_rfl) (by kernel_rfl) (fun _ _ _ h => h) (Or.inl ⟨by rfl, ?_⟩) hS ?_
          rotate_left
          · (intro W hSw; obtain ⟨q0, q1, q2, q3, q4, q5⟩ := hSw; go_simp; try with_reducible rfl)
          try simp only [List.getElem_toArray, List.getElem_cons_succ, List.getElem_cons_zero, Act.put, List.setIfInBounds_toArray, List.set_cons_zero, List.set_cons_succ]
          refine wpAnyH_take (i := 9) (v := ?_) rfl (by kernel_rfl) (by kernel_rfl) (by kernel_rfl) (fun _ _ _ h => h) (Or.inl ⟨by rfl, ?_⟩) hS ?_
          rotate_left
          · (intro W hSw; obtain ⟨q0, q1, q2, q3, q4, q5⟩ := hSw; go_simp; try with_reducible rfl)
          try simp only [List.getElem_toArray, List.getElem_cons_succ, List.getElem_cons_zero, Act.put, List.setIfInBounds_toArray, List.set_cons_zero, List.set_cons_succ]
          refine wpAnyH_take (i := 10) (v := ?_) rfl (by kernel_rfl) (by kernel_rfl) (by kernel_rfl) (fun _ _ _ h => h) (Or.inl ⟨by rfl, ?_⟩) hS ?_
          rotate_left
          · (intro W hSw; obtain ⟨q0, q1, q2, q3, q4, q5⟩ := hSw; go_simp; try with_reducible rfl)
          try simp only [List.getElem_toArray, List.getElem_cons_succ, List.getElem_cons_zero, Act.put, List.setIfInBounds_toArray, List.set_cons_zero, List.set_cons_succ]
          refine wpAnyH_take (i := 11) (v := ?_) rfl (by kernel_rfl) (by kernel_rfl) (by kernel_rfl) (fun _ _ _ h => h) (Or.inl ⟨by rfl, ?_⟩) hS ?_
          rotate_left
          · (intro W hSw; obtain ⟨q0, q1, q2, q3, q4, q5⟩ := hSw; go_simp; try with_reducible rfl)
          try simp only [List.getElem_toArray, List.getElem_cons_succ, List.getElem_cons_zero, Act.put, List.setIfInBounds_toArray, List.set_cons_zero, List.set_cons_succ]
          refine wpAnyH_take (i := 12) (v := ?_) rfl (by kernel_rfl) (by kernel_rfl) (by kernel_rfl) (fun _ _ _ h => h) (Or.inl ⟨by rfl, ?_⟩) hS ?_
          rotate_left
          · (intro W hSw; obtain ⟨q0, q1, q2, q3, q4, q5⟩ := hSw; go_simp; try with_reducible rfl)
          try simp only [List.getElem_toArray, List.getElem_cons_succ, List.getElem_cons_zero, Act.put, List.setIfInBounds_toArray, List.set_cons_zero, List.set_cons_succ]
          refine wpAnyH_done (by kernel_rfl) ?_ _
          try simp only [List.getElem_toArray, List.getElem_cons_succ, List.getElem_cons_zero, Act.put, List.setIfInBounds_toArray, List.set_cons_zero, List.set_cons_succ]
          obtain ⟨c0, c1, c2, c3, _, _⟩ := id hS
          clear hS
          go_wp2_with fail
          have hc := Alone_any j (.slice ao nb cap) (.slice (some ⟨wb, wo, none⟩) nw cap2) w7 (HBS.out.later HBw7.out.size (fun k h1 _ => HBw7.out.block k h1)).low9 (HWS.out.later HBw7.out.size (fun k h1 _ => HBw7.out.block k h1)).low9
          rw [HJV.out] at hc
          refine hc.mono ?_
          rw [alonejD_ok HV.out]
          rintro e w8 ⟨rfl, hb⟩
          clear hc c0 c1 c2 c3
          dsimp only
          have HPX8 := Lib.hid (HPX7.out.later hb.size (fun k h _ => hb.block k h)).low9
          have HBw8 := Lib.hid (HBw7.out.trans (hb.mono HBw7.out.size))
          obtain ⟨al, hal⟩ : ∃ y, y = aloneN j := ⟨_, rfl⟩
          have hal16 : al < 2 ^ nw := by rw [hal, HNW.out]; exact alonej_lt j
          rw [← hal] at HWA ⊢
          clear hb hal
          have hal8 : al < 256 := Nat.lt_of_lt_of_le hal16 (Nat.le_trans (Nat.pow_le_pow_right (by decide) hnw4) (by decide : 2 ^ 4 ≤ 256))
          have hq8 : q < 8 := Nat.lt_of_lt_of_le hqn (Nat.le_trans hnw4 (by decide))
          have hb1 := bit1_i64 ⟨q, hq8⟩ ⟨al, hal8⟩
          have hq0 : 0 ≤ (q : Int) := by omega
          dsimp only at hb1
          rcases HWA.out with ⟨g1, g2, g3, g4⟩ | ⟨t, g1, g2, g3, g4⟩
          · rw [g3] at hb1
            rw [g1] at HPX8 ⊢
            rw [g2]
            rw [HC.out] at g4
            cases g4
          · rw [g3] at hb1
            rw [g1] at HPX8 ⊢
            rw [g2]
            obtain ⟨a9, c9, e9, _, _, hel⟩ := HPX8.out
            injection e9 with e1 e2 e3
            subst e1 e3
            clear e2
            obtain ⟨tb, to, rfl, _, _, e6⟩ := hel 0 (by simp)
            have e6 : w8.cell? ⟨tb, to, none⟩ = some (.int .i64 t) := e6
            clear hel HWA HPX HPX7 HPX8 g1 g2 g3
            go_wp2_with fail
            refine (lawake_any _ (HTZ.out.below HBw8.out h1z)).mono ?_
            rintro e w9 ⟨rfl, hb9⟩
            dsimp only
            have HB9 := Lib.hid (HBw8.out.trans (hb9.mono HBw8.out.size))
            clear hb9
            go_wp2_with fail
            go_ret
            exact ⟨rfl, HB9.out⟩
      · obtain ⟨a8, c8, hve8, _⟩ := id hpn
        subst hve8
        have hpl2 : p2.length = nw := by rw [hpl, HNW.out]
        rw [List.length_map, hpl2] at hpn ⊢
        have HPN3 := Lib.hid hpn.low9
        have HPM := Lib.hid (And.intro hpl (And.intro hps hpl2))
        clear hc hpl hps hpl2 hpn c0 c1 c2 c3
        dsimp only
        have HXw3 := Lib.hid ((hb.block _ (lt_of_block HXw2.out)).trans HXw2.out)
        have HBw3 := Lib.hid (HBw2.out.trans (hb.mono HBw2.out.size))
        clear hb
        go_upto_region 7 with fail
        obtain ⟨fb, hfb⟩ : ∃ y, y = w3.heap.size := ⟨_, rfl⟩
        refine wp_name (fun W => W.heap[fb]? = some (.cells #[.func (.func 24) #[] #[]] 47 (0, 0)) ∧ Below w3.heap.size w3 W) ⟨heap_alloc_at _ _ _ hfb, Below.alloc' _ _⟩ ?_
        rintro w4 ⟨hfr, hb⟩
        rw [← hfb]
        have HFB := Lib.hid hfr
        have HB34 := Lib.hid hb
        have HXw4 := Lib.hid ((hb.block _ (lt_of_block HXw3.out)).trans HXw3.out)
        have HBw4 := Lib.hid (HBw3.out.trans (hb.mono HBw3.out.size))
        clear hb
        clear hfb hfr
        have HPV4 := Lib.hid (HPV3.out.later HB34.out.size (fun k h _ => HB34.out.block k h)).low9
        have c0 : w4.cell? ⟨w.heap.size, 0, none⟩ = some (.slice ao nb cap) := by rw [cell_of_row _ _ _ _ _ _ HXw4.out]; rfl
        have c1 : w4.cell? ⟨w.heap.size, 1, none⟩ = some (.int .i64 fl) := by rw [cell_of_row _ _ _ _ _ _ HXw4.out]; rfl
        have c2 : w4.cell? ⟨w.heap.size, 2, none⟩ = some (.int .i64 fh) := by rw [cell_of_row _ _ _ _ _ _ HXw4.out]; rfl
        have c3 : w4.cell? ⟨w.heap.size, 3, none⟩ = some (.slice ao2 nw cap2) := by rw [cell_of_row _ _ _ _ _ _ HXw4.out]; rfl
        go_wp2_with fail
        have hc := Check_any j (.slice ao nb cap) (.slice ao2 nw cap2) (p.map fun s : Nat => (s : Int)) (.slice a6 nw c6) w4 (HBS.out.later HBw4.out.size (fun k h1 _ => HBw4.out.block k h1)).low9 (HWS.out.later HBw4.out.size (fun k h1 _ => HBw4.out.block k h1)).low9 HPV4.out (by rw [List.length_map, HPL.out.2.2.1]; omega)
        rw [HJV.out, check_plan HV.out HPL.out.1] at hc
        refine hc.mono ?_
        rintro e w5 ⟨rfl, hb⟩
        clear hc c0 c1 c2 c3
        dsimp only
        have HB45 := Lib.hid hb
        have HXw5 := Lib.hid ((hb.block _ (lt_of_block HXw4.out)).trans HXw4.out)
        have HBw5 := Lib.hid (HBw4.out.trans (hb.mono HBw4.out.size))
        clear hb
        have c0 : w5.cell? ⟨w.heap.size, 0, none⟩ = some (.slice ao nb cap) := by rw [cell_of_row _ _ _ _ _ _ HXw5.out]; rfl
        have c1 : w5.cell? ⟨w.heap.size, 1, none⟩ = some (.int .i64 fl) := by rw [cell_of_row _ _ _ _ _ _ HXw5.out]; rfl
        have c2 : w5.cell? ⟨w.heap.size, 2, none⟩ = some (.int .i64 fh) := by rw [cell_of_row _ _ _ _ _ _ HXw5.out]; rfl
        have c3 : w5.cell? ⟨w.heap.size, 3, none⟩ = some (.slice ao2 nw cap2) := by rw [cell_of_row _ _ _ _ _ _ HXw5.out]; rfl
        have HPN5 := Lib.hid (HPN3.out.later (HB34.out.trans (HB45.out.mono HB34.out.size)).size (fun k h _ => (HB34.out.trans (HB45.out.mono HB34.out.size)).block k h)).low9
        go_wp2_with fail
        have hc := Check_any j (.slice ao nb cap) (.slice ao2 nw cap2) (p2.map fun s : Nat => (s : Int)) (.slice a8 nw c8) w5 (HBS.out.later HBw5.out.size (fun k h1 _ => HBw5.out.block k h1)).low9 (HWS.out.later HBw5.out.size (fun k h1 _ => HBw5.out.block k h1)).low9 HPN5.out (by rw [List.length_map, HPM.out.2.2]; omega)
        rw [HJV.out] at hc
        refine hc.mono ?_
        rintro e w6 ⟨rfl, hb⟩
        clear hc c0 c1 c2 c3
        dsimp only
        have HB56 := Lib.hid hb
        have HXw6 := Lib.hid ((hb.block _ (lt_of_block HXw5.out)).trans HXw5.out)
        have HBw6 := Lib.hid (HBw5.out.trans (hb.mono HBw5.out.size))
        clear hb
        have c0 : w6.cell? ⟨w.heap.size, 0, none⟩ = some (.slice ao nb cap) := by rw [cell_of_row _ _ _ _ _ _ HXw6.out]; rfl
        have c1 : w6.cell? ⟨w.heap.size, 1, none⟩ = some (.int .i64 fl) := by rw [cell_of_row _ _ _ _ _ _ HXw6.out]; rfl
        have c2 : w6.cell? ⟨w.heap.size, 2, none⟩ = some (.int .i64 fh) := by rw [cell_of_row _ _ _ _ _ _ HXw6.out]; rfl
        have c3 : w6.cell? ⟨w.heap.size, 3, none⟩ = some (.slice ao2 nw cap2) := by rw [cell_of_row _ _ _ _ _ _ HXw6.out]; rfl
        rcases check_cases HV.out HPM.out.1 HPM.out.2.1 with ⟨hpj, hck⟩ | ⟨ca, cb, hck⟩
        · rw [hck]
          have eg := enters_of (P := Tryd.prog) Tryd.func34 (by kernel_rfl) rfl
          have hcan := HC.out
          rw [can_every] at hcan
          obtain ⟨y, hy⟩ := Option.isSome_iff_exists.1 hcan
          have hcm := ((score_specJ 8 _ _).2 y hy).2.2 p2 hpj
          rw [← ((score_specJ 8 _ _).2 y hy).2.1, ← HPL.out.2.2.2] at hcm
          have hp256 : 2 ^ nb ≤ 256 := (Nat.pow_le_pow_right (by decide) hnb8 : _ ≤ 2 ^ 8)
          have hft := told_first 8 (rightsD j) (allD j) p2 (rights_sorted j) hpj
          rw [← HPL.out.2.2.2] at hft
          have HFT := Lib.hid hft
          have HPN6 := Lib.hid (HPN5.out.later HB56.out.size (fun k h _ => HB56.out.block k h)).low9
          have HPV6 := Lib.hid ((HPV3.out.later HB34.out.size (fun k h _ => HB34.out.block k h)).later (HB45.out.trans (HB56.out.mono HB45.out.size)).size (fun k h _ => (HB45.out.trans (HB56.out.mono HB45.out.size)).block k h)).low9
          have HFB6 := Lib.hid (((HB45.out.trans (HB56.out.mono HB45.out.size)).block _ (lt_of_block HFB.out)).trans HFB.out)
          clear hck hcan hy hft hpj
          dsimp only
          go_wp2_with fail
          refine (lcost_any p2 (fun s hs => Nat.lt_of_lt_of_le (HPM.out.2.1 s hs).2 (by rw [← HNB.out]; exact hp256)) nw c8 a8 HPM.out.2.2.symm (by omega) fb w6 HFB6.out HPN6.out).mono ?_
          rintro e w' ⟨rfl, rfl⟩
          dsimp only
          obtain ⟨k2, hk2⟩ : ∃ y, y = costJ 8 p2 := ⟨_, rfl⟩
          rw [← hk2] at hcm ⊢
          have HK2 := Lib.hid hk2
          clear hk2
          go_wp2_with fail
          refine (lcost_any p (fun s hs => Nat.lt_of_lt_of_le (HPL.out.2.1.lt s hs) (by rw [← HNB.out]; exact hp256)) nw c6 a6 HPL.out.2.2.1.symm (by omega) fb w6 HFB6.out HPV6.out).mono ?_
          rintro e w' ⟨rfl, rfl⟩
          dsimp only
          obtain ⟨k1, hk1⟩ : ∃ y, y = costJ 8 p := ⟨_, rfl⟩
          rw [← hk1] at hcm ⊢
          have HK1 := Lib.hid hk1
          have hkk : ¬ (k2 : Int) < (k1 : Int) := by omega
          clear hk1
          go_wp2_with fail
          clear c0 c1 c2 c3
          go_loopw [80] (fun iv wr => ∃ i : Nat, i ≤ nw ∧ iv = .int .i64 i ∧ Below w6.heap.size w6 wr ∧ (k2 = k1 → ∀ q (h : q < p2.length) (h' : q < p.length), q < i → p2[q] = p[q])) (fun iv _ => nw - (intOf iv).toNat)
          case atStart => exact ⟨0, Nat.zero_le _, rfl, Below.refl _ _, fun _ q _ _ h => absurd h (by omega)⟩
          case round =>
            obtain ⟨i, hi, rfl, hb, heq⟩ := hrel
            have HEQ := Lib.hid heq
            have HB6w := Lib.hid hb
            have HXwr := Lib.hid ((hb.block _ (lt_of_block HXw6.out)).trans HXw6.out)
            have HBwr := Lib.hid (HBw6.out.trans (hb.mono HBw6.out.size))
            have HPNr := Lib.hid (HPN6.out.later hb.size (fun k h _ => hb.block k h)).low9
            have HPVr := Lib.hid (HPV6.out.later hb.size (fun k h _ => hb.block k h)).low9
            have HFBr := Lib.hid ((hb.block _ (lt_of_block HFB6.out)).trans HFB6.out)
            clear heq hb
            by_cases hlt : i < nw
            · have hw : IntKind.i64.wrap ((i : Int) + 1) = ((i + 1 : Nat) : Int) := by rw [IntWalk.i64_in _ (by omega)]; omega
              have hlti : (i : Int) < (nw : Int) := by omega
              have hi0 : 0 ≤ (i : Int) := by omega
              have hl2 : i < p2.length := by rw [HPM.out.2.2]; exact hlt
              have hl1 : i < p.length := by rw [HPL.out.2.2.1]; exact hlt
              obtain ⟨a9, c9, e9, _, _, hel⟩ := HPNr.out
              injection e9 with e1 e2 e3
              obtain ⟨qb, qo, hqe, _, _, e6⟩ := hel i (by rw [List.length_map]; exact hl2)
              rw [List.getElem_map] at e6
              rw [hqe] at e1
              subst e1
              clear hel e2 e3 hqe
              obtain ⟨a10, c10, e10, _, _, hel⟩ := HPVr.out
              injection e10 with e1 e2 e3
              obtain ⟨ob, oo, hoe, _, _, e7⟩ := hel i (by rw [List.length_map]; exact hl1)
              rw [List.getElem_map] at e7
              rw [hoe] at e1
              subst e1
              clear hel e2 e3 hoe
              obtain ⟨x2, hx2⟩ : ∃ y, y = p2[i] := ⟨_, rfl⟩
              obtain ⟨x1, hx1⟩ : ∃ y, y = p[i] := ⟨_, rfl⟩
              rw [← hx2] at e6
              rw [← hx1] at e7
              have HX21 := Lib.hid (And.intro hx2 hx1)
              clear hx2 hx1
              go_upto_region 19 with fail
              refine wp_region_held_drew (S := SP2 fb qb qo ob oo i x2 x1) (by kernel_rfl) (SP2.below ⟨by rw [cell_of_row _ _ _ _ _ _ HFBr.out]; rfl, e6, e7⟩ (Below.refl _ _).drew) fun hS => ?_
              obtain ⟨D, hD⟩ : ∃ D, D = World.drew wr := ⟨_, rfl⟩
              have hAD : Below wr.heap.size wr D := by rw [hD]; exact (Below.refl _ _).drew
              rw [← hD] at hS ⊢
              have HFBD := Lib.hid ((hAD.block _ (lt_of_block HFBr.out)).trans HFBr.out)
              have HPND := Lib.hid (HPNr.out.later hAD.size (fun k h _ => hAD.block k h)).low9
              have HPVD := Lib.hid (HPVr.out.later hAD.size (fun k h _ => hAD.block k h)).low9
              have HB6D := Lib.hid (HB6w.out.trans (hAD.mono HB6w.out.size))
              have HXD := Lib.hid ((hAD.block _ (lt_of_block HXwr.out)).trans HXwr.out)
              have HBD := Lib.hid (HBwr.out.trans (hAD.mono HBwr.out.size))
              clear hD hAD
              refine wpAnyH_take (i := 0) (v := ?_) rfl (by kernel_rfl) (by kernel_rfl) (by kernel_rfl) (fun _ _ _ h => h) (Or.inl ⟨by rfl, ?_⟩) hS ?_
              rotate_left
              · (intro W hSw; obtain ⟨q0, q1, q2⟩ := hSw; go_simp; try with_reducible rfl)
              try simp only [List.getElem_toArray, List.getElem_cons_succ, List.getElem_cons_zero, Act.put, List.setIfInBounds_toArray, List.set_cons_zero, List.set_cons_succ]
              refine wpAnyH_take (i := 1) (v := ?_) rfl (by kernel_rfl) (by kernel_rfl) (by kernel_rfl) (fun _ _ _ h => h) (Or.inl ⟨by rfl, ?_⟩) hS ?_
              rotate_left
              · (intro W hSw; obtain ⟨q0, q1, q2⟩ := hSw; go_simp; try with_reducible rfl)
              try simp only [List.getElem_toArray, List.getElem_cons_succ, List.getElem_cons_zero, Act.put, List.setIfInBounds_toArray, List.set_cons_zero, List.set_cons_succ]
              refine wpAnyH_take (i := 3) (v := ?_) rfl (by kernel_rfl) (by kernel_rfl) (by kernel_rfl) (fun _ _ _ h => h) (Or.inl ⟨by rfl, ?_⟩) hS ?_
              rotate_left
              · (intro W hSw; obtain ⟨q0, q1, q2⟩ := hSw; go_simp; try with_reducible rfl)
              try simp only [List.getElem_toArray, List.getElem_cons_succ, List.getElem_cons_zero, Act.put, List.setIfInBounds_toArray, List.set_cons_zero, List.set_cons_succ]
              refine wpAnyH_take (i := 4) (v := ?_) rfl (by kernel_rfl) (by kernel_rfl) (by kernel_rfl) (fun _ _ _ h => h) (Or.inl ⟨by rfl, ?_⟩) hS ?_
              rotate_left
              · (intro W hSw; obtain ⟨q0, q1, q2⟩ := hSw; go_simp; try with_reducible rfl)
              try simp only [List.getElem_toArray, List.getElem_cons_succ, List.getElem_cons_zero, Act.put, List.setIfInBounds_toArray, List.set_cons_zero, List.set_cons_succ]
              refine wpAnyH_call (k := 2) (by kernel_rfl) rfl rfl (f := 34) (args := #[.slice (some ⟨qb, qo, none⟩) nw c8, .pointer (some ⟨fb, 0, none⟩)]) (by simp [execOp, go_sem, Act.eval, Act.put]) ?_
              refine (lcost_any p2 (fun s hs => Nat.lt_of_lt_of_le (HPM.out.2.1 s hs |>.2) (by rw [← HNB.out]; exact hp256)) nw c8 (some ⟨qb, qo, none⟩) HPM.out.2.2.symm (by omega) fb D HFBD.out HPND.out).mono ?_
              rintro e w' ⟨rfl, rfl⟩
              dsimp only
              rw [← HK2.out]
              refine ⟨hS, ?_⟩
              try simp only [List.getElem_toArray, List.getElem_cons_succ, List.getElem_cons_zero, Act.put, List.setIfInBounds_toArray, List.set_cons_zero, List.set_cons_succ]
              refine wpAnyH_call (k := 5) (by kernel_rfl) rfl rfl (f := 34) (args := #[.slice (some ⟨ob, oo, none⟩) nw c6, .pointer (some ⟨fb, 0, none⟩)]) (by simp [execOp, go_sem, Act.eval, Act.put]) ?_
              refine (lcost_any p (fun s hs => Nat.lt_of_lt_of_le (HPL.out.2.1.lt s hs) (by rw [← HNB.out]; exact hp256)) nw c6 (some ⟨ob, oo, none⟩) HPL.out.2.2.1.symm (by omega) fb D HFBD.out HPVD.out).mono ?_
              rintro e w' ⟨rfl, rfl⟩
              dsimp only
              rw [← HK1.out]
              refine ⟨hS, ?_⟩
              try simp only [List.getElem_toArray, List.getElem_cons_succ, List.getElem_cons_zero, Act.put, List.setIfInBounds_toArray, List.set_cons_zero, List.set_cons_succ]
              by_cases hk : k2 = k1
              · have hkb : (k2 : Int) = (k1 : Int) := by omega
                have hkb2 : ((k2 : Int) == (k1 : Int)) = true := by rw [beq_iff_eq]; exact hkb
                refine wpAnyH_take (i := 6) (v := ?_) rfl (by kernel_rfl) (by kernel_rfl) (by kernel_rfl) (fun _ _ _ h => h) (Or.inl ⟨by rfl, ?_⟩) hS ?_
                rotate_left
                · (intro W hSw; obtain ⟨q0, q1, q2⟩ := hSw; go_simp; try with_reducible rfl)
                try simp only [List.getElem_toArray, List.getElem_cons_succ, List.getElem_cons_zero, Act.put, List.setIfInBounds_toArray, List.set_cons_zero, List.set_cons_succ]
                refine wpAnyH_take (i := 7) (v := ?_) rfl (by kernel_rfl) (by kernel_rfl) (by kernel_rfl) (fun _ _ _ h => h) (Or.inl ⟨by rfl, ?_⟩) hS ?_
                rotate_left
                · (intro W hSw; obtain ⟨q0, q1, q2⟩ := hSw; go_simp; try with_reducible rfl)
                try simp only [List.getElem_toArray, List.getElem_cons_succ, List.getElem_cons_zero, Act.put, List.setIfInBounds_toArray, List.set_cons_zero, List.set_cons_succ]
                refine wpAnyH_take (i := 8) (v := ?_) rfl (by kernel_rfl) (by kernel_rfl) (by kernel_rfl) (fun _ _ _ h => h) (Or.inl ⟨by rfl, ?_⟩) hS ?_
                rotate_left
                · (intro W hSw; obtain ⟨q0, q1, q2⟩ := hSw; go_simp; try with_reducible rfl)
                try simp only [List.getElem_toArray, List.getElem_cons_succ, List.getElem_cons_zero, Act.put, List.setIfInBounds_toArray, List.set_cons_zero, List.set_cons_succ]
                refine wpAnyH_take (i := 9) (v := ?_) rfl (by kernel_rfl) (by kernel_rfl) (by kernel_rfl) (fun _ _ _ h => h) (Or.inl ⟨by rfl, ?_⟩) hS ?_
                rotate_left
                · (intro W hSw; obtain ⟨q0, q1, q2⟩ := hSw; go_simp; try with_reducible rfl)
                try simp only [List.getElem_toArray, List.getElem_cons_succ, List.getElem_cons_zero, Act.put, List.setIfInBounds_toArray, List.set_cons_zero, List.set_cons_succ]
                refine wpAnyH_take (i := 10) (v := ?_) rfl (by kernel_rfl) (by kernel_rfl) (by kernel_rfl) (fun _ _ _ h => h) (Or.inl ⟨by rfl, ?_⟩) hS ?_
                rotate_left
                · (intro W hSw; obtain ⟨q0, q1, q2⟩ := hSw; go_simp; try with_reducible rfl)
                try simp only [List.getElem_toArray, List.getElem_cons_succ, List.getElem_cons_zero, Act.put, List.setIfInBounds_toArray, List.set_cons_zero, List.set_cons_succ]
                refine wpAnyH_take (i := 11) (v := ?_) rfl (by kernel_rfl) (by kernel_rfl) (by kernel_rfl) (fun _ _ _ h => h) (Or.inl ⟨by rfl, ?_⟩) hS ?_
                rotate_left
                · (intro W hSw; obtain ⟨q0, q1, q2⟩ := hSw; go_simp; try with_reducible rfl)
                try simp only [List.getElem_toArray, List.getElem_cons_succ, List.getElem_cons_zero, Act.put, List.setIfInBounds_toArray, List.set_cons_zero, List.set_cons_succ]
                refine wpAnyH_take (i := 12) (v := ?_) rfl (by kernel_rfl) (by kernel_rfl) (by kernel_rfl) (fun _ _ _ h => h) (Or.inl ⟨by rfl, ?_⟩) hS ?_
                rotate_left
                · (intro W hSw; obtain ⟨q0, q1, q2⟩ := hSw; go_simp; try with_reducible rfl)
                try simp only [List.getElem_toArray, List.getElem_cons_succ, List.getElem_cons_zero, Act.put, List.setIfInBounds_toArray, List.set_cons_zero, List.set_cons_succ]
                refine wpAnyH_take (i := 13) (v := ?_) rfl (by kernel_rfl) (by kernel_rfl) (by kernel_rfl) (fun _ _ _ h => h) (Or.inl ⟨by rfl, ?_⟩) hS ?_
                rotate_left
                · (intro W hSw; obtain ⟨q0, q1, q2⟩ := hSw; go_simp; try with_reducible rfl)
                try simp only [List.getElem_toArray, List.getElem_cons_succ, List.getElem_cons_zero, Act.put, List.setIfInBounds_toArray, List.set_cons_zero, List.set_cons_succ]
                refine wpAnyH_take (i := 14) (v := ?_) rfl (by kernel_rfl) (by kernel_rfl) (by kernel_rfl) (fun _ _ _ h => h) (Or.inl ⟨by rfl, ?_⟩) hS ?_
                rotate_left
                · (intro W hSw; obtain ⟨q0, q1, q2⟩ := hSw; go_simp; try with_reducible rfl)
                try simp only [List.getElem_toArray, List.getElem_cons_succ, List.getElem_cons_zero, Act.put, List.setIfInBounds_toArray, List.set_cons_zero, List.set_cons_succ]
                refine wpAnyH_take (i := 15) (v := ?_) rfl (by kernel_rfl) (by kernel_rfl) (by kernel_rfl) (fun _ _ _ h => h) (Or.inl ⟨by rfl, ?_⟩) hS ?_
                rotate_left
                · (intro W hSw; obtain ⟨q0, q1, q2⟩ := hSw; go_simp; try with_reducible rfl)
                try simp only [List.getElem_toArray, List.getElem_cons_succ, List.getElem_cons_zero, Act.put, List.setIfInBounds_toArray, List.set_cons_zero, List.set_cons_succ]
                by_cases hne : x2 = x1
                · have hne2 : ((x2 : Int) != (x1 : Int)) = false := by rw [bne_eq_false_iff_eq]; omega
                  refine wpAnyH_take (i := 16) (v := ?_) rfl (by kernel_rfl) (by kernel_rfl) (by kernel_rfl) (fun _ _ _ h => h) (Or.inl ⟨by rfl, ?_⟩) hS ?_
                  rotate_left
                  · (intro W hSw; obtain ⟨q0, q1, q2⟩ := hSw; go_simp; try with_reducible rfl)
                  try simp only [List.getElem_toArray, List.getElem_cons_succ, List.getElem_cons_zero, Act.put, List.setIfInBounds_toArray, List.set_cons_zero, List.set_cons_succ]
                  refine wpAnyH_take (i := 17) (v := ?_) rfl (by kernel_rfl) (by kernel_rfl) (by kernel_rfl) (fun _ _ _ h => h) (Or.inl ⟨by rfl, ?_⟩) hS ?_
                  rotate_left
                  · (intro W hSw; obtain ⟨q0, q1, q2⟩ := hSw; go_simp; try with_reducible rfl)
                  try simp only [List.getElem_toArray, List.getElem_cons_succ, List.getElem_cons_zero, Act.put, List.setIfInBounds_toArray, List.set_cons_zero, List.set_cons_succ]
                  refine wpAnyH_done (by kernel_rfl) ?_ _
                  try simp only [List.getElem_toArray, List.getElem_cons_succ, List.getElem_cons_zero, Act.put, List.setIfInBounds_toArray, List.set_cons_zero, List.set_cons_succ]
                  clear hS
                  go_wp2_with fail
                  refine ⟨⟨i + 1, hlt, by push_cast; rfl, HB6D.out, fun hk9 q h h' hq => ?_⟩, by simp [intOf]; omega⟩
                  by_cases hqi : q < i
                  · exact HEQ.out hk9 q h h' hqi
                  · obtain rfl : q = i := by omega
                    rw [← HX21.out.1, ← HX21.out.2]; exact hne
                · have hne2 : ((x2 : Int) != (x1 : Int)) = true := by rw [bne_iff_ne]; omega
                  refine wpAnyH_take (i := 16) (v := ?_) rfl (by kernel_rfl) (by kernel_rfl) (by kernel_rfl) (fun _ _ _ h => h) (Or.inl ⟨by rfl, ?_⟩) hS ?_
                  rotate_left
                  · (intro W hSw; obtain ⟨q0, q1, q2⟩ := hSw; go_simp; try with_reducible rfl)
                  try simp only [List.getElem_toArray, List.getElem_cons_succ, List.getElem_cons_zero, Act.put, List.setIfInBounds_toArray, List.set_cons_zero, List.set_cons_succ]
                  refine wpAnyH_take (i := 17) (v := ?_) rfl (by kernel_rfl) (by kernel_rfl) (by kernel_rfl) (fun _ _ _ h => h) (Or.inl ⟨by rfl, ?_⟩) hS ?_
                  rotate_left
                  · (intro W hSw; obtain ⟨q0, q1, q2⟩ := hSw; go_simp; try with_reducible rfl)
                  try simp only [List.getElem_toArray, List.getElem_cons_succ, List.getElem_cons_zero, Act.put, List.setIfInBounds_toArray, List.set_cons_zero, List.set_cons_succ]
                  refine wpAnyH_done (by kernel_rfl) ?_ _
                  try simp only [List.getElem_toArray, List.getElem_cons_succ, List.getElem_cons_zero, Act.put, List.setIfInBounds_toArray, List.set_cons_zero, List.set_cons_succ]
                  have hle := HFT.out (by rw [← HK2.out, ← HK1.out]; exact hk) i hl2 hl1 (HEQ.out hk)
                  rw [← HX21.out.1, ← HX21.out.2] at hle
                  have hle2 : ¬ (x2 : Int) < (x1 : Int) := by omega
                  obtain ⟨_, d2, d1⟩ := id hS
                  clear hS hle
                  go_upto_region 20 with fail
                  go_quiet (fail)
                  go_upto_region 23 with fail
                  refine wp_name (fun W => W.heap[w.heap.size]? = some (.cells #[.slice ao nb cap, .int .i64 fl, .int .i64 fh, .slice ao2 nw cap2] 28 (0, 0)) ∧ Below w.heap.size w W) ⟨HXD.out, ⟨HBD.out.os, HBD.out.tape, HBD.out.output, HBD.out.size, HBD.out.block⟩⟩ ?_
                  rintro wz ⟨hxz, hbz⟩
                  have HXwz := Lib.hid hxz
                  have HBwz := Lib.hid hbz
                  clear hxz hbz d1 d2 HX21
                  have c0 : wz.cell? ⟨w.heap.size, 0, none⟩ = some (.slice ao nb cap) := by rw [cell_of_row _ _ _ _ _ _ HXwz.out]; rfl
                  have c1 : wz.cell? ⟨w.heap.size, 1, none⟩ = some (.int .i64 fl) := by rw [cell_of_row _ _ _ _ _ _ HXwz.out]; rfl
                  have c2 : wz.cell? ⟨w.heap.size, 2, none⟩ = some (.int .i64 fh) := by rw [cell_of_row _ _ _ _ _ _ HXwz.out]; rfl
                  have c3 : wz.cell? ⟨w.heap.size, 3, none⟩ = some (.slice ao2 nw cap2) := by rw [cell_of_row _ _ _ _ _ _ HXwz.out]; rfl
                  have HSPr := Lib.hid (HBS.out.later HBwz.out.size (fun k h1 _ => HBwz.out.block k h1)).low9
                  by_cases hn0 : nw = 0
                  · have hn0i : ((nw : Int) == 0) = true := by rw [hn0]; rfl
                    have hn0j : (nw : Int) = 0 := by omega
                    have HN0 := Lib.hid hn0
                    clear hn0
                    exact absurd HN0.out (by omega)
                  · have hn0i : ((nw : Int) == 0) = false := by rw [beq_eq_false_iff_ne]; omega
                    have hn1 : 0 < nw := by omega
                    obtain ⟨q, hq, hqn⟩ := mod_q x nw hx.1 hn1
                    have hcx : IntKind.i64.wrap x = x := IntWalk.i64_in _ (by omega)
                    have hx0 : 0 ≤ x := hx.1
                    have hqn2 : q < j.ws.length := by rw [← HNW.out]; exact hqn
                    obtain ⟨a9, c9, e9, _, _, hel⟩ := HWS.out.later (W := wz) HBwz.out.size (fun k h1 _ => HBwz.out.block k h1)
                    injection e9 with e1 e2 e3
                    subst e1 e3
                    clear e2
                    obtain ⟨wb, wo, rfl, _, _, e4, e5⟩ := hel q hqn2
                    have hwa := want_alone HV.out q hqn2
                    obtain ⟨⟨lo, hi⟩, hwant⟩ : ∃ y, y = j.ws[q] := ⟨_, rfl⟩
                    rw [← hwant] at e4 e5 hwa
                    have hS0 : SN w.heap.size (.slice ao nb cap) (.slice (some ⟨wb, wo, none⟩) nw cap2) fl fh wb wo q lo hi wz := ⟨by rw [cell_of_row _ _ _ _ _ _ HXwz.out]; rfl, by rw [cell_of_row _ _ _ _ _ _ HXwz.out]; rfl, by rw [cell_of_row _ _ _ _ _ _ HXwz.out]; rfl, by rw [cell_of_row _ _ _ _ _ _ HXwz.out]; rfl, e4, e5⟩
                    have HSN := Lib.hid hS0
                    obtain ⟨P, hP, hPle, hs9, hs10⟩ := pow_q q (Nat.lt_of_lt_of_le hqn hnw4)
                    rw [← hP] at hwa
                    have HWA := Lib.hid hwa
                    clear hS0 e4 e5 hel hwant hP hwa
                    go_upto_region 26 with fail
                    rw [hq]
                    clear hq hcx hx0
                    clear c0 c1 c2 c3
                    refine wp_region_held_drew (S := SN w.heap.size (.slice ao nb cap) (.slice (some ⟨wb, wo, none⟩) nw cap2) fl fh wb wo q lo hi) (by kernel_rfl) ((HSN.out).below (Below.refl _ _).drew) fun hS => ?_
                    obtain ⟨D, hD⟩ : ∃ D, D = World.drew wz := ⟨_, rfl⟩
                    have hAD : Below wz.heap.size wz D := by rw [hD]; exact (Below.refl _ _).drew
                    rw [← hD] at hS ⊢
                    have HBD := Lib.hid (HBwz.out.trans (hAD.mono HBwz.out.size))
                    clear hD hAD HSN
                    refine wpAnyH_take (i := 0) (v := ?_) rfl (by kernel_rfl) (by kernel_rfl) (by kernel_rfl) (fun _ _ _ h => h) (Or.inl ⟨by rfl, ?_⟩) hS ?_
                    rotate_left
                    · (intro W hSw; obtain ⟨q0, q1, q2, q3, q4, q5⟩ := hSw; go_simp; try with_reducible rfl)
                    try simp only [List.getElem_toArray, List.getElem_cons_succ, List.getElem_cons_zero, Act.put, List.setIfInBounds_toArray, List.set_cons_zero, List.set_cons_succ]
                    refine wpAnyH_take (i := 1) (v := ?_) rfl (by kernel_rfl) (by kernel_rfl) (by kernel_rfl) (fun _ _ _ h => h) (Or.inl ⟨by rfl, ?_⟩) hS ?_
                    rotate_left
                    · (intro W hSw; obtain ⟨q0, q1, q2, q3, q4, q5⟩ := hSw; go_simp; try with_reducible rfl)
                    try simp only [List.getElem_toArray, List.getElem_cons_succ, List.getElem_cons_zero, Act.put, List.setIfInBounds_toArray, List.set_cons_zero, List.set_cons_succ]
                    refine wpAnyH_take (i := 2) (v := ?_) rfl (by kernel_rfl) (by kernel_rfl) (by kernel_rfl) (fun _ _ _ h => h) (Or.inl ⟨by rfl, ?_⟩) hS ?_
                    rotate_left
                    · (intro W hSw; obtain ⟨q0, q1, q2, q3, q4, q5⟩ := hSw; go_simp; try with_reducible rfl)
                    try simp only [List.getElem_toArray, List.getElem_cons_succ, List.getElem_cons_zero, Act.put, List.setIfInBounds_toArray, List.set_cons_zero, List.set_cons_succ]
                    clear hs9 hs10
                    have hc := r12only_any j (by rw [← HNW.out]; exact Nat.le_trans hnw4 (by decide)) P (Nat.lt_of_le_of_lt hPle (by decide)) (.slice ao nb cap) (.slice (some ⟨wb, wo, none⟩) nw cap2) D ⟨_, _, _, rfl⟩ (HWS.out.later HBD.out.size (fun k h1 _ => HBD.out.block k h1)).low9
                    rw [HJV.out] at hc
                    refine wpAnyH_call (k := 3) (by kernel_rfl) rfl rfl (f := 19) (args := #[.agg #[.slice ao nb cap, .int .i64 fl, .int .i64 fh, .slice (some ⟨wb, wo, none⟩) nw cap2], .int .i64 P]) (by simp [execOp, go_sem, Act.eval, Act.put]) ?_
                    refine hc.mono ?_
                    rintro e w5 ⟨⟨wv, rfl, hwv⟩, hb⟩
                    clear hc
                    dsimp only
                    obtain ⟨a5, c5, rfl, _⟩ := id hwv
                    obtain ⟨nx, hnx⟩ : ∃ n, n = (onlyD j P).ws.length := ⟨_, rfl⟩
                    rw [← hnx] at hwv ⊢
                    have HWV := Lib.hid hwv.low9
                    have hjx : jobV (onlyD j P) (.slice ao nb cap) (.slice a5 nx c5) = .agg #[.slice ao nb cap, .int .i64 fl, .int .i64 fh, .slice a5 nx c5] := by unfold jobV onlyD; dsimp only; rw [← HFL.out.1, ← HFL.out.2]
                    rw [hjx]
                    have HJX := Lib.hid hjx
                    have HBw5 := Lib.hid (HBD.out.trans (hb.mono HBD.out.size))
                    have hS5 := hS.below hb
                    clear hwv hjx hb hnx hS
                    refine ⟨hS5, ?_⟩
                    have hS := hS5
                    clear hS5
                    try simp only [List.getElem_toArray, List.getElem_cons_succ, List.getElem_cons_zero, Act.put, List.setIfInBounds_toArray, List.set_cons_zero, List.set_cons_succ]
                    have hc := Plan_any (onlyD j P) (.slice ao nb cap) (.slice a5 nx c5) w5 (HBS.out.later HBw5.out.size (fun k h1 _ => HBw5.out.block k h1)).low9 HWV.out (HTZ.out.below HBw5.out h1z)
                    rw [HJX.out] at hc
                    refine wpAnyH_call (k := 4) (by kernel_rfl) rfl rfl (f := 20) (args := #[.agg #[.slice ao nb cap, .int .i64 fl, .int .i64 fh, .slice a5 nx c5]]) (by simp [execOp, go_sem, Act.eval, Act.put]) ?_
                    refine hc.mono ?_
                    rintro e w6 ⟨pv, rfl, hpv, hb⟩
                    clear hc
                    dsimp only
                    obtain ⟨a7, c7, hpve, _⟩ := id hpv
                    subst hpve
                    rw [List.length_map] at hpv ⊢
                    obtain ⟨px, hpx⟩ : ∃ y, y = planD (onlyD j P) := ⟨_, rfl⟩
                    rw [← hpx] at hpv HWA ⊢
                    have HPX := Lib.hid hpv.low9
                    have HBw6 := Lib.hid (HBw5.out.trans (hb.mono HBw5.out.size))
                    have hS6 := hS.below hb
                    clear hb hS hpv hpx
                    refine ⟨hS6, ?_⟩
                    have hS := hS6
                    clear hS6
                    try simp only [List.getElem_toArray, List.getElem_cons_succ, List.getElem_cons_zero, Act.put, List.setIfInBounds_toArray, List.set_cons_zero, List.set_cons_succ]
                    refine wpAnyH_take (i := 5) (v := ?_) rfl (by kernel_rfl) (by kernel_rfl) (by kernel_rfl) (fun _ _ _ h => h) (Or.inl ⟨by rfl, ?_⟩) hS ?_
                    rotate_left
                    · (intro W hSw; obtain ⟨q0, q1, q2, q3, q4, q5⟩ := hSw; go_simp; try with_reducible rfl)
                    try simp only [List.getElem_toArray, List.getElem_cons_succ, List.getElem_cons_zero, Act.put, List.setIfInBounds_toArray, List.set_cons_zero, List.set_cons_succ]
                    refine wpAnyH_take (i := 6) (v := ?_) rfl (by kernel_rfl) (by kernel_rfl) (by kernel_rfl) (fun _ _ _ h => h) (Or.inl ⟨by rfl, ?_⟩) hS ?_
                    rotate_left
                    · (intro W hSw; obtain ⟨q0, q1, q2, q3, q4, q5⟩ := hSw; go_simp; try with_reducible rfl)
                    try simp only [List.getElem_toArray, List.getElem_cons_succ, List.getElem_cons_zero, Act.put, List.setIfInBounds_toArray, List.set_cons_zero, List.set_cons_succ]
                    refine wpAnyH_take (i := 7) (v := ?_) rfl (by kernel_rfl) (by kernel_rfl) (by kernel_rfl) (fun _ _ _ h => h) (Or.inl ⟨by rfl, ?_⟩) hS ?_
                    rotate_left
                    · (intro W hSw; obtain ⟨q0, q1, q2, q3, q4, q5⟩ := hSw; go_simp; try with_reducible rfl)
                    try simp only [List.getElem_toArray, List.getElem_cons_succ, List.getElem_cons_zero, Act.put, List.setIfInBounds_toArray, List.set_cons_zero, List.set_cons_succ]
                    refine wpAnyH_take (i := 8) (v := ?_) rfl (by kernel_rfl) (by kernel_rfl) (by kernel_rfl) (fun _ _ _ h => h) (Or.inl ⟨by rfl, ?_⟩) hS ?_
                    rotate_left
                    · (intro W hSw; obtain ⟨q0, q1, q2, q3, q4, q5⟩ := hSw; go_simp; try with_reducible rfl)
                    try simp only [List.getElem_toArray, List.getElem_cons_succ, List.getElem_cons_zero, Act.put, List.setIfInBounds_toArray, List.set_cons_zero, List.set_cons_succ]
                    refine wpAnyH_take (i := 9) (v := ?_) rfl (by kernel_rfl) (by kernel_rfl) (by kernel_rfl) (fun _ _ _ h => h) (Or.inl ⟨by rfl, ?_⟩) hS ?_
                    rotate_left
                    · (intro W hSw; obtain ⟨q0, q1, q2, q3, q4, q5⟩ := hSw; go_simp; try with_reducible rfl)
                    try simp only [List.getElem_toArray, List.getElem_cons_succ, List.getElem_cons_zero, Act.put, List.setIfInBounds_toArray, List.set_cons_zero, List.set_cons_succ]
                    refine wpAnyH_done (by kernel_rfl) ?_ _
                    try simp only [List.getElem_toArray, List.getElem_cons_succ, List.getElem_cons_zero, Act.put, List.setIfInBounds_toArray, List.set_cons_zero, List.set_cons_succ]
                    have HSN := Lib.hid hS
                    have HXw6 := Lib.hid hS
                    clear hS
                    go_upto_region 27 with fail
                    refine wp_region_held_drew (S := SN w.heap.size (.slice ao nb cap) (.slice (some ⟨wb, wo, none⟩) nw cap2) fl fh wb wo q lo hi) (by kernel_rfl) ((HSN.out).below (Below.refl _ _).drew) fun hS => ?_
                    obtain ⟨D, hD⟩ : ∃ D, D = World.drew w6 := ⟨_, rfl⟩
                    have hAD : Below w6.heap.size w6 D := by rw [hD]; exact (Below.refl _ _).drew
                    rw [← hD] at hS ⊢
                    have HB7 := Lib.hid (HBw6.out.trans (hAD.mono HBw6.out.size))
                    have hb6D := hAD
                    clear hD HSN
                    refine wpAnyH_take (i := 0) (v := ?_) rfl (by kernel_rfl) (by kernel_rfl) (by kernel_rfl) (fun _ _ _ h => h) (Or.inl ⟨by rfl, ?_⟩) hS ?_
                    rotate_left
                    · (intro W hSw; obtain ⟨q0, q1, q2, q3, q4, q5⟩ := hSw; go_simp; try with_reducible rfl)
                    try simp only [List.getElem_toArray, List.getElem_cons_succ, List.getElem_cons_zero, Act.put, List.setIfInBounds_toArray, List.set_cons_zero, List.set_cons_succ]
                    refine wpAnyH_take (i := 1) (v := ?_) rfl (by kernel_rfl) (by kernel_rfl) (by kernel_rfl) (fun _ _ _ h => h) (Or.inl ⟨by rfl, ?_⟩) hS ?_
                    rotate_left
                    · (intro W hSw; obtain ⟨q0, q1, q2, q3, q4, q5⟩ := hSw; go_simp; try with_reducible rfl)
                    try simp only [List.getElem_toArray, List.getElem_cons_succ, List.getElem_cons_zero, Act.put, List.setIfInBounds_toArray, List.set_cons_zero, List.set_cons_succ]
                    refine wpAnyH_take (i := 2) (v := ?_) rfl (by kernel_rfl) (by kernel_rfl) (by kernel_rfl) (fun _ _ _ h => h) (Or.inl ⟨by rfl, ?_⟩) hS ?_
                    rotate_left
                    · (intro W hSw; obtain ⟨q0, q1, q2, q3, q4, q5⟩ := hSw; go_simp; try with_reducible rfl)
                    try simp only [List.getElem_toArray, List.getElem_cons_succ, List.getElem_cons_zero, Act.put, List.setIfInBounds_toArray, List.set_cons_zero, List.set_cons_succ]
                    refine wpAnyH_take (i := 3) (v := ?_) rfl (by kernel_rfl) (by kernel_rfl) (by kernel_rfl) (fun _ _ _ h => h) (Or.inl ⟨by rfl, ?_⟩) hS ?_
                    rotate_left
                    · (intro W hSw; obtain ⟨q0, q1, q2, q3, q4, q5⟩ := hSw; go_simp; try with_reducible rfl)
                    try simp only [List.getElem_toArray, List.getElem_cons_succ, List.getElem_cons_zero, Act.put, List.setIfInBounds_toArray, List.set_cons_zero, List.set_cons_succ]
                    refine wpAnyH_take (i := 4) (v := ?_) rfl (by kernel_rfl) (by kernel_rfl) (by kernel_rfl) (fun _ _ _ h => h) (Or.inl ⟨by rfl, ?_⟩) hS ?_
                    rotate_left
                    · (intro W hSw; obtain ⟨q0, q1, q2, q3, q4, q5⟩ := hSw; go_simp; try with_reducible rfl)
                    try simp only [List.getElem_toArray, List.getElem_cons_succ, List.getElem_cons_zero, Act.put, List.setIfInBounds_toArray, List.set_cons_zero, List.set_cons_succ]
                    refine wpAnyH_take (i := 5) (v := ?_) rfl (by kernel_rfl) (by kernel_rfl) (by kernel_rfl) (fun _ _ _ h => h) (Or.inl ⟨by rfl, ?_⟩) hS ?_
                    rotate_left
                    · (intro W hSw; obtain ⟨q0, q1, q2, q3, q4, q5⟩ := hSw; go_simp; try with_reducible rfl)
                    try simp only [List.getElem_toArray, List.getElem_cons_succ, List.getElem_cons_zero, Act.put, List.setIfInBounds_toArray, List.set_cons_zero, List.set_cons_succ]
                    refine wpAnyH_take (i := 6) (v := ?_) rfl (by kernel_rfl) (by kernel_rfl) (by kernel_rfl) (fun _ _ _ h => h) (Or.inl ⟨by rfl, ?_⟩) hS ?_
                    rotate_left
                    · (intro W hSw; obtain ⟨q0, q1, q2, q3, q4, q5⟩ := hSw; go_simp; try with_reducible rfl)
                    try simp only [List.getElem_toArray, List.getElem_cons_succ, List.getElem_cons_zero, Act.put, List.setIfInBounds_toArray, List.set_cons_zero, List.set_cons_succ]
                    have hc := fewestS_any j.st (.slice ao nb cap) (lo, hi) D (HBS.out.later HB7.out.size (fun k h1 _ => HB7.out.block k h1)).low9
                    have hsv : stackV j.st (.slice ao nb cap) = .agg #[.slice ao nb cap, .int .i64 fl, .int .i64 fh] := by unfold stackV; rw [← HFL.out.1, ← HFL.out.2]
                    rw [hsv] at hc
                    refine wpAnyH_call (k := 7) (by kernel_rfl) rfl rfl (f := 23) (args := #[.agg #[.slice ao nb cap, .int .i64 fl, .int .i64 fh], .agg #[.int .i64 lo, .int .i64 hi]]) (by simp [execOp, go_sem, Act.eval, Act.put]) ?_
                    refine hc.mono ?_
                    rintro e w7 ⟨rfl, hb⟩
                    clear hc hsv
                    dsimp only
                    obtain ⟨fx, hfx⟩ : ∃ y, y = fewestS j.st (lo, hi) := ⟨_, rfl⟩
                    rw [← hfx] at HWA ⊢
                    have HPX7 := Lib.hid (HPX.out.later (hb6D.trans (hb.mono hb6D.size)).size (fun k h _ => (hb6D.trans (hb.mono hb6D.size)).block k h)).low9
                    have HBw7 := Lib.hid (HB7.out.trans (hb.mono HB7.out.size))
                    have hS7 := hS.below hb
                    clear hb hS hfx hb6D hAD
                    refine ⟨hS7, ?_⟩
                    have hS := hS7
                    clear hS7
                    try simp only [List.getElem_toArray, List.getElem_cons_succ, List.getElem_cons_zero, Act.put, List.setIfInBounds_toArray, List.set_cons_zero, List.set_cons_succ]
                    refine wpAnyH_take (i := 8) (v := ?_) rfl (by kernel_rfl) (by kernel_rfl) (by kernel_rfl) (fun _ _ _ h => h) (Or.inl ⟨by rfl, ?_⟩) hS ?_
                    rotate_left
                    · (intro W hSw; obtain ⟨q0, q1, q2, q3, q4, q5⟩ := hSw; go_simp; try with_reducible rfl)
                    try simp only [List.getElem_toArray, List.getElem_cons_succ, List.getElem_cons_zero, Act.put, List.setIfInBounds_toArray, List.set_cons_zero, List.set_cons_succ]
                    refine wpAnyH_take (i := 9) (v := ?_) rfl (by kernel_rfl) (by kernel_rfl) (by kernel_rfl) (fun _ _ _ h => h) (Or.inl ⟨by rfl, ?_⟩) hS ?_
                    rotate_left
                    · (intro W hSw; obtain ⟨q0, q1, q2, q3, q4, q5⟩ := hSw; go_simp; try with_reducible rfl)
                    try simp only [List.getElem_toArray, List.getElem_cons_succ, List.getElem_cons_zero, Act.put, List.setIfInBounds_toArray, List.set_cons_zero, List.set_cons_succ]
                    refine wpAnyH_take (i := 10) (v := ?_) rfl (by kernel_rfl) (by kernel_rfl) (by kernel_rfl) (fun _ _ _ h => h) (Or.inl ⟨by rfl, ?_⟩) hS ?_
                    rotate_left
                    · (intro W hSw; obtain ⟨q0, q1, q2, q3, q4, q5⟩ := hSw; go_simp; try with_reducible rfl)
                    try simp only [List.getElem_toArray, List.getElem_cons_succ, List.getElem_cons_zero, Act.put, List.setIfInBounds_toArray, List.set_cons_zero, List.set_cons_succ]
                    refine wpAnyH_take (i := 11) (v := ?_) rfl (by kernel_rfl) (by kernel_rfl) (by kernel_rfl) (fun _ _ _ h => h) (Or.inl ⟨by rfl, ?_⟩) hS ?_
                    rotate_left
                    · (intro W hSw; obtain ⟨q0, q1, q2, q3, q4, q5⟩ := hSw; go_simp; try with_reducible rfl)
                    try simp only [List.getElem_toArray, List.getElem_cons_succ, List.getElem_cons_zero, Act.put, List.setIfInBounds_toArray, List.set_cons_zero, List.set_cons_succ]
                    refine wpAnyH_take (i := 12) (v := ?_) rfl (by kernel_rfl) (by kernel_rfl) (by kernel_rfl) (fun _ _ _ h => h) (Or.inl ⟨by rfl, ?_⟩) hS ?_
                    rotate_left
                    · (intro W hSw; obtain ⟨q0, q1, q2, q3, q4, q5⟩ := hSw; go_simp; try with_reducible rfl)
                    try simp only [List.getElem_toArray, List.getElem_cons_succ, List.getElem_cons_zero, Act.put, List.setIfInBounds_toArray, List.set_cons_zero, List.set_cons_succ]
                    refine wpAnyH_done (by kernel_rfl) ?_ _
                    try simp only [List.getElem_toArray, List.getElem_cons_succ, List.getElem_cons_zero, Act.put, List.setIfInBounds_toArray, List.set_cons_zero, List.set_cons_succ]
                    obtain ⟨c0, c1, c2, c3, _, _⟩ := id hS
                    clear hS
                    go_wp2_with fail
                    have hc := Alone_any j (.slice ao nb cap) (.slice (some ⟨wb, wo, none⟩) nw cap2) w7 (HBS.out.later HBw7.out.size (fun k h1 _ => HBw7.out.block k h1)).low9 (HWS.out.later HBw7.out.size (fun k h1 _ => HBw7.out.block k h1)).low9
                    rw [HJV.out] at hc
                    refine hc.mono ?_
                    rw [alonejD_ok HV.out]
                    rintro e w8 ⟨rfl, hb⟩
                    clear hc c0 c1 c2 c3
                    dsimp only
                    have HPX8 := Lib.hid (HPX7.out.later hb.size (fun k h _ => hb.block k h)).low9
                    have HBw8 := Lib.hid (HBw7.out.trans (hb.mono HBw7.out.size))
                    obtain ⟨al, hal⟩ : ∃ y, y = aloneN j := ⟨_, rfl⟩
                    have hal16 : al < 2 ^ nw := by rw [hal, HNW.out]; exact alonej_lt j
                    rw [← hal] at HWA ⊢
                    clear hb hal
                    have hal8 : al < 256 := Nat.lt_of_lt_of_le hal16 (Nat.le_trans (Nat.pow_le_pow_right (by decide) hnw4) (by decide : 2 ^ 4 ≤ 256))
                    have hq8 : q < 8 := Nat.lt_of_lt_of_le hqn (Nat.le_trans hnw4 (by decide))
                    have hb1 := bit1_i64 ⟨q, hq8⟩ ⟨al, hal8⟩
                    have hq0 : 0 ≤ (q : Int) := by omega
                    dsimp only at hb1
                    rcases HWA.out with ⟨g1, g2, g3, g4⟩ | ⟨t, g1, g2, g3, g4⟩
                    · rw [g3] at hb1
                      rw [g1] at HPX8 ⊢
                      rw [g2]
                      rw [HC.out] at g4
                      cases g4
                    · rw [g3] at hb1
                      rw [g1] at HPX8 ⊢
                      rw [g2]
                      obtain ⟨a9, c9, e9, _, _, hel⟩ := HPX8.out
                      injection e9 with e1 e2 e3
                      subst e1 e3
                      clear e2
                      obtain ⟨tb, to, rfl, _, _, e6⟩ := hel 0 (by simp)
                      have e6 : w8.cell? ⟨tb, to, none⟩ = some (.int .i64 t) := e6
                      clear hel HWA HPX HPX7 HPX8 g1 g2 g3
                      go_wp2_with fail
                      refine (lawake_any _ (HTZ.out.below HBw8.out h1z)).mono ?_
                      rintro e w9 ⟨rfl, hb9⟩
                      dsimp only
                      have HB9 := Lib.hid (HBw8.out.trans (hb9.mono HBw8.out.size))
                      clear hb9
                      go_wp2_with fail
                      go_ret
                      exact ⟨rfl, HB9.out⟩
              · have hkb2 : ((k2 : Int) == (k1 : Int)) = false := by rw [beq_eq_false_iff_ne]; omega
                refine wpAnyH_take (i := 6) (v := ?_) rfl (by kernel_rfl) (by kernel_rfl) (by kernel_rfl) (fun _ _ _ h => h) (Or.inl ⟨by rfl, ?_⟩) hS ?_
                rotate_left
                · (intro W hSw; obtain ⟨q0, q1, q2⟩ := hSw; go_simp; try with_reducible rfl)
                try simp only [List.getElem_toArray, List.getElem_cons_succ, List.getElem_cons_zero, Act.put, List.setIfInBounds_toArray, List.set_cons_zero, List.set_cons_succ]
                refine wpAnyH_take (i := 7) (v := ?_) rfl (by kernel_rfl) (by kernel_rfl) (by kernel_rfl) (fun _ _ _ h => h) (Or.inl ⟨by rfl, ?_⟩) hS ?_
                rotate_left
                · (intro W hSw; obtain ⟨q0, q1, q2⟩ := hSw; go_simp; try with_reducible rfl)
                try simp only [List.getElem_toArray, List.getElem_cons_succ, List.getElem_cons_zero, Act.put, List.setIfInBounds_toArray, List.set_cons_zero, List.set_cons_succ]
                refine wpAnyH_take (i := 8) (v := undef) rfl (by kernel_rfl) (by kernel_rfl) (by kernel_rfl) (fun _ _ _ h => h) (Or.inr ⟨by rfl, rfl⟩) hS ?_
                try simp only [List.getElem_toArray, List.getElem_cons_succ, List.getElem_cons_zero, Act.put, List.setIfInBounds_toArray, List.set_cons_zero, List.set_cons_succ]
                refine wpAnyH_take (i := 9) (v := undef) rfl (by kernel_rfl) (by kernel_rfl) (by kernel_rfl) (fun _ _ _ h => h) (Or.inr ⟨by rfl, rfl⟩) hS ?_
                try simp only [List.getElem_toArray, List.getElem_cons_succ, List.getElem_cons_zero, Act.put, List.setIfInBounds_toArray, List.set_cons_zero, List.set_cons_succ]
                refine wpAnyH_take (i := 10) (v := undef) rfl (by kernel_rfl) (by kernel_rfl) (by kernel_rfl) (fun _ _ _ h => h) (Or.inr ⟨by rfl, rfl⟩) hS ?_
                try simp only [List.getElem_toArray, List.getElem_cons_succ, List.getElem_cons_zero, Act.put, List.setIfInBounds_toArray, List.set_cons_zero, List.set_cons_succ]
                refine wpAnyH_take (i := 11) (v := undef) rfl (by kernel_rfl) (by kernel_rfl) (by kernel_rfl) (fun _ _ _ h => h) (Or.inr ⟨by rfl, rfl⟩) hS ?_
                try simp only [List.getElem_toArray, List.getElem_cons_succ, List.getElem_cons_zero, Act.put, List.setIfInBounds_toArray, List.set_cons_zero, List.set_cons_succ]
                refine wpAnyH_take (i := 12) (v := undef) rfl (by kernel_rfl) (by kernel_rfl) (by kernel_rfl) (fun _ _ _ h => h) (Or.inr ⟨by rfl, rfl⟩) hS ?_
                try simp only [List.getElem_toArray, List.getElem_cons_succ, List.getElem_cons_zero, Act.put, List.setIfInBounds_toArray, List.set_cons_zero, List.set_cons_succ]
                refine wpAnyH_take (i := 13) (v := undef) rfl (by kernel_rfl) (by kernel_rfl) (by kernel_rfl) (fun _ _ _ h => h) (Or.inr ⟨by rfl, rfl⟩) hS ?_
                try simp only [List.getElem_toArray, List.getElem_cons_succ, List.getElem_cons_zero, Act.put, List.setIfInBounds_toArray, List.set_cons_zero, List.set_cons_succ]
                refine wpAnyH_take (i := 14) (v := undef) rfl (by kernel_rfl) (by kernel_rfl) (by kernel_rfl) (fun _ _ _ h => h) (Or.inr ⟨by rfl, rfl⟩) hS ?_
                try simp only [List.getElem_toArray, List.getElem_cons_succ, List.getElem_cons_zero, Act.put, List.setIfInBounds_toArray, List.set_cons_zero, List.set_cons_succ]
                refine wpAnyH_take (i := 15) (v := undef) rfl (by kernel_rfl) (by kernel_rfl) (by kernel_rfl) (fun _ _ _ h => h) (Or.inr ⟨by rfl, rfl⟩) hS ?_
                try simp only [List.getElem_toArray, List.getElem_cons_succ, List.getElem_cons_zero, Act.put, List.setIfInBounds_toArray, List.set_cons_zero, List.set_cons_succ]
                refine wpAnyH_take (i := 16) (v := undef) rfl (by kernel_rfl) (by kernel_rfl) (by kernel_rfl) (fun _ _ _ h => h) (Or.inr ⟨by rfl, rfl⟩) hS ?_
                try simp only [List.getElem_toArray, List.getElem_cons_succ, List.getElem_cons_zero, Act.put, List.setIfInBounds_toArray, List.set_cons_zero, List.set_cons_succ]
                refine wpAnyH_take (i := 17) (v := ?_) rfl (by kernel_rfl) (by kernel_rfl) (by kernel_rfl) (fun _ _ _ h => h) (Or.inl ⟨by rfl, ?_⟩) hS ?_
                rotate_left
                · (intro W hSw; obtain ⟨q0, q1, q2⟩ := hSw; go_simp; try with_reducible rfl)
                try simp only [List.getElem_toArray, List.getElem_cons_succ, List.getElem_cons_zero, Act.put, List.setIfInBounds_toArray, List.set_cons_zero, List.set_cons_succ]
                refine wpAnyH_done (by kernel_rfl) ?_ _
                try simp only [List.getElem_toArray, List.getElem_cons_succ, List.getElem_cons_zero, Act.put, List.setIfInBounds_toArray, List.set_cons_zero, List.set_cons_succ]
                clear hS
                go_wp2_with fail
                exact ⟨⟨i + 1, hlt, by push_cast; rfl, HB6D.out, fun hk9 => absurd hk9 hk⟩, by simp [intOf]; omega⟩
            · have hin : nw = i := by omega
              subst hin
              have hlti : ¬ (nw : Int) < (nw : Int) := by omega
              clear hlt
              have c0 : wr.cell? ⟨w.heap.size, 0, none⟩ = some (.slice ao nb cap) := by rw [cell_of_row _ _ _ _ _ _ HXwr.out]; rfl
              have c1 : wr.cell? ⟨w.heap.size, 1, none⟩ = some (.int .i64 fl) := by rw [cell_of_row _ _ _ _ _ _ HXwr.out]; rfl
              have c2 : wr.cell? ⟨w.heap.size, 2, none⟩ = some (.int .i64 fh) := by rw [cell_of_row _ _ _ _ _ _ HXwr.out]; rfl
              have c3 : wr.cell? ⟨w.heap.size, 3, none⟩ = some (.slice ao2 nw cap2) := by rw [cell_of_row _ _ _ _ _ _ HXwr.out]; rfl
              go_upto_region 23 with fail
              have HSPr := Lib.hid (HBS.out.later HBwr.out.size (fun k h1 _ => HBwr.out.block k h1)).low9
              by_cases hn0 : nw = 0
              · have hn0i : ((nw : Int) == 0) = true := by rw [hn0]; rfl
                have hn0j : (nw : Int) = 0 := by omega
                have HN0 := Lib.hid hn0
                clear hn0
                go_wp2_with fail
                refine (lawake_any _ (HTZ.out.below HBwr.out h1z)).mono ?_
                rintro e w9 ⟨rfl, hb9⟩
                dsimp only
                have HB9 := Lib.hid (HBwr.out.trans (hb9.mono HBwr.out.size))
                clear hb9
                go_wp2_with fail
                go_ret
                exact ⟨rfl, HB9.out⟩
              · have hn0i : ((nw : Int) == 0) = false := by rw [beq_eq_false_iff_ne]; omega
                have hn1 : 0 < nw := by omega
                obtain ⟨q, hq, hqn⟩ := mod_q x nw hx.1 hn1
                have hcx : IntKind.i64.wrap x = x := IntWalk.i64_in _ (by omega)
                have hx0 : 0 ≤ x := hx.1
                have hqn2 : q < j.ws.length := by rw [← HNW.out]; exact hqn
                obtain ⟨a9, c9, e9, _, _, hel⟩ := HWS.out.later (W := wr) HBwr.out.size (fun k h1 _ => HBwr.out.block k h1)
                injection e9 with e1 e2 e3
                subst e1 e3
                clear e2
                obtain ⟨wb, wo, rfl, _, _, e4, e5⟩ := hel q hqn2
                have hwa := want_alone HV.out q hqn2
                obtain ⟨⟨lo, hi⟩, hwant⟩ : ∃ y, y = j.ws[q] := ⟨_, rfl⟩
                rw [← hwant] at e4 e5 hwa
                have hS0 : SN w.heap.size (.slice ao nb cap) (.slice (some ⟨wb, wo, none⟩) nw cap2) fl fh wb wo q lo hi wr := ⟨by rw [cell_of_row _ _ _ _ _ _ HXwr.out]; rfl, by rw [cell_of_row _ _ _ _ _ _ HXwr.out]; rfl, by rw [cell_of_row _ _ _ _ _ _ HXwr.out]; rfl, by rw [cell_of_row _ _ _ _ _ _ HXwr.out]; rfl, e4, e5⟩
                have HSN := Lib.hid hS0
                obtain ⟨P, hP, hPle, hs9, hs10⟩ := pow_q q (Nat.lt_of_lt_of_le hqn hnw4)
                rw [← hP] at hwa
                have HWA := Lib.hid hwa
                clear hS0 e4 e5 hel hwant hP hwa
                go_upto_region 26 with fail
                rw [hq]
                clear hq hcx hx0
                clear c0 c1 c2 c3
                refine wp_region_held_drew (S := SN w.heap.size (.slice ao nb cap) (.slice (some ⟨wb, wo, none⟩) nw cap2) fl fh wb wo q lo hi) (by kernel_rfl) ((HSN.out).below (Below.refl _ _).drew) fun hS => ?_
                obtain ⟨D, hD⟩ : ∃ D, D = World.drew wr := ⟨_, rfl⟩
                have hAD : Below wr.heap.size wr D := by rw [hD]; exact (Below.refl _ _).drew
                rw [← hD] at hS ⊢
                have HBD := Lib.hid (HBwr.out.trans (hAD.mono HBwr.out.size))
                clear hD hAD HSN
                refine wpAnyH_take (i := 0) (v := ?_) rfl (by kernel_rfl) (by kernel_rfl) (by kernel_rfl) (fun _ _ _ h => h) (Or.inl ⟨by rfl, ?_⟩) hS ?_
                rotate_left
                · (intro W hSw; obtain ⟨q0, q1, q2, q3, q4, q5⟩ := hSw; go_simp; try with_reducible rfl)
                try simp only [List.getElem_toArray, List.getElem_cons_succ, List.getElem_cons_zero, Act.put, List.setIfInBounds_toArray, List.set_cons_zero, List.set_cons_succ]
                refine wpAnyH_take (i := 1) (v := ?_) rfl (by kernel_rfl) (by kernel_rfl) (by kernel_rfl) (fun _ _ _ h => h) (Or.inl ⟨by rfl, ?_⟩) hS ?_
                rotate_left
                · (intro W hSw; obtain ⟨q0, q1, q2, q3, q4, q5⟩ := hSw; go_simp; try with_reducible rfl)
                try simp only [List.getElem_toArray, List.getElem_cons_succ, List.getElem_cons_zero, Act.put, List.setIfInBounds_toArray, List.set_cons_zero, List.set_cons_succ]
                refine wpAnyH_take (i := 2) (v := ?_) rfl (by kernel_rfl) (by kernel_rfl) (by kernel_rfl) (fun _ _ _ h => h) (Or.inl ⟨by rfl, ?_⟩) hS ?_
                rotate_left
                · (intro W hSw; obtain ⟨q0, q1, q2, q3, q4, q5⟩ := hSw; go_simp; try with_reducible rfl)
                try simp only [List.getElem_toArray, List.getElem_cons_succ, List.getElem_cons_zero, Act.put, List.setIfInBounds_toArray, List.set_cons_zero, List.set_cons_succ]
                clear hs9 hs10
                have hc := r12only_any j (by rw [← HNW.out]; exact Nat.le_trans hnw4 (by decide)) P (Nat.lt_of_le_of_lt hPle (by decide)) (.slice ao nb cap) (.slice (some ⟨wb, wo, none⟩) nw cap2) D ⟨_, _, _, rfl⟩ (HWS.out.later HBD.out.size (fun k h1 _ => HBD.out.block k h1)).low9
                rw [HJV.out] at hc
                refine wpAnyH_call (k := 3) (by kernel_rfl) rfl rfl (f := 19) (args := #[.agg #[.slice ao nb cap, .int .i64 fl, .int .i64 fh, .slice (some ⟨wb, wo, none⟩) nw cap2], .int .i64 P]) (by simp [execOp, go_sem, Act.eval, Act.put]) ?_
                refine hc.mono ?_
                rintro e w5 ⟨⟨wv, rfl, hwv⟩, hb⟩
                clear hc
                dsimp only
                obtain ⟨a5, c5, rfl, _⟩ := id hwv
                obtain ⟨nx, hnx⟩ : ∃ n, n = (onlyD j P).ws.length := ⟨_, rfl⟩
                rw [← hnx] at hwv ⊢
                have HWV := Lib.hid hwv.low9
                have hjx : jobV (onlyD j P) (.slice ao nb cap) (.slice a5 nx c5) = .agg #[.slice ao nb cap, .int .i64 fl, .int .i64 fh, .slice a5 nx c5] := by unfold jobV onlyD; dsimp only; rw [← HFL.out.1, ← HFL.out.2]
                rw [hjx]
                have HJX := Lib.hid hjx
                have HBw5 := Lib.hid (HBD.out.trans (hb.mono HBD.out.size))
                have hS5 := hS.below hb
                clear hwv hjx hb hnx hS
                refine ⟨hS5, ?_⟩
                have hS := hS5
                clear hS5
                try simp only [List.getElem_toArray, List.getElem_cons_succ, List.getElem_cons_zero, Act.put, List.setIfInBounds_toArray, List.set_cons_zero, List.set_cons_succ]
                have hc := Plan_any (onlyD j P) (.slice ao nb cap) (.slice a5 nx c5) w5 (HBS.out.later HBw5.out.size (fun k h1 _ => HBw5.out.block k h1)).low9 HWV.out (HTZ.out.below HBw5.out h1z)
                rw [HJX.out] at hc
                refine wpAnyH_call (k := 4) (by kernel_rfl) rfl rfl (f := 20) (args := #[.agg #[.slice ao nb cap, .int .i64 fl, .int .i64 fh, .slice a5 nx c5]]) (by simp [execOp, go_sem, Act.eval, Act.put]) ?_
                refine hc.mono ?_
                rintro e w6 ⟨pv, rfl, hpv, hb⟩
                clear hc
                dsimp only
                obtain ⟨a7, c7, hpve, _⟩ := id hpv
                subst hpve
                rw [List.length_map] at hpv ⊢
                obtain ⟨px, hpx⟩ : ∃ y, y = planD (onlyD j P) := ⟨_, rfl⟩
                rw [← hpx] at hpv HWA ⊢
                have HPX := Lib.hid hpv.low9
                have HBw6 := Lib.hid (HBw5.out.trans (hb.mono HBw5.out.size))
                have hS6 := hS.below hb
                clear hb hS hpv hpx
                refine ⟨hS6, ?_⟩
                have hS := hS6
                clear hS6
                try simp only [List.getElem_toArray, List.getElem_cons_succ, List.getElem_cons_zero, Act.put, List.setIfInBounds_toArray, List.set_cons_zero, List.set_cons_succ]
                refine wpAnyH_take (i := 5) (v := ?_) rfl (by kernel_rfl) (by kernel_rfl) (by kernel_rfl) (fun _ _ _ h => h) (Or.inl ⟨by rfl, ?_⟩) hS ?_
                rotate_left
                · (intro W hSw; obtain ⟨q0, q1, q2, q3, q4, q5⟩ := hSw; go_simp; try with_reducible rfl)
                try simp only [List.getElem_toArray, List.getElem_cons_succ, List.getElem_cons_zero, Act.put, List.setIfInBounds_toArray, List.set_cons_zero, List.set_cons_succ]
                refine wpAnyH_take (i := 6) (v := ?_) rfl (by kernel_rfl) (by kernel_rfl) (by kernel_rfl) (fun _ _ _ h => h) (Or.inl ⟨by rfl, ?_⟩) hS ?_
                rotate_left
                · (intro W hSw; obtain ⟨q0, q1, q2, q3, q4, q5⟩ := hSw; go_simp; try with_reducible rfl)
                try simp only [List.getElem_toArray, List.getElem_cons_succ, List.getElem_cons_zero, Act.put, List.setIfInBounds_toArray, List.set_cons_zero, List.set_cons_succ]
                refine wpAnyH_take (i := 7) (v := ?_) rfl (by kernel_rfl) (by kernel_rfl) (by kernel_rfl) (fun _ _ _ h => h) (Or.inl ⟨by rfl, ?_⟩) hS ?_
                rotate_left
                · (intro W hSw; obtain ⟨q0, q1, q2, q3, q4, q5⟩ := hSw; go_simp; try with_reducible rfl)
                try simp only [List.getElem_toArray, List.getElem_cons_succ, List.getElem_cons_zero, Act.put, List.setIfInBounds_toArray, List.set_cons_zero, List.set_cons_succ]
                refine wpAnyH_take (i := 8) (v := ?_) rfl (by kernel_rfl) (by kernel_rfl) (by kernel_rfl) (fun _ _ _ h => h) (Or.inl ⟨by rfl, ?_⟩) hS ?_
                rotate_left
                · (intro W hSw; obtain ⟨q0, q1, q2, q3, q4, q5⟩ := hSw; go_simp; try with_reducible rfl)
                try simp only [List.getElem_toArray, List.getElem_cons_succ, List.getElem_cons_zero, Act.put, List.setIfInBounds_toArray, List.set_cons_zero, List.set_cons_succ]
                refine wpAnyH_take (i := 9) (v := ?_) rfl (by kernel_rfl) (by kernel_rfl) (by kernel_rfl) (fun _ _ _ h => h) (Or.inl ⟨by rfl, ?_⟩) hS ?_
                rotate_left
                · (intro W hSw; obtain ⟨q0, q1, q2, q3, q4, q5⟩ := hSw; go_simp; try with_reducible rfl)
                try simp only [List.getElem_toArray, List.getElem_cons_succ, List.getElem_cons_zero, Act.put, List.setIfInBounds_toArray, List.set_cons_zero, List.set_cons_succ]
                refine wpAnyH_done (by kernel_rfl) ?_ _
                try simp only [List.getElem_toArray, List.getElem_cons_succ, List.getElem_cons_zero, Act.put, List.setIfInBounds_toArray, List.set_cons_zero, List.set_cons_succ]
                have HSN := Lib.hid hS
                have HXw6 := Lib.hid hS
                clear hS
                go_upto_region 27 with fail
                refine wp_region_held_drew (S := SN w.heap.size (.slice ao nb cap) (.slice (some ⟨wb, wo, none⟩) nw cap2) fl fh wb wo q lo hi) (by kernel_rfl) ((HSN.out).below (Below.refl _ _).drew) fun hS => ?_
                obtain ⟨D, hD⟩ : ∃ D, D = World.drew w6 := ⟨_, rfl⟩
                have hAD : Below w6.heap.size w6 D := by rw [hD]; exact (Below.refl _ _).drew
                rw [← hD] at hS ⊢
                have HB7 := Lib.hid (HBw6.out.trans (hAD.mono HBw6.out.size))
                have hb6D := hAD
                clear hD HSN
                refine wpAnyH_take (i := 0) (v := ?_) rfl (by kernel_rfl) (by kernel_rfl) (by kernel_rfl) (fun _ _ _ h => h) (Or.inl ⟨by rfl, ?_⟩) hS ?_
                rotate_left
                · (intro W hSw; obtain ⟨q0, q1, q2, q3, q4, q5⟩ := hSw; go_simp; try with_reducible rfl)
                try simp only [List.getElem_toArray, List.getElem_cons_succ, List.getElem_cons_zero, Act.put, List.setIfInBounds_toArray, List.set_cons_zero, List.set_cons_succ]
                refine wpAnyH_take (i := 1) (v := ?_) rfl (by kernel_rfl) (by kernel_rfl) (by kernel_rfl) (fun _ _ _ h => h) (Or.inl ⟨by rfl, ?_⟩) hS ?_
                rotate_left
                · (intro W hSw; obtain ⟨q0, q1, q2, q3, q4, q5⟩ := hSw; go_simp; try with_reducible rfl)
                try simp only [List.getElem_toArray, List.getElem_cons_succ, List.getElem_cons_zero, Act.put, List.setIfInBounds_toArray, List.set_cons_zero, List.set_cons_succ]
                refine wpAnyH_take (i := 2) (v := ?_) rfl (by kernel_rfl) (by kernel_rfl) (by kernel_rfl) (fun _ _ _ h => h) (Or.inl ⟨by rfl, ?_⟩) hS ?_
                rotate_left
                · (intro W hSw; obtain ⟨q0, q1, q2, q3, q4, q5⟩ := hSw; go_simp; try with_reducible rfl)
                try simp only [List.getElem_toArray, List.getElem_cons_succ, List.getElem_cons_zero, Act.put, List.setIfInBounds_toArray, List.set_cons_zero, List.set_cons_succ]
                refine wpAnyH_take (i := 3) (v := ?_) rfl (by kernel_rfl) (by kernel_rfl) (by kernel_rfl) (fun _ _ _ h => h) (Or.inl ⟨by rfl, ?_⟩) hS ?_
                rotate_left
                · (intro W hSw; obtain ⟨q0, q1, q2, q3, q4, q5⟩ := hSw; go_simp; try with_reducible rfl)
                try simp only [List.getElem_toArray, List.getElem_cons_succ, List.getElem_cons_zero, Act.put, List.setIfInBounds_toArray, List.set_cons_zero, List.set_cons_succ]
                refine wpAnyH_take (i := 4) (v := ?_) rfl (by kernel_rfl) (by kernel_rfl) (by kernel_rfl) (fun _ _ _ h => h) (Or.inl ⟨by rfl, ?_⟩) hS ?_
                rotate_left
                · (intro W hSw; obtain ⟨q0, q1, q2, q3, q4, q5⟩ := hSw; go_simp; try with_reducible rfl)
                try simp only [List.getElem_toArray, List.getElem_cons_succ, List.getElem_cons_zero, Act.put, List.setIfInBounds_toArray, List.set_cons_zero, List.set_cons_succ]
                refine wpAnyH_take (i := 5) (v := ?_) rfl (by kernel_rfl) (by kernel_rfl) (by kernel_rfl) (fun _ _ _ h => h) (Or.inl ⟨by rfl, ?_⟩) hS ?_
                rotate_left
                · (intro W hSw; obtain ⟨q0, q1, q2, q3, q4, q5⟩ := hSw; go_simp; try with_reducible rfl)
                try simp only [List.getElem_toArray, List.getElem_cons_succ, List.getElem_cons_zero, Act.put, List.setIfInBounds_toArray, List.set_cons_zero, List.set_cons_succ]
                refine wpAnyH_take (i := 6) (v := ?_) rfl (by kernel_rfl) (by kernel_rfl) (by kernel_rfl) (fun _ _ _ h => h) (Or.inl ⟨by rfl, ?_⟩) hS ?_
                rotate_left
                · (intro W hSw; obtain ⟨q0, q1, q2, q3, q4, q5⟩ := hSw; go_simp; try with_reducible rfl)
                try simp only [List.getElem_toArray, List.getElem_cons_succ, List.getElem_cons_zero, Act.put, List.setIfInBounds_toArray, List.set_cons_zero, List.set_cons_succ]
                have hc := fewestS_any j.st (.slice ao nb cap) (lo, hi) D (HBS.out.later HB7.out.size (fun k h1 _ => HB7.out.block k h1)).low9
                have hsv : stackV j.st (.slice ao nb cap) = .agg #[.slice ao nb cap, .int .i64 fl, .int .i64 fh] := by unfold stackV; rw [← HFL.out.1, ← HFL.out.2]
                rw [hsv] at hc
                refine wpAnyH_call (k := 7) (by kernel_rfl) rfl rfl (f := 23) (args := #[.agg #[.slice ao nb cap, .int .i64 fl, .int .i64 fh], .agg #[.int .i64 lo, .int .i64 hi]]) (by simp [execOp, go_sem, Act.eval, Act.put]) ?_
                refine hc.mono ?_
                rintro e w7 ⟨rfl, hb⟩
                clear hc hsv
                dsimp only
                obtain ⟨fx, hfx⟩ : ∃ y, y = fewestS j.st (lo, hi) := ⟨_, rfl⟩
                rw [← hfx] at HWA ⊢
                have HPX7 := Lib.hid (HPX.out.later (hb6D.trans (hb.mono hb6D.size)).size (fun k h _ => (hb6D.trans (hb.mono hb6D.size)).block k h)).low9
                have HBw7 := Lib.hid (HB7.out.trans (hb.mono HB7.out.size))
                have hS7 := hS.below hb
                clear hb hS hfx hb6D hAD
                refine ⟨hS7, ?_⟩
                have hS := hS7
                clear hS7
                try simp only [List.getElem_toArray, List.getElem_cons_succ, List.getElem_cons_zero, Act.put, List.setIfInBounds_toArray, List.set_cons_zero, List.set_cons_succ]
                refine wpAnyH_take (i := 8) (v := ?_) rfl (by kernel_rfl) (by kernel_rfl) (by kernel_rfl) (fun _ _ _ h => h) (Or.inl ⟨by rfl, ?_⟩) hS ?_
                rotate_left
                · (intro W hSw; obtain ⟨q0, q1, q2, q3, q4, q5⟩ := hSw; go_simp; try with_reducible rfl)
                try simp only [List.getElem_toArray, List.getElem_cons_succ, List.getElem_cons_zero, Act.put, List.setIfInBounds_toArray, List.set_cons_zero, List.set_cons_succ]
                refine wpAnyH_take (i := 9) (v := ?_) rfl (by kernel_rfl) (by kernel_rfl) (by kernel_rfl) (fun _ _ _ h => h) (Or.inl ⟨by rfl, ?_⟩) hS ?_
                rotate_left
                · (intro W hSw; obtain ⟨q0, q1, q2, q3, q4, q5⟩ := hSw; go_simp; try with_reducible rfl)
                try simp only [List.getElem_toArray, List.getElem_cons_succ, List.getElem_cons_zero, Act.put, List.setIfInBounds_toArray, List.set_cons_zero, List.set_cons_succ]
                refine wpAnyH_take (i := 10) (v := ?_) rfl (by kernel_rfl) (by kernel_rfl) (by kernel_rfl) (fun _ _ _ h => h) (Or.inl ⟨by rfl, ?_⟩) hS ?_
                rotate_left
                · (intro W hSw; obtain ⟨q0, q1, q2, q3, q4, q5⟩ := hSw; go_simp; try with_reducible rfl)
                try simp only [List.getElem_toArray, List.getElem_cons_succ, List.getElem_cons_zero, Act.put, List.setIfInBounds_toArray, List.set_cons_zero, List.set_cons_succ]
                refine wpAnyH_take (i := 11) (v := ?_) rfl (by kernel_rfl) (by kernel_rfl) (by kernel_rfl) (fun _ _ _ h => h) (Or.inl ⟨by rfl, ?_⟩) hS ?_
                rotate_left
                · (intro W hSw; obtain ⟨q0, q1, q2, q3, q4, q5⟩ := hSw; go_simp; try with_reducible rfl)
                try simp only [List.getElem_toArray, List.getElem_cons_succ, List.getElem_cons_zero, Act.put, List.setIfInBounds_toArray, List.set_cons_zero, List.set_cons_succ]
                refine wpAnyH_take (i := 12) (v := ?_) rfl (by kernel_rfl) (by kernel_rfl) (by kernel_rfl) (fun _ _ _ h => h) (Or.inl ⟨by rfl, ?_⟩) hS ?_
                rotate_left
                · (intro W hSw; obtain ⟨q0, q1, q2, q3, q4, q5⟩ := hSw; go_simp; try with_reducible rfl)
                try simp only [List.getElem_toArray, List.getElem_cons_succ, List.getElem_cons_zero, Act.put, List.setIfInBounds_toArray, List.set_cons_zero, List.set_cons_succ]
                refine wpAnyH_done (by kernel_rfl) ?_ _
                try simp only [List.getElem_toArray, List.getElem_cons_succ, List.getElem_cons_zero, Act.put, List.setIfInBounds_toArray, List.set_cons_zero, List.set_cons_succ]
                obtain ⟨c0, c1, c2, c3, _, _⟩ := id hS
                clear hS
                go_wp2_with fail
                have hc := Alone_any j (.slice ao nb cap) (.slice (some ⟨wb, wo, none⟩) nw cap2) w7 (HBS.out.later HBw7.out.size (fun k h1 _ => HBw7.out.block k h1)).low9 (HWS.out.later HBw7.out.size (fun k h1 _ => HBw7.out.block k h1)).low9
                rw [HJV.out] at hc
                refine hc.mono ?_
                rw [alonejD_ok HV.out]
                rintro e w8 ⟨rfl, hb⟩
                clear hc c0 c1 c2 c3
                dsimp only
                have HPX8 := Lib.hid (HPX7.out.later hb.size (fun k h _ => hb.block k h)).low9
                have HBw8 := Lib.hid (HBw7.out.trans (hb.mono HBw7.out.size))
                obtain ⟨al, hal⟩ : ∃ y, y = aloneN j := ⟨_, rfl⟩
                have hal16 : al < 2 ^ nw := by rw [hal, HNW.out]; exact alonej_lt j
                rw [← hal] at HWA ⊢
                clear hb hal
                have hal8 : al < 256 := Nat.lt_of_lt_of_le hal16 (Nat.le_trans (Nat.pow_le_pow_right (by decide) hnw4) (by decide : 2 ^ 4 ≤ 256))
                have hq8 : q < 8 := Nat.lt_of_lt_of_le hqn (Nat.le_trans hnw4 (by decide))
                have hb1 := bit1_i64 ⟨q, hq8⟩ ⟨al, hal8⟩
                have hq0 : 0 ≤ (q : Int) := by omega
                dsimp only at hb1
                rcases HWA.out with ⟨g1, g2, g3, g4⟩ | ⟨t, g1, g2, g3, g4⟩
                · rw [g3] at hb1
                  rw [g1] at HPX8 ⊢
                  rw [g2]
                  rw [HC.out] at g4
                  cases g4
                · rw [g3] at hb1
                  rw [g1] at HPX8 ⊢
                  rw [g2]
                  obtain ⟨a9, c9, e9, _, _, hel⟩ := HPX8.out
                  injection e9 with e1 e2 e3
                  subst e1 e3
                  clear e2
                  obtain ⟨tb, to, rfl, _, _, e6⟩ := hel 0 (by simp)
                  have e6 : w8.cell? ⟨tb, to, none⟩ = some (.int .i64 t) := e6
                  clear hel HWA HPX HPX7 HPX8 g1 g2 g3
                  go_wp2_with fail
                  refine (lawake_any _ (HTZ.out.below HBw8.out h1z)).mono ?_
                  rintro e w9 ⟨rfl, hb9⟩
                  dsimp only
                  have HB9 := Lib.hid (HBw8.out.trans (hb9.mono HBw8.out.size))
                  clear hb9
                  go_wp2_with fail
                  go_ret
                  exact ⟨rfl, HB9.out⟩
        · rw [hck]
          clear hck
          dsimp only
          go_upto_region 23 with fail
          have HSPr := Lib.hid (HBS.out.later HBw6.out.size (fun k h1 _ => HBw6.out.block k h1)).low9
          by_cases hn0 : nw = 0
          · have hn0i : ((nw : Int) == 0) = true := by rw [hn0]; rfl
            have hn0j : (nw : Int) = 0 := by omega
            have HN0 := Lib.hid hn0
            clear hn0
            go_wp2_with fail
            refine (lawake_any _ (HTZ.out.below HBw6.out h1z)).mono ?_
            rintro e w9 ⟨rfl, hb9⟩
            dsimp only
            have HB9 := Lib.hid (HBw6.out.trans (hb9.mono HBw6.out.size))
            clear hb9
            go_wp2_with fail
            go_ret
            exact ⟨rfl, HB9.out⟩
          · have hn0i : ((nw : Int) == 0) = false := by rw [beq_eq_false_iff_ne]; omega
            have hn1 : 0 < nw := by omega
            obtain ⟨q, hq, hqn⟩ := mod_q x nw hx.1 hn1
            have hcx : IntKind.i64.wrap x = x := IntWalk.i64_in _ (by omega)
            have hx0 : 0 ≤ x := hx.1
            have hqn2 : q < j.ws.length := by rw [← HNW.out]; exact hqn
            obtain ⟨a9, c9, e9, _, _, hel⟩ := HWS.out.later (W := w6) HBw6.out.size (fun k h1 _ => HBw6.out.block k h1)
            injection e9 with e1 e2 e3
            subst e1 e3
            clear e2
            obtain ⟨wb, wo, rfl, _, _, e4, e5⟩ := hel q hqn2
            have hwa := want_alone HV.out q hqn2
            obtain ⟨⟨lo, hi⟩, hwant⟩ : ∃ y, y = j.ws[q] := ⟨_, rfl⟩
            rw [← hwant] at e4 e5 hwa
            have hS0 : SN w.heap.size (.slice ao nb cap) (.slice (some ⟨wb, wo, none⟩) nw cap2) fl fh wb wo q lo hi w6 := ⟨by rw [cell_of_row _ _ _ _ _ _ HXw6.out]; rfl, by rw [cell_of_row _ _ _ _ _ _ HXw6.out]; rfl, by rw [cell_of_row _ _ _ _ _ _ HXw6.out]; rfl, by rw [cell_of_row _ _ _ _ _ _ HXw6.out]; rfl, e4, e5⟩
            have HSN := Lib.hid hS0
            obtain ⟨P, hP, hPle, hs9, hs10⟩ := pow_q q (Nat.lt_of_lt_of_le hqn hnw4)
            rw [← hP] at hwa
            have HWA := Lib.hid hwa
            clear hS0 e4 e5 hel hwant hP hwa
            go_upto_region 26 with fail
            rw [hq]
            clear hq hcx hx0
            clear c0 c1 c2 c3
            refine wp_region_held_drew (S := SN w.heap.size (.slice ao nb cap) (.slice (some ⟨wb, wo, none⟩) nw cap2) fl fh wb wo q lo hi) (by kernel_rfl) ((HSN.out).below (Below.refl _ _).drew) fun hS => ?_
            obtain ⟨D, hD⟩ : ∃ D, D = World.drew w6 := ⟨_, rfl⟩
            have hAD : Below w6.heap.size w6 D := by rw [hD]; exact (Below.refl _ _).drew
            rw [← hD] at hS ⊢
            have HBD := Lib.hid (HBw6.out.trans (hAD.mono HBw6.out.size))
            clear hD hAD HSN
            refine wpAnyH_take (i := 0) (v := ?_) rfl (by kernel_rfl) (by kernel_rfl) (by kernel_rfl) (fun _ _ _ h => h) (Or.inl ⟨by rfl, ?_⟩) hS ?_
            rotate_left
            · (intro W hSw; obtain ⟨q0, q1, q2, q3, q4, q5⟩ := hSw; go_simp; try with_reducible rfl)
            try simp only [List.getElem_toArray, List.getElem_cons_succ, List.getElem_cons_zero, Act.put, List.setIfInBounds_toArray, List.set_cons_zero, List.set_cons_succ]
            refine wpAnyH_take (i := 1) (v := ?_) rfl (by kernel_rfl) (by kernel_rfl) (by kernel_rfl) (fun _ _ _ h => h) (Or.inl ⟨by rfl, ?_⟩) hS ?_
            rotate_left
            · (intro W hSw; obtain ⟨q0, q1, q2, q3, q4, q5⟩ := hSw; go_simp; try with_reducible rfl)
            try simp only [List.getElem_toArray, List.getElem_cons_succ, List.getElem_cons_zero, Act.put, List.setIfInBounds_toArray, List.set_cons_zero, List.set_cons_succ]
            refine wpAnyH_take (i := 2) (v := ?_) rfl (by kernel_rfl) (by kernel_rfl) (by kernel_rfl) (fun _ _ _ h => h) (Or.inl ⟨by rfl, ?_⟩) hS ?_
            rotate_left
            · (intro W hSw; obtain ⟨q0, q1, q2, q3, q4, q5⟩ := hSw; go_simp; try with_reducible rfl)
            try simp only [List.getElem_toArray, List.getElem_cons_succ, List.getElem_cons_zero, Act.put, List.setIfInBounds_toArray, List.set_cons_zero, List.set_cons_succ]
            clear hs9 hs10
            have hc := r12only_any j (by rw [← HNW.out]; exact Nat.le_trans hnw4 (by decide)) P (Nat.lt_of_le_of_lt hPle (by decide)) (.slice ao nb cap) (.slice (some ⟨wb, wo, none⟩) nw cap2) D ⟨_, _, _, rfl⟩ (HWS.out.later HBD.out.size (fun k h1 _ => HBD.out.block k h1)).low9
            rw [HJV.out] at hc
            refine wpAnyH_call (k := 3) (by kernel_rfl) rfl rfl (f := 19) (args := #[.agg #[.slice ao nb cap, .int .i64 fl, .int .i64 fh, .slice (some ⟨wb, wo, none⟩) nw cap2], .int .i64 P]) (by simp [execOp, go_sem, Act.eval, Act.put]) ?_
            refine hc.mono ?_
            rintro e w5 ⟨⟨wv, rfl, hwv⟩, hb⟩
            clear hc
            dsimp only
            obtain ⟨a5, c5, rfl, _⟩ := id hwv
            obtain ⟨nx, hnx⟩ : ∃ n, n = (onlyD j P).ws.length := ⟨_, rfl⟩
            rw [← hnx] at hwv ⊢
            have HWV := Lib.hid hwv.low9
            have hjx : jobV (onlyD j P) (.slice ao nb cap) (.slice a5 nx c5) = .agg #[.slice ao nb cap, .int .i64 fl, .int .i64 fh, .slice a5 nx c5] := by unfold jobV onlyD; dsimp only; rw [← HFL.out.1, ← HFL.out.2]
            rw [hjx]
            have HJX := Lib.hid hjx
            have HBw5 := Lib.hid (HBD.out.trans (hb.mono HBD.out.size))
            have hS5 := hS.below hb
            clear hwv hjx hb hnx hS
            refine ⟨hS5, ?_⟩
            have hS := hS5
            clear hS5
            try simp only [List.getElem_toArray, List.getElem_cons_succ, List.getElem_cons_zero, Act.put, List.setIfInBounds_toArray, List.set_cons_zero, List.set_cons_succ]
            have hc := Plan_any (onlyD j P) (.slice ao nb cap) (.slice a5 nx c5) w5 (HBS.out.later HBw5.out.size (fun k h1 _ => HBw5.out.block k h1)).low9 HWV.out (HTZ.out.below HBw5.out h1z)
            rw [HJX.out] at hc
            refine wpAnyH_call (k := 4) (by kernel_rfl) rfl rfl (f := 20) (args := #[.agg #[.slice ao nb cap, .int .i64 fl, .int .i64 fh, .slice a5 nx c5]]) (by simp [execOp, go_sem, Act.eval, Act.put]) ?_
            refine hc.mono ?_
            rintro e w6 ⟨pv, rfl, hpv, hb⟩
            clear hc
            dsimp only
            obtain ⟨a7, c7, hpve, _⟩ := id hpv
            subst hpve
            rw [List.length_map] at hpv ⊢
            obtain ⟨px, hpx⟩ : ∃ y, y = planD (onlyD j P) := ⟨_, rfl⟩
            rw [← hpx] at hpv HWA ⊢
            have HPX := Lib.hid hpv.low9
            have HBw6 := Lib.hid (HBw5.out.trans (hb.mono HBw5.out.size))
            have hS6 := hS.below hb
            clear hb hS hpv hpx
            refine ⟨hS6, ?_⟩
            have hS := hS6
            clear hS6
            try simp only [List.getElem_toArray, List.getElem_cons_succ, List.getElem_cons_zero, Act.put, List.setIfInBounds_toArray, List.set_cons_zero, List.set_cons_succ]
            refine wpAnyH_take (i := 5) (v := ?_) rfl (by kernel_rfl) (by kernel_rfl) (by kernel_rfl) (fun _ _ _ h => h) (Or.inl ⟨by rfl, ?_⟩) hS ?_
            rotate_left
            · (intro W hSw; obtain ⟨q0, q1, q2, q3, q4, q5⟩ := hSw; go_simp; try with_reducible rfl)
            try simp only [List.getElem_toArray, List.getElem_cons_succ, List.getElem_cons_zero, Act.put, List.setIfInBounds_toArray, List.set_cons_zero, List.set_cons_succ]
            refine wpAnyH_take (i := 6) (v := ?_) rfl (by kernel_rfl) (by kernel_rfl) (by kernel_rfl) (fun _ _ _ h => h) (Or.inl ⟨by rfl, ?_⟩) hS ?_
            rotate_left
            · (intro W hSw; obtain ⟨q0, q1, q2, q3, q4, q5⟩ := hSw; go_simp; try with_reducible rfl)
            try simp only [List.getElem_toArray, List.getElem_cons_succ, List.getElem_cons_zero, Act.put, List.setIfInBounds_toArray, List.set_cons_zero, List.set_cons_succ]
            refine wpAnyH_take (i := 7) (v := ?_) rfl (by kernel_rfl) (by kernel_rfl) (by kernel_rfl) (fun _ _ _ h => h) (Or.inl ⟨by rfl, ?_⟩) hS ?_
            rotate_left
            · (intro W hSw; obtain ⟨q0, q1, q2, q3, q4, q5⟩ := hSw; go_simp; try with_reducible rfl)
            try simp only [List.getElem_toArray, List.getElem_cons_succ, List.getElem_cons_zero, Act.put, List.setIfInBounds_toArray, List.set_cons_zero, List.set_cons_succ]
            refine wpAnyH_take (i := 8) (v := ?_) rfl (by kernel_rfl) (by kernel_rfl) (by kernel_rfl) (fun _ _ _ h => h) (Or.inl ⟨by rfl, ?_⟩) hS ?_
            rotate_left
            · (intro W hSw; obtain ⟨q0, q1, q2, q3, q4, q5⟩ := hSw; go_simp; try with_reducible rfl)
            try simp only [List.getElem_toArray, List.getElem_cons_succ, List.getElem_cons_zero, Act.put, List.setIfInBounds_toArray, List.set_cons_zero, List.set_cons_succ]
            refine wpAnyH_take (i := 9) (v := ?_) rfl (by kernel_rfl) (by kernel_rfl) (by kernel_rfl) (fun _ _ _ h => h) (Or.inl ⟨by rfl, ?_⟩) hS ?_
            rotate_left
            · (intro W hSw; obtain ⟨q0, q1, q2, q3, q4, q5⟩ := hSw; go_simp; try with_reducible rfl)
            try simp only [List.getElem_toArray, List.getElem_cons_succ, List.getElem_cons_zero, Act.put, List.setIfInBounds_toArray, List.set_cons_zero, List.set_cons_succ]
            refine wpAnyH_done (by kernel_rfl) ?_ _
            try simp only [List.getElem_toArray, List.getElem_cons_succ, List.getElem_cons_zero, Act.put, List.setIfInBounds_toArray, List.set_cons_zero, List.set_cons_succ]
            have HSN := Lib.hid hS
            have HXw6 := Lib.hid hS
            clear hS
            go_upto_region 27 with fail
            refine wp_region_held_drew (S := SN w.heap.size (.slice ao nb cap) (.slice (some ⟨wb, wo, none⟩) nw cap2) fl fh wb wo q lo hi) (by kernel_rfl) ((HSN.out).below (Below.refl _ _).drew) fun hS => ?_
            obtain ⟨D, hD⟩ : ∃ D, D = World.drew w6 := ⟨_, rfl⟩
            have hAD : Below w6.heap.size w6 D := by rw [hD]; exact (Below.refl _ _).drew
            rw [← hD] at hS ⊢
            have HB7 := Lib.hid (HBw6.out.trans (hAD.mono HBw6.out.size))
            have hb6D := hAD
            clear hD HSN
            refine wpAnyH_take (i := 0) (v := ?_) rfl (by kernel_rfl) (by kernel_rfl) (by kernel_rfl) (fun _ _ _ h => h) (Or.inl ⟨by rfl, ?_⟩) hS ?_
            rotate_left
            · (intro W hSw; obtain ⟨q0, q1, q2, q3, q4, q5⟩ := hSw; go_simp; try with_reducible rfl)
            try simp only [List.getElem_toArray, List.getElem_cons_succ, List.getElem_cons_zero, Act.put, List.setIfInBounds_toArray, List.set_cons_zero, List.set_cons_succ]
            refine wpAnyH_take (i := 1) (v := ?_) rfl (by kernel_rfl) (by kernel_rfl) (by kernel_rfl) (fun _ _ _ h => h) (Or.inl ⟨by rfl, ?_⟩) hS ?_
            rotate_left
            · (intro W hSw; obtain ⟨q0, q1, q2, q3, q4, q5⟩ := hSw; go_simp; try with_reducible rfl)
            try simp only [List.getElem_toArray, List.getElem_cons_succ, List.getElem_cons_zero, Act.put, List.setIfInBounds_toArray, List.set_cons_zero, List.set_cons_succ]
            refine wpAnyH_take (i := 2) (v := ?_) rfl (by kernel_rfl) (by kernel_rfl) (by kernel_rfl) (fun _ _ _ h => h) (Or.inl ⟨by rfl, ?_⟩) hS ?_
            rotate_left
            · (intro W hSw; obtain ⟨q0, q1, q2, q3, q4, q5⟩ := hSw; go_simp; try with_reducible rfl)
            try simp only [List.getElem_toArray, List.getElem_cons_succ, List.getElem_cons_zero, Act.put, List.setIfInBounds_toArray, List.set_cons_zero, List.set_cons_succ]
            refine wpAnyH_take (i := 3) (v := ?_) rfl (by kernel_rfl) (by kernel_rfl) (by kernel_rfl) (fun _ _ _ h => h) (Or.inl ⟨by rfl, ?_⟩) hS ?_
            rotate_left
            · (intro W hSw; obtain ⟨q0, q1, q2, q3, q4, q5⟩ := hSw; go_simp; try with_reducible rfl)
            try simp only [List.getElem_toArray, List.getElem_cons_succ, List.getElem_cons_zero, Act.put, List.setIfInBounds_toArray, List.set_cons_zero, List.set_cons_succ]
            refine wpAnyH_take (i := 4) (v := ?_) rfl (by kernel_rfl) (by kernel_rfl) (by kernel_rfl) (fun _ _ _ h => h) (Or.inl ⟨by rfl, ?_⟩) hS ?_
            rotate_left
            · (intro W hSw; obtain ⟨q0, q1, q2, q3, q4, q5⟩ := hSw; go_simp; try with_reducible rfl)
            try simp only [List.getElem_toArray, List.getElem_cons_succ, List.getElem_cons_zero, Act.put, List.setIfInBounds_toArray, List.set_cons_zero, List.set_cons_succ]
            refine wpAnyH_take (i := 5) (v := ?_) rfl (by kernel_rfl) (by kernel_rfl) (by kernel_rfl) (fun _ _ _ h => h) (Or.inl ⟨by rfl, ?_⟩) hS ?_
            rotate_left
            · (intro W hSw; obtain ⟨q0, q1, q2, q3, q4, q5⟩ := hSw; go_simp; try with_reducible rfl)
            try simp only [List.getElem_toArray, List.getElem_cons_succ, List.getElem_cons_zero, Act.put, List.setIfInBounds_toArray, List.set_cons_zero, List.set_cons_succ]
            refine wpAnyH_take (i := 6) (v := ?_) rfl (by kernel_rfl) (by kernel_rfl) (by kernel_rfl) (fun _ _ _ h => h) (Or.inl ⟨by rfl, ?_⟩) hS ?_
            rotate_left
            · (intro W hSw; obtain ⟨q0, q1, q2, q3, q4, q5⟩ := hSw; go_simp; try with_reducible rfl)
            try simp only [List.getElem_toArray, List.getElem_cons_succ, List.getElem_cons_zero, Act.put, List.setIfInBounds_toArray, List.set_cons_zero, List.set_cons_succ]
            have hc := fewestS_any j.st (.slice ao nb cap) (lo, hi) D (HBS.out.later HB7.out.size (fun k h1 _ => HB7.out.block k h1)).low9
            have hsv : stackV j.st (.slice ao nb cap) = .agg #[.slice ao nb cap, .int .i64 fl, .int .i64 fh] := by unfold stackV; rw [← HFL.out.1, ← HFL.out.2]
            rw [hsv] at hc
            refine wpAnyH_call (k := 7) (by kernel_rfl) rfl rfl (f := 23) (args := #[.agg #[.slice ao nb cap, .int .i64 fl, .int .i64 fh], .agg #[.int .i64 lo, .int .i64 hi]]) (by simp [execOp, go_sem, Act.eval, Act.put]) ?_
            refine hc.mono ?_
            rintro e w7 ⟨rfl, hb⟩
            clear hc hsv
            dsimp only
            obtain ⟨fx, hfx⟩ : ∃ y, y = fewestS j.st (lo, hi) := ⟨_, rfl⟩
            rw [← hfx] at HWA ⊢
            have HPX7 := Lib.hid (HPX.out.later (hb6D.trans (hb.mono hb6D.size)).size (fun k h _ => (hb6D.trans (hb.mono hb6D.size)).block k h)).low9
            have HBw7 := Lib.hid (HB7.out.trans (hb.mono HB7.out.size))
            have hS7 := hS.below hb
            clear hb hS hfx hb6D hAD
            refine ⟨hS7, ?_⟩
            have hS := hS7
            clear hS7
            try simp only [List.getElem_toArray, List.getElem_cons_succ, List.getElem_cons_zero, Act.put, List.setIfInBounds_toArray, List.set_cons_zero, List.set_cons_succ]
            refine wpAnyH_take (i := 8) (v := ?_) rfl (by kernel_rfl) (by kernel_rfl) (by kernel_rfl) (fun _ _ _ h => h) (Or.inl ⟨by rfl, ?_⟩) hS ?_
            rotate_left
            · (intro W hSw; obtain ⟨q0, q1, q2, q3, q4, q5⟩ := hSw; go_simp; try with_reducible rfl)
            try simp only [List.getElem_toArray, List.getElem_cons_succ, List.getElem_cons_zero, Act.put, List.setIfInBounds_toArray, List.set_cons_zero, List.set_cons_succ]
            refine wpAnyH_take (i := 9) (v := ?_) rfl (by kernel_rfl) (by kernel_rfl) (by kernel_rfl) (fun _ _ _ h => h) (Or.inl ⟨by rfl, ?_⟩) hS ?_
            rotate_left
            · (intro W hSw; obtain ⟨q0, q1, q2, q3, q4, q5⟩ := hSw; go_simp; try with_reducible rfl)
            try simp only [List.getElem_toArray, List.getElem_cons_succ, List.getElem_cons_zero, Act.put, List.setIfInBounds_toArray, List.set_cons_zero, List.set_cons_succ]
            refine wpAnyH_take (i := 10) (v := ?_) rfl (by kernel_rfl) (by kernel_rfl) (by kernel_rfl) (fun _ _ _ h => h) (Or.inl ⟨by rfl, ?_⟩) hS ?_
            rotate_left
            · (intro W hSw; obtain ⟨q0, q1, q2, q3, q4, q5⟩ := hSw; go_simp; try with_reducible rfl)
            try simp only [List.getElem_toArray, List.getElem_cons_succ, List.getElem_cons_zero, Act.put, List.setIfInBounds_toArray, List.set_cons_zero, List.set_cons_succ]
            refine wpAnyH_take (i := 11) (v := ?_) rfl (by kernel_rfl) (by kernel_rfl) (by kernel_rfl) (fun _ _ _ h => h) (Or.inl ⟨by rfl, ?_⟩) hS ?_
            rotate_left
            · (intro W hSw; obtain ⟨q0, q1, q2, q3, q4, q5⟩ := hSw; go_simp; try with_reducible rfl)
            try simp only [List.getElem_toArray, List.getElem_cons_succ, List.getElem_cons_zero, Act.put, List.setIfInBounds_toArray, List.set_cons_zero, List.set_cons_succ]
            refine wpAnyH_take (i := 12) (v := ?_) rfl (by kernel_rfl) (by kernel_rfl) (by kernel_rfl) (fun _ _ _ h => h) (Or.inl ⟨by rfl, ?_⟩) hS ?_
            rotate_left
            · (intro W hSw; obtain ⟨q0, q1, q2, q3, q4, q5⟩ := hSw; go_simp; try with_reducible rfl)
            try simp only [List.getElem_toArray, List.getElem_cons_succ, List.getElem_cons_zero, Act.put, List.setIfInBounds_toArray, List.set_cons_zero, List.set_cons_succ]
            refine wpAnyH_done (by kernel_rfl) ?_ _
            try simp only [List.getElem_toArray, List.getElem_cons_succ, List.getElem_cons_zero, Act.put, List.setIfInBounds_toArray, List.set_cons_zero, List.set_cons_succ]
            obtain ⟨c0, c1, c2, c3, _, _⟩ := id hS
            clear hS
            go_wp2_with fail
            have hc := Alone_any j (.slice ao nb cap) (.slice (some ⟨wb, wo, none⟩) nw cap2) w7 (HBS.out.later HBw7.out.size (fun k h1 _ => HBw7.out.block k h1)).low9 (HWS.out.later HBw7.out.size (fun k h1 _ => HBw7.out.block k h1)).low9
            rw [HJV.out] at hc
            refine hc.mono ?_
            rw [alonejD_ok HV.out]
            rintro e w8 ⟨rfl, hb⟩
            clear hc c0 c1 c2 c3
            dsimp only
            have HPX8 := Lib.hid (HPX7.out.later hb.size (fun k h _ => hb.block k h)).low9
            have HBw8 := Lib.hid (HBw7.out.trans (hb.mono HBw7.out.size))
            obtain ⟨al, hal⟩ : ∃ y, y = aloneN j := ⟨_, rfl⟩
            have hal16 : al < 2 ^ nw := by rw [hal, HNW.out]; exact alonej_lt j
            rw [← hal] at HWA ⊢
            clear hb hal
            have hal8 : al < 256 := Nat.lt_of_lt_of_le hal16 (Nat.le_trans (Nat.pow_le_pow_right (by decide) hnw4) (by decide : 2 ^ 4 ≤ 256))
            have hq8 : q < 8 := Nat.lt_of_lt_of_le hqn (Nat.le_trans hnw4 (by decide))
            have hb1 := bit1_i64 ⟨q, hq8⟩ ⟨al, hal8⟩
            have hq0 : 0 ≤ (q : Int) := by omega
            dsimp only at hb1
            rcases HWA.out with ⟨g1, g2, g3, g4⟩ | ⟨t, g1, g2, g3, g4⟩
            · rw [g3] at hb1
              rw [g1] at HPX8 ⊢
              rw [g2]
              rw [HC.out] at g4
              cases g4
            · rw [g3] at hb1
              rw [g1] at HPX8 ⊢
              rw [g2]
              obtain ⟨a9, c9, e9, _, _, hel⟩ := HPX8.out
              injection e9 with e1 e2 e3
              subst e1 e3
              clear e2
              obtain ⟨tb, to, rfl, _, _, e6⟩ := hel 0 (by simp)
              have e6 : w8.cell? ⟨tb, to, none⟩ = some (.int .i64 t) := e6
              clear hel HWA HPX HPX7 HPX8 g1 g2 g3
              go_wp2_with fail
              refine (lawake_any _ (HTZ.out.below HBw8.out h1z)).mono ?_
              rintro e w9 ⟨rfl, hb9⟩
              dsimp only
              have HB9 := Lib.hid (HBw8.out.trans (hb9.mono HBw8.out.size))
              clear hb9
              go_wp2_with fail
              go_ret
              exact ⟨rfl, HB9.out⟩
end Go.Proofs.YtbmfphiecllggaaDoor

/- JobPlan: the law returns true, and its arguments read as they did. -/
namespace Go.Proofs.YtbmfphiecllggaaDoor
set_option linter.unusedVariables false
set_option linter.unusedSimpArgs false
open Go.ChangeShapes Go.WideShapes Go.ChangeAt Go.RowKit Go.Deep
set_option maxRecDepth 100000 in
theorem jobPlan_lifted (os : Os) (started : os.Started) (H : Type) (enc : TypeId × Value → H) :
    ReturnsInHanded {} Tryd.checked os 6 .any (fun w args => (Rows.jobPlanSpec.pre enc Tryd.prog Tryd.f6 [] false w args ∧ laidMetH Tryd.prog laidB w) ∧ sizedMet enc Tryd.prog Tryd.f6 (OpenSpec.ofChange Rows.jobPlanSpec) false w args)
      (Rows.jobPlanSpec.post enc Tryd.prog Tryd.f6 false true false false) := by
  refine returnsInHanded_of_change_and (C := Tryd.checked) (X := fun w _ => laidMetH Tryd.prog laidB w) (fun _ _ _ hh h => h.of_heap hh) own_knob started (by kernel_rfl) Tryd.func6
    (ChangeSpec.witness_shaped (enc := enc) (C := Tryd.checked) (os := os) (X := fun w _ => laidMetH Tryd.prog laidB w) false (World.doorLaid Tryd.prog 400 os) #[.agg #[.slice none 0 0, .int .i64 0, .int .i64 0, .slice none 0 0], .slice none 0 0, .int .u8 0] 8 rfl (World.shaped_of_RefB (by kernel_rfl) (by kernel_rfl)) (by kernel_rfl) (by kernel_rfl) (by kernel_rfl) (door_met os _)) ?_
  intro W base args ds gs before hval0 hW _ _ hL _
  have hval : ∀ (j : Nat) t v, Tryd.f6.params[j]? = some t → args[j]? = some v → Value.okWide Tryd.prog W .any base t v := hval0
  have hW' := hW
  obtain ⟨p, q, hA0, hV, rfl, hfz, hnd⟩ := hW
  have hA : DataW.TrodAll enc Tryd.prog W 0 (fun _ => true) true Tryd.f6.params.toList args.toList ds p := hA0
  rw [Tryd.params6] at hA hval
  obtain ⟨rfl, rfl⟩ := trodVars_none hV
  clear hA0 hval0
  simp only [List.append_nil] at hW'
  have hst := hA
  have htz := of_laid hL
  obtain ⟨v0, v1, v2, d0, d1, d2, p0, p1, p2, rfl, rfl, rfl, h0, h1, h2⟩ := trodAll_three hA
  obtain ⟨j, bs, ws, rfl, hbs, hws⟩ := open_jobV (hval 0 _ _ rfl rfl) h0
  obtain ⟨fuel, hf⟩ := h1
  obtain ⟨ao, len, cap, rfl⟩ := okWide_slice Tryd.underlying49 (hval 1 _ _ rfl rfl)
  obtain ⟨l, hus⟩ := open_smallV (v := .slice ao len cap) Tryd.underlying49 (by kernel_rfl) (by kernel_rfl) (fun _ h => by have := u8_range h; omega) hf
  obtain ⟨x, rfl, _, _, hx⟩ := Go.ChangeShapes.open_int under_u8 (hval 2 _ _ rfl rfl) h2
  refine (lplan_any j bs ws l _ x (u8_range hx) W hbs hws hus htz).mono fun e W' ⟨he, hb⟩ => ?_
  subst he
  exact ⟨_, rfl, lawEnd hW' rfl hst rfl (by decide +kernel) rfl rfl hb⟩
theorem jobPlan_over : Rows.jobPlanRow.holds Tryd.pinned (OpenSpec.ofChange Rows.jobPlanSpec) :=
  OpenClaim.holds_of_wide 6 Tryd.f6 rfl rfl rfl rfl rfl rfl rfl ⟨rfl, rfl, rfl, rfl, rfl⟩ rfl rfl rfl rfl rfl (by kernel_rfl) Tryd.func6 (by kernel_rfl)
    (of_decide_eq_true (by kernel_rfl)) (by unfold Func.isWrapper; first | (rw [if_pos (by decide +kernel)]; kernel_rfl) | (rw [if_neg (by decide +kernel)]; exact ⟨rfl, rfl⟩))
    (fun os started H enc _ => jobPlan_lifted os started H enc)
theorem job_plan : Rows.JobPlanCardSaid :=
  Claim7.holds_tied_plain_at .later [] [.data, .data] true (true, "0142e81380ab833cdd0b1d3ff1be0aee862e67f2dcc1be2b06267f938ad4868f") true
    jobPlan_over (fun _ h => by cases h) (by kernel_rfl) (fun _ h => by cases h) jobPlan_row_tie rfl ⟨rfl, rfl⟩ (by kernel_rfl) rfl
    (fun f fn hf hfn => by
      obtain rfl : f = 6 := Option.some.inj ((show Tryd.prog.funcNamed "blockworks/blockworkslaw12.JobPlan" = some 6 by kernel_rfl).symm.trans hf) |>.symm
      obtain rfl : fn = Tryd.f6 := (Option.some.inj (Tryd.func6.symm.trans hfn)).symm
      exact ⟨by kernel_rfl, fun j t ht => by
        rw [Tryd.params6] at ht
        have hm : t ∈ [28, 49, 5] := by simpa using Array.mem_of_getElem? ht
        have hall : ([28, 49, 5].all fun u => !Tryd.prog.wantsStandIn u) = true := by kernel_rfl
        exact (show Tryd.prog.wantsStandIn t = false by simpa using List.all_eq_true.1 hall t hm)⟩)
    (by kernel_rfl)
#print axioms job_plan
end Go.Proofs.YtbmfphiecllggaaDoor
