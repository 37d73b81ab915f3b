/- Texts Hg, Hh in one file; each begins with a word on what it proves. -/
import Derived.Test.YtbmfphiecllggaaDoorTie
import Derived.Test.YtbmfphiecllggaaDoorCards
import Derived.SevenTiedAt
import Derived.Test.YtbmfphiecllggaaDoorKm
import Derived.Test.YtbmfphiecllggaaDoorKf
import Derived.Test.YtbmfphiecllggaaDoorKg
import Derived.Test.YtbmfphiecllggaaDoorKj

/- JobLend, walked. -/
namespace Go.Proofs.YtbmfphiecllggaaDoor
set_option linter.unusedVariables false
set_option linter.unusedSimpArgs false
open Go.RowKit Go.Shelf
attribute [local go_sem] Oper.semAt_some

theorem plan_less (b : Nat) : ∀ {Rs : List (List Nat)} {av av' : Nat} {l : List Nat}, PlanJ Rs av l → (∀ i, av.testBit i = true → i ≠ b → av'.testBit i = true) → (∀ s ∈ l, s.testBit b = false) → PlanJ Rs av' l
  | [], _, _, _, h, _, _ => h
  | R :: Rs, av, av', l, h, hs, hb => by
    obtain ⟨s, t, rfl, h1, h2, h3⟩ := h
    rw [subJ_iff] at h2
    have hsb := hb s List.mem_cons_self
    refine ⟨s, t, rfl, h1, (subJ_iff _ _).2 fun i hi => hs i (h2 i hi) (fun e => by rw [e, hsb] at hi; cases hi), ?_⟩
    refine plan_less b h3 (fun i hi hne => ?_) (fun x hx => hb x (List.mem_cons_of_mem _ hx))
    rw [afterJ_bit] at hi ⊢
    rw [Bool.and_eq_true] at hi ⊢
    exact ⟨hs i hi.1 hne, hi.2⟩
theorem union_bit : ∀ (l : List Nat) (u i : Nat), (l.foldl (· ||| ·) u).testBit i = (u.testBit i || l.any (fun s => s.testBit i))
  | [], u, i => by simp
  | s :: l, u, i => by rw [List.foldl_cons, union_bit l (u ||| s) i, Nat.testBit_or, List.any_cons, Bool.or_assoc]
/-- A block that a plan leaves over is one to be lent. -/
theorem lend_unused {x : JobD} {p : List Nat} (hp : PlanJ (rightsD x) (allD x) p) {b : Nat} (hb : b < x.st.bs.length) (hu : (unionJ p).testBit b = false) : (lendN x).testBit b = true := by
  unfold lendN
  rw [setJ_bit, decide_eq_true hb, Bool.true_and]
  unfold scoreD everyD
  rw [show x.ws.length = (rightsD x).length by simp [rightsD], sel_allJ]
  unfold unionJ at hu
  rw [union_bit, Nat.zero_testBit, Bool.false_or] at hu
  have hn : ∀ s ∈ p, s.testBit b = false := fun s hs => by
    cases h : s.testBit b with
    | false => rfl
    | true => rw [List.any_eq_true.2 ⟨s, hs, h⟩] at hu; cases hu
  have h2 : PlanJ (rightsD x) (afterJ (allD x) (2 ^ b)) p := plan_less b hp (fun i hi hne => by
    rw [afterJ_bit, hi, Nat.testBit_two_pow]
    simp
    omega) hn
  cases h : scoreJ 8 (rightsD x) (afterJ (allD x) (2 ^ b)) with
  | some _ => rfl
  | none => exact absurd h2 ((score_specJ 8 (rightsD x) (afterJ (allD x) (2 ^ b))).1 h p)
theorem lend_cover {x : JobD} {p : List Nat} (hp : PlanJ (rightsD x) (allD x) p) : afterJ (afterJ (allD x) (lendN x)) (unionJ p) = 0 := by
  apply Nat.eq_of_testBit_eq
  intro i
  rw [afterJ_bit, afterJ_bit, Nat.zero_testBit]
  unfold allD
  rw [Nat.testBit_two_pow_sub_one]
  by_cases hi : i < x.st.bs.length
  · rw [decide_eq_true hi]
    cases hu : (unionJ p).testBit i with
    | true => simp
    | false => rw [lend_unused hp hi hu]; rfl
  · rw [decide_eq_false hi]; rfl
theorem lend_lt (x : JobD) : lendN x < 2 ^ x.st.bs.length := setJ_lt _ _
theorem lendD_cannot {x : JobD} (hv : validJb x = true) (hc : canD x (everyD x) = false) : lendD x = (0, 4) := by
  unfold lendD; rw [errD_ok hv, if_neg (by decide), hc]; rfl
theorem andn_i64 (a b : Nat) (ha : a < 256) (hb : b < 256) : bits .andNot .i64 (a : Int) (b : Int) = ((afterJ a b : Nat) : Int) := by
  have hx : afterJ a b < 2 ^ 8 := afterJ_lt 8 a b ha
  show IntKind.i64.wrap ((BitVec.ofInt 64 (a : Int) &&& ~~~ BitVec.ofInt 64 (b : Int)).toNat : Int) = _
  rw [BitVec.toNat_and, BitVec.toNat_not, ofInt_i64 a (by omega), ofInt_i64 b (by omega)]
  rw [show (2 ^ 64 - 1 - b) = 18446744073709551615 - b by omega, and_notJ a b ha hb]
  exact IntWalk.i64_in _ (by omega)
set_option maxRecDepth 100000 in
set_option maxHeartbeats 8000000 in
theorem llend_any (j : JobD) (bs ws : Value) (l : List Int) (v : Value) (w : World) (hbs : SpansAt w bs j.st.bs (fun k => k < w.heap.size)) (hws : SpansAt w ws j.ws (fun k => k < w.heap.size)) (hus : SmallAt .u8 w v l (fun k => k < w.heap.size)) (htz : TabZ w) :
    Calls Tryd.prog 9 #[jobV j bs ws, v] w fun e w' => e = .returned (.bool true) ∧ Below w.heap.size w w' := by
  have HBS := Lib.hid hbs
  have HWS := Lib.hid hws
  have HUS := Lib.hid hus
  have HTZ := Lib.hid htz
  have h1z := htz.lt
  obtain ⟨ao, cap, hv1, _⟩ := id hbs
  obtain ⟨ao2, cap2, hv2, _⟩ := id hws
  obtain ⟨ao3, cap3, hv3, _⟩ := id hus
  subst hv1 hv2 hv3
  obtain ⟨nb, hnb⟩ : ∃ n, n = j.st.bs.length := ⟨_, rfl⟩
  obtain ⟨nw, hnw⟩ : ∃ n, n = j.ws.length := ⟨_, rfl⟩
  obtain ⟨nu, hnu⟩ : ∃ n, n = l.length := ⟨_, rfl⟩
  rw [← hnb] at HBS
  rw [← hnw] at HWS
  rw [← hnu] at HUS
  unfold jobV
  rw [← hnb, ← hnw, ← hnu]
  have HNB := Lib.hid hnb
  have HNW := Lib.hid hnw
  have HNU := Lib.hid hnu
  clear hbs hws hus htz hnb hnw hnu
  obtain ⟨fl, hfl⟩ : ∃ x, x = j.st.film.1 := ⟨_, rfl⟩
  obtain ⟨fh, hfh⟩ : ∃ x, x = j.st.film.2 := ⟨_, rfl⟩
  rw [← hfl, ← hfh]
  have HFL := Lib.hid (And.intro hfl hfh)
  clear hfl hfh
  have HJV := Lib.hid (show jobV j (.slice ao nb cap) (.slice ao2 nw cap2) = .agg #[.slice ao nb cap, .int .i64 fl, .int .i64 fh, .slice ao2 nw cap2] by unfold jobV; rw [← HFL.out.1, ← HFL.out.2])
  have HBw0 := Lib.hid (Below.alloc' w (.cells #[.slice ao nb cap, .int .i64 fl, .int .i64 fh, .slice ao2 nw cap2] 28))
  have HXw0 := Lib.hid (show (w.alloc (.cells #[.slice ao nb cap, .int .i64 fl, .int .i64 fh, .slice ao2 nw cap2] 28)).heap[w.heap.size]? = some (.cells #[.slice ao nb cap, .int .i64 fl, .int .i64 fh, .slice ao2 nw cap2] 28 (0, 0)) from heap_alloc_at _ _ _ rfl)
  go_enter Tryd.func9, Tryd.ntmps9
  go_wp2_with fail
  have hc := fine_any j (.slice ao nb cap) (.slice ao2 nw cap2) _ (HBS.out.later HBw0.out.size (fun k h1 _ => HBw0.out.block k h1)).low9 (HWS.out.later HBw0.out.size (fun k h1 _ => HBw0.out.block k h1)).low9
  rw [HJV.out] at hc
  refine hc.mono ?_
  rintro e w1 ⟨rfl, hb⟩
  clear hc
  dsimp only
  have HXw1 := Lib.hid ((hb.block _ (lt_of_block HXw0.out)).trans HXw0.out)
  have HBw1 := Lib.hid (HBw0.out.trans (hb.mono HBw0.out.size))
  clear hb
  cases hv : validJb j with
  | false =>
    clear hv
    go_wp2_with fail
    refine (lawake_any _ (HTZ.out.below HBw1.out h1z)).mono ?_
    rintro e w9 ⟨rfl, hb9⟩
    dsimp only
    have HB9 := Lib.hid (HBw1.out.trans (hb9.mono HBw1.out.size))
    clear hb9
    go_wp2_with fail
    go_ret
    exact ⟨rfl, HB9.out⟩
  | true =>
    have HV := Lib.hid hv
    have hnw4 : nw ≤ 4 := by rw [HNW.out]; exact (validJb_parts hv).2.1
    have hnb8 : nb ≤ 8 := by rw [HNB.out]; exact (validSt_parts (validJb_parts hv).1).1
    have hp256 : 2 ^ nb ≤ 256 := (Nat.pow_le_pow_right (by decide) hnb8 : _ ≤ 2 ^ 8)
    obtain ⟨A, hA⟩ : ∃ A, A = allD j := ⟨_, rfl⟩
    have hA1 : A + 1 = 2 ^ nb := by have := Nat.two_pow_pos nb; rw [hA]; unfold allD; rw [← HNB.out]; omega
    have HA := Lib.hid hA
    clear hv hA
    have c0 : w1.cell? ⟨w.heap.size, 0, none⟩ = some (.slice ao nb cap) := by rw [cell_of_row _ _ _ _ _ _ HXw1.out]; rfl
    have c1 : w1.cell? ⟨w.heap.size, 1, none⟩ = some (.int .i64 fl) := by rw [cell_of_row _ _ _ _ _ _ HXw1.out]; rfl
    have c2 : w1.cell? ⟨w.heap.size, 2, none⟩ = some (.int .i64 fh) := by rw [cell_of_row _ _ _ _ _ _ HXw1.out]; rfl
    have c3 : w1.cell? ⟨w.heap.size, 3, none⟩ = some (.slice ao2 nw cap2) := by rw [cell_of_row _ _ _ _ _ _ HXw1.out]; rfl
    go_wp2_with fail
    have hc := Lend_any j (.slice ao nb cap) (.slice ao2 nw cap2) w1 (HBS.out.later HBw1.out.size (fun k h1 _ => HBw1.out.block k h1)).low9 (HWS.out.later HBw1.out.size (fun k h1 _ => HBw1.out.block k h1)).low9 (HTZ.out.below HBw1.out h1z)
    rw [HJV.out] at hc
    refine hc.mono ?_
    rintro e w2 ⟨rfl, hb⟩
    clear hc c0 c1 c2 c3
    dsimp only
    have HXw2 := Lib.hid ((hb.block _ (lt_of_block HXw1.out)).trans HXw1.out)
    have HBw2 := Lib.hid (HBw1.out.trans (hb.mono HBw1.out.size))
    clear hb
    have c0 : w2.cell? ⟨w.heap.size, 0, none⟩ = some (.slice ao nb cap) := by rw [cell_of_row _ _ _ _ _ _ HXw2.out]; rfl
    have c1 : w2.cell? ⟨w.heap.size, 1, none⟩ = some (.int .i64 fl) := by rw [cell_of_row _ _ _ _ _ _ HXw2.out]; rfl
    have c2 : w2.cell? ⟨w.heap.size, 2, none⟩ = some (.int .i64 fh) := by rw [cell_of_row _ _ _ _ _ _ HXw2.out]; rfl
    have c3 : w2.cell? ⟨w.heap.size, 3, none⟩ = some (.slice ao2 nw cap2) := by rw [cell_of_row _ _ _ _ _ _ HXw2.out]; rfl
    obtain ⟨ld, hld⟩ : ∃ x, x = lendD j := ⟨_, rfl⟩
    rw [← hld]
    have HLD := Lib.hid hld
    clear hld
    go_wp2_with fail
    have hc := Plan_any j (.slice ao nb cap) (.slice ao2 nw cap2) w2 (HBS.out.later HBw2.out.size (fun k h1 _ => HBw2.out.block k h1)).low9 (HWS.out.later HBw2.out.size (fun k h1 _ => HBw2.out.block k h1)).low9 (HTZ.out.below HBw2.out h1z)
    rw [HJV.out] at hc
    refine hc.mono ?_
    rintro e w3 ⟨pv, rfl, hpv, hb⟩
    clear hc c0 c1 c2 c3
    dsimp only
    have HXw3 := Lib.hid ((hb.block _ (lt_of_block HXw2.out)).trans HXw2.out)
    have HBw3 := Lib.hid (HBw2.out.trans (hb.mono HBw2.out.size))
    clear hb
    have c0 : w3.cell? ⟨w.heap.size, 0, none⟩ = some (.slice ao nb cap) := by rw [cell_of_row _ _ _ _ _ _ HXw3.out]; rfl
    have c1 : w3.cell? ⟨w.heap.size, 1, none⟩ = some (.int .i64 fl) := by rw [cell_of_row _ _ _ _ _ _ HXw3.out]; rfl
    have c2 : w3.cell? ⟨w.heap.size, 2, none⟩ = some (.int .i64 fh) := by rw [cell_of_row _ _ _ _ _ _ HXw3.out]; rfl
    have c3 : w3.cell? ⟨w.heap.size, 3, none⟩ = some (.slice ao2 nw cap2) := by rw [cell_of_row _ _ _ _ _ _ HXw3.out]; rfl
    obtain ⟨a6, c6, hpve, _⟩ := id hpv
    subst hpve
    cases hc : canD j (everyD j) with
    | false =>
      have h9 := planD_cannot HV.out hc
      have h8 := lendD_cannot HV.out hc
      rw [HLD.out, h8, h9]
      have hA0 : ¬ (A : Int) < 0 := by omega
      clear h8 h9 hc hpv
      go_wp2_with fail
      have hc := levery_any j nb cap ao (.slice ao2 nw cap2) HNB.out hnb8 w3
      rw [HJV.out, ← HA.out] at hc
      refine hc.mono ?_
      rintro e w4 ⟨rfl, hb⟩
      clear hc c0 c1 c2 c3
      dsimp only
      have HXw4 := Lib.hid ((hb.block _ (lt_of_block HXw3.out)).trans HXw3.out)
      have HBw4 := Lib.hid (HBw3.out.trans (hb.mono HBw3.out.size))
      clear hb
      go_wp2_with fail
      refine (lawake_any _ (HTZ.out.below HBw4.out h1z)).mono ?_
      rintro e w9 ⟨rfl, hb9⟩
      dsimp only
      have HB9 := Lib.hid (HBw4.out.trans (hb9.mono HBw4.out.size))
      clear hb9
      go_wp2_with fail
      go_ret
      exact ⟨rfl, HB9.out⟩
    | true =>
      have h9 := planD_can HV.out hc
      have h8 := lendD_can HV.out hc
      have hpl := can_told hc
      obtain ⟨p, hp⟩ : ∃ p, p = toldJ 8 (rightsD j) (allD j) := ⟨_, rfl⟩
      rw [← hp] at h9 hpl
      rw [h9] at hpv ⊢
      rw [HLD.out, h8]
      have hpf := plan_facts hpl
      have hplen : p.length = nw := by rw [hpf.len, HNW.out]
      rw [List.length_map, hplen] at hpv ⊢
      obtain ⟨ln, hln⟩ : ∃ x, x = lendN j := ⟨_, rfl⟩
      rw [← hln]
      have hln2 : ln < 2 ^ nb := by rw [hln, HNB.out]; exact lend_lt j
      have hln0 : ¬ (ln : Int) < 0 := by omega
      have hlnA : ¬ (A : Int) < (ln : Int) := by omega
      have HLN := Lib.hid hln
      have HPL := Lib.hid (And.intro hpl (And.intro hpf hplen))
      have HPV := Lib.hid hpv.low9
      clear h8 h9 hc hpv hp hpl hpf hplen hln
      go_wp2_with fail
      have hc := levery_any j nb cap ao (.slice ao2 nw cap2) HNB.out hnb8 w3
      rw [HJV.out, ← HA.out] at hc
      refine hc.mono ?_
      rintro e w4 ⟨rfl, hb⟩
      clear hc c0 c1 c2 c3
      dsimp only
      have HPV4 := Lib.hid (HPV.out.later hb.size (fun k h _ => hb.block k h)).low9
      have HXw4 := Lib.hid ((hb.block _ (lt_of_block HXw3.out)).trans HXw3.out)
      have HBw4 := Lib.hid (HBw3.out.trans (hb.mono HBw3.out.size))
      clear hb
      go_wp2_with fail
      have HPQ := Lib.hid (And.intro HPL.out.1 (And.intro (fun s hs => HPL.out.2.1.lt s hs) HPL.out.2.2))
      go_loopw [9, 67] (fun uv kv wr => ∃ k : Nat, k ≤ nw ∧ kv = .int .i64 k ∧ uv = .int .i64 (unionJ (p.take k) : Nat) ∧ w4 = wr) (fun _ kv _ => nw - (intOf kv).toNat)
      case atStart => exact ⟨0, Nat.zero_le _, rfl, rfl, rfl⟩
      case round =>
        obtain ⟨k, hk, rfl, rfl, hwr⟩ := hrel
        subst hwr
        have hus2 : unionJ (p.take k) < 2 ^ nb := by
          have := union_lt j.st.bs.length (p.take k) 0 (Nat.two_pow_pos _) (fun s hs => HPQ.out.2.1 s (List.mem_of_mem_take hs))
          rw [← HNB.out] at this
          exact this
        by_cases hlt : k < nw
        · obtain ⟨us, hus⟩ : ∃ x, x = unionJ (p.take k) := ⟨_, rfl⟩
          rw [← hus] at hus2 ⊢
          have hwk : IntKind.i64.wrap ((k : Int) + 1) = ((k + 1 : Nat) : Int) := by rw [IntWalk.i64_in _ (by omega)]; omega
          have hlti : (k : Int) < (nw : Int) := by omega
          have hkp : k < p.length := by rw [HPQ.out.2.2]; exact hlt
          obtain ⟨a9, c9, e9, _, _, hel⟩ := HPV4.out
          rw [List.length_map, HPQ.out.2.2] at e9
          injection e9 with e1 e2 e3
          subst e1 e3
          clear e2
          obtain ⟨pb, po, rfl, _, _, e3⟩ := hel k (by rw [List.length_map]; exact hkp)
          rw [List.getElem_map] at e3
          obtain ⟨s, hs⟩ : ∃ x, x = p[k] := ⟨_, rfl⟩
          have hs2 : s < 2 ^ nb := by rw [hs, HNB.out]; exact HPQ.out.2.1 _ (List.getElem_mem hkp)
          rw [← hs] at e3
          have hun : unionJ (p.take (k + 1)) = us ||| s := by rw [union_take p k hkp, ← hus, ← hs]
          have HUN := Lib.hid hun
          have hor := or_i64 us s (by omega) (by omega)
          obtain ⟨un, hune⟩ : ∃ x, x = us ||| s := ⟨_, rfl⟩
          rw [← hune] at hor
          have HUE := Lib.hid hune
          clear hus hs hel hun hune
          go_wp2_with fail
          exact ⟨⟨k + 1, hlt, by push_cast; rfl, by rw [HUN.out, ← HUE.out], trivial⟩, by simp [intOf]; omega⟩
        · have hkn : nw = k := by omega
          subst hkn
          have hlti : ¬ (nw : Int) < (nw : Int) := by omega
          rw [show p.take nw = p by rw [← HPQ.out.2.2]; exact List.take_length] at hus2 ⊢
          obtain ⟨us, hus⟩ : ∃ x, x = unionJ p := ⟨_, rfl⟩
          rw [← hus] at hus2 ⊢
          have HUS9 := Lib.hid hus
          clear hus hlt
          have c0 : w4.cell? ⟨w.heap.size, 0, none⟩ = some (.slice ao nb cap) := by rw [cell_of_row _ _ _ _ _ _ HXw4.out]; rfl
          have c1 : w4.cell? ⟨w.heap.size, 1, none⟩ = some (.int .i64 fl) := by rw [cell_of_row _ _ _ _ _ _ HXw4.out]; rfl
          have c2 : w4.cell? ⟨w.heap.size, 2, none⟩ = some (.int .i64 fh) := by rw [cell_of_row _ _ _ _ _ _ HXw4.out]; rfl
          have c3 : w4.cell? ⟨w.heap.size, 3, none⟩ = some (.slice ao2 nw cap2) := by rw [cell_of_row _ _ _ _ _ _ HXw4.out]; rfl
          go_wp2_with fail
          clear c0 c1 c2 c3
          go_loopw [79] (fun iv wr => ∃ i : Nat, i ≤ nb ∧ iv = .int .i64 i ∧ Below w4.heap.size w4 wr) (fun iv _ => nb - (intOf iv).toNat)
          case atStart => exact ⟨0, Nat.zero_le _, rfl, Below.refl _ _⟩
          case round =>
            obtain ⟨i, hi, rfl, hb⟩ := hrel
            have HXwr := Lib.hid ((hb.block _ (lt_of_block HXw4.out)).trans HXw4.out)
            have HBwr := Lib.hid (HBw4.out.trans (hb.mono HBw4.out.size))
            have HB4 := Lib.hid hb
            clear hb
            by_cases hlt : i < nb
            · have hw : IntKind.i64.wrap ((i : Int) + 1) = ((i + 1 : Nat) : Int) := by rw [IntWalk.i64_in _ (by omega)]; omega
              have hlti : (i : Int) < (nb : Int) := by omega
              have hi0 : 0 ≤ (i : Int) := by omega
              have c0 : wr.cell? ⟨w.heap.size, 0, none⟩ = some (.slice ao nb cap) := by rw [cell_of_row _ _ _ _ _ _ HXwr.out]; rfl
              have c1 : wr.cell? ⟨w.heap.size, 1, none⟩ = some (.int .i64 fl) := by rw [cell_of_row _ _ _ _ _ _ HXwr.out]; rfl
              have c2 : wr.cell? ⟨w.heap.size, 2, none⟩ = some (.int .i64 fh) := by rw [cell_of_row _ _ _ _ _ _ HXwr.out]; rfl
              have c3 : wr.cell? ⟨w.heap.size, 3, none⟩ = some (.slice ao2 nw cap2) := by rw [cell_of_row _ _ _ _ _ _ HXwr.out]; rfl
              go_wp2_with fail
              have hc := r12without_any j (by rw [← HNB.out]; exact hnb8) i (.slice ao nb cap) (.slice ao2 nw cap2) wr ⟨_, _, _, rfl⟩ (HBS.out.later HBwr.out.size (fun k h1 _ => HBwr.out.block k h1)).low9
              rw [HJV.out] at hc
              refine hc.mono ?_
              rintro e w5 ⟨⟨bv, rfl, hbv⟩, hb⟩
              clear hc c0 c1 c2 c3
              dsimp only
              obtain ⟨a7, c7, hbe, _⟩ := id hbv
              subst hbe
              obtain ⟨nq, hnq⟩ : ∃ n, n = (withoutD j i).st.bs.length := ⟨_, rfl⟩
              rw [← hnq] at hbv ⊢
              have hjy : jobV (withoutD j i) (.slice a7 nq c7) (.slice ao2 nw cap2) = .agg #[.slice a7 nq c7, .int .i64 fl, .int .i64 fh, .slice ao2 nw cap2] := by
                unfold jobV withoutD
                dsimp only
                rw [← HFL.out.1, ← HFL.out.2]
              rw [hjy]
              have HJY := Lib.hid hjy
              have HBV := Lib.hid hbv.low9
              have HB45 := Lib.hid (HB4.out.trans (hb.mono HB4.out.size))
              have HXw5 := Lib.hid ((hb.block _ (lt_of_block HXwr.out)).trans HXwr.out)
              have HBw5 := Lib.hid (HBwr.out.trans (hb.mono HBwr.out.size))
              clear hb
              clear hjy hnq hbv
              go_wp2_with fail
              have hc := Plan_any (withoutD j i) (.slice a7 nq c7) (.slice ao2 nw cap2) w5 HBV.out.low9 (HWS.out.later HBw5.out.size (fun k h1 _ => HBw5.out.block k h1)).low9 (HTZ.out.below HBw5.out h1z)
              rw [HJY.out] at hc
              refine hc.mono ?_
              rintro e w6 ⟨pv, rfl, hpv, hb⟩
              clear hc
              dsimp only
              obtain ⟨pe, hpe⟩ : ∃ x, x = (planD (withoutD j i)).2 := ⟨_, rfl⟩
              rw [← hpe]
              have hlb := lend_bit HV.out i (by rw [← HNB.out]; exact hlt)
              rw [← hpe, ← HLN.out] at hlb
              have hb1 := bit1_i64 ⟨i, by omega⟩ ⟨ln, by omega⟩
              have hb2 := bit0_i64 ⟨i, by omega⟩ ⟨ln, by omega⟩
              have hb3 := bit0_i64 ⟨i, by omega⟩ ⟨us, by omega⟩
              dsimp only at hb1 hb2 hb3
              have hlu : us.testBit i = false → ln.testBit i = true := fun h => by
                rw [HLN.out]
                exact lend_unused HPL.out.1 (by rw [← HNB.out]; exact hlt) (by rw [← HUS9.out]; exact h)
              obtain ⟨a8, c8, hve, _⟩ := id hpv
              subst hve
              have HB46 := Lib.hid (HB45.out.trans (hb.mono HB45.out.size))
              clear hpe hpv hb
              cases hbit : ln.testBit i with
              | true =>
                rw [hbit] at hlb hb1 hb2
                have hpe0 : pe = 0 := of_decide_eq_true hlb
                subst hpe0
                cases hbu : us.testBit i with
                | true =>
                  rw [hbu] at hb3
                  clear hlb hbit hlu hbu
                  go_wp2_with fail
                  exact ⟨⟨i + 1, hlt, by push_cast; rfl, HB46.out⟩, by simp [intOf]; omega⟩
                | false =>
                  rw [hbu] at hb3
                  clear hlb hbit hlu hbu
                  go_wp2_with fail
                  exact ⟨⟨i + 1, hlt, by push_cast; rfl, HB46.out⟩, by simp [intOf]; omega⟩
              | false =>
                rw [hbit] at hlb hb1 hb2
                have hpe0 : ¬ pe = 0 := of_decide_eq_false hlb
                have hbu : us.testBit i = true := by
                  cases h : us.testBit i with
                  | true => rfl
                  | false => have := hlu h; rw [hbit] at this; cases this
                rw [hbu] at hb3
                clear hlb hbit hlu hbu
                go_wp2_with fail
                exact ⟨⟨i + 1, hlt, by push_cast; rfl, HB46.out⟩, by simp [intOf]; omega⟩
            · have hin : nb = i := by omega
              subst hin
              have hlti : ¬ (nb : Int) < (nb : Int) := by omega
              clear hlt
              have c0 : wr.cell? ⟨w.heap.size, 0, none⟩ = some (.slice ao nb cap) := by rw [cell_of_row _ _ _ _ _ _ HXwr.out]; rfl
              have c1 : wr.cell? ⟨w.heap.size, 1, none⟩ = some (.int .i64 fl) := by rw [cell_of_row _ _ _ _ _ _ HXwr.out]; rfl
              have c2 : wr.cell? ⟨w.heap.size, 2, none⟩ = some (.int .i64 fh) := by rw [cell_of_row _ _ _ _ _ _ HXwr.out]; rfl
              have c3 : wr.cell? ⟨w.heap.size, 3, none⟩ = some (.slice ao2 nw cap2) := by rw [cell_of_row _ _ _ _ _ _ HXwr.out]; rfl
              go_wp2_with fail
              clear HPV HPV4 HPQ HUS9 hus2
              have hc := made_any j HV.out l (.slice ao3 nu cap3) (.slice ao nb cap) (.slice ao2 nw cap2) wr (HBS.out.later HBwr.out.size (fun k h1 _ => HBwr.out.block k h1)).low9 (HWS.out.later HBwr.out.size (fun k h1 _ => HBwr.out.block k h1)).low9 (by rw [HNU.out] at HUS ⊢; exact (HUS.out.later HBwr.out.size (fun k h1 _ => HBwr.out.block k h1)).mono (fun k h1 _ => h1))
              rw [HJV.out] at hc
              refine hc.mono ?_
              intro e w7 hm
              obtain ⟨hb, hm⟩ := made_cases hm
              rcases hm with ⟨_, _, rfl⟩ | ⟨p, v, hpl, hps, rfl, hpn⟩
              · clear hc c0 c1 c2 c3
                dsimp only
                have HXw7 := Lib.hid ((hb.block _ (lt_of_block HXwr.out)).trans HXwr.out)
                have HBw7 := Lib.hid (HBwr.out.trans (hb.mono HBwr.out.size))
                clear hb
                go_wp2_with fail
                refine (lawake_any _ (HTZ.out.below HBw7.out h1z)).mono ?_
                rintro e w9 ⟨rfl, hb9⟩
                dsimp only
                have HB9 := Lib.hid (HBw7.out.trans (hb9.mono HBw7.out.size))
                clear hb9
                go_wp2_with fail
                go_ret
                exact ⟨rfl, HB9.out⟩
              · clear hc c0 c1 c2 c3
                dsimp only
                obtain ⟨a8, c8, hve8, _⟩ := id hpn
                subst hve8
                have hpl2 : p.length = nw := by rw [hpl, HNW.out]
                rw [List.length_map, hpl2] at hpn ⊢
                have HPN := Lib.hid hpn.low9
                have HPM := Lib.hid (And.intro hpl (And.intro hps hpl2))
                clear hpl hps hpl2 hpn
                have HXw7 := Lib.hid ((hb.block _ (lt_of_block HXwr.out)).trans HXwr.out)
                have HBw7 := Lib.hid (HBwr.out.trans (hb.mono HBwr.out.size))
                clear hb
                have c0 : w7.cell? ⟨w.heap.size, 0, none⟩ = some (.slice ao nb cap) := by rw [cell_of_row _ _ _ _ _ _ HXw7.out]; rfl
                have c1 : w7.cell? ⟨w.heap.size, 1, none⟩ = some (.int .i64 fl) := by rw [cell_of_row _ _ _ _ _ _ HXw7.out]; rfl
                have c2 : w7.cell? ⟨w.heap.size, 2, none⟩ = some (.int .i64 fh) := by rw [cell_of_row _ _ _ _ _ _ HXw7.out]; rfl
                have c3 : w7.cell? ⟨w.heap.size, 3, none⟩ = some (.slice ao2 nw cap2) := by rw [cell_of_row _ _ _ _ _ _ HXw7.out]; rfl
                go_wp2_with fail
                have hc := Check_any j (.slice ao nb cap) (.slice ao2 nw cap2) (p.map fun s : Nat => (s : Int)) (.slice a8 nw c8) w7 (HBS.out.later HBw7.out.size (fun k h1 _ => HBw7.out.block k h1)).low9 (HWS.out.later HBw7.out.size (fun k h1 _ => HBw7.out.block k h1)).low9 HPN.out (by rw [List.length_map, HPM.out.2.2]; omega)
                rw [HJV.out] at hc
                refine hc.mono ?_
                rintro e w8 ⟨rfl, hb⟩
                clear hc c0 c1 c2 c3
                dsimp only
                have HPN8 := Lib.hid (HPN.out.later hb.size (fun k h _ => hb.block k h)).low9
                have HXw8 := Lib.hid ((hb.block _ (lt_of_block HXw7.out)).trans HXw7.out)
                have HBw8 := Lib.hid (HBw7.out.trans (hb.mono HBw7.out.size))
                clear hb
                rcases check_cases HV.out HPM.out.1 HPM.out.2.1 with ⟨hpj, hck⟩ | ⟨ca, cb, hck⟩
                · rw [hck]
                  have HPQ := Lib.hid (And.intro hpj (And.intro (fun s hs => (HPM.out.2.1 s hs).2) HPM.out.2.2))
                  clear hck hpj
                  dsimp only
                  go_wp2_with fail
                  go_loopw [20, 133] (fun uv kv wr => ∃ k : Nat, k ≤ nw ∧ kv = .int .i64 k ∧ uv = .int .i64 (unionJ (p.take k) : Nat) ∧ w8 = wr) (fun _ kv _ => nw - (intOf kv).toNat)
                  case atStart => exact ⟨0, Nat.zero_le _, rfl, rfl, rfl⟩
                  case round =>
                    obtain ⟨k, hk, rfl, rfl, hwr⟩ := hrel
                    subst hwr
                    have hus2 : unionJ (p.take k) < 2 ^ nb := by
                      have := union_lt j.st.bs.length (p.take k) 0 (Nat.two_pow_pos _) (fun s hs => HPQ.out.2.1 s (List.mem_of_mem_take hs))
                      rw [← HNB.out] at this
                      exact this
                    by_cases hlt : k < nw
                    · obtain ⟨us, hus⟩ : ∃ x, x = unionJ (p.take k) := ⟨_, rfl⟩
                      rw [← hus] at hus2 ⊢
                      have hwk : IntKind.i64.wrap ((k : Int) + 1) = ((k + 1 : Nat) : Int) := by rw [IntWalk.i64_in _ (by omega)]; omega
                      have hlti : (k : Int) < (nw : Int) := by omega
                      have hkp : k < p.length := by rw [HPQ.out.2.2]; exact hlt
                      obtain ⟨a9, c9, e9, _, _, hel⟩ := HPN8.out
                      rw [List.length_map, HPQ.out.2.2] at e9
                      injection e9 with e1 e2 e3
                      subst e1 e3
                      clear e2
                      obtain ⟨pb, po, rfl, _, _, e3⟩ := hel k (by rw [List.length_map]; exact hkp)
                      rw [List.getElem_map] at e3
                      obtain ⟨s, hs⟩ : ∃ x, x = p[k] := ⟨_, rfl⟩
                      have hs2 : s < 2 ^ nb := by rw [hs, HNB.out]; exact HPQ.out.2.1 _ (List.getElem_mem hkp)
                      rw [← hs] at e3
                      have hun : unionJ (p.take (k + 1)) = us ||| s := by rw [union_take p k hkp, ← hus, ← hs]
                      have HUN := Lib.hid hun
                      have hor := or_i64 us s (by omega) (by omega)
                      obtain ⟨un, hune⟩ : ∃ x, x = us ||| s := ⟨_, rfl⟩
                      rw [← hune] at hor
                      have HUE := Lib.hid hune
                      clear hus hs hel hun hune
                      go_wp2_with fail
                      exact ⟨⟨k + 1, hlt, by push_cast; rfl, by rw [HUN.out, ← HUE.out], trivial⟩, by simp [intOf]; omega⟩
                    · have hkn : nw = k := by omega
                      subst hkn
                      have hlti : ¬ (nw : Int) < (nw : Int) := by omega
                      rw [show p.take nw = p by rw [← HPQ.out.2.2]; exact List.take_length] at hus2 ⊢
                      obtain ⟨us, hus⟩ : ∃ x, x = unionJ p := ⟨_, rfl⟩
                      rw [← hus] at hus2 ⊢
                      have HUS9 := Lib.hid hus
                      clear hus hlt
                      have c0 : w8.cell? ⟨w.heap.size, 0, none⟩ = some (.slice ao nb cap) := by rw [cell_of_row _ _ _ _ _ _ HXw8.out]; rfl
                      have c1 : w8.cell? ⟨w.heap.size, 1, none⟩ = some (.int .i64 fl) := by rw [cell_of_row _ _ _ _ _ _ HXw8.out]; rfl
                      have c2 : w8.cell? ⟨w.heap.size, 2, none⟩ = some (.int .i64 fh) := by rw [cell_of_row _ _ _ _ _ _ HXw8.out]; rfl
                      have c3 : w8.cell? ⟨w.heap.size, 3, none⟩ = some (.slice ao2 nw cap2) := by rw [cell_of_row _ _ _ _ _ _ HXw8.out]; rfl
                      go_wp2_with fail
                      have hc := levery_any j nb cap ao (.slice ao2 nw cap2) HNB.out hnb8 w8
                      rw [HJV.out, ← HA.out] at hc
                      refine hc.mono ?_
                      rintro e w10 ⟨rfl, hb⟩
                      clear hc c0 c1 c2 c3
                      dsimp only
                      have HXw10 := Lib.hid ((hb.block _ (lt_of_block HXw8.out)).trans HXw8.out)
                      have HBw10 := Lib.hid (HBw8.out.trans (hb.mono HBw8.out.size))
                      clear hb
                      have hand1 := andn_i64 A ln (by omega) (by omega)
                      have hcov := lend_cover HPQ.out.1
                      rw [← HA.out, ← HLN.out, ← HUS9.out] at hcov
                      have haf8 : afterJ A ln < 2 ^ 8 := afterJ_lt 8 A ln (by omega)
                      obtain ⟨af, haf⟩ : ∃ x, x = afterJ A ln := ⟨_, rfl⟩
                      rw [← haf] at hand1 hcov haf8
                      have hand2 : bits .andNot .i64 (af : Int) (us : Int) = 0 := by rw [andn_i64 af us (by omega) (by omega), hcov]; rfl
                      clear hcov haf haf8
                      go_wp2_with fail
                      refine (lawake_any _ (HTZ.out.below HBw10.out h1z)).mono ?_
                      rintro e w9 ⟨rfl, hb9⟩
                      dsimp only
                      have HB9 := Lib.hid (HBw10.out.trans (hb9.mono HBw10.out.size))
                      clear hb9
                      go_wp2_with fail
                      go_ret
                      exact ⟨rfl, HB9.out⟩
                · rw [hck]
                  clear hck
                  dsimp only
                  go_wp2_with fail
                  refine (lawake_any _ (HTZ.out.below HBw8.out h1z)).mono ?_
                  rintro e w9 ⟨rfl, hb9⟩
                  dsimp only
                  have HB9 := Lib.hid (HBw8.out.trans (hb9.mono HBw8.out.size))
                  clear hb9
                  go_wp2_with fail
                  go_ret
                  exact ⟨rfl, HB9.out⟩
end Go.Proofs.YtbmfphiecllggaaDoor

/- JobLend: the law returns true, and its arguments read as they did. -/
namespace Go.Proofs.YtbmfphiecllggaaDoor
set_option linter.unusedVariables false
set_option linter.unusedSimpArgs false
open Go.ChangeShapes Go.WideShapes Go.ChangeAt Go.RowKit Go.Deep
set_option maxRecDepth 100000 in
theorem jobLend_lifted (os : Os) (started : os.Started) (H : Type) (enc : TypeId × Value → H) :
    ReturnsInHanded {} Tryd.checked os 9 .any (fun w args => (Rows.jobLendSpec.pre enc Tryd.prog Tryd.f9 [] false w args ∧ laidMetH Tryd.prog laidB w) ∧ sizedMet enc Tryd.prog Tryd.f9 (OpenSpec.ofChange Rows.jobLendSpec) false w args)
      (Rows.jobLendSpec.post enc Tryd.prog Tryd.f9 false true false false) := by
  refine returnsInHanded_of_change_and (C := Tryd.checked) (X := fun w _ => laidMetH Tryd.prog laidB w) (fun _ _ _ hh h => h.of_heap hh) own_knob started (by kernel_rfl) Tryd.func9
    (ChangeSpec.witness_shaped (enc := enc) (C := Tryd.checked) (os := os) (X := fun w _ => laidMetH Tryd.prog laidB w) false (World.doorLaid Tryd.prog 400 os) #[.agg #[.slice none 0 0, .int .i64 0, .int .i64 0, .slice none 0 0], .slice none 0 0] 8 rfl (World.shaped_of_RefB (by kernel_rfl) (by kernel_rfl)) (by kernel_rfl) (by kernel_rfl) (by kernel_rfl) (door_met os _)) ?_
  intro W base args ds gs before hval0 hW _ _ hL _
  have hval : ∀ (j : Nat) t v, Tryd.f9.params[j]? = some t → args[j]? = some v → Value.okWide Tryd.prog W .any base t v := hval0
  have hW' := hW
  obtain ⟨p, q, hA0, hV, rfl, hfz, hnd⟩ := hW
  have hA : DataW.TrodAll enc Tryd.prog W 0 (fun _ => true) true Tryd.f9.params.toList args.toList ds p := hA0
  rw [Tryd.params9] at hA hval
  obtain ⟨rfl, rfl⟩ := trodVars_none hV
  clear hA0 hval0
  simp only [List.append_nil] at hW'
  have hst := hA
  have htz := of_laid hL
  obtain ⟨v0, v1, d0, d1, p0, p1, rfl, rfl, rfl, h0, h1⟩ := trodAll_two hA
  obtain ⟨j, bs, ws, rfl, hbs, hws⟩ := open_jobV (hval 0 _ _ rfl rfl) h0
  obtain ⟨fuel, hf⟩ := h1
  obtain ⟨ao, len, cap, rfl⟩ := okWide_slice Tryd.underlying49 (hval 1 _ _ rfl rfl)
  obtain ⟨l, hus⟩ := open_smallV (v := .slice ao len cap) Tryd.underlying49 (by kernel_rfl) (by kernel_rfl) (fun _ h => by have := u8_range h; omega) hf
  refine (llend_any j bs ws l _ W hbs hws hus htz).mono fun e W' ⟨he, hb⟩ => ?_
  subst he
  exact ⟨_, rfl, lawEnd hW' rfl hst rfl (by decide +kernel) rfl rfl hb⟩
theorem jobLend_over : Rows.jobLendRow.holds Tryd.pinned (OpenSpec.ofChange Rows.jobLendSpec) :=
  OpenClaim.holds_of_wide 9 Tryd.f9 rfl rfl rfl rfl rfl rfl rfl ⟨rfl, rfl, rfl, rfl, rfl⟩ rfl rfl rfl rfl rfl (by kernel_rfl) Tryd.func9 (by kernel_rfl)
    (of_decide_eq_true (by kernel_rfl)) (by unfold Func.isWrapper; first | (rw [if_pos (by decide +kernel)]; kernel_rfl) | (rw [if_neg (by decide +kernel)]; exact ⟨rfl, rfl⟩))
    (fun os started H enc _ => jobLend_lifted os started H enc)
theorem job_lend : Rows.JobLendCardSaid :=
  Claim7.holds_tied_plain_at .later [] [.data, .data] true (true, "0142e81380ab833cdd0b1d3ff1be0aee862e67f2dcc1be2b06267f938ad4868f") true
    jobLend_over (fun _ h => by cases h) (by kernel_rfl) (fun _ h => by cases h) jobLend_row_tie rfl ⟨rfl, rfl⟩ (by kernel_rfl) rfl
    (fun f fn hf hfn => by
      obtain rfl : f = 9 := Option.some.inj ((show Tryd.prog.funcNamed "blockworks/blockworkslaw12.JobLend" = some 9 by kernel_rfl).symm.trans hf) |>.symm
      obtain rfl : fn = Tryd.f9 := (Option.some.inj (Tryd.func9.symm.trans hfn)).symm
      exact ⟨by kernel_rfl, fun j t ht => by
        rw [Tryd.params9] at ht
        have hm : t ∈ [28, 49] := by simpa using Array.mem_of_getElem? ht
        have hall : ([28, 49].all fun u => !Tryd.prog.wantsStandIn u) = true := by kernel_rfl
        exact (show Tryd.prog.wantsStandIn t = false by simpa using List.all_eq_true.1 hall t hm)⟩)
    (by kernel_rfl)
#print axioms job_lend
end Go.Proofs.YtbmfphiecllggaaDoor
