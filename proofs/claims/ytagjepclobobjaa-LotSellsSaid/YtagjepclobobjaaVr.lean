/- Texts Kc in one file; each begins with a word on what it proves. -/
import Derived.Test.YtagjepclobobjaaVo
import Derived.Test.YtagjepclobobjaaVh

/- Is a lot valid? The reference's walk. -/
namespace Go.Proofs.Ytagjepclobobjaa
set_option linter.unusedVariables false
set_option linter.unusedSimpArgs false
open Go.RowKit Go.Shelf
attribute [local go_sem] Oper.semAt_some

def payR (l : LotD) (i : Nat) : Bool := inN (l.pays.getD i 0) 0 100 && (decide (i = 0) || decide (l.pays.getD i 0 ≤ l.pays.getD (i - 1) 0))
def ordR (l : LotD) (i : Nat) : Bool := isGradeL l (l.orders.getD i (0, 0)).1 && inN (l.orders.getD i (0, 0)).2 1 6
theorem payR_upto (l : LotD) : ∀ n, (∀ i, i < n → payR l i = true) ↔ (∀ i, i < n → decide (0 ≤ l.pays.getD i 0 ∧ l.pays.getD i 0 ≤ (if i = 0 then 100 else l.pays.getD (i - 1) 0)) = true)
  | 0 => by simp
  | n + 1 => by
    have ih := payR_upto l n
    have hs : ∀ p : Nat → Prop, (∀ i, i < n + 1 → p i) ↔ (∀ i, i < n → p i) ∧ p n := fun p => ⟨fun h => ⟨fun i hi => h i (by omega), h n (by omega)⟩, fun h i hi => by
      by_cases he : i = n
      · subst he; exact h.2
      · exact h.1 i (by omega)⟩
    rw [hs, hs, ih]
    refine and_congr_right fun h => ?_
    have h0 : n = 0 ∨ l.pays.getD (n - 1) 0 ≤ 100 := by
      by_cases hn : n = 0
      · exact .inl hn
      · have := ih.2 h (n - 1) (by omega)
        unfold payR inN at this
        simp at this
        exact .inr this.1.2
    unfold payR inN
    by_cases hn : n = 0
    · subst hn
      simp
    · have h0 := h0.resolve_left hn
      rw [if_neg hn]
      generalize l.pays.getD n 0 = x at *
      generalize l.pays.getD (n - 1) 0 = y at *
      simp only [Bool.and_eq_true, Bool.or_eq_true, decide_eq_true_eq]
      omega
theorem all_range {α : Type} (xs : List α) (d : α) (f : α → Bool) : xs.all f = (List.range xs.length).all fun i => f (xs.getD i d) := by
  rw [Bool.eq_iff_iff, List.all_eq_true, List.all_eq_true]
  constructor
  · intro h i hi
    rw [List.mem_range] at hi
    rw [List.getD_eq_getElem?_getD, List.getElem?_eq_getElem hi]
    exact h _ (List.getElem_mem hi)
  · intro h x hx
    obtain ⟨i, hi, rfl⟩ := List.getElem_of_mem hx
    have := h i (List.mem_range.2 hi)
    rwa [List.getD_eq_getElem?_getD, List.getElem?_eq_getElem hi] at this
theorem validL_r (l : LotD) : validL l = (!decide (6 < (l.blocks.length : Int)) && !decide (4 < (l.orders.length : Int)) && inN l.lap 0 50 && decide ((l.pays.length : Int) = (l.lim.length : Int)) && (validG ⟨l.lim, zeroPts, l.step⟩ &&
    (((List.range l.blocks.length).all fun i => validG (gradeL l i)) && (((List.range l.pays.length).all fun i => payR l i) && ((List.range l.orders.length).all fun i => ordR l i))))) := by
  have h1 : ((List.range l.pays.length).all fun i => payR l i) = ((List.range l.pays.length).all fun i => decide (0 ≤ l.pays.getD i 0 ∧ l.pays.getD i 0 ≤ (if i = 0 then 100 else l.pays.getD (i - 1) 0))) := by
    rw [Bool.eq_iff_iff, List.all_eq_true, List.all_eq_true]
    simpa using payR_upto l l.pays.length
  have h2 : ((List.range l.orders.length).all fun i => ordR l i) = (l.orders.all fun o => decide (0 ≤ o.1 ∧ o.1 < (l.lim.length : Int) ∧ 1 ≤ o.2 ∧ o.2 ≤ 6)) := by
    rw [all_range l.orders (0, 0)]
    congr 1
    funext i
    unfold ordR isGradeL inN
    rw [← Bool.decide_and, decide_eq_decide]
    omega
  have h3 : ((List.range l.blocks.length).all fun i => validG (gradeL l i)) = l.blocks.all fun p => validG ⟨l.lim, p, l.step⟩ := by
    rw [all_range l.blocks []]
    rfl
  rw [h1, h2, h3]
  unfold validL inN
  generalize (l.blocks.all fun p => validG ⟨l.lim, p, l.step⟩) = A
  generalize ((List.range l.pays.length).all fun i => decide (0 ≤ l.pays.getD i 0 ∧ l.pays.getD i 0 ≤ (if i = 0 then 100 else l.pays.getD (i - 1) 0))) = B
  generalize (l.orders.all fun o => decide (0 ≤ o.1 ∧ o.1 < (l.lim.length : Int) ∧ 1 ≤ o.2 ∧ o.2 ≤ 6)) = C
  generalize validG ⟨l.lim, zeroPts, l.step⟩ = D
  rw [Bool.eq_iff_iff]
  simp only [Bool.and_eq_true, decide_eq_true_eq, Bool.not_eq_true', decide_eq_false_iff_not]
  constructor
  · rintro ⟨⟨⟨⟨⟨⟨⟨⟨h1, h2⟩, h3⟩, h4⟩, h5⟩, h6⟩, h7⟩, h8⟩, h9⟩
    exact ⟨⟨⟨⟨by omega, by omega⟩, ⟨h3, h4⟩⟩, by omega⟩, h6, h7, h8, h9⟩
  · rintro ⟨⟨⟨⟨h1, h2⟩, h3⟩, h4⟩, h6, h7, h8, h9⟩
    exact ⟨⟨⟨⟨⟨⟨⟨⟨by omega, by omega⟩, h3.1⟩, h3.2⟩, by omega⟩, h6⟩, h7⟩, h8⟩, h9⟩
set_option maxRecDepth 100000 in
set_option maxHeartbeats 8000000 in
theorem r13lot_any (l : LotD) (p : PartsL) (w : World) (hL : LotAt l p (fun k => k < w.heap.size) w) (h9 : Small9 l) :
    Calls Try.prog 21 #[lotV l p] w fun e w' => e = .returned (.bool (validL l)) ∧ Below w.heap.size w w' := by
  have HV := Lib.hid (validL_r l)
  obtain ⟨aol, capl, hlv, _⟩ := hL.lim
  obtain ⟨aob, capb, hbv, _⟩ := hL.blk
  obtain ⟨aop, capp, hpv, _, _, hep⟩ := hL.pay
  obtain ⟨aoo, capo, hov, _, _, heo⟩ := hL.ord
  have HL := Lib.hid hL
  have H9 := Lib.hid h9
  have HG := Lib.hid (show ∀ i, gradeL l i = ⟨l.lim, l.blocks.getD i [], l.step⟩ from fun _ => rfl)
  generalize hvv : validL l = vv at HV ⊢
  clear hvv hL
  obtain ⟨nl, hnl⟩ : ∃ k, k = l.lim.length := ⟨_, rfl⟩
  obtain ⟨nb, hnb⟩ : ∃ k, k = l.blocks.length := ⟨_, rfl⟩
  obtain ⟨np, hnp⟩ : ∃ k, k = l.pays.length := ⟨_, rfl⟩
  obtain ⟨no, hno⟩ : ∃ k, k = l.orders.length := ⟨_, rfl⟩
  obtain ⟨h9a, h9b, h9c, h9d⟩ := h9
  rw [← hnl] at hlv h9a HV
  rw [← hnb] at hbv h9b HV
  rw [← hnp] at hpv h9c HV
  rw [← hno] at hov h9d HV
  have HNL := Lib.hid hnl
  have HNB := Lib.hid hnb
  have HNP := Lib.hid hnp
  have HNO := Lib.hid hno
  have HEP := Lib.hid hep
  have HEO := Lib.hid heo
  obtain ⟨st, hst⟩ : ∃ x, x = l.step := ⟨_, rfl⟩
  obtain ⟨lp, hlp⟩ : ∃ x, x = l.lap := ⟨_, rfl⟩
  rw [← hlp, ← hst] at HV
  have HLV := Lib.hid (show lotV l p = .agg #[.slice aol nl capl, .int .i64 st, .slice aob nb capb, .slice aop np capp, .int .i64 lp, .slice aoo no capo] by unfold lotV lotC; rw [hlv, hbv, hpv, hov, hst, hlp])
  have HLIM := Lib.hid hlv
  have HST := Lib.hid hst
  clear hnl hnb hnp hno hep heo hlv hbv hpv hov hst hlp
  obtain ⟨row, hrw⟩ : ∃ c : Array Value, c = #[.slice aol nl capl, .int .i64 st, .slice aob nb capb, .slice aop np capp, .int .i64 lp, .slice aoo no capo] := ⟨_, rfl⟩
  have HW := Lib.hid hrw
  rw [HLV.out]
  clear hrw
  go_enter Try.func21, Try.ntmps21
  by_cases k1 : 6 < (nb : Int)
  · skip
    go_wp2
    refine bodyPost_ret (v := .bool false) (by simp [results, Try.results21, go_sem]) rfl ⟨congrArg (fun b => Ending.returned (Value.bool b)) ?_, below_allocG _ _⟩
    rw [HV.out]
    simp [k1]
  by_cases k2 : 4 < (no : Int)
  · skip
    go_wp2
    refine bodyPost_ret (v := .bool false) (by simp [results, Try.results21, go_sem]) rfl ⟨congrArg (fun b => Ending.returned (Value.bool b)) ?_, below_allocG _ _⟩
    rw [HV.out]
    simp [k2]
  go_wp2_with fail
  refine (r13in_any lp 0 50 _).mono ?_
  rintro e w1 ⟨rfl, rfl⟩
  cases k3 : inN lp 0 50 with
  | false =>
    dsimp only
    go_wp2
    refine bodyPost_ret (v := .bool false) (by simp [results, Try.results21, go_sem]) rfl ⟨congrArg (fun b => Ending.returned (Value.bool b)) ?_, below_allocG _ _⟩
    rw [HV.out]
    simp [k3]
  | true =>
  dsimp only
  by_cases k4 : (np : Int) = (nl : Int)
  case neg =>
    go_wp2
    refine bodyPost_ret (v := .bool false) (by simp [results, Try.results21, go_sem]) rfl ⟨congrArg (fun b => Ending.returned (Value.bool b)) ?_, below_allocG _ _⟩
    rw [HV.out]
    simp [k4]
  case pos =>
  obtain rfl : np = nl := by omega
  replace HV := Lib.hid (show _ = _ from HV.out.trans (by rw [k3, (by simpa using k1 : decide (6 < (nb : Int)) = false), (by simpa using k2 : decide (4 < (no : Int)) = false), decide_eq_true (rfl : (np : Int) = (np : Int))]))
  go_wp2_with fail
  have HAL : ∀ W, Below w.heap.size w W → LotAt l p (fun k => k < W.heap.size) W := fun W hb => (HL.out.later hb.size fun k h1 _ => hb.block k h1).low
  have HAL := Lib.hid HAL
  have hr0 : (w.alloc (.cells #[.slice aol np capl, .int .i64 st, .slice aob nb capb, .slice aop np capp, .int .i64 lp, .slice aoo no capo] 32)).heap[w.heap.size]? = some (.cells row 32 (0, 0)) := by rw [HW.out]; exact heap_alloc_at _ _ _ rfl
  refine (r7grade_any ⟨l.lim, zeroPts, st⟩ rfl (.slice aol np capl) _ (by rw [← HLIM.out]; exact (HAL.out _ (below_allocG _ _)).lim) H9.out.a).mono ?_
  rintro e w2 ⟨rfl, hb⟩
  have H2 := Lib.hid (show w2.heap[w.heap.size]? = some (.cells row 32 (0, 0)) ∧ Below w.heap.size w w2 from ⟨(hb.block _ (by simp)).trans hr0, (below_allocG _ _).trans (hb.mono (by simp))⟩)
  clear hb hr0
  cases k5 : validG ⟨l.lim, zeroPts, st⟩ with
  | false =>
    dsimp only
    go_wp2
    refine bodyPost_ret (v := .bool false) (by simp [results, Try.results21, go_sem]) rfl ⟨congrArg (fun b => Ending.returned (Value.bool b)) ?_, H2.out.2⟩
    rw [HV.out]
    simp [k5]
  | true =>
  dsimp only
  replace HV := Lib.hid (show _ = _ from HV.out.trans (by rw [k5, Bool.true_and]))
  have c2 : w2.cell? ⟨w.heap.size, 2, none⟩ = some (.slice aob nb capb) := by rw [cell_of_row _ _ _ _ _ _ H2.out.1, HW.out]; rfl
  go_wp2_with fail
  go_loopw [3] (fun iv wr => ∃ i : Nat, i ≤ nb ∧ iv = .int .i64 i ∧ (∀ j, j < i → validG (gradeL l j) = true) ∧ wr.heap[w.heap.size]? = some (.cells row 32 (0, 0)) ∧ Below w.heap.size w wr)
    (fun iv _ => nb - (intOf iv).toNat)
  case atStart => exact ⟨0, Nat.zero_le _, rfl, (fun j hj => by omega), H2.out.1, H2.out.2⟩
  case round =>
    clear c2
    obtain ⟨i, hi, rfl, hpre, hrow, hb⟩ := hrel
    have HPRE := Lib.hid hpre
    have HROW := Lib.hid hrow
    have HB := Lib.hid hb
    have HC := Lib.hid (show ∀ W : World, W.heap[w.heap.size]? = some (.cells row 32 (0, 0)) → ∀ q, W.cell? ⟨w.heap.size, q, none⟩ = (#[Value.slice aol np capl, .int .i64 st, .slice aob nb capb, .slice aop np capp, .int .i64 lp, .slice aoo no capo] : Array Value)[q]? from fun W h q => by rw [cell_of_row _ _ _ _ _ _ h, HW.out])
    have c0 : wr.cell? ⟨w.heap.size, 0, none⟩ = some (.slice aol np capl) := HC.out wr hrow 0
    have c1 : wr.cell? ⟨w.heap.size, 1, none⟩ = some (.int .i64 st) := HC.out wr hrow 1
    have c2 : wr.cell? ⟨w.heap.size, 2, none⟩ = some (.slice aob nb capb) := HC.out wr hrow 2
    have c3 : wr.cell? ⟨w.heap.size, 3, none⟩ = some (.slice aop np capp) := HC.out wr hrow 3
    have c4 : wr.cell? ⟨w.heap.size, 4, none⟩ = some (.int .i64 lp) := HC.out wr hrow 4
    have c5 : wr.cell? ⟨w.heap.size, 5, none⟩ = some (.slice aoo no capo) := HC.out wr hrow 5
    clear hpre hrow hb
    by_cases hlt : i < nb
    · have hlti : (i : Int) < (nb : Int) := by omega
      have hw : IntKind.i64.wrap ((i : Int) + 1) = ((i + 1 : Nat) : Int) := by rw [IntWalk.i64_in _ (by omega)]; omega
      go_wp2_with fail
      refine Calls.mono (by have h := r13grade_any l p i (by rw [← HNB.out]; exact hlt) wr (HAL.out _ HB.out) H9.out.b; rw [HLV.out] at h; exact h) ?_
      rintro e w3 ⟨rfl, hb⟩
      have H3 := Lib.hid (show w3.heap[w.heap.size]? = some (.cells row 32 (0, 0)) ∧ Below w.heap.size w w3 from ⟨(hb.block _ (lt_of_block HROW.out)).trans HROW.out, HB.out.trans (hb.mono HB.out.size)⟩)
      clear hb
      dsimp only
      go_wp2_with fail
      refine Calls.mono (r7grade_any (gradeL l i) (by obtain ⟨_, _, _, _, _, h⟩ := HL.out.blk; have := (h i (by rw [← HNB.out]; exact hlt)).1; unfold gradeL; rw [List.getD_eq_getElem?_getD, List.getElem?_eq_getElem (by rw [← HNB.out]; exact hlt)]; exact this) p.lims _ (HAL.out _ H3.out.2).lim H9.out.a) ?_
      rintro e w4 ⟨rfl, hb⟩
      have H4 := Lib.hid (show w4.heap[w.heap.size]? = some (.cells row 32 (0, 0)) ∧ Below w.heap.size w w4 from ⟨(hb.block _ (lt_of_block H3.out.1)).trans H3.out.1, H3.out.2.trans (hb.mono H3.out.2.size)⟩)
      clear hb H3 c0 c1 c2 c3 c4 c5
      cases k6 : validG (gradeL l i) with
      | false =>
        dsimp only
        have hf : ((List.range nb).all fun i => validG (gradeL l i)) = false := by
          refine Bool.eq_false_iff.2 fun h => ?_
          rw [List.all_eq_true.1 h i (List.mem_range.2 hlt)] at k6
          cases k6
        go_wp2
        refine bodyPost_ret (v := .bool false) (by simp [results, Try.results21, go_sem]) rfl ⟨congrArg (fun b => Ending.returned (Value.bool b)) ?_, H4.out.2⟩
        rw [HV.out]
        rw [hf]; rfl
      | true =>
        dsimp only
        go_wp2
        refine ⟨⟨i + 1, hlt, rfl, fun j hj => ?_, H4.out.1, H4.out.2⟩, by simp [intOf]; omega⟩
        by_cases hji : j = i
        · subst hji; exact k6
        · exact HPRE.out j (by omega)
    · obtain rfl : nb = i := by omega
      have hlti : ¬ (nb : Int) < (nb : Int) := by omega
      replace HV := Lib.hid (show _ = _ from HV.out.trans (by rw [List.all_eq_true.2 fun j hj => HPRE.out j (List.mem_range.1 hj), Bool.true_and]))
      clear HPRE
      go_wp2_with fail
      clear c0 c1 c2 c3 c4 c5
      go_loopw [4] (fun iv wr => ∃ i : Nat, i ≤ np ∧ iv = .int .i64 i ∧ (∀ j, j < i → payR l j = true) ∧ wr.heap[w.heap.size]? = some (.cells row 32 (0, 0)) ∧ Below w.heap.size w wr)
        (fun iv _ => np - (intOf iv).toNat)
      case atStart => exact ⟨0, Nat.zero_le _, rfl, (fun j hj => by omega), HROW.out, HB.out⟩
      case round =>
        obtain ⟨i, hi, rfl, hpre, hrow, hb⟩ := hrel
        have HPRE := Lib.hid hpre
        have HROW := Lib.hid hrow
        have HB := Lib.hid hb
        have c3 : wr.cell? ⟨w.heap.size, 3, none⟩ = some (.slice aop np capp) := HC.out wr hrow 3
        have c5 : wr.cell? ⟨w.heap.size, 5, none⟩ = some (.slice aoo no capo) := HC.out wr hrow 5
        clear hpre hrow hb
        by_cases hlt : i < np
        · have hlti : (i : Int) < (np : Int) := by omega
          have hw : IntKind.i64.wrap ((i : Int) + 1) = ((i + 1 : Nat) : Int) := by rw [IntWalk.i64_in _ (by omega)]; omega
          obtain ⟨b, off, rfl, _, hbl, e0⟩ := HEP.out i (by rw [← HNP.out]; exact hlt)
          obtain ⟨b', off', hbb, _, _, f0⟩ := HEP.out (i - 1) (by rw [← HNP.out]; omega)
          cases hbb
          obtain ⟨x, hx⟩ : ∃ x, x = l.pays[i]'(by rw [← HNP.out]; exact hlt) := ⟨_, rfl⟩
          obtain ⟨px, hpx⟩ : ∃ x, x = l.pays[i - 1]'(by rw [← HNP.out]; omega) := ⟨_, rfl⟩
          rw [← hx] at e0
          rw [← hpx] at f0
          have HX := Lib.hid (show l.pays.getD i 0 = x by rw [List.getD_eq_getElem?_getD, List.getElem?_eq_getElem (by rw [← HNP.out]; exact hlt), ← hx]; rfl)
          have HP := Lib.hid (show l.pays.getD (i - 1) 0 = px by rw [List.getD_eq_getElem?_getD, List.getElem?_eq_getElem (by rw [← HNP.out]; omega), ← hpx]; rfl)
          have HR : Hid (payR l i = (inN x 0 100 && (decide (i = 0) || decide (x ≤ px)))) := Lib.hid (by unfold payR; rw [HX.out, HP.out])
          clear hx hpx
          have HSS : Hid (∀ W : World, (W.heap[w.heap.size]? = some (.cells row 32 (0, 0)) ∧ Below wr.heap.size wr W) → W.cell? ⟨w.heap.size, 0, none⟩ = some (.slice aol np capl) ∧ W.cell? ⟨w.heap.size, 1, none⟩ = some (.int .i64 st) ∧ W.cell? ⟨w.heap.size, 2, none⟩ = some (.slice aob nb capb) ∧ W.cell? ⟨w.heap.size, 3, none⟩ = some (.slice (some ⟨b, off, none⟩) np capp) ∧ W.cell? ⟨w.heap.size, 4, none⟩ = some (.int .i64 lp) ∧ W.cell? ⟨w.heap.size, 5, none⟩ = some (.slice aoo no capo) ∧ W.cell? ⟨b, off + i, none⟩ = some (.int .i64 x) ∧ W.cell? ⟨b, off + (i - 1), none⟩ = some (.int .i64 px)) := Lib.hid fun W h =>
            have hk := (h.2.block b (Nat.lt_of_lt_of_le hbl HB.out.size)).trans (HB.out.block b hbl)
            ⟨HC.out W h.1 0, HC.out W h.1 1, HC.out W h.1 2, HC.out W h.1 3, HC.out W h.1 4, HC.out W h.1 5, (World.cell?_of_block hk).trans e0, (World.cell?_of_block hk).trans f0⟩
          clear e0 f0
          have hw1 : IntKind.i64.wrap ((i : Int) - 1) = (i : Int) - 1 := by rw [IntWalk.i64_in _ (by omega)]
          have ht1 : ((i : Int) - 1).toNat = i - 1 := by omega
          have hl1 : (i : Int) - 1 < (np : Int) := by omega
          go_upto_region 13 with fail
          refine wp_region_held_drew (S := fun W => W.heap[w.heap.size]? = some (.cells row 32 (0, 0)) ∧ Below wr.heap.size wr W) rfl ⟨HROW.out, (Below.refl _ _).drew⟩ fun hS => ?_
          clear c3 c5
          by_cases h5 : i = 0
          · have h5i : ¬ 0 < i := by omega
            have H5 := Lib.hid h5
            clear h5
            cases h3 : inN x 0 100 with
            | false =>
              first | refine wpAnyH_take (i := 0) (v := undef) rfl (by kernel_rfl) (by kernel_rfl) (by kernel_rfl) (fun _ _ _ h => h) (.inr ⟨rfl, rfl⟩) hS ?_ | (refine wpAnyH_take (i := 0) (v := ?_) rfl (by kernel_rfl) (by kernel_rfl) (by kernel_rfl) (fun _ _ _ h => h) (Or.inl ⟨by rfl, ?_⟩) hS ?_; rotate_left; (intro W hSw; obtain ⟨q0, q1, q2, q3, q4, q5, q6, q7⟩ := HSS.out W hSw; go_simp; try with_reducible rfl))
              try simp only [List.getElem_toArray, List.getElem_cons_succ, List.getElem_cons_zero, Act.put, List.setIfInBounds_toArray, List.set_cons_zero, List.set_cons_succ]
              first | refine wpAnyH_take (i := 1) (v := undef) rfl (by kernel_rfl) (by kernel_rfl) (by kernel_rfl) (fun _ _ _ h => h) (.inr ⟨rfl, rfl⟩) hS ?_ | (refine wpAnyH_take (i := 1) (v := ?_) rfl (by kernel_rfl) (by kernel_rfl) (by kernel_rfl) (fun _ _ _ h => h) (Or.inl ⟨by rfl, ?_⟩) hS ?_; rotate_left; (intro W hSw; obtain ⟨q0, q1, q2, q3, q4, q5, q6, q7⟩ := HSS.out W hSw; go_simp; try with_reducible rfl))
              try simp only [List.getElem_toArray, List.getElem_cons_succ, List.getElem_cons_zero, Act.put, List.setIfInBounds_toArray, List.set_cons_zero, List.set_cons_succ]
              first | refine wpAnyH_take (i := 2) (v := undef) rfl (by kernel_rfl) (by kernel_rfl) (by kernel_rfl) (fun _ _ _ h => h) (.inr ⟨rfl, rfl⟩) hS ?_ | (refine wpAnyH_take (i := 2) (v := ?_) rfl (by kernel_rfl) (by kernel_rfl) (by kernel_rfl) (fun _ _ _ h => h) (Or.inl ⟨by rfl, ?_⟩) hS ?_; rotate_left; (intro W hSw; obtain ⟨q0, q1, q2, q3, q4, q5, q6, q7⟩ := HSS.out W hSw; go_simp; try with_reducible rfl))
              try simp only [List.getElem_toArray, List.getElem_cons_succ, List.getElem_cons_zero, Act.put, List.setIfInBounds_toArray, List.set_cons_zero, List.set_cons_succ]
              first | refine wpAnyH_take (i := 3) (v := undef) rfl (by kernel_rfl) (by kernel_rfl) (by kernel_rfl) (fun _ _ _ h => h) (.inr ⟨rfl, rfl⟩) hS ?_ | (refine wpAnyH_take (i := 3) (v := ?_) rfl (by kernel_rfl) (by kernel_rfl) (by kernel_rfl) (fun _ _ _ h => h) (Or.inl ⟨by rfl, ?_⟩) hS ?_; rotate_left; (intro W hSw; obtain ⟨q0, q1, q2, q3, q4, q5, q6, q7⟩ := HSS.out W hSw; go_simp; try with_reducible rfl))
              try simp only [List.getElem_toArray, List.getElem_cons_succ, List.getElem_cons_zero, Act.put, List.setIfInBounds_toArray, List.set_cons_zero, List.set_cons_succ]
              first | refine wpAnyH_take (i := 4) (v := undef) rfl (by kernel_rfl) (by kernel_rfl) (by kernel_rfl) (fun _ _ _ h => h) (.inr ⟨rfl, rfl⟩) hS ?_ | (refine wpAnyH_take (i := 4) (v := ?_) rfl (by kernel_rfl) (by kernel_rfl) (by kernel_rfl) (fun _ _ _ h => h) (Or.inl ⟨by rfl, ?_⟩) hS ?_; rotate_left; (intro W hSw; obtain ⟨q0, q1, q2, q3, q4, q5, q6, q7⟩ := HSS.out W hSw; go_simp; try with_reducible rfl))
              try simp only [List.getElem_toArray, List.getElem_cons_succ, List.getElem_cons_zero, Act.put, List.setIfInBounds_toArray, List.set_cons_zero, List.set_cons_succ]
              refine wpAnyH_ready (rs := [5]) (by kernel_rfl) (by simp) ?_
              refine AllReadyH.cons rfl (fun K hK => ?_) AllReadyH.nil
              go_simp
              refine (r13in_any _ _ _ _).mono ?_
              rintro e wz ⟨rfl, rfl⟩
              rw [h3]
              dsimp only
              refine hK.out _ _ hS (fun hS => ?_)
              clear hK K
              try simp only [List.getElem_toArray, List.getElem_cons_succ, List.getElem_cons_zero, Act.put, List.setIfInBounds_toArray, List.set_cons_zero, List.set_cons_succ]
              first | refine wpAnyH_take (i := 6) (v := undef) rfl (by kernel_rfl) (by kernel_rfl) (by kernel_rfl) (fun _ _ _ h => h) (.inr ⟨rfl, rfl⟩) hS ?_ | (refine wpAnyH_take (i := 6) (v := ?_) rfl (by kernel_rfl) (by kernel_rfl) (by kernel_rfl) (fun _ _ _ h => h) (Or.inl ⟨by rfl, ?_⟩) hS ?_; rotate_left; (intro W hSw; obtain ⟨q0, q1, q2, q3, q4, q5, q6, q7⟩ := HSS.out W hSw; go_simp; try with_reducible rfl))
              try simp only [List.getElem_toArray, List.getElem_cons_succ, List.getElem_cons_zero, Act.put, List.setIfInBounds_toArray, List.set_cons_zero, List.set_cons_succ]
              first | refine wpAnyH_take (i := 7) (v := undef) rfl (by kernel_rfl) (by kernel_rfl) (by kernel_rfl) (fun _ _ _ h => h) (.inr ⟨rfl, rfl⟩) hS ?_ | (refine wpAnyH_take (i := 7) (v := ?_) rfl (by kernel_rfl) (by kernel_rfl) (by kernel_rfl) (fun _ _ _ h => h) (Or.inl ⟨by rfl, ?_⟩) hS ?_; rotate_left; (intro W hSw; obtain ⟨q0, q1, q2, q3, q4, q5, q6, q7⟩ := HSS.out W hSw; go_simp; try with_reducible rfl))
              try simp only [List.getElem_toArray, List.getElem_cons_succ, List.getElem_cons_zero, Act.put, List.setIfInBounds_toArray, List.set_cons_zero, List.set_cons_succ]
              first | refine wpAnyH_take (i := 8) (v := undef) rfl (by kernel_rfl) (by kernel_rfl) (by kernel_rfl) (fun _ _ _ h => h) (.inr ⟨rfl, rfl⟩) hS ?_ | (refine wpAnyH_take (i := 8) (v := ?_) rfl (by kernel_rfl) (by kernel_rfl) (by kernel_rfl) (fun _ _ _ h => h) (Or.inl ⟨by rfl, ?_⟩) hS ?_; rotate_left; (intro W hSw; obtain ⟨q0, q1, q2, q3, q4, q5, q6, q7⟩ := HSS.out W hSw; go_simp; try with_reducible rfl))
              try simp only [List.getElem_toArray, List.getElem_cons_succ, List.getElem_cons_zero, Act.put, List.setIfInBounds_toArray, List.set_cons_zero, List.set_cons_succ]
              first | refine wpAnyH_take (i := 9) (v := undef) rfl (by kernel_rfl) (by kernel_rfl) (by kernel_rfl) (fun _ _ _ h => h) (.inr ⟨rfl, rfl⟩) hS ?_ | (refine wpAnyH_take (i := 9) (v := ?_) rfl (by kernel_rfl) (by kernel_rfl) (by kernel_rfl) (fun _ _ _ h => h) (Or.inl ⟨by rfl, ?_⟩) hS ?_; rotate_left; (intro W hSw; obtain ⟨q0, q1, q2, q3, q4, q5, q6, q7⟩ := HSS.out W hSw; go_simp; try with_reducible rfl))
              try simp only [List.getElem_toArray, List.getElem_cons_succ, List.getElem_cons_zero, Act.put, List.setIfInBounds_toArray, List.set_cons_zero, List.set_cons_succ]
              first | refine wpAnyH_take (i := 10) (v := undef) rfl (by kernel_rfl) (by kernel_rfl) (by kernel_rfl) (fun _ _ _ h => h) (.inr ⟨rfl, rfl⟩) hS ?_ | (refine wpAnyH_take (i := 10) (v := ?_) rfl (by kernel_rfl) (by kernel_rfl) (by kernel_rfl) (fun _ _ _ h => h) (Or.inl ⟨by rfl, ?_⟩) hS ?_; rotate_left; (intro W hSw; obtain ⟨q0, q1, q2, q3, q4, q5, q6, q7⟩ := HSS.out W hSw; go_simp; try with_reducible rfl))
              try simp only [List.getElem_toArray, List.getElem_cons_succ, List.getElem_cons_zero, Act.put, List.setIfInBounds_toArray, List.set_cons_zero, List.set_cons_succ]
              first | refine wpAnyH_take (i := 11) (v := undef) rfl (by kernel_rfl) (by kernel_rfl) (by kernel_rfl) (fun _ _ _ h => h) (.inr ⟨rfl, rfl⟩) hS ?_ | (refine wpAnyH_take (i := 11) (v := ?_) rfl (by kernel_rfl) (by kernel_rfl) (by kernel_rfl) (fun _ _ _ h => h) (Or.inl ⟨by rfl, ?_⟩) hS ?_; rotate_left; (intro W hSw; obtain ⟨q0, q1, q2, q3, q4, q5, q6, q7⟩ := HSS.out W hSw; go_simp; try with_reducible rfl))
              try simp only [List.getElem_toArray, List.getElem_cons_succ, List.getElem_cons_zero, Act.put, List.setIfInBounds_toArray, List.set_cons_zero, List.set_cons_succ]
              first | refine wpAnyH_take (i := 12) (v := undef) rfl (by kernel_rfl) (by kernel_rfl) (by kernel_rfl) (fun _ _ _ h => h) (.inr ⟨rfl, rfl⟩) hS ?_ | (refine wpAnyH_take (i := 12) (v := ?_) rfl (by kernel_rfl) (by kernel_rfl) (by kernel_rfl) (fun _ _ _ h => h) (Or.inl ⟨by rfl, ?_⟩) hS ?_; rotate_left; (intro W hSw; obtain ⟨q0, q1, q2, q3, q4, q5, q6, q7⟩ := HSS.out W hSw; go_simp; try with_reducible rfl))
              try simp only [List.getElem_toArray, List.getElem_cons_succ, List.getElem_cons_zero, Act.put, List.setIfInBounds_toArray, List.set_cons_zero, List.set_cons_succ]
              first | refine wpAnyH_take (i := 13) (v := undef) rfl (by kernel_rfl) (by kernel_rfl) (by kernel_rfl) (fun _ _ _ h => h) (.inr ⟨rfl, rfl⟩) hS ?_ | (refine wpAnyH_take (i := 13) (v := ?_) rfl (by kernel_rfl) (by kernel_rfl) (by kernel_rfl) (fun _ _ _ h => h) (Or.inl ⟨by rfl, ?_⟩) hS ?_; rotate_left; (intro W hSw; obtain ⟨q0, q1, q2, q3, q4, q5, q6, q7⟩ := HSS.out W hSw; go_simp; try with_reducible rfl))
              try simp only [List.getElem_toArray, List.getElem_cons_succ, List.getElem_cons_zero, Act.put, List.setIfInBounds_toArray, List.set_cons_zero, List.set_cons_succ]
              first | refine wpAnyH_take (i := 14) (v := undef) rfl (by kernel_rfl) (by kernel_rfl) (by kernel_rfl) (fun _ _ _ h => h) (.inr ⟨rfl, rfl⟩) hS ?_ | (refine wpAnyH_take (i := 14) (v := ?_) rfl (by kernel_rfl) (by kernel_rfl) (by kernel_rfl) (fun _ _ _ h => h) (Or.inl ⟨by rfl, ?_⟩) hS ?_; rotate_left; (intro W hSw; obtain ⟨q0, q1, q2, q3, q4, q5, q6, q7⟩ := HSS.out W hSw; go_simp; try with_reducible rfl))
              try simp only [List.getElem_toArray, List.getElem_cons_succ, List.getElem_cons_zero, Act.put, List.setIfInBounds_toArray, List.set_cons_zero, List.set_cons_succ]
              first | refine wpAnyH_take (i := 15) (v := undef) rfl (by kernel_rfl) (by kernel_rfl) (by kernel_rfl) (fun _ _ _ h => h) (.inr ⟨rfl, rfl⟩) hS ?_ | (refine wpAnyH_take (i := 15) (v := ?_) rfl (by kernel_rfl) (by kernel_rfl) (by kernel_rfl) (fun _ _ _ h => h) (Or.inl ⟨by rfl, ?_⟩) hS ?_; rotate_left; (intro W hSw; obtain ⟨q0, q1, q2, q3, q4, q5, q6, q7⟩ := HSS.out W hSw; go_simp; try with_reducible rfl))
              try simp only [List.getElem_toArray, List.getElem_cons_succ, List.getElem_cons_zero, Act.put, List.setIfInBounds_toArray, List.set_cons_zero, List.set_cons_succ]
              first | refine wpAnyH_take (i := 16) (v := undef) rfl (by kernel_rfl) (by kernel_rfl) (by kernel_rfl) (fun _ _ _ h => h) (.inr ⟨rfl, rfl⟩) hS ?_ | (refine wpAnyH_take (i := 16) (v := ?_) rfl (by kernel_rfl) (by kernel_rfl) (by kernel_rfl) (fun _ _ _ h => h) (Or.inl ⟨by rfl, ?_⟩) hS ?_; rotate_left; (intro W hSw; obtain ⟨q0, q1, q2, q3, q4, q5, q6, q7⟩ := HSS.out W hSw; go_simp; try with_reducible rfl))
              try simp only [List.getElem_toArray, List.getElem_cons_succ, List.getElem_cons_zero, Act.put, List.setIfInBounds_toArray, List.set_cons_zero, List.set_cons_succ]
              first | refine wpAnyH_take (i := 17) (v := undef) rfl (by kernel_rfl) (by kernel_rfl) (by kernel_rfl) (fun _ _ _ h => h) (.inr ⟨rfl, rfl⟩) hS ?_ | (refine wpAnyH_take (i := 17) (v := ?_) rfl (by kernel_rfl) (by kernel_rfl) (by kernel_rfl) (fun _ _ _ h => h) (Or.inl ⟨by rfl, ?_⟩) hS ?_; rotate_left; (intro W hSw; obtain ⟨q0, q1, q2, q3, q4, q5, q6, q7⟩ := HSS.out W hSw; go_simp; try with_reducible rfl))
              try simp only [List.getElem_toArray, List.getElem_cons_succ, List.getElem_cons_zero, Act.put, List.setIfInBounds_toArray, List.set_cons_zero, List.set_cons_succ]
              first | refine wpAnyH_take (i := 18) (v := undef) rfl (by kernel_rfl) (by kernel_rfl) (by kernel_rfl) (fun _ _ _ h => h) (.inr ⟨rfl, rfl⟩) hS ?_ | (refine wpAnyH_take (i := 18) (v := ?_) rfl (by kernel_rfl) (by kernel_rfl) (by kernel_rfl) (fun _ _ _ h => h) (Or.inl ⟨by rfl, ?_⟩) hS ?_; rotate_left; (intro W hSw; obtain ⟨q0, q1, q2, q3, q4, q5, q6, q7⟩ := HSS.out W hSw; go_simp; try with_reducible rfl))
              try simp only [List.getElem_toArray, List.getElem_cons_succ, List.getElem_cons_zero, Act.put, List.setIfInBounds_toArray, List.set_cons_zero, List.set_cons_succ]
              first | refine wpAnyH_take (i := 19) (v := undef) rfl (by kernel_rfl) (by kernel_rfl) (by kernel_rfl) (fun _ _ _ h => h) (.inr ⟨rfl, rfl⟩) hS ?_ | (refine wpAnyH_take (i := 19) (v := ?_) rfl (by kernel_rfl) (by kernel_rfl) (by kernel_rfl) (fun _ _ _ h => h) (Or.inl ⟨by rfl, ?_⟩) hS ?_; rotate_left; (intro W hSw; obtain ⟨q0, q1, q2, q3, q4, q5, q6, q7⟩ := HSS.out W hSw; go_simp; try with_reducible rfl))
              try simp only [List.getElem_toArray, List.getElem_cons_succ, List.getElem_cons_zero, Act.put, List.setIfInBounds_toArray, List.set_cons_zero, List.set_cons_succ]
              first | refine wpAnyH_take (i := 20) (v := undef) rfl (by kernel_rfl) (by kernel_rfl) (by kernel_rfl) (fun _ _ _ h => h) (.inr ⟨rfl, rfl⟩) hS ?_ | (refine wpAnyH_take (i := 20) (v := ?_) rfl (by kernel_rfl) (by kernel_rfl) (by kernel_rfl) (fun _ _ _ h => h) (Or.inl ⟨by rfl, ?_⟩) hS ?_; rotate_left; (intro W hSw; obtain ⟨q0, q1, q2, q3, q4, q5, q6, q7⟩ := HSS.out W hSw; go_simp; try with_reducible rfl))
              try simp only [List.getElem_toArray, List.getElem_cons_succ, List.getElem_cons_zero, Act.put, List.setIfInBounds_toArray, List.set_cons_zero, List.set_cons_succ]
              first | refine wpAnyH_take (i := 21) (v := undef) rfl (by kernel_rfl) (by kernel_rfl) (by kernel_rfl) (fun _ _ _ h => h) (.inr ⟨rfl, rfl⟩) hS ?_ | (refine wpAnyH_take (i := 21) (v := ?_) rfl (by kernel_rfl) (by kernel_rfl) (by kernel_rfl) (fun _ _ _ h => h) (Or.inl ⟨by rfl, ?_⟩) hS ?_; rotate_left; (intro W hSw; obtain ⟨q0, q1, q2, q3, q4, q5, q6, q7⟩ := HSS.out W hSw; go_simp; try with_reducible rfl))
              try simp only [List.getElem_toArray, List.getElem_cons_succ, List.getElem_cons_zero, Act.put, List.setIfInBounds_toArray, List.set_cons_zero, List.set_cons_succ]
              first | refine wpAnyH_take (i := 22) (v := undef) rfl (by kernel_rfl) (by kernel_rfl) (by kernel_rfl) (fun _ _ _ h => h) (.inr ⟨rfl, rfl⟩) hS ?_ | (refine wpAnyH_take (i := 22) (v := ?_) rfl (by kernel_rfl) (by kernel_rfl) (by kernel_rfl) (fun _ _ _ h => h) (Or.inl ⟨by rfl, ?_⟩) hS ?_; rotate_left; (intro W hSw; obtain ⟨q0, q1, q2, q3, q4, q5, q6, q7⟩ := HSS.out W hSw; go_simp; try with_reducible rfl))
              try simp only [List.getElem_toArray, List.getElem_cons_succ, List.getElem_cons_zero, Act.put, List.setIfInBounds_toArray, List.set_cons_zero, List.set_cons_succ]
              first | refine wpAnyH_take (i := 23) (v := undef) rfl (by kernel_rfl) (by kernel_rfl) (by kernel_rfl) (fun _ _ _ h => h) (.inr ⟨rfl, rfl⟩) hS ?_ | (refine wpAnyH_take (i := 23) (v := ?_) rfl (by kernel_rfl) (by kernel_rfl) (by kernel_rfl) (fun _ _ _ h => h) (Or.inl ⟨by rfl, ?_⟩) hS ?_; rotate_left; (intro W hSw; obtain ⟨q0, q1, q2, q3, q4, q5, q6, q7⟩ := HSS.out W hSw; go_simp; try with_reducible rfl))
              try simp only [List.getElem_toArray, List.getElem_cons_succ, List.getElem_cons_zero, Act.put, List.setIfInBounds_toArray, List.set_cons_zero, List.set_cons_succ]
              first | refine wpAnyH_take (i := 24) (v := undef) rfl (by kernel_rfl) (by kernel_rfl) (by kernel_rfl) (fun _ _ _ h => h) (.inr ⟨rfl, rfl⟩) hS ?_ | (refine wpAnyH_take (i := 24) (v := ?_) rfl (by kernel_rfl) (by kernel_rfl) (by kernel_rfl) (fun _ _ _ h => h) (Or.inl ⟨by rfl, ?_⟩) hS ?_; rotate_left; (intro W hSw; obtain ⟨q0, q1, q2, q3, q4, q5, q6, q7⟩ := HSS.out W hSw; go_simp; try with_reducible rfl))
              try simp only [List.getElem_toArray, List.getElem_cons_succ, List.getElem_cons_zero, Act.put, List.setIfInBounds_toArray, List.set_cons_zero, List.set_cons_succ]
              refine wpAnyH_done (by kernel_rfl) ?_ _
              have h5 := H5.out
              have hf : ((List.range np).all fun i => payR l i) = false := by
                refine Bool.eq_false_iff.2 fun h => ?_
                have h8 := List.all_eq_true.1 h i (List.mem_range.2 hlt)
                rw [HR.out] at h8
                simp [h3, h5] at h8
                try omega
              go_wp2
              refine bodyPost_ret (v := .bool false) (by simp [results, Try.results21, go_sem]) rfl ⟨congrArg (fun b => Ending.returned (Value.bool b)) ?_, (HB.out.trans (hS.2.mono HB.out.size))⟩
              rw [HV.out]
              rw [hf]; rfl
            | true =>
              first | refine wpAnyH_take (i := 0) (v := undef) rfl (by kernel_rfl) (by kernel_rfl) (by kernel_rfl) (fun _ _ _ h => h) (.inr ⟨rfl, rfl⟩) hS ?_ | (refine wpAnyH_take (i := 0) (v := ?_) rfl (by kernel_rfl) (by kernel_rfl) (by kernel_rfl) (fun _ _ _ h => h) (Or.inl ⟨by rfl, ?_⟩) hS ?_; rotate_left; (intro W hSw; obtain ⟨q0, q1, q2, q3, q4, q5, q6, q7⟩ := HSS.out W hSw; go_simp; try with_reducible rfl))
              try simp only [List.getElem_toArray, List.getElem_cons_succ, List.getElem_cons_zero, Act.put, List.setIfInBounds_toArray, List.set_cons_zero, List.set_cons_succ]
              first | refine wpAnyH_take (i := 1) (v := undef) rfl (by kernel_rfl) (by kernel_rfl) (by kernel_rfl) (fun _ _ _ h => h) (.inr ⟨rfl, rfl⟩) hS ?_ | (refine wpAnyH_take (i := 1) (v := ?_) rfl (by kernel_rfl) (by kernel_rfl) (by kernel_rfl) (fun _ _ _ h => h) (Or.inl ⟨by rfl, ?_⟩) hS ?_; rotate_left; (intro W hSw; obtain ⟨q0, q1, q2, q3, q4, q5, q6, q7⟩ := HSS.out W hSw; go_simp; try with_reducible rfl))
              try simp only [List.getElem_toArray, List.getElem_cons_succ, List.getElem_cons_zero, Act.put, List.setIfInBounds_toArray, List.set_cons_zero, List.set_cons_succ]
              first | refine wpAnyH_take (i := 2) (v := undef) rfl (by kernel_rfl) (by kernel_rfl) (by kernel_rfl) (fun _ _ _ h => h) (.inr ⟨rfl, rfl⟩) hS ?_ | (refine wpAnyH_take (i := 2) (v := ?_) rfl (by kernel_rfl) (by kernel_rfl) (by kernel_rfl) (fun _ _ _ h => h) (Or.inl ⟨by rfl, ?_⟩) hS ?_; rotate_left; (intro W hSw; obtain ⟨q0, q1, q2, q3, q4, q5, q6, q7⟩ := HSS.out W hSw; go_simp; try with_reducible rfl))
              try simp only [List.getElem_toArray, List.getElem_cons_succ, List.getElem_cons_zero, Act.put, List.setIfInBounds_toArray, List.set_cons_zero, List.set_cons_succ]
              first | refine wpAnyH_take (i := 3) (v := undef) rfl (by kernel_rfl) (by kernel_rfl) (by kernel_rfl) (fun _ _ _ h => h) (.inr ⟨rfl, rfl⟩) hS ?_ | (refine wpAnyH_take (i := 3) (v := ?_) rfl (by kernel_rfl) (by kernel_rfl) (by kernel_rfl) (fun _ _ _ h => h) (Or.inl ⟨by rfl, ?_⟩) hS ?_; rotate_left; (intro W hSw; obtain ⟨q0, q1, q2, q3, q4, q5, q6, q7⟩ := HSS.out W hSw; go_simp; try with_reducible rfl))
              try simp only [List.getElem_toArray, List.getElem_cons_succ, List.getElem_cons_zero, Act.put, List.setIfInBounds_toArray, List.set_cons_zero, List.set_cons_succ]
              first | refine wpAnyH_take (i := 4) (v := undef) rfl (by kernel_rfl) (by kernel_rfl) (by kernel_rfl) (fun _ _ _ h => h) (.inr ⟨rfl, rfl⟩) hS ?_ | (refine wpAnyH_take (i := 4) (v := ?_) rfl (by kernel_rfl) (by kernel_rfl) (by kernel_rfl) (fun _ _ _ h => h) (Or.inl ⟨by rfl, ?_⟩) hS ?_; rotate_left; (intro W hSw; obtain ⟨q0, q1, q2, q3, q4, q5, q6, q7⟩ := HSS.out W hSw; go_simp; try with_reducible rfl))
              try simp only [List.getElem_toArray, List.getElem_cons_succ, List.getElem_cons_zero, Act.put, List.setIfInBounds_toArray, List.set_cons_zero, List.set_cons_succ]
              refine wpAnyH_ready (rs := [5]) (by kernel_rfl) (by simp) ?_
              refine AllReadyH.cons rfl (fun K hK => ?_) AllReadyH.nil
              go_simp
              refine (r13in_any _ _ _ _).mono ?_
              rintro e wz ⟨rfl, rfl⟩
              rw [h3]
              dsimp only
              refine hK.out _ _ hS (fun hS => ?_)
              clear hK K
              try simp only [List.getElem_toArray, List.getElem_cons_succ, List.getElem_cons_zero, Act.put, List.setIfInBounds_toArray, List.set_cons_zero, List.set_cons_succ]
              first | refine wpAnyH_take (i := 6) (v := undef) rfl (by kernel_rfl) (by kernel_rfl) (by kernel_rfl) (fun _ _ _ h => h) (.inr ⟨rfl, rfl⟩) hS ?_ | (refine wpAnyH_take (i := 6) (v := ?_) rfl (by kernel_rfl) (by kernel_rfl) (by kernel_rfl) (fun _ _ _ h => h) (Or.inl ⟨by rfl, ?_⟩) hS ?_; rotate_left; (intro W hSw; obtain ⟨q0, q1, q2, q3, q4, q5, q6, q7⟩ := HSS.out W hSw; go_simp; try with_reducible rfl))
              try simp only [List.getElem_toArray, List.getElem_cons_succ, List.getElem_cons_zero, Act.put, List.setIfInBounds_toArray, List.set_cons_zero, List.set_cons_succ]
              first | refine wpAnyH_take (i := 7) (v := undef) rfl (by kernel_rfl) (by kernel_rfl) (by kernel_rfl) (fun _ _ _ h => h) (.inr ⟨rfl, rfl⟩) hS ?_ | (refine wpAnyH_take (i := 7) (v := ?_) rfl (by kernel_rfl) (by kernel_rfl) (by kernel_rfl) (fun _ _ _ h => h) (Or.inl ⟨by rfl, ?_⟩) hS ?_; rotate_left; (intro W hSw; obtain ⟨q0, q1, q2, q3, q4, q5, q6, q7⟩ := HSS.out W hSw; go_simp; try with_reducible rfl))
              try simp only [List.getElem_toArray, List.getElem_cons_succ, List.getElem_cons_zero, Act.put, List.setIfInBounds_toArray, List.set_cons_zero, List.set_cons_succ]
              first | refine wpAnyH_take (i := 8) (v := undef) rfl (by kernel_rfl) (by kernel_rfl) (by kernel_rfl) (fun _ _ _ h => h) (.inr ⟨rfl, rfl⟩) hS ?_ | (refine wpAnyH_take (i := 8) (v := ?_) rfl (by kernel_rfl) (by kernel_rfl) (by kernel_rfl) (fun _ _ _ h => h) (Or.inl ⟨by rfl, ?_⟩) hS ?_; rotate_left; (intro W hSw; obtain ⟨q0, q1, q2, q3, q4, q5, q6, q7⟩ := HSS.out W hSw; go_simp; try with_reducible rfl))
              try simp only [List.getElem_toArray, List.getElem_cons_succ, List.getElem_cons_zero, Act.put, List.setIfInBounds_toArray, List.set_cons_zero, List.set_cons_succ]
              first | refine wpAnyH_take (i := 9) (v := undef) rfl (by kernel_rfl) (by kernel_rfl) (by kernel_rfl) (fun _ _ _ h => h) (.inr ⟨rfl, rfl⟩) hS ?_ | (refine wpAnyH_take (i := 9) (v := ?_) rfl (by kernel_rfl) (by kernel_rfl) (by kernel_rfl) (fun _ _ _ h => h) (Or.inl ⟨by rfl, ?_⟩) hS ?_; rotate_left; (intro W hSw; obtain ⟨q0, q1, q2, q3, q4, q5, q6, q7⟩ := HSS.out W hSw; go_simp; try with_reducible rfl))
              try simp only [List.getElem_toArray, List.getElem_cons_succ, List.getElem_cons_zero, Act.put, List.setIfInBounds_toArray, List.set_cons_zero, List.set_cons_succ]
              first | refine wpAnyH_take (i := 10) (v := undef) rfl (by kernel_rfl) (by kernel_rfl) (by kernel_rfl) (fun _ _ _ h => h) (.inr ⟨rfl, rfl⟩) hS ?_ | (refine wpAnyH_take (i := 10) (v := ?_) rfl (by kernel_rfl) (by kernel_rfl) (by kernel_rfl) (fun _ _ _ h => h) (Or.inl ⟨by rfl, ?_⟩) hS ?_; rotate_left; (intro W hSw; obtain ⟨q0, q1, q2, q3, q4, q5, q6, q7⟩ := HSS.out W hSw; go_simp; try with_reducible rfl))
              try simp only [List.getElem_toArray, List.getElem_cons_succ, List.getElem_cons_zero, Act.put, List.setIfInBounds_toArray, List.set_cons_zero, List.set_cons_succ]
              first | refine wpAnyH_take (i := 11) (v := undef) rfl (by kernel_rfl) (by kernel_rfl) (by kernel_rfl) (fun _ _ _ h => h) (.inr ⟨rfl, rfl⟩) hS ?_ | (refine wpAnyH_take (i := 11) (v := ?_) rfl (by kernel_rfl) (by kernel_rfl) (by kernel_rfl) (fun _ _ _ h => h) (Or.inl ⟨by rfl, ?_⟩) hS ?_; rotate_left; (intro W hSw; obtain ⟨q0, q1, q2, q3, q4, q5, q6, q7⟩ := HSS.out W hSw; go_simp; try with_reducible rfl))
              try simp only [List.getElem_toArray, List.getElem_cons_succ, List.getElem_cons_zero, Act.put, List.setIfInBounds_toArray, List.set_cons_zero, List.set_cons_succ]
              first | refine wpAnyH_take (i := 12) (v := undef) rfl (by kernel_rfl) (by kernel_rfl) (by kernel_rfl) (fun _ _ _ h => h) (.inr ⟨rfl, rfl⟩) hS ?_ | (refine wpAnyH_take (i := 12) (v := ?_) rfl (by kernel_rfl) (by kernel_rfl) (by kernel_rfl) (fun _ _ _ h => h) (Or.inl ⟨by rfl, ?_⟩) hS ?_; rotate_left; (intro W hSw; obtain ⟨q0, q1, q2, q3, q4, q5, q6, q7⟩ := HSS.out W hSw; go_simp; try with_reducible rfl))
              try simp only [List.getElem_toArray, List.getElem_cons_succ, List.getElem_cons_zero, Act.put, List.setIfInBounds_toArray, List.set_cons_zero, List.set_cons_succ]
              first | refine wpAnyH_take (i := 13) (v := undef) rfl (by kernel_rfl) (by kernel_rfl) (by kernel_rfl) (fun _ _ _ h => h) (.inr ⟨rfl, rfl⟩) hS ?_ | (refine wpAnyH_take (i := 13) (v := ?_) rfl (by kernel_rfl) (by kernel_rfl) (by kernel_rfl) (fun _ _ _ h => h) (Or.inl ⟨by rfl, ?_⟩) hS ?_; rotate_left; (intro W hSw; obtain ⟨q0, q1, q2, q3, q4, q5, q6, q7⟩ := HSS.out W hSw; go_simp; try with_reducible rfl))
              try simp only [List.getElem_toArray, List.getElem_cons_succ, List.getElem_cons_zero, Act.put, List.setIfInBounds_toArray, List.set_cons_zero, List.set_cons_succ]
              first | refine wpAnyH_take (i := 14) (v := undef) rfl (by kernel_rfl) (by kernel_rfl) (by kernel_rfl) (fun _ _ _ h => h) (.inr ⟨rfl, rfl⟩) hS ?_ | (refine wpAnyH_take (i := 14) (v := ?_) rfl (by kernel_rfl) (by kernel_rfl) (by kernel_rfl) (fun _ _ _ h => h) (Or.inl ⟨by rfl, ?_⟩) hS ?_; rotate_left; (intro W hSw; obtain ⟨q0, q1, q2, q3, q4, q5, q6, q7⟩ := HSS.out W hSw; go_simp; try with_reducible rfl))
              try simp only [List.getElem_toArray, List.getElem_cons_succ, List.getElem_cons_zero, Act.put, List.setIfInBounds_toArray, List.set_cons_zero, List.set_cons_succ]
              first | refine wpAnyH_take (i := 15) (v := undef) rfl (by kernel_rfl) (by kernel_rfl) (by kernel_rfl) (fun _ _ _ h => h) (.inr ⟨rfl, rfl⟩) hS ?_ | (refine wpAnyH_take (i := 15) (v := ?_) rfl (by kernel_rfl) (by kernel_rfl) (by kernel_rfl) (fun _ _ _ h => h) (Or.inl ⟨by rfl, ?_⟩) hS ?_; rotate_left; (intro W hSw; obtain ⟨q0, q1, q2, q3, q4, q5, q6, q7⟩ := HSS.out W hSw; go_simp; try with_reducible rfl))
              try simp only [List.getElem_toArray, List.getElem_cons_succ, List.getElem_cons_zero, Act.put, List.setIfInBounds_toArray, List.set_cons_zero, List.set_cons_succ]
              first | refine wpAnyH_take (i := 16) (v := undef) rfl (by kernel_rfl) (by kernel_rfl) (by kernel_rfl) (fun _ _ _ h => h) (.inr ⟨rfl, rfl⟩) hS ?_ | (refine wpAnyH_take (i := 16) (v := ?_) rfl (by kernel_rfl) (by kernel_rfl) (by kernel_rfl) (fun _ _ _ h => h) (Or.inl ⟨by rfl, ?_⟩) hS ?_; rotate_left; (intro W hSw; obtain ⟨q0, q1, q2, q3, q4, q5, q6, q7⟩ := HSS.out W hSw; go_simp; try with_reducible rfl))
              try simp only [List.getElem_toArray, List.getElem_cons_succ, List.getElem_cons_zero, Act.put, List.setIfInBounds_toArray, List.set_cons_zero, List.set_cons_succ]
              first | refine wpAnyH_take (i := 17) (v := undef) rfl (by kernel_rfl) (by kernel_rfl) (by kernel_rfl) (fun _ _ _ h => h) (.inr ⟨rfl, rfl⟩) hS ?_ | (refine wpAnyH_take (i := 17) (v := ?_) rfl (by kernel_rfl) (by kernel_rfl) (by kernel_rfl) (fun _ _ _ h => h) (Or.inl ⟨by rfl, ?_⟩) hS ?_; rotate_left; (intro W hSw; obtain ⟨q0, q1, q2, q3, q4, q5, q6, q7⟩ := HSS.out W hSw; go_simp; try with_reducible rfl))
              try simp only [List.getElem_toArray, List.getElem_cons_succ, List.getElem_cons_zero, Act.put, List.setIfInBounds_toArray, List.set_cons_zero, List.set_cons_succ]
              first | refine wpAnyH_take (i := 18) (v := undef) rfl (by kernel_rfl) (by kernel_rfl) (by kernel_rfl) (fun _ _ _ h => h) (.inr ⟨rfl, rfl⟩) hS ?_ | (refine wpAnyH_take (i := 18) (v := ?_) rfl (by kernel_rfl) (by kernel_rfl) (by kernel_rfl) (fun _ _ _ h => h) (Or.inl ⟨by rfl, ?_⟩) hS ?_; rotate_left; (intro W hSw; obtain ⟨q0, q1, q2, q3, q4, q5, q6, q7⟩ := HSS.out W hSw; go_simp; try with_reducible rfl))
              try simp only [List.getElem_toArray, List.getElem_cons_succ, List.getElem_cons_zero, Act.put, List.setIfInBounds_toArray, List.set_cons_zero, List.set_cons_succ]
              first | refine wpAnyH_take (i := 19) (v := undef) rfl (by kernel_rfl) (by kernel_rfl) (by kernel_rfl) (fun _ _ _ h => h) (.inr ⟨rfl, rfl⟩) hS ?_ | (refine wpAnyH_take (i := 19) (v := ?_) rfl (by kernel_rfl) (by kernel_rfl) (by kernel_rfl) (fun _ _ _ h => h) (Or.inl ⟨by rfl, ?_⟩) hS ?_; rotate_left; (intro W hSw; obtain ⟨q0, q1, q2, q3, q4, q5, q6, q7⟩ := HSS.out W hSw; go_simp; try with_reducible rfl))
              try simp only [List.getElem_toArray, List.getElem_cons_succ, List.getElem_cons_zero, Act.put, List.setIfInBounds_toArray, List.set_cons_zero, List.set_cons_succ]
              first | refine wpAnyH_take (i := 20) (v := undef) rfl (by kernel_rfl) (by kernel_rfl) (by kernel_rfl) (fun _ _ _ h => h) (.inr ⟨rfl, rfl⟩) hS ?_ | (refine wpAnyH_take (i := 20) (v := ?_) rfl (by kernel_rfl) (by kernel_rfl) (by kernel_rfl) (fun _ _ _ h => h) (Or.inl ⟨by rfl, ?_⟩) hS ?_; rotate_left; (intro W hSw; obtain ⟨q0, q1, q2, q3, q4, q5, q6, q7⟩ := HSS.out W hSw; go_simp; try with_reducible rfl))
              try simp only [List.getElem_toArray, List.getElem_cons_succ, List.getElem_cons_zero, Act.put, List.setIfInBounds_toArray, List.set_cons_zero, List.set_cons_succ]
              first | refine wpAnyH_take (i := 21) (v := undef) rfl (by kernel_rfl) (by kernel_rfl) (by kernel_rfl) (fun _ _ _ h => h) (.inr ⟨rfl, rfl⟩) hS ?_ | (refine wpAnyH_take (i := 21) (v := ?_) rfl (by kernel_rfl) (by kernel_rfl) (by kernel_rfl) (fun _ _ _ h => h) (Or.inl ⟨by rfl, ?_⟩) hS ?_; rotate_left; (intro W hSw; obtain ⟨q0, q1, q2, q3, q4, q5, q6, q7⟩ := HSS.out W hSw; go_simp; try with_reducible rfl))
              try simp only [List.getElem_toArray, List.getElem_cons_succ, List.getElem_cons_zero, Act.put, List.setIfInBounds_toArray, List.set_cons_zero, List.set_cons_succ]
              first | refine wpAnyH_take (i := 22) (v := undef) rfl (by kernel_rfl) (by kernel_rfl) (by kernel_rfl) (fun _ _ _ h => h) (.inr ⟨rfl, rfl⟩) hS ?_ | (refine wpAnyH_take (i := 22) (v := ?_) rfl (by kernel_rfl) (by kernel_rfl) (by kernel_rfl) (fun _ _ _ h => h) (Or.inl ⟨by rfl, ?_⟩) hS ?_; rotate_left; (intro W hSw; obtain ⟨q0, q1, q2, q3, q4, q5, q6, q7⟩ := HSS.out W hSw; go_simp; try with_reducible rfl))
              try simp only [List.getElem_toArray, List.getElem_cons_succ, List.getElem_cons_zero, Act.put, List.setIfInBounds_toArray, List.set_cons_zero, List.set_cons_succ]
              first | refine wpAnyH_take (i := 23) (v := undef) rfl (by kernel_rfl) (by kernel_rfl) (by kernel_rfl) (fun _ _ _ h => h) (.inr ⟨rfl, rfl⟩) hS ?_ | (refine wpAnyH_take (i := 23) (v := ?_) rfl (by kernel_rfl) (by kernel_rfl) (by kernel_rfl) (fun _ _ _ h => h) (Or.inl ⟨by rfl, ?_⟩) hS ?_; rotate_left; (intro W hSw; obtain ⟨q0, q1, q2, q3, q4, q5, q6, q7⟩ := HSS.out W hSw; go_simp; try with_reducible rfl))
              try simp only [List.getElem_toArray, List.getElem_cons_succ, List.getElem_cons_zero, Act.put, List.setIfInBounds_toArray, List.set_cons_zero, List.set_cons_succ]
              first | refine wpAnyH_take (i := 24) (v := undef) rfl (by kernel_rfl) (by kernel_rfl) (by kernel_rfl) (fun _ _ _ h => h) (.inr ⟨rfl, rfl⟩) hS ?_ | (refine wpAnyH_take (i := 24) (v := ?_) rfl (by kernel_rfl) (by kernel_rfl) (by kernel_rfl) (fun _ _ _ h => h) (Or.inl ⟨by rfl, ?_⟩) hS ?_; rotate_left; (intro W hSw; obtain ⟨q0, q1, q2, q3, q4, q5, q6, q7⟩ := HSS.out W hSw; go_simp; try with_reducible rfl))
              try simp only [List.getElem_toArray, List.getElem_cons_succ, List.getElem_cons_zero, Act.put, List.setIfInBounds_toArray, List.set_cons_zero, List.set_cons_succ]
              refine wpAnyH_done (by kernel_rfl) ?_ _
              go_wp2
              have h5 := H5.out
              refine ⟨⟨i + 1, hlt, (by first | rfl | (rw [h5]; rfl)), fun j hj => ?_, hS.1, HB.out.trans (hS.2.mono HB.out.size)⟩, by simp [intOf]; omega⟩
              by_cases hji : j = i
              · subst hji
                rw [HR.out]; simp [h3, h5]; try omega
              · exact HPRE.out j (by omega)
          · have h5i : 0 < i := by omega
            have H5 := Lib.hid h5
            clear h5
            have h5j : (1 : Int) ≤ (i : Int) := by omega
            cases h3 : inN x 0 100 with
            | false =>
              first | refine wpAnyH_take (i := 0) (v := undef) rfl (by kernel_rfl) (by kernel_rfl) (by kernel_rfl) (fun _ _ _ h => h) (.inr ⟨rfl, rfl⟩) hS ?_ | (refine wpAnyH_take (i := 0) (v := ?_) rfl (by kernel_rfl) (by kernel_rfl) (by kernel_rfl) (fun _ _ _ h => h) (Or.inl ⟨by rfl, ?_⟩) hS ?_; rotate_left; (intro W hSw; obtain ⟨q0, q1, q2, q3, q4, q5, q6, q7⟩ := HSS.out W hSw; go_simp; try with_reducible rfl))
              try simp only [List.getElem_toArray, List.getElem_cons_succ, List.getElem_cons_zero, Act.put, List.setIfInBounds_toArray, List.set_cons_zero, List.set_cons_succ]
              first | refine wpAnyH_take (i := 1) (v := undef) rfl (by kernel_rfl) (by kernel_rfl) (by kernel_rfl) (fun _ _ _ h => h) (.inr ⟨rfl, rfl⟩) hS ?_ | (refine wpAnyH_take (i := 1) (v := ?_) rfl (by kernel_rfl) (by kernel_rfl) (by kernel_rfl) (fun _ _ _ h => h) (Or.inl ⟨by rfl, ?_⟩) hS ?_; rotate_left; (intro W hSw; obtain ⟨q0, q1, q2, q3, q4, q5, q6, q7⟩ := HSS.out W hSw; go_simp; try with_reducible rfl))
              try simp only [List.getElem_toArray, List.getElem_cons_succ, List.getElem_cons_zero, Act.put, List.setIfInBounds_toArray, List.set_cons_zero, List.set_cons_succ]
              first | refine wpAnyH_take (i := 2) (v := undef) rfl (by kernel_rfl) (by kernel_rfl) (by kernel_rfl) (fun _ _ _ h => h) (.inr ⟨rfl, rfl⟩) hS ?_ | (refine wpAnyH_take (i := 2) (v := ?_) rfl (by kernel_rfl) (by kernel_rfl) (by kernel_rfl) (fun _ _ _ h => h) (Or.inl ⟨by rfl, ?_⟩) hS ?_; rotate_left; (intro W hSw; obtain ⟨q0, q1, q2, q3, q4, q5, q6, q7⟩ := HSS.out W hSw; go_simp; try with_reducible rfl))
              try simp only [List.getElem_toArray, List.getElem_cons_succ, List.getElem_cons_zero, Act.put, List.setIfInBounds_toArray, List.set_cons_zero, List.set_cons_succ]
              first | refine wpAnyH_take (i := 3) (v := undef) rfl (by kernel_rfl) (by kernel_rfl) (by kernel_rfl) (fun _ _ _ h => h) (.inr ⟨rfl, rfl⟩) hS ?_ | (refine wpAnyH_take (i := 3) (v := ?_) rfl (by kernel_rfl) (by kernel_rfl) (by kernel_rfl) (fun _ _ _ h => h) (Or.inl ⟨by rfl, ?_⟩) hS ?_; rotate_left; (intro W hSw; obtain ⟨q0, q1, q2, q3, q4, q5, q6, q7⟩ := HSS.out W hSw; go_simp; try with_reducible rfl))
              try simp only [List.getElem_toArray, List.getElem_cons_succ, List.getElem_cons_zero, Act.put, List.setIfInBounds_toArray, List.set_cons_zero, List.set_cons_succ]
              first | refine wpAnyH_take (i := 4) (v := undef) rfl (by kernel_rfl) (by kernel_rfl) (by kernel_rfl) (fun _ _ _ h => h) (.inr ⟨rfl, rfl⟩) hS ?_ | (refine wpAnyH_take (i := 4) (v := ?_) rfl (by kernel_rfl) (by kernel_rfl) (by kernel_rfl) (fun _ _ _ h => h) (Or.inl ⟨by rfl, ?_⟩) hS ?_; rotate_left; (intro W hSw; obtain ⟨q0, q1, q2, q3, q4, q5, q6, q7⟩ := HSS.out W hSw; go_simp; try with_reducible rfl))
              try simp only [List.getElem_toArray, List.getElem_cons_succ, List.getElem_cons_zero, Act.put, List.setIfInBounds_toArray, List.set_cons_zero, List.set_cons_succ]
              refine wpAnyH_ready (rs := [5]) (by kernel_rfl) (by simp) ?_
              refine AllReadyH.cons rfl (fun K hK => ?_) AllReadyH.nil
              go_simp
              refine (r13in_any _ _ _ _).mono ?_
              rintro e wz ⟨rfl, rfl⟩
              rw [h3]
              dsimp only
              refine hK.out _ _ hS (fun hS => ?_)
              clear hK K
              try simp only [List.getElem_toArray, List.getElem_cons_succ, List.getElem_cons_zero, Act.put, List.setIfInBounds_toArray, List.set_cons_zero, List.set_cons_succ]
              first | refine wpAnyH_take (i := 6) (v := undef) rfl (by kernel_rfl) (by kernel_rfl) (by kernel_rfl) (fun _ _ _ h => h) (.inr ⟨rfl, rfl⟩) hS ?_ | (refine wpAnyH_take (i := 6) (v := ?_) rfl (by kernel_rfl) (by kernel_rfl) (by kernel_rfl) (fun _ _ _ h => h) (Or.inl ⟨by rfl, ?_⟩) hS ?_; rotate_left; (intro W hSw; obtain ⟨q0, q1, q2, q3, q4, q5, q6, q7⟩ := HSS.out W hSw; go_simp; try with_reducible rfl))
              try simp only [List.getElem_toArray, List.getElem_cons_succ, List.getElem_cons_zero, Act.put, List.setIfInBounds_toArray, List.set_cons_zero, List.set_cons_succ]
              first | refine wpAnyH_take (i := 7) (v := undef) rfl (by kernel_rfl) (by kernel_rfl) (by kernel_rfl) (fun _ _ _ h => h) (.inr ⟨rfl, rfl⟩) hS ?_ | (refine wpAnyH_take (i := 7) (v := ?_) rfl (by kernel_rfl) (by kernel_rfl) (by kernel_rfl) (fun _ _ _ h => h) (Or.inl ⟨by rfl, ?_⟩) hS ?_; rotate_left; (intro W hSw; obtain ⟨q0, q1, q2, q3, q4, q5, q6, q7⟩ := HSS.out W hSw; go_simp; try with_reducible rfl))
              try simp only [List.getElem_toArray, List.getElem_cons_succ, List.getElem_cons_zero, Act.put, List.setIfInBounds_toArray, List.set_cons_zero, List.set_cons_succ]
              first | refine wpAnyH_take (i := 8) (v := undef) rfl (by kernel_rfl) (by kernel_rfl) (by kernel_rfl) (fun _ _ _ h => h) (.inr ⟨rfl, rfl⟩) hS ?_ | (refine wpAnyH_take (i := 8) (v := ?_) rfl (by kernel_rfl) (by kernel_rfl) (by kernel_rfl) (fun _ _ _ h => h) (Or.inl ⟨by rfl, ?_⟩) hS ?_; rotate_left; (intro W hSw; obtain ⟨q0, q1, q2, q3, q4, q5, q6, q7⟩ := HSS.out W hSw; go_simp; try with_reducible rfl))
              try simp only [List.getElem_toArray, List.getElem_cons_succ, List.getElem_cons_zero, Act.put, List.setIfInBounds_toArray, List.set_cons_zero, List.set_cons_succ]
              first | refine wpAnyH_take (i := 9) (v := undef) rfl (by kernel_rfl) (by kernel_rfl) (by kernel_rfl) (fun _ _ _ h => h) (.inr ⟨rfl, rfl⟩) hS ?_ | (refine wpAnyH_take (i := 9) (v := ?_) rfl (by kernel_rfl) (by kernel_rfl) (by kernel_rfl) (fun _ _ _ h => h) (Or.inl ⟨by rfl, ?_⟩) hS ?_; rotate_left; (intro W hSw; obtain ⟨q0, q1, q2, q3, q4, q5, q6, q7⟩ := HSS.out W hSw; go_simp; try with_reducible rfl))
              try simp only [List.getElem_toArray, List.getElem_cons_succ, List.getElem_cons_zero, Act.put, List.setIfInBounds_toArray, List.set_cons_zero, List.set_cons_succ]
              first | refine wpAnyH_take (i := 10) (v := undef) rfl (by kernel_rfl) (by kernel_rfl) (by kernel_rfl) (fun _ _ _ h => h) (.inr ⟨rfl, rfl⟩) hS ?_ | (refine wpAnyH_take (i := 10) (v := ?_) rfl (by kernel_rfl) (by kernel_rfl) (by kernel_rfl) (fun _ _ _ h => h) (Or.inl ⟨by rfl, ?_⟩) hS ?_; rotate_left; (intro W hSw; obtain ⟨q0, q1, q2, q3, q4, q5, q6, q7⟩ := HSS.out W hSw; go_simp; try with_reducible rfl))
              try simp only [List.getElem_toArray, List.getElem_cons_succ, List.getElem_cons_zero, Act.put, List.setIfInBounds_toArray, List.set_cons_zero, List.set_cons_succ]
              first | refine wpAnyH_take (i := 11) (v := undef) rfl (by kernel_rfl) (by kernel_rfl) (by kernel_rfl) (fun _ _ _ h => h) (.inr ⟨rfl, rfl⟩) hS ?_ | (refine wpAnyH_take (i := 11) (v := ?_) rfl (by kernel_rfl) (by kernel_rfl) (by kernel_rfl) (fun _ _ _ h => h) (Or.inl ⟨by rfl, ?_⟩) hS ?_; rotate_left; (intro W hSw; obtain ⟨q0, q1, q2, q3, q4, q5, q6, q7⟩ := HSS.out W hSw; go_simp; try with_reducible rfl))
              try simp only [List.getElem_toArray, List.getElem_cons_succ, List.getElem_cons_zero, Act.put, List.setIfInBounds_toArray, List.set_cons_zero, List.set_cons_succ]
              first | refine wpAnyH_take (i := 12) (v := undef) rfl (by kernel_rfl) (by kernel_rfl) (by kernel_rfl) (fun _ _ _ h => h) (.inr ⟨rfl, rfl⟩) hS ?_ | (refine wpAnyH_take (i := 12) (v := ?_) rfl (by kernel_rfl) (by kernel_rfl) (by kernel_rfl) (fun _ _ _ h => h) (Or.inl ⟨by rfl, ?_⟩) hS ?_; rotate_left; (intro W hSw; obtain ⟨q0, q1, q2, q3, q4, q5, q6, q7⟩ := HSS.out W hSw; go_simp; try with_reducible rfl))
              try simp only [List.getElem_toArray, List.getElem_cons_succ, List.getElem_cons_zero, Act.put, List.setIfInBounds_toArray, List.set_cons_zero, List.set_cons_succ]
              first | refine wpAnyH_take (i := 13) (v := undef) rfl (by kernel_rfl) (by kernel_rfl) (by kernel_rfl) (fun _ _ _ h => h) (.inr ⟨rfl, rfl⟩) hS ?_ | (refine wpAnyH_take (i := 13) (v := ?_) rfl (by kernel_rfl) (by kernel_rfl) (by kernel_rfl) (fun _ _ _ h => h) (Or.inl ⟨by rfl, ?_⟩) hS ?_; rotate_left; (intro W hSw; obtain ⟨q0, q1, q2, q3, q4, q5, q6, q7⟩ := HSS.out W hSw; go_simp; try with_reducible rfl))
              try simp only [List.getElem_toArray, List.getElem_cons_succ, List.getElem_cons_zero, Act.put, List.setIfInBounds_toArray, List.set_cons_zero, List.set_cons_succ]
              first | refine wpAnyH_take (i := 14) (v := undef) rfl (by kernel_rfl) (by kernel_rfl) (by kernel_rfl) (fun _ _ _ h => h) (.inr ⟨rfl, rfl⟩) hS ?_ | (refine wpAnyH_take (i := 14) (v := ?_) rfl (by kernel_rfl) (by kernel_rfl) (by kernel_rfl) (fun _ _ _ h => h) (Or.inl ⟨by rfl, ?_⟩) hS ?_; rotate_left; (intro W hSw; obtain ⟨q0, q1, q2, q3, q4, q5, q6, q7⟩ := HSS.out W hSw; go_simp; try with_reducible rfl))
              try simp only [List.getElem_toArray, List.getElem_cons_succ, List.getElem_cons_zero, Act.put, List.setIfInBounds_toArray, List.set_cons_zero, List.set_cons_succ]
              first | refine wpAnyH_take (i := 15) (v := undef) rfl (by kernel_rfl) (by kernel_rfl) (by kernel_rfl) (fun _ _ _ h => h) (.inr ⟨rfl, rfl⟩) hS ?_ | (refine wpAnyH_take (i := 15) (v := ?_) rfl (by kernel_rfl) (by kernel_rfl) (by kernel_rfl) (fun _ _ _ h => h) (Or.inl ⟨by rfl, ?_⟩) hS ?_; rotate_left; (intro W hSw; obtain ⟨q0, q1, q2, q3, q4, q5, q6, q7⟩ := HSS.out W hSw; go_simp; try with_reducible rfl))
              try simp only [List.getElem_toArray, List.getElem_cons_succ, List.getElem_cons_zero, Act.put, List.setIfInBounds_toArray, List.set_cons_zero, List.set_cons_succ]
              first | refine wpAnyH_take (i := 16) (v := undef) rfl (by kernel_rfl) (by kernel_rfl) (by kernel_rfl) (fun _ _ _ h => h) (.inr ⟨rfl, rfl⟩) hS ?_ | (refine wpAnyH_take (i := 16) (v := ?_) rfl (by kernel_rfl) (by kernel_rfl) (by kernel_rfl) (fun _ _ _ h => h) (Or.inl ⟨by rfl, ?_⟩) hS ?_; rotate_left; (intro W hSw; obtain ⟨q0, q1, q2, q3, q4, q5, q6, q7⟩ := HSS.out W hSw; go_simp; try with_reducible rfl))
              try simp only [List.getElem_toArray, List.getElem_cons_succ, List.getElem_cons_zero, Act.put, List.setIfInBounds_toArray, List.set_cons_zero, List.set_cons_succ]
              first | refine wpAnyH_take (i := 17) (v := undef) rfl (by kernel_rfl) (by kernel_rfl) (by kernel_rfl) (fun _ _ _ h => h) (.inr ⟨rfl, rfl⟩) hS ?_ | (refine wpAnyH_take (i := 17) (v := ?_) rfl (by kernel_rfl) (by kernel_rfl) (by kernel_rfl) (fun _ _ _ h => h) (Or.inl ⟨by rfl, ?_⟩) hS ?_; rotate_left; (intro W hSw; obtain ⟨q0, q1, q2, q3, q4, q5, q6, q7⟩ := HSS.out W hSw; go_simp; try with_reducible rfl))
              try simp only [List.getElem_toArray, List.getElem_cons_succ, List.getElem_cons_zero, Act.put, List.setIfInBounds_toArray, List.set_cons_zero, List.set_cons_succ]
              first | refine wpAnyH_take (i := 18) (v := undef) rfl (by kernel_rfl) (by kernel_rfl) (by kernel_rfl) (fun _ _ _ h => h) (.inr ⟨rfl, rfl⟩) hS ?_ | (refine wpAnyH_take (i := 18) (v := ?_) rfl (by kernel_rfl) (by kernel_rfl) (by kernel_rfl) (fun _ _ _ h => h) (Or.inl ⟨by rfl, ?_⟩) hS ?_; rotate_left; (intro W hSw; obtain ⟨q0, q1, q2, q3, q4, q5, q6, q7⟩ := HSS.out W hSw; go_simp; try with_reducible rfl))
              try simp only [List.getElem_toArray, List.getElem_cons_succ, List.getElem_cons_zero, Act.put, List.setIfInBounds_toArray, List.set_cons_zero, List.set_cons_succ]
              first | refine wpAnyH_take (i := 19) (v := undef) rfl (by kernel_rfl) (by kernel_rfl) (by kernel_rfl) (fun _ _ _ h => h) (.inr ⟨rfl, rfl⟩) hS ?_ | (refine wpAnyH_take (i := 19) (v := ?_) rfl (by kernel_rfl) (by kernel_rfl) (by kernel_rfl) (fun _ _ _ h => h) (Or.inl ⟨by rfl, ?_⟩) hS ?_; rotate_left; (intro W hSw; obtain ⟨q0, q1, q2, q3, q4, q5, q6, q7⟩ := HSS.out W hSw; go_simp; try with_reducible rfl))
              try simp only [List.getElem_toArray, List.getElem_cons_succ, List.getElem_cons_zero, Act.put, List.setIfInBounds_toArray, List.set_cons_zero, List.set_cons_succ]
              first | refine wpAnyH_take (i := 20) (v := undef) rfl (by kernel_rfl) (by kernel_rfl) (by kernel_rfl) (fun _ _ _ h => h) (.inr ⟨rfl, rfl⟩) hS ?_ | (refine wpAnyH_take (i := 20) (v := ?_) rfl (by kernel_rfl) (by kernel_rfl) (by kernel_rfl) (fun _ _ _ h => h) (Or.inl ⟨by rfl, ?_⟩) hS ?_; rotate_left; (intro W hSw; obtain ⟨q0, q1, q2, q3, q4, q5, q6, q7⟩ := HSS.out W hSw; go_simp; try with_reducible rfl))
              try simp only [List.getElem_toArray, List.getElem_cons_succ, List.getElem_cons_zero, Act.put, List.setIfInBounds_toArray, List.set_cons_zero, List.set_cons_succ]
              first | refine wpAnyH_take (i := 21) (v := undef) rfl (by kernel_rfl) (by kernel_rfl) (by kernel_rfl) (fun _ _ _ h => h) (.inr ⟨rfl, rfl⟩) hS ?_ | (refine wpAnyH_take (i := 21) (v := ?_) rfl (by kernel_rfl) (by kernel_rfl) (by kernel_rfl) (fun _ _ _ h => h) (Or.inl ⟨by rfl, ?_⟩) hS ?_; rotate_left; (intro W hSw; obtain ⟨q0, q1, q2, q3, q4, q5, q6, q7⟩ := HSS.out W hSw; go_simp; try with_reducible rfl))
              try simp only [List.getElem_toArray, List.getElem_cons_succ, List.getElem_cons_zero, Act.put, List.setIfInBounds_toArray, List.set_cons_zero, List.set_cons_succ]
              first | refine wpAnyH_take (i := 22) (v := undef) rfl (by kernel_rfl) (by kernel_rfl) (by kernel_rfl) (fun _ _ _ h => h) (.inr ⟨rfl, rfl⟩) hS ?_ | (refine wpAnyH_take (i := 22) (v := ?_) rfl (by kernel_rfl) (by kernel_rfl) (by kernel_rfl) (fun _ _ _ h => h) (Or.inl ⟨by rfl, ?_⟩) hS ?_; rotate_left; (intro W hSw; obtain ⟨q0, q1, q2, q3, q4, q5, q6, q7⟩ := HSS.out W hSw; go_simp; try with_reducible rfl))
              try simp only [List.getElem_toArray, List.getElem_cons_succ, List.getElem_cons_zero, Act.put, List.setIfInBounds_toArray, List.set_cons_zero, List.set_cons_succ]
              first | refine wpAnyH_take (i := 23) (v := undef) rfl (by kernel_rfl) (by kernel_rfl) (by kernel_rfl) (fun _ _ _ h => h) (.inr ⟨rfl, rfl⟩) hS ?_ | (refine wpAnyH_take (i := 23) (v := ?_) rfl (by kernel_rfl) (by kernel_rfl) (by kernel_rfl) (fun _ _ _ h => h) (Or.inl ⟨by rfl, ?_⟩) hS ?_; rotate_left; (intro W hSw; obtain ⟨q0, q1, q2, q3, q4, q5, q6, q7⟩ := HSS.out W hSw; go_simp; try with_reducible rfl))
              try simp only [List.getElem_toArray, List.getElem_cons_succ, List.getElem_cons_zero, Act.put, List.setIfInBounds_toArray, List.set_cons_zero, List.set_cons_succ]
              first | refine wpAnyH_take (i := 24) (v := undef) rfl (by kernel_rfl) (by kernel_rfl) (by kernel_rfl) (fun _ _ _ h => h) (.inr ⟨rfl, rfl⟩) hS ?_ | (refine wpAnyH_take (i := 24) (v := ?_) rfl (by kernel_rfl) (by kernel_rfl) (by kernel_rfl) (fun _ _ _ h => h) (Or.inl ⟨by rfl, ?_⟩) hS ?_; rotate_left; (intro W hSw; obtain ⟨q0, q1, q2, q3, q4, q5, q6, q7⟩ := HSS.out W hSw; go_simp; try with_reducible rfl))
              try simp only [List.getElem_toArray, List.getElem_cons_succ, List.getElem_cons_zero, Act.put, List.setIfInBounds_toArray, List.set_cons_zero, List.set_cons_succ]
              refine wpAnyH_done (by kernel_rfl) ?_ _
              have h5 := H5.out
              have hf : ((List.range np).all fun i => payR l i) = false := by
                refine Bool.eq_false_iff.2 fun h => ?_
                have h8 := List.all_eq_true.1 h i (List.mem_range.2 hlt)
                rw [HR.out] at h8
                simp [h3, h5] at h8
                try omega
              go_wp2
              refine bodyPost_ret (v := .bool false) (by simp [results, Try.results21, go_sem]) rfl ⟨congrArg (fun b => Ending.returned (Value.bool b)) ?_, (HB.out.trans (hS.2.mono HB.out.size))⟩
              rw [HV.out]
              rw [hf]; rfl
            | true =>
              by_cases h6 : px < x
              · skip
                first | refine wpAnyH_take (i := 0) (v := undef) rfl (by kernel_rfl) (by kernel_rfl) (by kernel_rfl) (fun _ _ _ h => h) (.inr ⟨rfl, rfl⟩) hS ?_ | (refine wpAnyH_take (i := 0) (v := ?_) rfl (by kernel_rfl) (by kernel_rfl) (by kernel_rfl) (fun _ _ _ h => h) (Or.inl ⟨by rfl, ?_⟩) hS ?_; rotate_left; (intro W hSw; obtain ⟨q0, q1, q2, q3, q4, q5, q6, q7⟩ := HSS.out W hSw; go_simp; try with_reducible rfl))
                try simp only [List.getElem_toArray, List.getElem_cons_succ, List.getElem_cons_zero, Act.put, List.setIfInBounds_toArray, List.set_cons_zero, List.set_cons_succ]
                first | refine wpAnyH_take (i := 1) (v := undef) rfl (by kernel_rfl) (by kernel_rfl) (by kernel_rfl) (fun _ _ _ h => h) (.inr ⟨rfl, rfl⟩) hS ?_ | (refine wpAnyH_take (i := 1) (v := ?_) rfl (by kernel_rfl) (by kernel_rfl) (by kernel_rfl) (fun _ _ _ h => h) (Or.inl ⟨by rfl, ?_⟩) hS ?_; rotate_left; (intro W hSw; obtain ⟨q0, q1, q2, q3, q4, q5, q6, q7⟩ := HSS.out W hSw; go_simp; try with_reducible rfl))
                try simp only [List.getElem_toArray, List.getElem_cons_succ, List.getElem_cons_zero, Act.put, List.setIfInBounds_toArray, List.set_cons_zero, List.set_cons_succ]
                first | refine wpAnyH_take (i := 2) (v := undef) rfl (by kernel_rfl) (by kernel_rfl) (by kernel_rfl) (fun _ _ _ h => h) (.inr ⟨rfl, rfl⟩) hS ?_ | (refine wpAnyH_take (i := 2) (v := ?_) rfl (by kernel_rfl) (by kernel_rfl) (by kernel_rfl) (fun _ _ _ h => h) (Or.inl ⟨by rfl, ?_⟩) hS ?_; rotate_left; (intro W hSw; obtain ⟨q0, q1, q2, q3, q4, q5, q6, q7⟩ := HSS.out W hSw; go_simp; try with_reducible rfl))
                try simp only [List.getElem_toArray, List.getElem_cons_succ, List.getElem_cons_zero, Act.put, List.setIfInBounds_toArray, List.set_cons_zero, List.set_cons_succ]
                first | refine wpAnyH_take (i := 3) (v := undef) rfl (by kernel_rfl) (by kernel_rfl) (by kernel_rfl) (fun _ _ _ h => h) (.inr ⟨rfl, rfl⟩) hS ?_ | (refine wpAnyH_take (i := 3) (v := ?_) rfl (by kernel_rfl) (by kernel_rfl) (by kernel_rfl) (fun _ _ _ h => h) (Or.inl ⟨by rfl, ?_⟩) hS ?_; rotate_left; (intro W hSw; obtain ⟨q0, q1, q2, q3, q4, q5, q6, q7⟩ := HSS.out W hSw; go_simp; try with_reducible rfl))
                try simp only [List.getElem_toArray, List.getElem_cons_succ, List.getElem_cons_zero, Act.put, List.setIfInBounds_toArray, List.set_cons_zero, List.set_cons_succ]
                first | refine wpAnyH_take (i := 4) (v := undef) rfl (by kernel_rfl) (by kernel_rfl) (by kernel_rfl) (fun _ _ _ h => h) (.inr ⟨rfl, rfl⟩) hS ?_ | (refine wpAnyH_take (i := 4) (v := ?_) rfl (by kernel_rfl) (by kernel_rfl) (by kernel_rfl) (fun _ _ _ h => h) (Or.inl ⟨by rfl, ?_⟩) hS ?_; rotate_left; (intro W hSw; obtain ⟨q0, q1, q2, q3, q4, q5, q6, q7⟩ := HSS.out W hSw; go_simp; try with_reducible rfl))
                try simp only [List.getElem_toArray, List.getElem_cons_succ, List.getElem_cons_zero, Act.put, List.setIfInBounds_toArray, List.set_cons_zero, List.set_cons_succ]
                refine wpAnyH_ready (rs := [5]) (by kernel_rfl) (by simp) ?_
                refine AllReadyH.cons rfl (fun K hK => ?_) AllReadyH.nil
                go_simp
                refine (r13in_any _ _ _ _).mono ?_
                rintro e wz ⟨rfl, rfl⟩
                rw [h3]
                dsimp only
                refine hK.out _ _ hS (fun hS => ?_)
                clear hK K
                try simp only [List.getElem_toArray, List.getElem_cons_succ, List.getElem_cons_zero, Act.put, List.setIfInBounds_toArray, List.set_cons_zero, List.set_cons_succ]
                first | refine wpAnyH_take (i := 6) (v := undef) rfl (by kernel_rfl) (by kernel_rfl) (by kernel_rfl) (fun _ _ _ h => h) (.inr ⟨rfl, rfl⟩) hS ?_ | (refine wpAnyH_take (i := 6) (v := ?_) rfl (by kernel_rfl) (by kernel_rfl) (by kernel_rfl) (fun _ _ _ h => h) (Or.inl ⟨by rfl, ?_⟩) hS ?_; rotate_left; (intro W hSw; obtain ⟨q0, q1, q2, q3, q4, q5, q6, q7⟩ := HSS.out W hSw; go_simp; try with_reducible rfl))
                try simp only [List.getElem_toArray, List.getElem_cons_succ, List.getElem_cons_zero, Act.put, List.setIfInBounds_toArray, List.set_cons_zero, List.set_cons_succ]
                first | refine wpAnyH_take (i := 7) (v := undef) rfl (by kernel_rfl) (by kernel_rfl) (by kernel_rfl) (fun _ _ _ h => h) (.inr ⟨rfl, rfl⟩) hS ?_ | (refine wpAnyH_take (i := 7) (v := ?_) rfl (by kernel_rfl) (by kernel_rfl) (by kernel_rfl) (fun _ _ _ h => h) (Or.inl ⟨by rfl, ?_⟩) hS ?_; rotate_left; (intro W hSw; obtain ⟨q0, q1, q2, q3, q4, q5, q6, q7⟩ := HSS.out W hSw; go_simp; try with_reducible rfl))
                try simp only [List.getElem_toArray, List.getElem_cons_succ, List.getElem_cons_zero, Act.put, List.setIfInBounds_toArray, List.set_cons_zero, List.set_cons_succ]
                first | refine wpAnyH_take (i := 8) (v := undef) rfl (by kernel_rfl) (by kernel_rfl) (by kernel_rfl) (fun _ _ _ h => h) (.inr ⟨rfl, rfl⟩) hS ?_ | (refine wpAnyH_take (i := 8) (v := ?_) rfl (by kernel_rfl) (by kernel_rfl) (by kernel_rfl) (fun _ _ _ h => h) (Or.inl ⟨by rfl, ?_⟩) hS ?_; rotate_left; (intro W hSw; obtain ⟨q0, q1, q2, q3, q4, q5, q6, q7⟩ := HSS.out W hSw; go_simp; try with_reducible rfl))
                try simp only [List.getElem_toArray, List.getElem_cons_succ, List.getElem_cons_zero, Act.put, List.setIfInBounds_toArray, List.set_cons_zero, List.set_cons_succ]
                first | refine wpAnyH_take (i := 9) (v := undef) rfl (by kernel_rfl) (by kernel_rfl) (by kernel_rfl) (fun _ _ _ h => h) (.inr ⟨rfl, rfl⟩) hS ?_ | (refine wpAnyH_take (i := 9) (v := ?_) rfl (by kernel_rfl) (by kernel_rfl) (by kernel_rfl) (fun _ _ _ h => h) (Or.inl ⟨by rfl, ?_⟩) hS ?_; rotate_left; (intro W hSw; obtain ⟨q0, q1, q2, q3, q4, q5, q6, q7⟩ := HSS.out W hSw; go_simp; try with_reducible rfl))
                try simp only [List.getElem_toArray, List.getElem_cons_succ, List.getElem_cons_zero, Act.put, List.setIfInBounds_toArray, List.set_cons_zero, List.set_cons_succ]
                first | refine wpAnyH_take (i := 10) (v := undef) rfl (by kernel_rfl) (by kernel_rfl) (by kernel_rfl) (fun _ _ _ h => h) (.inr ⟨rfl, rfl⟩) hS ?_ | (refine wpAnyH_take (i := 10) (v := ?_) rfl (by kernel_rfl) (by kernel_rfl) (by kernel_rfl) (fun _ _ _ h => h) (Or.inl ⟨by rfl, ?_⟩) hS ?_; rotate_left; (intro W hSw; obtain ⟨q0, q1, q2, q3, q4, q5, q6, q7⟩ := HSS.out W hSw; go_simp; try with_reducible rfl))
                try simp only [List.getElem_toArray, List.getElem_cons_succ, List.getElem_cons_zero, Act.put, List.setIfInBounds_toArray, List.set_cons_zero, List.set_cons_succ]
                first | refine wpAnyH_take (i := 11) (v := undef) rfl (by kernel_rfl) (by kernel_rfl) (by kernel_rfl) (fun _ _ _ h => h) (.inr ⟨rfl, rfl⟩) hS ?_ | (refine wpAnyH_take (i := 11) (v := ?_) rfl (by kernel_rfl) (by kernel_rfl) (by kernel_rfl) (fun _ _ _ h => h) (Or.inl ⟨by rfl, ?_⟩) hS ?_; rotate_left; (intro W hSw; obtain ⟨q0, q1, q2, q3, q4, q5, q6, q7⟩ := HSS.out W hSw; go_simp; try with_reducible rfl))
                try simp only [List.getElem_toArray, List.getElem_cons_succ, List.getElem_cons_zero, Act.put, List.setIfInBounds_toArray, List.set_cons_zero, List.set_cons_succ]
                first | refine wpAnyH_take (i := 12) (v := undef) rfl (by kernel_rfl) (by kernel_rfl) (by kernel_rfl) (fun _ _ _ h => h) (.inr ⟨rfl, rfl⟩) hS ?_ | (refine wpAnyH_take (i := 12) (v := ?_) rfl (by kernel_rfl) (by kernel_rfl) (by kernel_rfl) (fun _ _ _ h => h) (Or.inl ⟨by rfl, ?_⟩) hS ?_; rotate_left; (intro W hSw; obtain ⟨q0, q1, q2, q3, q4, q5, q6, q7⟩ := HSS.out W hSw; go_simp; try with_reducible rfl))
                try simp only [List.getElem_toArray, List.getElem_cons_succ, List.getElem_cons_zero, Act.put, List.setIfInBounds_toArray, List.set_cons_zero, List.set_cons_succ]
                first | refine wpAnyH_take (i := 13) (v := undef) rfl (by kernel_rfl) (by kernel_rfl) (by kernel_rfl) (fun _ _ _ h => h) (.inr ⟨rfl, rfl⟩) hS ?_ | (refine wpAnyH_take (i := 13) (v := ?_) rfl (by kernel_rfl) (by kernel_rfl) (by kernel_rfl) (fun _ _ _ h => h) (Or.inl ⟨by rfl, ?_⟩) hS ?_; rotate_left; (intro W hSw; obtain ⟨q0, q1, q2, q3, q4, q5, q6, q7⟩ := HSS.out W hSw; go_simp; try with_reducible rfl))
                try simp only [List.getElem_toArray, List.getElem_cons_succ, List.getElem_cons_zero, Act.put, List.setIfInBounds_toArray, List.set_cons_zero, List.set_cons_succ]
                first | refine wpAnyH_take (i := 14) (v := undef) rfl (by kernel_rfl) (by kernel_rfl) (by kernel_rfl) (fun _ _ _ h => h) (.inr ⟨rfl, rfl⟩) hS ?_ | (refine wpAnyH_take (i := 14) (v := ?_) rfl (by kernel_rfl) (by kernel_rfl) (by kernel_rfl) (fun _ _ _ h => h) (Or.inl ⟨by rfl, ?_⟩) hS ?_; rotate_left; (intro W hSw; obtain ⟨q0, q1, q2, q3, q4, q5, q6, q7⟩ := HSS.out W hSw; go_simp; try with_reducible rfl))
                try simp only [List.getElem_toArray, List.getElem_cons_succ, List.getElem_cons_zero, Act.put, List.setIfInBounds_toArray, List.set_cons_zero, List.set_cons_succ]
                first | refine wpAnyH_take (i := 15) (v := undef) rfl (by kernel_rfl) (by kernel_rfl) (by kernel_rfl) (fun _ _ _ h => h) (.inr ⟨rfl, rfl⟩) hS ?_ | (refine wpAnyH_take (i := 15) (v := ?_) rfl (by kernel_rfl) (by kernel_rfl) (by kernel_rfl) (fun _ _ _ h => h) (Or.inl ⟨by rfl, ?_⟩) hS ?_; rotate_left; (intro W hSw; obtain ⟨q0, q1, q2, q3, q4, q5, q6, q7⟩ := HSS.out W hSw; go_simp; try with_reducible rfl))
                try simp only [List.getElem_toArray, List.getElem_cons_succ, List.getElem_cons_zero, Act.put, List.setIfInBounds_toArray, List.set_cons_zero, List.set_cons_succ]
                first | refine wpAnyH_take (i := 16) (v := undef) rfl (by kernel_rfl) (by kernel_rfl) (by kernel_rfl) (fun _ _ _ h => h) (.inr ⟨rfl, rfl⟩) hS ?_ | (refine wpAnyH_take (i := 16) (v := ?_) rfl (by kernel_rfl) (by kernel_rfl) (by kernel_rfl) (fun _ _ _ h => h) (Or.inl ⟨by rfl, ?_⟩) hS ?_; rotate_left; (intro W hSw; obtain ⟨q0, q1, q2, q3, q4, q5, q6, q7⟩ := HSS.out W hSw; go_simp; try with_reducible rfl))
                try simp only [List.getElem_toArray, List.getElem_cons_succ, List.getElem_cons_zero, Act.put, List.setIfInBounds_toArray, List.set_cons_zero, List.set_cons_succ]
                first | refine wpAnyH_take (i := 17) (v := undef) rfl (by kernel_rfl) (by kernel_rfl) (by kernel_rfl) (fun _ _ _ h => h) (.inr ⟨rfl, rfl⟩) hS ?_ | (refine wpAnyH_take (i := 17) (v := ?_) rfl (by kernel_rfl) (by kernel_rfl) (by kernel_rfl) (fun _ _ _ h => h) (Or.inl ⟨by rfl, ?_⟩) hS ?_; rotate_left; (intro W hSw; obtain ⟨q0, q1, q2, q3, q4, q5, q6, q7⟩ := HSS.out W hSw; go_simp; try with_reducible rfl))
                try simp only [List.getElem_toArray, List.getElem_cons_succ, List.getElem_cons_zero, Act.put, List.setIfInBounds_toArray, List.set_cons_zero, List.set_cons_succ]
                first | refine wpAnyH_take (i := 18) (v := undef) rfl (by kernel_rfl) (by kernel_rfl) (by kernel_rfl) (fun _ _ _ h => h) (.inr ⟨rfl, rfl⟩) hS ?_ | (refine wpAnyH_take (i := 18) (v := ?_) rfl (by kernel_rfl) (by kernel_rfl) (by kernel_rfl) (fun _ _ _ h => h) (Or.inl ⟨by rfl, ?_⟩) hS ?_; rotate_left; (intro W hSw; obtain ⟨q0, q1, q2, q3, q4, q5, q6, q7⟩ := HSS.out W hSw; go_simp; try with_reducible rfl))
                try simp only [List.getElem_toArray, List.getElem_cons_succ, List.getElem_cons_zero, Act.put, List.setIfInBounds_toArray, List.set_cons_zero, List.set_cons_succ]
                first | refine wpAnyH_take (i := 19) (v := undef) rfl (by kernel_rfl) (by kernel_rfl) (by kernel_rfl) (fun _ _ _ h => h) (.inr ⟨rfl, rfl⟩) hS ?_ | (refine wpAnyH_take (i := 19) (v := ?_) rfl (by kernel_rfl) (by kernel_rfl) (by kernel_rfl) (fun _ _ _ h => h) (Or.inl ⟨by rfl, ?_⟩) hS ?_; rotate_left; (intro W hSw; obtain ⟨q0, q1, q2, q3, q4, q5, q6, q7⟩ := HSS.out W hSw; go_simp; try with_reducible rfl))
                try simp only [List.getElem_toArray, List.getElem_cons_succ, List.getElem_cons_zero, Act.put, List.setIfInBounds_toArray, List.set_cons_zero, List.set_cons_succ]
                first | refine wpAnyH_take (i := 20) (v := undef) rfl (by kernel_rfl) (by kernel_rfl) (by kernel_rfl) (fun _ _ _ h => h) (.inr ⟨rfl, rfl⟩) hS ?_ | (refine wpAnyH_take (i := 20) (v := ?_) rfl (by kernel_rfl) (by kernel_rfl) (by kernel_rfl) (fun _ _ _ h => h) (Or.inl ⟨by rfl, ?_⟩) hS ?_; rotate_left; (intro W hSw; obtain ⟨q0, q1, q2, q3, q4, q5, q6, q7⟩ := HSS.out W hSw; go_simp; try with_reducible rfl))
                try simp only [List.getElem_toArray, List.getElem_cons_succ, List.getElem_cons_zero, Act.put, List.setIfInBounds_toArray, List.set_cons_zero, List.set_cons_succ]
                first | refine wpAnyH_take (i := 21) (v := undef) rfl (by kernel_rfl) (by kernel_rfl) (by kernel_rfl) (fun _ _ _ h => h) (.inr ⟨rfl, rfl⟩) hS ?_ | (refine wpAnyH_take (i := 21) (v := ?_) rfl (by kernel_rfl) (by kernel_rfl) (by kernel_rfl) (fun _ _ _ h => h) (Or.inl ⟨by rfl, ?_⟩) hS ?_; rotate_left; (intro W hSw; obtain ⟨q0, q1, q2, q3, q4, q5, q6, q7⟩ := HSS.out W hSw; go_simp; try with_reducible rfl))
                try simp only [List.getElem_toArray, List.getElem_cons_succ, List.getElem_cons_zero, Act.put, List.setIfInBounds_toArray, List.set_cons_zero, List.set_cons_succ]
                first | refine wpAnyH_take (i := 22) (v := undef) rfl (by kernel_rfl) (by kernel_rfl) (by kernel_rfl) (fun _ _ _ h => h) (.inr ⟨rfl, rfl⟩) hS ?_ | (refine wpAnyH_take (i := 22) (v := ?_) rfl (by kernel_rfl) (by kernel_rfl) (by kernel_rfl) (fun _ _ _ h => h) (Or.inl ⟨by rfl, ?_⟩) hS ?_; rotate_left; (intro W hSw; obtain ⟨q0, q1, q2, q3, q4, q5, q6, q7⟩ := HSS.out W hSw; go_simp; try with_reducible rfl))
                try simp only [List.getElem_toArray, List.getElem_cons_succ, List.getElem_cons_zero, Act.put, List.setIfInBounds_toArray, List.set_cons_zero, List.set_cons_succ]
                first | refine wpAnyH_take (i := 23) (v := undef) rfl (by kernel_rfl) (by kernel_rfl) (by kernel_rfl) (fun _ _ _ h => h) (.inr ⟨rfl, rfl⟩) hS ?_ | (refine wpAnyH_take (i := 23) (v := ?_) rfl (by kernel_rfl) (by kernel_rfl) (by kernel_rfl) (fun _ _ _ h => h) (Or.inl ⟨by rfl, ?_⟩) hS ?_; rotate_left; (intro W hSw; obtain ⟨q0, q1, q2, q3, q4, q5, q6, q7⟩ := HSS.out W hSw; go_simp; try with_reducible rfl))
                try simp only [List.getElem_toArray, List.getElem_cons_succ, List.getElem_cons_zero, Act.put, List.setIfInBounds_toArray, List.set_cons_zero, List.set_cons_succ]
                first | refine wpAnyH_take (i := 24) (v := undef) rfl (by kernel_rfl) (by kernel_rfl) (by kernel_rfl) (fun _ _ _ h => h) (.inr ⟨rfl, rfl⟩) hS ?_ | (refine wpAnyH_take (i := 24) (v := ?_) rfl (by kernel_rfl) (by kernel_rfl) (by kernel_rfl) (fun _ _ _ h => h) (Or.inl ⟨by rfl, ?_⟩) hS ?_; rotate_left; (intro W hSw; obtain ⟨q0, q1, q2, q3, q4, q5, q6, q7⟩ := HSS.out W hSw; go_simp; try with_reducible rfl))
                try simp only [List.getElem_toArray, List.getElem_cons_succ, List.getElem_cons_zero, Act.put, List.setIfInBounds_toArray, List.set_cons_zero, List.set_cons_succ]
                refine wpAnyH_done (by kernel_rfl) ?_ _
                have h5 := H5.out
                have hf : ((List.range np).all fun i => payR l i) = false := by
                  refine Bool.eq_false_iff.2 fun h => ?_
                  have h8 := List.all_eq_true.1 h i (List.mem_range.2 hlt)
                  rw [HR.out] at h8
                  simp [h3, h5] at h8
                  try omega
                go_wp2
                refine bodyPost_ret (v := .bool false) (by simp [results, Try.results21, go_sem]) rfl ⟨congrArg (fun b => Ending.returned (Value.bool b)) ?_, (HB.out.trans (hS.2.mono HB.out.size))⟩
                rw [HV.out]
                rw [hf]; rfl
              first | refine wpAnyH_take (i := 0) (v := undef) rfl (by kernel_rfl) (by kernel_rfl) (by kernel_rfl) (fun _ _ _ h => h) (.inr ⟨rfl, rfl⟩) hS ?_ | (refine wpAnyH_take (i := 0) (v := ?_) rfl (by kernel_rfl) (by kernel_rfl) (by kernel_rfl) (fun _ _ _ h => h) (Or.inl ⟨by rfl, ?_⟩) hS ?_; rotate_left; (intro W hSw; obtain ⟨q0, q1, q2, q3, q4, q5, q6, q7⟩ := HSS.out W hSw; go_simp; try with_reducible rfl))
              try simp only [List.getElem_toArray, List.getElem_cons_succ, List.getElem_cons_zero, Act.put, List.setIfInBounds_toArray, List.set_cons_zero, List.set_cons_succ]
              first | refine wpAnyH_take (i := 1) (v := undef) rfl (by kernel_rfl) (by kernel_rfl) (by kernel_rfl) (fun _ _ _ h => h) (.inr ⟨rfl, rfl⟩) hS ?_ | (refine wpAnyH_take (i := 1) (v := ?_) rfl (by kernel_rfl) (by kernel_rfl) (by kernel_rfl) (fun _ _ _ h => h) (Or.inl ⟨by rfl, ?_⟩) hS ?_; rotate_left; (intro W hSw; obtain ⟨q0, q1, q2, q3, q4, q5, q6, q7⟩ := HSS.out W hSw; go_simp; try with_reducible rfl))
              try simp only [List.getElem_toArray, List.getElem_cons_succ, List.getElem_cons_zero, Act.put, List.setIfInBounds_toArray, List.set_cons_zero, List.set_cons_succ]
              first | refine wpAnyH_take (i := 2) (v := undef) rfl (by kernel_rfl) (by kernel_rfl) (by kernel_rfl) (fun _ _ _ h => h) (.inr ⟨rfl, rfl⟩) hS ?_ | (refine wpAnyH_take (i := 2) (v := ?_) rfl (by kernel_rfl) (by kernel_rfl) (by kernel_rfl) (fun _ _ _ h => h) (Or.inl ⟨by rfl, ?_⟩) hS ?_; rotate_left; (intro W hSw; obtain ⟨q0, q1, q2, q3, q4, q5, q6, q7⟩ := HSS.out W hSw; go_simp; try with_reducible rfl))
              try simp only [List.getElem_toArray, List.getElem_cons_succ, List.getElem_cons_zero, Act.put, List.setIfInBounds_toArray, List.set_cons_zero, List.set_cons_succ]
              first | refine wpAnyH_take (i := 3) (v := undef) rfl (by kernel_rfl) (by kernel_rfl) (by kernel_rfl) (fun _ _ _ h => h) (.inr ⟨rfl, rfl⟩) hS ?_ | (refine wpAnyH_take (i := 3) (v := ?_) rfl (by kernel_rfl) (by kernel_rfl) (by kernel_rfl) (fun _ _ _ h => h) (Or.inl ⟨by rfl, ?_⟩) hS ?_; rotate_left; (intro W hSw; obtain ⟨q0, q1, q2, q3, q4, q5, q6, q7⟩ := HSS.out W hSw; go_simp; try with_reducible rfl))
              try simp only [List.getElem_toArray, List.getElem_cons_succ, List.getElem_cons_zero, Act.put, List.setIfInBounds_toArray, List.set_cons_zero, List.set_cons_succ]
              first | refine wpAnyH_take (i := 4) (v := undef) rfl (by kernel_rfl) (by kernel_rfl) (by kernel_rfl) (fun _ _ _ h => h) (.inr ⟨rfl, rfl⟩) hS ?_ | (refine wpAnyH_take (i := 4) (v := ?_) rfl (by kernel_rfl) (by kernel_rfl) (by kernel_rfl) (fun _ _ _ h => h) (Or.inl ⟨by rfl, ?_⟩) hS ?_; rotate_left; (intro W hSw; obtain ⟨q0, q1, q2, q3, q4, q5, q6, q7⟩ := HSS.out W hSw; go_simp; try with_reducible rfl))
              try simp only [List.getElem_toArray, List.getElem_cons_succ, List.getElem_cons_zero, Act.put, List.setIfInBounds_toArray, List.set_cons_zero, List.set_cons_succ]
              refine wpAnyH_ready (rs := [5]) (by kernel_rfl) (by simp) ?_
              refine AllReadyH.cons rfl (fun K hK => ?_) AllReadyH.nil
              go_simp
              refine (r13in_any _ _ _ _).mono ?_
              rintro e wz ⟨rfl, rfl⟩
              rw [h3]
              dsimp only
              refine hK.out _ _ hS (fun hS => ?_)
              clear hK K
              try simp only [List.getElem_toArray, List.getElem_cons_succ, List.getElem_cons_zero, Act.put, List.setIfInBounds_toArray, List.set_cons_zero, List.set_cons_succ]
              first | refine wpAnyH_take (i := 6) (v := undef) rfl (by kernel_rfl) (by kernel_rfl) (by kernel_rfl) (fun _ _ _ h => h) (.inr ⟨rfl, rfl⟩) hS ?_ | (refine wpAnyH_take (i := 6) (v := ?_) rfl (by kernel_rfl) (by kernel_rfl) (by kernel_rfl) (fun _ _ _ h => h) (Or.inl ⟨by rfl, ?_⟩) hS ?_; rotate_left; (intro W hSw; obtain ⟨q0, q1, q2, q3, q4, q5, q6, q7⟩ := HSS.out W hSw; go_simp; try with_reducible rfl))
              try simp only [List.getElem_toArray, List.getElem_cons_succ, List.getElem_cons_zero, Act.put, List.setIfInBounds_toArray, List.set_cons_zero, List.set_cons_succ]
              first | refine wpAnyH_take (i := 7) (v := undef) rfl (by kernel_rfl) (by kernel_rfl) (by kernel_rfl) (fun _ _ _ h => h) (.inr ⟨rfl, rfl⟩) hS ?_ | (refine wpAnyH_take (i := 7) (v := ?_) rfl (by kernel_rfl) (by kernel_rfl) (by kernel_rfl) (fun _ _ _ h => h) (Or.inl ⟨by rfl, ?_⟩) hS ?_; rotate_left; (intro W hSw; obtain ⟨q0, q1, q2, q3, q4, q5, q6, q7⟩ := HSS.out W hSw; go_simp; try with_reducible rfl))
              try simp only [List.getElem_toArray, List.getElem_cons_succ, List.getElem_cons_zero, Act.put, List.setIfInBounds_toArray, List.set_cons_zero, List.set_cons_succ]
              first | refine wpAnyH_take (i := 8) (v := undef) rfl (by kernel_rfl) (by kernel_rfl) (by kernel_rfl) (fun _ _ _ h => h) (.inr ⟨rfl, rfl⟩) hS ?_ | (refine wpAnyH_take (i := 8) (v := ?_) rfl (by kernel_rfl) (by kernel_rfl) (by kernel_rfl) (fun _ _ _ h => h) (Or.inl ⟨by rfl, ?_⟩) hS ?_; rotate_left; (intro W hSw; obtain ⟨q0, q1, q2, q3, q4, q5, q6, q7⟩ := HSS.out W hSw; go_simp; try with_reducible rfl))
              try simp only [List.getElem_toArray, List.getElem_cons_succ, List.getElem_cons_zero, Act.put, List.setIfInBounds_toArray, List.set_cons_zero, List.set_cons_succ]
              first | refine wpAnyH_take (i := 9) (v := undef) rfl (by kernel_rfl) (by kernel_rfl) (by kernel_rfl) (fun _ _ _ h => h) (.inr ⟨rfl, rfl⟩) hS ?_ | (refine wpAnyH_take (i := 9) (v := ?_) rfl (by kernel_rfl) (by kernel_rfl) (by kernel_rfl) (fun _ _ _ h => h) (Or.inl ⟨by rfl, ?_⟩) hS ?_; rotate_left; (intro W hSw; obtain ⟨q0, q1, q2, q3, q4, q5, q6, q7⟩ := HSS.out W hSw; go_simp; try with_reducible rfl))
              try simp only [List.getElem_toArray, List.getElem_cons_succ, List.getElem_cons_zero, Act.put, List.setIfInBounds_toArray, List.set_cons_zero, List.set_cons_succ]
              first | refine wpAnyH_take (i := 10) (v := undef) rfl (by kernel_rfl) (by kernel_rfl) (by kernel_rfl) (fun _ _ _ h => h) (.inr ⟨rfl, rfl⟩) hS ?_ | (refine wpAnyH_take (i := 10) (v := ?_) rfl (by kernel_rfl) (by kernel_rfl) (by kernel_rfl) (fun _ _ _ h => h) (Or.inl ⟨by rfl, ?_⟩) hS ?_; rotate_left; (intro W hSw; obtain ⟨q0, q1, q2, q3, q4, q5, q6, q7⟩ := HSS.out W hSw; go_simp; try with_reducible rfl))
              try simp only [List.getElem_toArray, List.getElem_cons_succ, List.getElem_cons_zero, Act.put, List.setIfInBounds_toArray, List.set_cons_zero, List.set_cons_succ]
              first | refine wpAnyH_take (i := 11) (v := undef) rfl (by kernel_rfl) (by kernel_rfl) (by kernel_rfl) (fun _ _ _ h => h) (.inr ⟨rfl, rfl⟩) hS ?_ | (refine wpAnyH_take (i := 11) (v := ?_) rfl (by kernel_rfl) (by kernel_rfl) (by kernel_rfl) (fun _ _ _ h => h) (Or.inl ⟨by rfl, ?_⟩) hS ?_; rotate_left; (intro W hSw; obtain ⟨q0, q1, q2, q3, q4, q5, q6, q7⟩ := HSS.out W hSw; go_simp; try with_reducible rfl))
              try simp only [List.getElem_toArray, List.getElem_cons_succ, List.getElem_cons_zero, Act.put, List.setIfInBounds_toArray, List.set_cons_zero, List.set_cons_succ]
              first | refine wpAnyH_take (i := 12) (v := undef) rfl (by kernel_rfl) (by kernel_rfl) (by kernel_rfl) (fun _ _ _ h => h) (.inr ⟨rfl, rfl⟩) hS ?_ | (refine wpAnyH_take (i := 12) (v := ?_) rfl (by kernel_rfl) (by kernel_rfl) (by kernel_rfl) (fun _ _ _ h => h) (Or.inl ⟨by rfl, ?_⟩) hS ?_; rotate_left; (intro W hSw; obtain ⟨q0, q1, q2, q3, q4, q5, q6, q7⟩ := HSS.out W hSw; go_simp; try with_reducible rfl))
              try simp only [List.getElem_toArray, List.getElem_cons_succ, List.getElem_cons_zero, Act.put, List.setIfInBounds_toArray, List.set_cons_zero, List.set_cons_succ]
              first | refine wpAnyH_take (i := 13) (v := undef) rfl (by kernel_rfl) (by kernel_rfl) (by kernel_rfl) (fun _ _ _ h => h) (.inr ⟨rfl, rfl⟩) hS ?_ | (refine wpAnyH_take (i := 13) (v := ?_) rfl (by kernel_rfl) (by kernel_rfl) (by kernel_rfl) (fun _ _ _ h => h) (Or.inl ⟨by rfl, ?_⟩) hS ?_; rotate_left; (intro W hSw; obtain ⟨q0, q1, q2, q3, q4, q5, q6, q7⟩ := HSS.out W hSw; go_simp; try with_reducible rfl))
              try simp only [List.getElem_toArray, List.getElem_cons_succ, List.getElem_cons_zero, Act.put, List.setIfInBounds_toArray, List.set_cons_zero, List.set_cons_succ]
              first | refine wpAnyH_take (i := 14) (v := undef) rfl (by kernel_rfl) (by kernel_rfl) (by kernel_rfl) (fun _ _ _ h => h) (.inr ⟨rfl, rfl⟩) hS ?_ | (refine wpAnyH_take (i := 14) (v := ?_) rfl (by kernel_rfl) (by kernel_rfl) (by kernel_rfl) (fun _ _ _ h => h) (Or.inl ⟨by rfl, ?_⟩) hS ?_; rotate_left; (intro W hSw; obtain ⟨q0, q1, q2, q3, q4, q5, q6, q7⟩ := HSS.out W hSw; go_simp; try with_reducible rfl))
              try simp only [List.getElem_toArray, List.getElem_cons_succ, List.getElem_cons_zero, Act.put, List.setIfInBounds_toArray, List.set_cons_zero, List.set_cons_succ]
              first | refine wpAnyH_take (i := 15) (v := undef) rfl (by kernel_rfl) (by kernel_rfl) (by kernel_rfl) (fun _ _ _ h => h) (.inr ⟨rfl, rfl⟩) hS ?_ | (refine wpAnyH_take (i := 15) (v := ?_) rfl (by kernel_rfl) (by kernel_rfl) (by kernel_rfl) (fun _ _ _ h => h) (Or.inl ⟨by rfl, ?_⟩) hS ?_; rotate_left; (intro W hSw; obtain ⟨q0, q1, q2, q3, q4, q5, q6, q7⟩ := HSS.out W hSw; go_simp; try with_reducible rfl))
              try simp only [List.getElem_toArray, List.getElem_cons_succ, List.getElem_cons_zero, Act.put, List.setIfInBounds_toArray, List.set_cons_zero, List.set_cons_succ]
              first | refine wpAnyH_take (i := 16) (v := undef) rfl (by kernel_rfl) (by kernel_rfl) (by kernel_rfl) (fun _ _ _ h => h) (.inr ⟨rfl, rfl⟩) hS ?_ | (refine wpAnyH_take (i := 16) (v := ?_) rfl (by kernel_rfl) (by kernel_rfl) (by kernel_rfl) (fun _ _ _ h => h) (Or.inl ⟨by rfl, ?_⟩) hS ?_; rotate_left; (intro W hSw; obtain ⟨q0, q1, q2, q3, q4, q5, q6, q7⟩ := HSS.out W hSw; go_simp; try with_reducible rfl))
              try simp only [List.getElem_toArray, List.getElem_cons_succ, List.getElem_cons_zero, Act.put, List.setIfInBounds_toArray, List.set_cons_zero, List.set_cons_succ]
              first | refine wpAnyH_take (i := 17) (v := undef) rfl (by kernel_rfl) (by kernel_rfl) (by kernel_rfl) (fun _ _ _ h => h) (.inr ⟨rfl, rfl⟩) hS ?_ | (refine wpAnyH_take (i := 17) (v := ?_) rfl (by kernel_rfl) (by kernel_rfl) (by kernel_rfl) (fun _ _ _ h => h) (Or.inl ⟨by rfl, ?_⟩) hS ?_; rotate_left; (intro W hSw; obtain ⟨q0, q1, q2, q3, q4, q5, q6, q7⟩ := HSS.out W hSw; go_simp; try with_reducible rfl))
              try simp only [List.getElem_toArray, List.getElem_cons_succ, List.getElem_cons_zero, Act.put, List.setIfInBounds_toArray, List.set_cons_zero, List.set_cons_succ]
              first | refine wpAnyH_take (i := 18) (v := undef) rfl (by kernel_rfl) (by kernel_rfl) (by kernel_rfl) (fun _ _ _ h => h) (.inr ⟨rfl, rfl⟩) hS ?_ | (refine wpAnyH_take (i := 18) (v := ?_) rfl (by kernel_rfl) (by kernel_rfl) (by kernel_rfl) (fun _ _ _ h => h) (Or.inl ⟨by rfl, ?_⟩) hS ?_; rotate_left; (intro W hSw; obtain ⟨q0, q1, q2, q3, q4, q5, q6, q7⟩ := HSS.out W hSw; go_simp; try with_reducible rfl))
              try simp only [List.getElem_toArray, List.getElem_cons_succ, List.getElem_cons_zero, Act.put, List.setIfInBounds_toArray, List.set_cons_zero, List.set_cons_succ]
              first | refine wpAnyH_take (i := 19) (v := undef) rfl (by kernel_rfl) (by kernel_rfl) (by kernel_rfl) (fun _ _ _ h => h) (.inr ⟨rfl, rfl⟩) hS ?_ | (refine wpAnyH_take (i := 19) (v := ?_) rfl (by kernel_rfl) (by kernel_rfl) (by kernel_rfl) (fun _ _ _ h => h) (Or.inl ⟨by rfl, ?_⟩) hS ?_; rotate_left; (intro W hSw; obtain ⟨q0, q1, q2, q3, q4, q5, q6, q7⟩ := HSS.out W hSw; go_simp; try with_reducible rfl))
              try simp only [List.getElem_toArray, List.getElem_cons_succ, List.getElem_cons_zero, Act.put, List.setIfInBounds_toArray, List.set_cons_zero, List.set_cons_succ]
              first | refine wpAnyH_take (i := 20) (v := undef) rfl (by kernel_rfl) (by kernel_rfl) (by kernel_rfl) (fun _ _ _ h => h) (.inr ⟨rfl, rfl⟩) hS ?_ | (refine wpAnyH_take (i := 20) (v := ?_) rfl (by kernel_rfl) (by kernel_rfl) (by kernel_rfl) (fun _ _ _ h => h) (Or.inl ⟨by rfl, ?_⟩) hS ?_; rotate_left; (intro W hSw; obtain ⟨q0, q1, q2, q3, q4, q5, q6, q7⟩ := HSS.out W hSw; go_simp; try with_reducible rfl))
              try simp only [List.getElem_toArray, List.getElem_cons_succ, List.getElem_cons_zero, Act.put, List.setIfInBounds_toArray, List.set_cons_zero, List.set_cons_succ]
              first | refine wpAnyH_take (i := 21) (v := undef) rfl (by kernel_rfl) (by kernel_rfl) (by kernel_rfl) (fun _ _ _ h => h) (.inr ⟨rfl, rfl⟩) hS ?_ | (refine wpAnyH_take (i := 21) (v := ?_) rfl (by kernel_rfl) (by kernel_rfl) (by kernel_rfl) (fun _ _ _ h => h) (Or.inl ⟨by rfl, ?_⟩) hS ?_; rotate_left; (intro W hSw; obtain ⟨q0, q1, q2, q3, q4, q5, q6, q7⟩ := HSS.out W hSw; go_simp; try with_reducible rfl))
              try simp only [List.getElem_toArray, List.getElem_cons_succ, List.getElem_cons_zero, Act.put, List.setIfInBounds_toArray, List.set_cons_zero, List.set_cons_succ]
              first | refine wpAnyH_take (i := 22) (v := undef) rfl (by kernel_rfl) (by kernel_rfl) (by kernel_rfl) (fun _ _ _ h => h) (.inr ⟨rfl, rfl⟩) hS ?_ | (refine wpAnyH_take (i := 22) (v := ?_) rfl (by kernel_rfl) (by kernel_rfl) (by kernel_rfl) (fun _ _ _ h => h) (Or.inl ⟨by rfl, ?_⟩) hS ?_; rotate_left; (intro W hSw; obtain ⟨q0, q1, q2, q3, q4, q5, q6, q7⟩ := HSS.out W hSw; go_simp; try with_reducible rfl))
              try simp only [List.getElem_toArray, List.getElem_cons_succ, List.getElem_cons_zero, Act.put, List.setIfInBounds_toArray, List.set_cons_zero, List.set_cons_succ]
              first | refine wpAnyH_take (i := 23) (v := undef) rfl (by kernel_rfl) (by kernel_rfl) (by kernel_rfl) (fun _ _ _ h => h) (.inr ⟨rfl, rfl⟩) hS ?_ | (refine wpAnyH_take (i := 23) (v := ?_) rfl (by kernel_rfl) (by kernel_rfl) (by kernel_rfl) (fun _ _ _ h => h) (Or.inl ⟨by rfl, ?_⟩) hS ?_; rotate_left; (intro W hSw; obtain ⟨q0, q1, q2, q3, q4, q5, q6, q7⟩ := HSS.out W hSw; go_simp; try with_reducible rfl))
              try simp only [List.getElem_toArray, List.getElem_cons_succ, List.getElem_cons_zero, Act.put, List.setIfInBounds_toArray, List.set_cons_zero, List.set_cons_succ]
              first | refine wpAnyH_take (i := 24) (v := undef) rfl (by kernel_rfl) (by kernel_rfl) (by kernel_rfl) (fun _ _ _ h => h) (.inr ⟨rfl, rfl⟩) hS ?_ | (refine wpAnyH_take (i := 24) (v := ?_) rfl (by kernel_rfl) (by kernel_rfl) (by kernel_rfl) (fun _ _ _ h => h) (Or.inl ⟨by rfl, ?_⟩) hS ?_; rotate_left; (intro W hSw; obtain ⟨q0, q1, q2, q3, q4, q5, q6, q7⟩ := HSS.out W hSw; go_simp; try with_reducible rfl))
              try simp only [List.getElem_toArray, List.getElem_cons_succ, List.getElem_cons_zero, Act.put, List.setIfInBounds_toArray, List.set_cons_zero, List.set_cons_succ]
              refine wpAnyH_done (by kernel_rfl) ?_ _
              go_wp2
              have h5 := H5.out
              refine ⟨⟨i + 1, hlt, (by first | rfl | (rw [h5]; rfl)), fun j hj => ?_, hS.1, HB.out.trans (hS.2.mono HB.out.size)⟩, by simp [intOf]; omega⟩
              by_cases hji : j = i
              · subst hji
                rw [HR.out]; simp [h3, h5]; try omega
              · exact HPRE.out j (by omega)
        · obtain rfl : np = i := by omega
          have hlti : ¬ (np : Int) < (np : Int) := by omega
          replace HV := Lib.hid (show _ = _ from HV.out.trans (by rw [List.all_eq_true.2 fun j hj => HPRE.out j (List.mem_range.1 hj), Bool.true_and]))
          clear HPRE
          go_wp2_with fail
          clear c3 c5
          go_loopw [5] (fun iv wr => ∃ i : Nat, i ≤ no ∧ iv = .int .i64 i ∧ (∀ j, j < i → ordR l j = true) ∧ wr.heap[w.heap.size]? = some (.cells row 32 (0, 0)) ∧ Below w.heap.size w wr)
            (fun iv _ => no - (intOf iv).toNat)
          case atStart => exact ⟨0, Nat.zero_le _, rfl, (fun j hj => by omega), HROW.out, HB.out⟩
          case round =>
            obtain ⟨i, hi, rfl, hpre, hrow, hb⟩ := hrel
            have HPRE := Lib.hid hpre
            have HROW := Lib.hid hrow
            have HB := Lib.hid hb
            have c5 : wr.cell? ⟨w.heap.size, 5, none⟩ = some (.slice aoo no capo) := HC.out wr hrow 5
            clear hpre hrow hb
            by_cases hlt : i < no
            · have hlti : (i : Int) < (no : Int) := by omega
              have hw : IntKind.i64.wrap ((i : Int) + 1) = ((i + 1 : Nat) : Int) := by rw [IntWalk.i64_in _ (by omega)]; omega
              obtain ⟨b, off, rfl, _, hbl, e0, e1⟩ := HEO.out i (by rw [← HNO.out]; exact hlt)
              obtain ⟨⟨g, m⟩, hx⟩ : ∃ x, x = l.orders[i]'(by rw [← HNO.out]; exact hlt) := ⟨_, rfl⟩
              rw [← hx] at e0 e1
              have HR : Hid (ordR l i = (isGradeL l g && inN m 1 6)) := Lib.hid (by unfold ordR; rw [List.getD_eq_getElem?_getD, List.getElem?_eq_getElem (by rw [← HNO.out]; exact hlt), ← hx]; rfl)
              clear hx
              have HSS : Hid (∀ W : World, (W.heap[w.heap.size]? = some (.cells row 32 (0, 0)) ∧ Below wr.heap.size wr W) → W.cell? ⟨w.heap.size, 0, none⟩ = some (.slice aol np capl) ∧ W.cell? ⟨w.heap.size, 1, none⟩ = some (.int .i64 st) ∧ W.cell? ⟨w.heap.size, 2, none⟩ = some (.slice aob nb capb) ∧ W.cell? ⟨w.heap.size, 3, none⟩ = some (.slice aop np capp) ∧ W.cell? ⟨w.heap.size, 4, none⟩ = some (.int .i64 lp) ∧ W.cell? ⟨w.heap.size, 5, none⟩ = some (.slice (some ⟨b, off, none⟩) no capo) ∧ W.cell? ⟨b, off + i * 2, none⟩ = some (.int .i64 g) ∧ W.cell? ⟨b, off + i * 2 + 1, none⟩ = some (.int .i64 m)) := Lib.hid fun W h =>
                have hk := (h.2.block b (Nat.lt_of_lt_of_le hbl HB.out.size)).trans (HB.out.block b hbl)
                ⟨HC.out W h.1 0, HC.out W h.1 1, HC.out W h.1 2, HC.out W h.1 3, HC.out W h.1 4, HC.out W h.1 5, (World.cell?_of_block hk).trans e0, (World.cell?_of_block hk).trans e1⟩
              clear e0 e1
              go_upto_region 18 with fail
              refine wp_region_held_drew (S := fun W => W.heap[w.heap.size]? = some (.cells row 32 (0, 0)) ∧ Below wr.heap.size wr W) rfl ⟨HROW.out, (Below.refl _ _).drew⟩ fun hS => ?_
              clear c5
              cases h3 : isGradeL l g with
              | false =>
                first | refine wpAnyH_take (i := 0) (v := undef) rfl (by kernel_rfl) (by kernel_rfl) (by kernel_rfl) (fun _ _ _ h => h) (.inr ⟨rfl, rfl⟩) hS ?_ | (refine wpAnyH_take (i := 0) (v := ?_) rfl (by kernel_rfl) (by kernel_rfl) (by kernel_rfl) (fun _ _ _ h => h) (Or.inl ⟨by rfl, ?_⟩) hS ?_; rotate_left; (intro W hSw; obtain ⟨q0, q1, q2, q3, q4, q5, q6, q7⟩ := HSS.out W hSw; go_simp; try with_reducible rfl))
                try simp only [List.getElem_toArray, List.getElem_cons_succ, List.getElem_cons_zero, Act.put, List.setIfInBounds_toArray, List.set_cons_zero, List.set_cons_succ]
                first | refine wpAnyH_take (i := 1) (v := undef) rfl (by kernel_rfl) (by kernel_rfl) (by kernel_rfl) (fun _ _ _ h => h) (.inr ⟨rfl, rfl⟩) hS ?_ | (refine wpAnyH_take (i := 1) (v := ?_) rfl (by kernel_rfl) (by kernel_rfl) (by kernel_rfl) (fun _ _ _ h => h) (Or.inl ⟨by rfl, ?_⟩) hS ?_; rotate_left; (intro W hSw; obtain ⟨q0, q1, q2, q3, q4, q5, q6, q7⟩ := HSS.out W hSw; go_simp; try with_reducible rfl))
                try simp only [List.getElem_toArray, List.getElem_cons_succ, List.getElem_cons_zero, Act.put, List.setIfInBounds_toArray, List.set_cons_zero, List.set_cons_succ]
                first | refine wpAnyH_take (i := 2) (v := undef) rfl (by kernel_rfl) (by kernel_rfl) (by kernel_rfl) (fun _ _ _ h => h) (.inr ⟨rfl, rfl⟩) hS ?_ | (refine wpAnyH_take (i := 2) (v := ?_) rfl (by kernel_rfl) (by kernel_rfl) (by kernel_rfl) (fun _ _ _ h => h) (Or.inl ⟨by rfl, ?_⟩) hS ?_; rotate_left; (intro W hSw; obtain ⟨q0, q1, q2, q3, q4, q5, q6, q7⟩ := HSS.out W hSw; go_simp; try with_reducible rfl))
                try simp only [List.getElem_toArray, List.getElem_cons_succ, List.getElem_cons_zero, Act.put, List.setIfInBounds_toArray, List.set_cons_zero, List.set_cons_succ]
                first | refine wpAnyH_take (i := 3) (v := undef) rfl (by kernel_rfl) (by kernel_rfl) (by kernel_rfl) (fun _ _ _ h => h) (.inr ⟨rfl, rfl⟩) hS ?_ | (refine wpAnyH_take (i := 3) (v := ?_) rfl (by kernel_rfl) (by kernel_rfl) (by kernel_rfl) (fun _ _ _ h => h) (Or.inl ⟨by rfl, ?_⟩) hS ?_; rotate_left; (intro W hSw; obtain ⟨q0, q1, q2, q3, q4, q5, q6, q7⟩ := HSS.out W hSw; go_simp; try with_reducible rfl))
                try simp only [List.getElem_toArray, List.getElem_cons_succ, List.getElem_cons_zero, Act.put, List.setIfInBounds_toArray, List.set_cons_zero, List.set_cons_succ]
                first | refine wpAnyH_take (i := 4) (v := undef) rfl (by kernel_rfl) (by kernel_rfl) (by kernel_rfl) (fun _ _ _ h => h) (.inr ⟨rfl, rfl⟩) hS ?_ | (refine wpAnyH_take (i := 4) (v := ?_) rfl (by kernel_rfl) (by kernel_rfl) (by kernel_rfl) (fun _ _ _ h => h) (Or.inl ⟨by rfl, ?_⟩) hS ?_; rotate_left; (intro W hSw; obtain ⟨q0, q1, q2, q3, q4, q5, q6, q7⟩ := HSS.out W hSw; go_simp; try with_reducible rfl))
                try simp only [List.getElem_toArray, List.getElem_cons_succ, List.getElem_cons_zero, Act.put, List.setIfInBounds_toArray, List.set_cons_zero, List.set_cons_succ]
                first | refine wpAnyH_take (i := 5) (v := undef) rfl (by kernel_rfl) (by kernel_rfl) (by kernel_rfl) (fun _ _ _ h => h) (.inr ⟨rfl, rfl⟩) hS ?_ | (refine wpAnyH_take (i := 5) (v := ?_) rfl (by kernel_rfl) (by kernel_rfl) (by kernel_rfl) (fun _ _ _ h => h) (Or.inl ⟨by rfl, ?_⟩) hS ?_; rotate_left; (intro W hSw; obtain ⟨q0, q1, q2, q3, q4, q5, q6, q7⟩ := HSS.out W hSw; go_simp; try with_reducible rfl))
                try simp only [List.getElem_toArray, List.getElem_cons_succ, List.getElem_cons_zero, Act.put, List.setIfInBounds_toArray, List.set_cons_zero, List.set_cons_succ]
                first | refine wpAnyH_take (i := 6) (v := undef) rfl (by kernel_rfl) (by kernel_rfl) (by kernel_rfl) (fun _ _ _ h => h) (.inr ⟨rfl, rfl⟩) hS ?_ | (refine wpAnyH_take (i := 6) (v := ?_) rfl (by kernel_rfl) (by kernel_rfl) (by kernel_rfl) (fun _ _ _ h => h) (Or.inl ⟨by rfl, ?_⟩) hS ?_; rotate_left; (intro W hSw; obtain ⟨q0, q1, q2, q3, q4, q5, q6, q7⟩ := HSS.out W hSw; go_simp; try with_reducible rfl))
                try simp only [List.getElem_toArray, List.getElem_cons_succ, List.getElem_cons_zero, Act.put, List.setIfInBounds_toArray, List.set_cons_zero, List.set_cons_succ]
                refine wpAnyH_ready (rs := [7]) (by kernel_rfl) (by simp) ?_
                refine AllReadyH.cons rfl (fun K hK => ?_) AllReadyH.nil
                go_simp
                refine Calls.mono (by have h := r13number_any l p g _ (HAL.out _ (HB.out.trans (hS.2.mono HB.out.size))) H9.out.a; rw [HLV.out] at h; exact h) ?_
                rintro e wz ⟨rfl, hb⟩
                rw [h3]
                dsimp only
                refine hK.out _ _ ⟨(hb.block _ (lt_of_block hS.1)).trans hS.1, hS.2.trans (hb.mono hS.2.size)⟩ (fun hS => ?_)
                clear hb hK K
                try simp only [List.getElem_toArray, List.getElem_cons_succ, List.getElem_cons_zero, Act.put, List.setIfInBounds_toArray, List.set_cons_zero, List.set_cons_succ]
                first | refine wpAnyH_take (i := 8) (v := undef) rfl (by kernel_rfl) (by kernel_rfl) (by kernel_rfl) (fun _ _ _ h => h) (.inr ⟨rfl, rfl⟩) hS ?_ | (refine wpAnyH_take (i := 8) (v := ?_) rfl (by kernel_rfl) (by kernel_rfl) (by kernel_rfl) (fun _ _ _ h => h) (Or.inl ⟨by rfl, ?_⟩) hS ?_; rotate_left; (intro W hSw; obtain ⟨q0, q1, q2, q3, q4, q5, q6, q7⟩ := HSS.out W hSw; go_simp; try with_reducible rfl))
                try simp only [List.getElem_toArray, List.getElem_cons_succ, List.getElem_cons_zero, Act.put, List.setIfInBounds_toArray, List.set_cons_zero, List.set_cons_succ]
                first | refine wpAnyH_take (i := 9) (v := undef) rfl (by kernel_rfl) (by kernel_rfl) (by kernel_rfl) (fun _ _ _ h => h) (.inr ⟨rfl, rfl⟩) hS ?_ | (refine wpAnyH_take (i := 9) (v := ?_) rfl (by kernel_rfl) (by kernel_rfl) (by kernel_rfl) (fun _ _ _ h => h) (Or.inl ⟨by rfl, ?_⟩) hS ?_; rotate_left; (intro W hSw; obtain ⟨q0, q1, q2, q3, q4, q5, q6, q7⟩ := HSS.out W hSw; go_simp; try with_reducible rfl))
                try simp only [List.getElem_toArray, List.getElem_cons_succ, List.getElem_cons_zero, Act.put, List.setIfInBounds_toArray, List.set_cons_zero, List.set_cons_succ]
                first | refine wpAnyH_take (i := 10) (v := undef) rfl (by kernel_rfl) (by kernel_rfl) (by kernel_rfl) (fun _ _ _ h => h) (.inr ⟨rfl, rfl⟩) hS ?_ | (refine wpAnyH_take (i := 10) (v := ?_) rfl (by kernel_rfl) (by kernel_rfl) (by kernel_rfl) (fun _ _ _ h => h) (Or.inl ⟨by rfl, ?_⟩) hS ?_; rotate_left; (intro W hSw; obtain ⟨q0, q1, q2, q3, q4, q5, q6, q7⟩ := HSS.out W hSw; go_simp; try with_reducible rfl))
                try simp only [List.getElem_toArray, List.getElem_cons_succ, List.getElem_cons_zero, Act.put, List.setIfInBounds_toArray, List.set_cons_zero, List.set_cons_succ]
                first | refine wpAnyH_take (i := 11) (v := undef) rfl (by kernel_rfl) (by kernel_rfl) (by kernel_rfl) (fun _ _ _ h => h) (.inr ⟨rfl, rfl⟩) hS ?_ | (refine wpAnyH_take (i := 11) (v := ?_) rfl (by kernel_rfl) (by kernel_rfl) (by kernel_rfl) (fun _ _ _ h => h) (Or.inl ⟨by rfl, ?_⟩) hS ?_; rotate_left; (intro W hSw; obtain ⟨q0, q1, q2, q3, q4, q5, q6, q7⟩ := HSS.out W hSw; go_simp; try with_reducible rfl))
                try simp only [List.getElem_toArray, List.getElem_cons_succ, List.getElem_cons_zero, Act.put, List.setIfInBounds_toArray, List.set_cons_zero, List.set_cons_succ]
                first | refine wpAnyH_take (i := 12) (v := undef) rfl (by kernel_rfl) (by kernel_rfl) (by kernel_rfl) (fun _ _ _ h => h) (.inr ⟨rfl, rfl⟩) hS ?_ | (refine wpAnyH_take (i := 12) (v := ?_) rfl (by kernel_rfl) (by kernel_rfl) (by kernel_rfl) (fun _ _ _ h => h) (Or.inl ⟨by rfl, ?_⟩) hS ?_; rotate_left; (intro W hSw; obtain ⟨q0, q1, q2, q3, q4, q5, q6, q7⟩ := HSS.out W hSw; go_simp; try with_reducible rfl))
                try simp only [List.getElem_toArray, List.getElem_cons_succ, List.getElem_cons_zero, Act.put, List.setIfInBounds_toArray, List.set_cons_zero, List.set_cons_succ]
                first | refine wpAnyH_take (i := 13) (v := undef) rfl (by kernel_rfl) (by kernel_rfl) (by kernel_rfl) (fun _ _ _ h => h) (.inr ⟨rfl, rfl⟩) hS ?_ | (refine wpAnyH_take (i := 13) (v := ?_) rfl (by kernel_rfl) (by kernel_rfl) (by kernel_rfl) (fun _ _ _ h => h) (Or.inl ⟨by rfl, ?_⟩) hS ?_; rotate_left; (intro W hSw; obtain ⟨q0, q1, q2, q3, q4, q5, q6, q7⟩ := HSS.out W hSw; go_simp; try with_reducible rfl))
                try simp only [List.getElem_toArray, List.getElem_cons_succ, List.getElem_cons_zero, Act.put, List.setIfInBounds_toArray, List.set_cons_zero, List.set_cons_succ]
                first | refine wpAnyH_take (i := 14) (v := undef) rfl (by kernel_rfl) (by kernel_rfl) (by kernel_rfl) (fun _ _ _ h => h) (.inr ⟨rfl, rfl⟩) hS ?_ | (refine wpAnyH_take (i := 14) (v := ?_) rfl (by kernel_rfl) (by kernel_rfl) (by kernel_rfl) (fun _ _ _ h => h) (Or.inl ⟨by rfl, ?_⟩) hS ?_; rotate_left; (intro W hSw; obtain ⟨q0, q1, q2, q3, q4, q5, q6, q7⟩ := HSS.out W hSw; go_simp; try with_reducible rfl))
                try simp only [List.getElem_toArray, List.getElem_cons_succ, List.getElem_cons_zero, Act.put, List.setIfInBounds_toArray, List.set_cons_zero, List.set_cons_succ]
                first | refine wpAnyH_take (i := 15) (v := undef) rfl (by kernel_rfl) (by kernel_rfl) (by kernel_rfl) (fun _ _ _ h => h) (.inr ⟨rfl, rfl⟩) hS ?_ | (refine wpAnyH_take (i := 15) (v := ?_) rfl (by kernel_rfl) (by kernel_rfl) (by kernel_rfl) (fun _ _ _ h => h) (Or.inl ⟨by rfl, ?_⟩) hS ?_; rotate_left; (intro W hSw; obtain ⟨q0, q1, q2, q3, q4, q5, q6, q7⟩ := HSS.out W hSw; go_simp; try with_reducible rfl))
                try simp only [List.getElem_toArray, List.getElem_cons_succ, List.getElem_cons_zero, Act.put, List.setIfInBounds_toArray, List.set_cons_zero, List.set_cons_succ]
                first | refine wpAnyH_take (i := 16) (v := undef) rfl (by kernel_rfl) (by kernel_rfl) (by kernel_rfl) (fun _ _ _ h => h) (.inr ⟨rfl, rfl⟩) hS ?_ | (refine wpAnyH_take (i := 16) (v := ?_) rfl (by kernel_rfl) (by kernel_rfl) (by kernel_rfl) (fun _ _ _ h => h) (Or.inl ⟨by rfl, ?_⟩) hS ?_; rotate_left; (intro W hSw; obtain ⟨q0, q1, q2, q3, q4, q5, q6, q7⟩ := HSS.out W hSw; go_simp; try with_reducible rfl))
                try simp only [List.getElem_toArray, List.getElem_cons_succ, List.getElem_cons_zero, Act.put, List.setIfInBounds_toArray, List.set_cons_zero, List.set_cons_succ]
                first | refine wpAnyH_take (i := 17) (v := undef) rfl (by kernel_rfl) (by kernel_rfl) (by kernel_rfl) (fun _ _ _ h => h) (.inr ⟨rfl, rfl⟩) hS ?_ | (refine wpAnyH_take (i := 17) (v := ?_) rfl (by kernel_rfl) (by kernel_rfl) (by kernel_rfl) (fun _ _ _ h => h) (Or.inl ⟨by rfl, ?_⟩) hS ?_; rotate_left; (intro W hSw; obtain ⟨q0, q1, q2, q3, q4, q5, q6, q7⟩ := HSS.out W hSw; go_simp; try with_reducible rfl))
                try simp only [List.getElem_toArray, List.getElem_cons_succ, List.getElem_cons_zero, Act.put, List.setIfInBounds_toArray, List.set_cons_zero, List.set_cons_succ]
                first | refine wpAnyH_take (i := 18) (v := undef) rfl (by kernel_rfl) (by kernel_rfl) (by kernel_rfl) (fun _ _ _ h => h) (.inr ⟨rfl, rfl⟩) hS ?_ | (refine wpAnyH_take (i := 18) (v := ?_) rfl (by kernel_rfl) (by kernel_rfl) (by kernel_rfl) (fun _ _ _ h => h) (Or.inl ⟨by rfl, ?_⟩) hS ?_; rotate_left; (intro W hSw; obtain ⟨q0, q1, q2, q3, q4, q5, q6, q7⟩ := HSS.out W hSw; go_simp; try with_reducible rfl))
                try simp only [List.getElem_toArray, List.getElem_cons_succ, List.getElem_cons_zero, Act.put, List.setIfInBounds_toArray, List.set_cons_zero, List.set_cons_succ]
                refine wpAnyH_done (by kernel_rfl) ?_ _
                have hf : ((List.range no).all fun i => ordR l i) = false := by
                  refine Bool.eq_false_iff.2 fun h => ?_
                  have h8 := List.all_eq_true.1 h i (List.mem_range.2 hlt)
                  rw [HR.out] at h8
                  simp [h3] at h8
                go_wp2
                refine bodyPost_ret (v := .bool false) (by simp [results, Try.results21, go_sem]) rfl ⟨congrArg (fun b => Ending.returned (Value.bool b)) ?_, (HB.out.trans (hS.2.mono HB.out.size))⟩
                rw [HV.out]
                rw [hf]; rfl
              | true =>
                cases h4 : inN m 1 6 with
                | false =>
                  first | refine wpAnyH_take (i := 0) (v := undef) rfl (by kernel_rfl) (by kernel_rfl) (by kernel_rfl) (fun _ _ _ h => h) (.inr ⟨rfl, rfl⟩) hS ?_ | (refine wpAnyH_take (i := 0) (v := ?_) rfl (by kernel_rfl) (by kernel_rfl) (by kernel_rfl) (fun _ _ _ h => h) (Or.inl ⟨by rfl, ?_⟩) hS ?_; rotate_left; (intro W hSw; obtain ⟨q0, q1, q2, q3, q4, q5, q6, q7⟩ := HSS.out W hSw; go_simp; try with_reducible rfl))
                  try simp only [List.getElem_toArray, List.getElem_cons_succ, List.getElem_cons_zero, Act.put, List.setIfInBounds_toArray, List.set_cons_zero, List.set_cons_succ]
                  first | refine wpAnyH_take (i := 1) (v := undef) rfl (by kernel_rfl) (by kernel_rfl) (by kernel_rfl) (fun _ _ _ h => h) (.inr ⟨rfl, rfl⟩) hS ?_ | (refine wpAnyH_take (i := 1) (v := ?_) rfl (by kernel_rfl) (by kernel_rfl) (by kernel_rfl) (fun _ _ _ h => h) (Or.inl ⟨by rfl, ?_⟩) hS ?_; rotate_left; (intro W hSw; obtain ⟨q0, q1, q2, q3, q4, q5, q6, q7⟩ := HSS.out W hSw; go_simp; try with_reducible rfl))
                  try simp only [List.getElem_toArray, List.getElem_cons_succ, List.getElem_cons_zero, Act.put, List.setIfInBounds_toArray, List.set_cons_zero, List.set_cons_succ]
                  first | refine wpAnyH_take (i := 2) (v := undef) rfl (by kernel_rfl) (by kernel_rfl) (by kernel_rfl) (fun _ _ _ h => h) (.inr ⟨rfl, rfl⟩) hS ?_ | (refine wpAnyH_take (i := 2) (v := ?_) rfl (by kernel_rfl) (by kernel_rfl) (by kernel_rfl) (fun _ _ _ h => h) (Or.inl ⟨by rfl, ?_⟩) hS ?_; rotate_left; (intro W hSw; obtain ⟨q0, q1, q2, q3, q4, q5, q6, q7⟩ := HSS.out W hSw; go_simp; try with_reducible rfl))
                  try simp only [List.getElem_toArray, List.getElem_cons_succ, List.getElem_cons_zero, Act.put, List.setIfInBounds_toArray, List.set_cons_zero, List.set_cons_succ]
                  first | refine wpAnyH_take (i := 3) (v := undef) rfl (by kernel_rfl) (by kernel_rfl) (by kernel_rfl) (fun _ _ _ h => h) (.inr ⟨rfl, rfl⟩) hS ?_ | (refine wpAnyH_take (i := 3) (v := ?_) rfl (by kernel_rfl) (by kernel_rfl) (by kernel_rfl) (fun _ _ _ h => h) (Or.inl ⟨by rfl, ?_⟩) hS ?_; rotate_left; (intro W hSw; obtain ⟨q0, q1, q2, q3, q4, q5, q6, q7⟩ := HSS.out W hSw; go_simp; try with_reducible rfl))
                  try simp only [List.getElem_toArray, List.getElem_cons_succ, List.getElem_cons_zero, Act.put, List.setIfInBounds_toArray, List.set_cons_zero, List.set_cons_succ]
                  first | refine wpAnyH_take (i := 4) (v := undef) rfl (by kernel_rfl) (by kernel_rfl) (by kernel_rfl) (fun _ _ _ h => h) (.inr ⟨rfl, rfl⟩) hS ?_ | (refine wpAnyH_take (i := 4) (v := ?_) rfl (by kernel_rfl) (by kernel_rfl) (by kernel_rfl) (fun _ _ _ h => h) (Or.inl ⟨by rfl, ?_⟩) hS ?_; rotate_left; (intro W hSw; obtain ⟨q0, q1, q2, q3, q4, q5, q6, q7⟩ := HSS.out W hSw; go_simp; try with_reducible rfl))
                  try simp only [List.getElem_toArray, List.getElem_cons_succ, List.getElem_cons_zero, Act.put, List.setIfInBounds_toArray, List.set_cons_zero, List.set_cons_succ]
                  first | refine wpAnyH_take (i := 5) (v := undef) rfl (by kernel_rfl) (by kernel_rfl) (by kernel_rfl) (fun _ _ _ h => h) (.inr ⟨rfl, rfl⟩) hS ?_ | (refine wpAnyH_take (i := 5) (v := ?_) rfl (by kernel_rfl) (by kernel_rfl) (by kernel_rfl) (fun _ _ _ h => h) (Or.inl ⟨by rfl, ?_⟩) hS ?_; rotate_left; (intro W hSw; obtain ⟨q0, q1, q2, q3, q4, q5, q6, q7⟩ := HSS.out W hSw; go_simp; try with_reducible rfl))
                  try simp only [List.getElem_toArray, List.getElem_cons_succ, List.getElem_cons_zero, Act.put, List.setIfInBounds_toArray, List.set_cons_zero, List.set_cons_succ]
                  first | refine wpAnyH_take (i := 6) (v := undef) rfl (by kernel_rfl) (by kernel_rfl) (by kernel_rfl) (fun _ _ _ h => h) (.inr ⟨rfl, rfl⟩) hS ?_ | (refine wpAnyH_take (i := 6) (v := ?_) rfl (by kernel_rfl) (by kernel_rfl) (by kernel_rfl) (fun _ _ _ h => h) (Or.inl ⟨by rfl, ?_⟩) hS ?_; rotate_left; (intro W hSw; obtain ⟨q0, q1, q2, q3, q4, q5, q6, q7⟩ := HSS.out W hSw; go_simp; try with_reducible rfl))
                  try simp only [List.getElem_toArray, List.getElem_cons_succ, List.getElem_cons_zero, Act.put, List.setIfInBounds_toArray, List.set_cons_zero, List.set_cons_succ]
                  refine wpAnyH_ready (rs := [7]) (by kernel_rfl) (by simp) ?_
                  refine AllReadyH.cons rfl (fun K hK => ?_) AllReadyH.nil
                  go_simp
                  refine Calls.mono (by have h := r13number_any l p g _ (HAL.out _ (HB.out.trans (hS.2.mono HB.out.size))) H9.out.a; rw [HLV.out] at h; exact h) ?_
                  rintro e wz ⟨rfl, hb⟩
                  rw [h3]
                  dsimp only
                  refine hK.out _ _ ⟨(hb.block _ (lt_of_block hS.1)).trans hS.1, hS.2.trans (hb.mono hS.2.size)⟩ (fun hS => ?_)
                  clear hb hK K
                  try simp only [List.getElem_toArray, List.getElem_cons_succ, List.getElem_cons_zero, Act.put, List.setIfInBounds_toArray, List.set_cons_zero, List.set_cons_succ]
                  first | refine wpAnyH_take (i := 8) (v := undef) rfl (by kernel_rfl) (by kernel_rfl) (by kernel_rfl) (fun _ _ _ h => h) (.inr ⟨rfl, rfl⟩) hS ?_ | (refine wpAnyH_take (i := 8) (v := ?_) rfl (by kernel_rfl) (by kernel_rfl) (by kernel_rfl) (fun _ _ _ h => h) (Or.inl ⟨by rfl, ?_⟩) hS ?_; rotate_left; (intro W hSw; obtain ⟨q0, q1, q2, q3, q4, q5, q6, q7⟩ := HSS.out W hSw; go_simp; try with_reducible rfl))
                  try simp only [List.getElem_toArray, List.getElem_cons_succ, List.getElem_cons_zero, Act.put, List.setIfInBounds_toArray, List.set_cons_zero, List.set_cons_succ]
                  first | refine wpAnyH_take (i := 9) (v := undef) rfl (by kernel_rfl) (by kernel_rfl) (by kernel_rfl) (fun _ _ _ h => h) (.inr ⟨rfl, rfl⟩) hS ?_ | (refine wpAnyH_take (i := 9) (v := ?_) rfl (by kernel_rfl) (by kernel_rfl) (by kernel_rfl) (fun _ _ _ h => h) (Or.inl ⟨by rfl, ?_⟩) hS ?_; rotate_left; (intro W hSw; obtain ⟨q0, q1, q2, q3, q4, q5, q6, q7⟩ := HSS.out W hSw; go_simp; try with_reducible rfl))
                  try simp only [List.getElem_toArray, List.getElem_cons_succ, List.getElem_cons_zero, Act.put, List.setIfInBounds_toArray, List.set_cons_zero, List.set_cons_succ]
                  first | refine wpAnyH_take (i := 10) (v := undef) rfl (by kernel_rfl) (by kernel_rfl) (by kernel_rfl) (fun _ _ _ h => h) (.inr ⟨rfl, rfl⟩) hS ?_ | (refine wpAnyH_take (i := 10) (v := ?_) rfl (by kernel_rfl) (by kernel_rfl) (by kernel_rfl) (fun _ _ _ h => h) (Or.inl ⟨by rfl, ?_⟩) hS ?_; rotate_left; (intro W hSw; obtain ⟨q0, q1, q2, q3, q4, q5, q6, q7⟩ := HSS.out W hSw; go_simp; try with_reducible rfl))
                  try simp only [List.getElem_toArray, List.getElem_cons_succ, List.getElem_cons_zero, Act.put, List.setIfInBounds_toArray, List.set_cons_zero, List.set_cons_succ]
                  first | refine wpAnyH_take (i := 11) (v := undef) rfl (by kernel_rfl) (by kernel_rfl) (by kernel_rfl) (fun _ _ _ h => h) (.inr ⟨rfl, rfl⟩) hS ?_ | (refine wpAnyH_take (i := 11) (v := ?_) rfl (by kernel_rfl) (by kernel_rfl) (by kernel_rfl) (fun _ _ _ h => h) (Or.inl ⟨by rfl, ?_⟩) hS ?_; rotate_left; (intro W hSw; obtain ⟨q0, q1, q2, q3, q4, q5, q6, q7⟩ := HSS.out W hSw; go_simp; try with_reducible rfl))
                  try simp only [List.getElem_toArray, List.getElem_cons_succ, List.getElem_cons_zero, Act.put, List.setIfInBounds_toArray, List.set_cons_zero, List.set_cons_succ]
                  first | refine wpAnyH_take (i := 12) (v := undef) rfl (by kernel_rfl) (by kernel_rfl) (by kernel_rfl) (fun _ _ _ h => h) (.inr ⟨rfl, rfl⟩) hS ?_ | (refine wpAnyH_take (i := 12) (v := ?_) rfl (by kernel_rfl) (by kernel_rfl) (by kernel_rfl) (fun _ _ _ h => h) (Or.inl ⟨by rfl, ?_⟩) hS ?_; rotate_left; (intro W hSw; obtain ⟨q0, q1, q2, q3, q4, q5, q6, q7⟩ := HSS.out W hSw; go_simp; try with_reducible rfl))
                  try simp only [List.getElem_toArray, List.getElem_cons_succ, List.getElem_cons_zero, Act.put, List.setIfInBounds_toArray, List.set_cons_zero, List.set_cons_succ]
                  first | refine wpAnyH_take (i := 13) (v := undef) rfl (by kernel_rfl) (by kernel_rfl) (by kernel_rfl) (fun _ _ _ h => h) (.inr ⟨rfl, rfl⟩) hS ?_ | (refine wpAnyH_take (i := 13) (v := ?_) rfl (by kernel_rfl) (by kernel_rfl) (by kernel_rfl) (fun _ _ _ h => h) (Or.inl ⟨by rfl, ?_⟩) hS ?_; rotate_left; (intro W hSw; obtain ⟨q0, q1, q2, q3, q4, q5, q6, q7⟩ := HSS.out W hSw; go_simp; try with_reducible rfl))
                  try simp only [List.getElem_toArray, List.getElem_cons_succ, List.getElem_cons_zero, Act.put, List.setIfInBounds_toArray, List.set_cons_zero, List.set_cons_succ]
                  first | refine wpAnyH_take (i := 14) (v := undef) rfl (by kernel_rfl) (by kernel_rfl) (by kernel_rfl) (fun _ _ _ h => h) (.inr ⟨rfl, rfl⟩) hS ?_ | (refine wpAnyH_take (i := 14) (v := ?_) rfl (by kernel_rfl) (by kernel_rfl) (by kernel_rfl) (fun _ _ _ h => h) (Or.inl ⟨by rfl, ?_⟩) hS ?_; rotate_left; (intro W hSw; obtain ⟨q0, q1, q2, q3, q4, q5, q6, q7⟩ := HSS.out W hSw; go_simp; try with_reducible rfl))
                  try simp only [List.getElem_toArray, List.getElem_cons_succ, List.getElem_cons_zero, Act.put, List.setIfInBounds_toArray, List.set_cons_zero, List.set_cons_succ]
                  first | refine wpAnyH_take (i := 15) (v := undef) rfl (by kernel_rfl) (by kernel_rfl) (by kernel_rfl) (fun _ _ _ h => h) (.inr ⟨rfl, rfl⟩) hS ?_ | (refine wpAnyH_take (i := 15) (v := ?_) rfl (by kernel_rfl) (by kernel_rfl) (by kernel_rfl) (fun _ _ _ h => h) (Or.inl ⟨by rfl, ?_⟩) hS ?_; rotate_left; (intro W hSw; obtain ⟨q0, q1, q2, q3, q4, q5, q6, q7⟩ := HSS.out W hSw; go_simp; try with_reducible rfl))
                  try simp only [List.getElem_toArray, List.getElem_cons_succ, List.getElem_cons_zero, Act.put, List.setIfInBounds_toArray, List.set_cons_zero, List.set_cons_succ]
                  refine wpAnyH_ready (rs := [16]) (by kernel_rfl) (by simp) ?_
                  refine AllReadyH.cons rfl (fun K hK => ?_) AllReadyH.nil
                  go_simp
                  refine (r13in_any _ _ _ _).mono ?_
                  rintro e wz ⟨rfl, rfl⟩
                  rw [h4]
                  dsimp only
                  refine hK.out _ _ hS (fun hS => ?_)
                  clear hK K
                  try simp only [List.getElem_toArray, List.getElem_cons_succ, List.getElem_cons_zero, Act.put, List.setIfInBounds_toArray, List.set_cons_zero, List.set_cons_succ]
                  first | refine wpAnyH_take (i := 17) (v := undef) rfl (by kernel_rfl) (by kernel_rfl) (by kernel_rfl) (fun _ _ _ h => h) (.inr ⟨rfl, rfl⟩) hS ?_ | (refine wpAnyH_take (i := 17) (v := ?_) rfl (by kernel_rfl) (by kernel_rfl) (by kernel_rfl) (fun _ _ _ h => h) (Or.inl ⟨by rfl, ?_⟩) hS ?_; rotate_left; (intro W hSw; obtain ⟨q0, q1, q2, q3, q4, q5, q6, q7⟩ := HSS.out W hSw; go_simp; try with_reducible rfl))
                  try simp only [List.getElem_toArray, List.getElem_cons_succ, List.getElem_cons_zero, Act.put, List.setIfInBounds_toArray, List.set_cons_zero, List.set_cons_succ]
                  first | refine wpAnyH_take (i := 18) (v := undef) rfl (by kernel_rfl) (by kernel_rfl) (by kernel_rfl) (fun _ _ _ h => h) (.inr ⟨rfl, rfl⟩) hS ?_ | (refine wpAnyH_take (i := 18) (v := ?_) rfl (by kernel_rfl) (by kernel_rfl) (by kernel_rfl) (fun _ _ _ h => h) (Or.inl ⟨by rfl, ?_⟩) hS ?_; rotate_left; (intro W hSw; obtain ⟨q0, q1, q2, q3, q4, q5, q6, q7⟩ := HSS.out W hSw; go_simp; try with_reducible rfl))
                  try simp only [List.getElem_toArray, List.getElem_cons_succ, List.getElem_cons_zero, Act.put, List.setIfInBounds_toArray, List.set_cons_zero, List.set_cons_succ]
                  refine wpAnyH_done (by kernel_rfl) ?_ _
                  have hf : ((List.range no).all fun i => ordR l i) = false := by
                    refine Bool.eq_false_iff.2 fun h => ?_
                    have h8 := List.all_eq_true.1 h i (List.mem_range.2 hlt)
                    rw [HR.out] at h8
                    simp [h3, h4] at h8
                  go_wp2
                  refine bodyPost_ret (v := .bool false) (by simp [results, Try.results21, go_sem]) rfl ⟨congrArg (fun b => Ending.returned (Value.bool b)) ?_, (HB.out.trans (hS.2.mono HB.out.size))⟩
                  rw [HV.out]
                  rw [hf]; rfl
                | true =>
                  first | refine wpAnyH_take (i := 0) (v := undef) rfl (by kernel_rfl) (by kernel_rfl) (by kernel_rfl) (fun _ _ _ h => h) (.inr ⟨rfl, rfl⟩) hS ?_ | (refine wpAnyH_take (i := 0) (v := ?_) rfl (by kernel_rfl) (by kernel_rfl) (by kernel_rfl) (fun _ _ _ h => h) (Or.inl ⟨by rfl, ?_⟩) hS ?_; rotate_left; (intro W hSw; obtain ⟨q0, q1, q2, q3, q4, q5, q6, q7⟩ := HSS.out W hSw; go_simp; try with_reducible rfl))
                  try simp only [List.getElem_toArray, List.getElem_cons_succ, List.getElem_cons_zero, Act.put, List.setIfInBounds_toArray, List.set_cons_zero, List.set_cons_succ]
                  first | refine wpAnyH_take (i := 1) (v := undef) rfl (by kernel_rfl) (by kernel_rfl) (by kernel_rfl) (fun _ _ _ h => h) (.inr ⟨rfl, rfl⟩) hS ?_ | (refine wpAnyH_take (i := 1) (v := ?_) rfl (by kernel_rfl) (by kernel_rfl) (by kernel_rfl) (fun _ _ _ h => h) (Or.inl ⟨by rfl, ?_⟩) hS ?_; rotate_left; (intro W hSw; obtain ⟨q0, q1, q2, q3, q4, q5, q6, q7⟩ := HSS.out W hSw; go_simp; try with_reducible rfl))
                  try simp only [List.getElem_toArray, List.getElem_cons_succ, List.getElem_cons_zero, Act.put, List.setIfInBounds_toArray, List.set_cons_zero, List.set_cons_succ]
                  first | refine wpAnyH_take (i := 2) (v := undef) rfl (by kernel_rfl) (by kernel_rfl) (by kernel_rfl) (fun _ _ _ h => h) (.inr ⟨rfl, rfl⟩) hS ?_ | (refine wpAnyH_take (i := 2) (v := ?_) rfl (by kernel_rfl) (by kernel_rfl) (by kernel_rfl) (fun _ _ _ h => h) (Or.inl ⟨by rfl, ?_⟩) hS ?_; rotate_left; (intro W hSw; obtain ⟨q0, q1, q2, q3, q4, q5, q6, q7⟩ := HSS.out W hSw; go_simp; try with_reducible rfl))
                  try simp only [List.getElem_toArray, List.getElem_cons_succ, List.getElem_cons_zero, Act.put, List.setIfInBounds_toArray, List.set_cons_zero, List.set_cons_succ]
                  first | refine wpAnyH_take (i := 3) (v := undef) rfl (by kernel_rfl) (by kernel_rfl) (by kernel_rfl) (fun _ _ _ h => h) (.inr ⟨rfl, rfl⟩) hS ?_ | (refine wpAnyH_take (i := 3) (v := ?_) rfl (by kernel_rfl) (by kernel_rfl) (by kernel_rfl) (fun _ _ _ h => h) (Or.inl ⟨by rfl, ?_⟩) hS ?_; rotate_left; (intro W hSw; obtain ⟨q0, q1, q2, q3, q4, q5, q6, q7⟩ := HSS.out W hSw; go_simp; try with_reducible rfl))
                  try simp only [List.getElem_toArray, List.getElem_cons_succ, List.getElem_cons_zero, Act.put, List.setIfInBounds_toArray, List.set_cons_zero, List.set_cons_succ]
                  first | refine wpAnyH_take (i := 4) (v := undef) rfl (by kernel_rfl) (by kernel_rfl) (by kernel_rfl) (fun _ _ _ h => h) (.inr ⟨rfl, rfl⟩) hS ?_ | (refine wpAnyH_take (i := 4) (v := ?_) rfl (by kernel_rfl) (by kernel_rfl) (by kernel_rfl) (fun _ _ _ h => h) (Or.inl ⟨by rfl, ?_⟩) hS ?_; rotate_left; (intro W hSw; obtain ⟨q0, q1, q2, q3, q4, q5, q6, q7⟩ := HSS.out W hSw; go_simp; try with_reducible rfl))
                  try simp only [List.getElem_toArray, List.getElem_cons_succ, List.getElem_cons_zero, Act.put, List.setIfInBounds_toArray, List.set_cons_zero, List.set_cons_succ]
                  first | refine wpAnyH_take (i := 5) (v := undef) rfl (by kernel_rfl) (by kernel_rfl) (by kernel_rfl) (fun _ _ _ h => h) (.inr ⟨rfl, rfl⟩) hS ?_ | (refine wpAnyH_take (i := 5) (v := ?_) rfl (by kernel_rfl) (by kernel_rfl) (by kernel_rfl) (fun _ _ _ h => h) (Or.inl ⟨by rfl, ?_⟩) hS ?_; rotate_left; (intro W hSw; obtain ⟨q0, q1, q2, q3, q4, q5, q6, q7⟩ := HSS.out W hSw; go_simp; try with_reducible rfl))
                  try simp only [List.getElem_toArray, List.getElem_cons_succ, List.getElem_cons_zero, Act.put, List.setIfInBounds_toArray, List.set_cons_zero, List.set_cons_succ]
                  first | refine wpAnyH_take (i := 6) (v := undef) rfl (by kernel_rfl) (by kernel_rfl) (by kernel_rfl) (fun _ _ _ h => h) (.inr ⟨rfl, rfl⟩) hS ?_ | (refine wpAnyH_take (i := 6) (v := ?_) rfl (by kernel_rfl) (by kernel_rfl) (by kernel_rfl) (fun _ _ _ h => h) (Or.inl ⟨by rfl, ?_⟩) hS ?_; rotate_left; (intro W hSw; obtain ⟨q0, q1, q2, q3, q4, q5, q6, q7⟩ := HSS.out W hSw; go_simp; try with_reducible rfl))
                  try simp only [List.getElem_toArray, List.getElem_cons_succ, List.getElem_cons_zero, Act.put, List.setIfInBounds_toArray, List.set_cons_zero, List.set_cons_succ]
                  refine wpAnyH_ready (rs := [7]) (by kernel_rfl) (by simp) ?_
                  refine AllReadyH.cons rfl (fun K hK => ?_) AllReadyH.nil
                  go_simp
                  refine Calls.mono (by have h := r13number_any l p g _ (HAL.out _ (HB.out.trans (hS.2.mono HB.out.size))) H9.out.a; rw [HLV.out] at h; exact h) ?_
                  rintro e wz ⟨rfl, hb⟩
                  rw [h3]
                  dsimp only
                  refine hK.out _ _ ⟨(hb.block _ (lt_of_block hS.1)).trans hS.1, hS.2.trans (hb.mono hS.2.size)⟩ (fun hS => ?_)
                  clear hb hK K
                  try simp only [List.getElem_toArray, List.getElem_cons_succ, List.getElem_cons_zero, Act.put, List.setIfInBounds_toArray, List.set_cons_zero, List.set_cons_succ]
                  first | refine wpAnyH_take (i := 8) (v := undef) rfl (by kernel_rfl) (by kernel_rfl) (by kernel_rfl) (fun _ _ _ h => h) (.inr ⟨rfl, rfl⟩) hS ?_ | (refine wpAnyH_take (i := 8) (v := ?_) rfl (by kernel_rfl) (by kernel_rfl) (by kernel_rfl) (fun _ _ _ h => h) (Or.inl ⟨by rfl, ?_⟩) hS ?_; rotate_left; (intro W hSw; obtain ⟨q0, q1, q2, q3, q4, q5, q6, q7⟩ := HSS.out W hSw; go_simp; try with_reducible rfl))
                  try simp only [List.getElem_toArray, List.getElem_cons_succ, List.getElem_cons_zero, Act.put, List.setIfInBounds_toArray, List.set_cons_zero, List.set_cons_succ]
                  first | refine wpAnyH_take (i := 9) (v := undef) rfl (by kernel_rfl) (by kernel_rfl) (by kernel_rfl) (fun _ _ _ h => h) (.inr ⟨rfl, rfl⟩) hS ?_ | (refine wpAnyH_take (i := 9) (v := ?_) rfl (by kernel_rfl) (by kernel_rfl) (by kernel_rfl) (fun _ _ _ h => h) (Or.inl ⟨by rfl, ?_⟩) hS ?_; rotate_left; (intro W hSw; obtain ⟨q0, q1, q2, q3, q4, q5, q6, q7⟩ := HSS.out W hSw; go_simp; try with_reducible rfl))
                  try simp only [List.getElem_toArray, List.getElem_cons_succ, List.getElem_cons_zero, Act.put, List.setIfInBounds_toArray, List.set_cons_zero, List.set_cons_succ]
                  first | refine wpAnyH_take (i := 10) (v := undef) rfl (by kernel_rfl) (by kernel_rfl) (by kernel_rfl) (fun _ _ _ h => h) (.inr ⟨rfl, rfl⟩) hS ?_ | (refine wpAnyH_take (i := 10) (v := ?_) rfl (by kernel_rfl) (by kernel_rfl) (by kernel_rfl) (fun _ _ _ h => h) (Or.inl ⟨by rfl, ?_⟩) hS ?_; rotate_left; (intro W hSw; obtain ⟨q0, q1, q2, q3, q4, q5, q6, q7⟩ := HSS.out W hSw; go_simp; try with_reducible rfl))
                  try simp only [List.getElem_toArray, List.getElem_cons_succ, List.getElem_cons_zero, Act.put, List.setIfInBounds_toArray, List.set_cons_zero, List.set_cons_succ]
                  first | refine wpAnyH_take (i := 11) (v := undef) rfl (by kernel_rfl) (by kernel_rfl) (by kernel_rfl) (fun _ _ _ h => h) (.inr ⟨rfl, rfl⟩) hS ?_ | (refine wpAnyH_take (i := 11) (v := ?_) rfl (by kernel_rfl) (by kernel_rfl) (by kernel_rfl) (fun _ _ _ h => h) (Or.inl ⟨by rfl, ?_⟩) hS ?_; rotate_left; (intro W hSw; obtain ⟨q0, q1, q2, q3, q4, q5, q6, q7⟩ := HSS.out W hSw; go_simp; try with_reducible rfl))
                  try simp only [List.getElem_toArray, List.getElem_cons_succ, List.getElem_cons_zero, Act.put, List.setIfInBounds_toArray, List.set_cons_zero, List.set_cons_succ]
                  first | refine wpAnyH_take (i := 12) (v := undef) rfl (by kernel_rfl) (by kernel_rfl) (by kernel_rfl) (fun _ _ _ h => h) (.inr ⟨rfl, rfl⟩) hS ?_ | (refine wpAnyH_take (i := 12) (v := ?_) rfl (by kernel_rfl) (by kernel_rfl) (by kernel_rfl) (fun _ _ _ h => h) (Or.inl ⟨by rfl, ?_⟩) hS ?_; rotate_left; (intro W hSw; obtain ⟨q0, q1, q2, q3, q4, q5, q6, q7⟩ := HSS.out W hSw; go_simp; try with_reducible rfl))
                  try simp only [List.getElem_toArray, List.getElem_cons_succ, List.getElem_cons_zero, Act.put, List.setIfInBounds_toArray, List.set_cons_zero, List.set_cons_succ]
                  first | refine wpAnyH_take (i := 13) (v := undef) rfl (by kernel_rfl) (by kernel_rfl) (by kernel_rfl) (fun _ _ _ h => h) (.inr ⟨rfl, rfl⟩) hS ?_ | (refine wpAnyH_take (i := 13) (v := ?_) rfl (by kernel_rfl) (by kernel_rfl) (by kernel_rfl) (fun _ _ _ h => h) (Or.inl ⟨by rfl, ?_⟩) hS ?_; rotate_left; (intro W hSw; obtain ⟨q0, q1, q2, q3, q4, q5, q6, q7⟩ := HSS.out W hSw; go_simp; try with_reducible rfl))
                  try simp only [List.getElem_toArray, List.getElem_cons_succ, List.getElem_cons_zero, Act.put, List.setIfInBounds_toArray, List.set_cons_zero, List.set_cons_succ]
                  first | refine wpAnyH_take (i := 14) (v := undef) rfl (by kernel_rfl) (by kernel_rfl) (by kernel_rfl) (fun _ _ _ h => h) (.inr ⟨rfl, rfl⟩) hS ?_ | (refine wpAnyH_take (i := 14) (v := ?_) rfl (by kernel_rfl) (by kernel_rfl) (by kernel_rfl) (fun _ _ _ h => h) (Or.inl ⟨by rfl, ?_⟩) hS ?_; rotate_left; (intro W hSw; obtain ⟨q0, q1, q2, q3, q4, q5, q6, q7⟩ := HSS.out W hSw; go_simp; try with_reducible rfl))
                  try simp only [List.getElem_toArray, List.getElem_cons_succ, List.getElem_cons_zero, Act.put, List.setIfInBounds_toArray, List.set_cons_zero, List.set_cons_succ]
                  first | refine wpAnyH_take (i := 15) (v := undef) rfl (by kernel_rfl) (by kernel_rfl) (by kernel_rfl) (fun _ _ _ h => h) (.inr ⟨rfl, rfl⟩) hS ?_ | (refine wpAnyH_take (i := 15) (v := ?_) rfl (by kernel_rfl) (by kernel_rfl) (by kernel_rfl) (fun _ _ _ h => h) (Or.inl ⟨by rfl, ?_⟩) hS ?_; rotate_left; (intro W hSw; obtain ⟨q0, q1, q2, q3, q4, q5, q6, q7⟩ := HSS.out W hSw; go_simp; try with_reducible rfl))
                  try simp only [List.getElem_toArray, List.getElem_cons_succ, List.getElem_cons_zero, Act.put, List.setIfInBounds_toArray, List.set_cons_zero, List.set_cons_succ]
                  refine wpAnyH_ready (rs := [16]) (by kernel_rfl) (by simp) ?_
                  refine AllReadyH.cons rfl (fun K hK => ?_) AllReadyH.nil
                  go_simp
                  refine (r13in_any _ _ _ _).mono ?_
                  rintro e wz ⟨rfl, rfl⟩
                  rw [h4]
                  dsimp only
                  refine hK.out _ _ hS (fun hS => ?_)
                  clear hK K
                  try simp only [List.getElem_toArray, List.getElem_cons_succ, List.getElem_cons_zero, Act.put, List.setIfInBounds_toArray, List.set_cons_zero, List.set_cons_succ]
                  first | refine wpAnyH_take (i := 17) (v := undef) rfl (by kernel_rfl) (by kernel_rfl) (by kernel_rfl) (fun _ _ _ h => h) (.inr ⟨rfl, rfl⟩) hS ?_ | (refine wpAnyH_take (i := 17) (v := ?_) rfl (by kernel_rfl) (by kernel_rfl) (by kernel_rfl) (fun _ _ _ h => h) (Or.inl ⟨by rfl, ?_⟩) hS ?_; rotate_left; (intro W hSw; obtain ⟨q0, q1, q2, q3, q4, q5, q6, q7⟩ := HSS.out W hSw; go_simp; try with_reducible rfl))
                  try simp only [List.getElem_toArray, List.getElem_cons_succ, List.getElem_cons_zero, Act.put, List.setIfInBounds_toArray, List.set_cons_zero, List.set_cons_succ]
                  first | refine wpAnyH_take (i := 18) (v := undef) rfl (by kernel_rfl) (by kernel_rfl) (by kernel_rfl) (fun _ _ _ h => h) (.inr ⟨rfl, rfl⟩) hS ?_ | (refine wpAnyH_take (i := 18) (v := ?_) rfl (by kernel_rfl) (by kernel_rfl) (by kernel_rfl) (fun _ _ _ h => h) (Or.inl ⟨by rfl, ?_⟩) hS ?_; rotate_left; (intro W hSw; obtain ⟨q0, q1, q2, q3, q4, q5, q6, q7⟩ := HSS.out W hSw; go_simp; try with_reducible rfl))
                  try simp only [List.getElem_toArray, List.getElem_cons_succ, List.getElem_cons_zero, Act.put, List.setIfInBounds_toArray, List.set_cons_zero, List.set_cons_succ]
                  refine wpAnyH_done (by kernel_rfl) ?_ _
                  go_wp2
                  refine ⟨⟨i + 1, hlt, rfl, fun j hj => ?_, hS.1, HB.out.trans (hS.2.mono HB.out.size)⟩, by simp [intOf]; omega⟩
                  by_cases hji : j = i
                  · subst hji
                    rw [HR.out]; simp [h3, h4]
                  · exact HPRE.out j (by omega)
            · obtain rfl : i = no := by omega
              have hlti : ¬ (i : Int) < (i : Int) := by omega
              have hvt : vv = true := by rw [HV.out, List.all_eq_true.2 fun j hj => HPRE.out j (List.mem_range.1 hj)]; rfl
              subst hvt
              go_wp2
              exact bodyPost_ret (v := .bool true) (by simp [results, Try.results21, go_sem]) rfl ⟨rfl, HB.out⟩
end Go.Proofs.Ytagjepclobobjaa
