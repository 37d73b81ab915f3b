/- Texts Ff, Fu, Fv, Fr, Fra, Fw in one file; each begins with a word on what it proves. -/
import Derived.OpenShut
import Derived.Deep.Slices
import Derived.Lib.SmallJoins
import Derived.LaidMore
import Derived.Stop.Joined
import Derived.Test.YtagjepclobobjaaVm
import Derived.Test.YtagjepclobobjaaVr
import Derived.Test.YtagjepclobobjaaVo
import Derived.Test.YtagjepclobobjaaVa
import Derived.Test.YtagjepclobobjaaVl

/- Statements about lots: fine. -/
namespace Go.Proofs.Ytagjepclobobjaa
set_option linter.unusedVariables false
set_option linter.unusedSimpArgs false
open Go.RowKit Go.Shelf
attribute [local go_sem] Oper.semAt_some

theorem valid_small {l : LotD} (hv : validL l = true) : l.lim.length ≤ 4 ∧ l.blocks.length ≤ 6 ∧ l.pays.length ≤ 4 ∧ l.orders.length ≤ 4 := by
  unfold validL validG at hv
  simp only [Bool.and_eq_true, decide_eq_true_eq] at hv
  have h1 := hv.1.1.1.1.1.1.1.1
  have h2 := hv.1.1.1.1.1.1.1.2
  have h3 := hv.1.1.1.1.2
  have h4 := hv.1.1.1.2.1.1.1
  omega
theorem value_err (l : LotD) (hv : validL l = true) : (valueD l).2 = if clashL l then 10 else 0 := by
  unfold valueD
  have he : errL l [] true = if clashL l then 10 else 0 := by unfold errL; rw [if_pos hv]; simp
  dsimp only
  rw [he]
  cases clashL l <;> rfl
/-- Is a lot fine, with n entries? -/
def fineB (l : LotD) (n : Nat) : Bool := decide (n ≤ 40) && validL l && !clashL l
theorem fine_of {l : LotD} {n : Nat} (h : fineB l n = true) : n ≤ 40 ∧ FineL l := by
  unfold fineB at h
  simp only [Bool.and_eq_true, decide_eq_true_eq, Bool.not_eq_true'] at h
  exact ⟨h.1.1, h.1.2, h.2⟩
structure LawS (l : LotD) (p : PartsL) (w W : World) : Prop where
  row : W.heap[w.heap.size]? = some (lotO l p)
  lot : LotAt l p (fun k => k < W.heap.size) W
  bel : Below w.heap.size w W
theorem LawS.start {l : LotD} {p : PartsL} {w : World} (hL : LotAt l p (fun k => k < w.heap.size) w) : LawS l p w (w.alloc (.cells (lotC l p).toArray 32)) :=
  ⟨heap_alloc_at _ _ _ rfl, hL.bel (below_allocG _ _), below_allocG _ _⟩
theorem LawS.later {l : LotD} {p : PartsL} {w W W' : World} (h : LawS l p w W) (hb : Below W.heap.size W W') : LawS l p w W' :=
  ⟨(hb.block _ (lt_of_block h.row)).trans h.row, h.lot.bel hb, h.bel.trans (hb.mono h.bel.size)⟩
theorem LawS.cells {l : LotD} {p : PartsL} {w W : World} (h : LawS l p w W) : W.cell? ⟨w.heap.size, 0, none⟩ = some p.lims ∧ W.cell? ⟨w.heap.size, 1, none⟩ = some (.int .i64 l.step) ∧ W.cell? ⟨w.heap.size, 2, none⟩ = some p.blks ∧ W.cell? ⟨w.heap.size, 3, none⟩ = some p.pays ∧ W.cell? ⟨w.heap.size, 4, none⟩ = some (.int .i64 l.lap) ∧ W.cell? ⟨w.heap.size, 5, none⟩ = some p.ords := by
  have := h.row
  unfold lotO at this
  refine ⟨?_, ?_, ?_, ?_, ?_, ?_⟩ <;> (rw [cell_of_row _ _ _ _ _ _ this]; rfl)
theorem long_small {l : LotD} {n : Nat} (h : ¬ 40 < longL l n) : Small9 l ∧ n ≤ 40 := by
  unfold longL at h
  exact ⟨⟨by omega, by omega, by omega, by omega⟩, by omega⟩
theorem fine_long {l : LotD} {n : Nat} (h : fineB l n = true) : ¬ 40 < longL l n := by
  obtain ⟨h1, h2⟩ := fine_of h
  have := valid_small h2.v
  unfold longL
  omega
set_option maxRecDepth 100000 in
set_option maxHeartbeats 4000000 in
theorem fine13_any (l : LotD) (p : PartsL) (n cap : Nat) (ae : Option Addr) (w : World) (hL : LotAt l p (fun k => k < w.heap.size) w) :
    Calls Try.prog 25 #[lotV l p, .slice ae n cap] w fun e w' => e = .returned (.bool (fineB l n)) ∧ Below w.heap.size w w' := by
  obtain ⟨fb, hfb⟩ : ∃ b, b = fineB l n := ⟨_, rfl⟩
  rw [← hfb]
  have HF := Lib.hid hfb
  clear hfb
  obtain ⟨al, cl, hvl, -⟩ := id hL.lim
  obtain ⟨ab, cb, hvb, -⟩ := id hL.blk
  obtain ⟨ap, cp, hvp, -⟩ := id hL.pay
  obtain ⟨ao, co, hvo, -⟩ := id hL.ord
  obtain ⟨nl, hnl⟩ : ∃ n, n = l.lim.length := ⟨_, rfl⟩
  obtain ⟨nb, hnb⟩ : ∃ n, n = l.blocks.length := ⟨_, rfl⟩
  obtain ⟨np, hnp⟩ : ∃ n, n = l.pays.length := ⟨_, rfl⟩
  obtain ⟨no, hno⟩ : ∃ n, n = l.orders.length := ⟨_, rfl⟩
  rw [← hnl] at hvl
  rw [← hnb] at hvb
  rw [← hnp] at hvp
  rw [← hno] at hvo
  obtain ⟨st, hst⟩ : ∃ x, x = l.step := ⟨_, rfl⟩
  obtain ⟨lp, hlp⟩ : ∃ x, x = l.lap := ⟨_, rfl⟩
  have HVP := Lib.hid (And.intro hvl (And.intro hvb (And.intro hvp hvo)))
  have HNL := Lib.hid hnl
  have HNB := Lib.hid hnb
  have HNP := Lib.hid hnp
  have HNO := Lib.hid hno
  have HLP := Lib.hid hlp
  have HST := Lib.hid hst
  have hmf : ∀ fn first cap w, (Instr.makeFunc fn first cap).run Try.prog w = .ok (.func fn first cap) w := fun _ _ _ _ => rfl
  have HLC := Lib.hid (show lotC l p = [.slice al nl cl, .int .i64 st, .slice ab nb cb, .slice ap np cp, .int .i64 lp, .slice ao no co] by unfold lotC; rw [hvl, hvb, hvp, hvo, hst, hlp])
  have HLV := Lib.hid (show lotV l p = .agg #[.slice al nl cl, .int .i64 st, .slice ab nb cb, .slice ap np cp, .int .i64 lp, .slice ao no co] by unfold lotV; rw [HLC.out])
  obtain ⟨W0, hW0⟩ : ∃ W0, W0 = w.alloc (.cells #[.slice al nl cl, .int .i64 st, .slice ab nb cb, .slice ap np cp, .int .i64 lp, .slice ao no co] 32) := ⟨_, rfl⟩
  have HS : Hid (LawS l p w W0) := Lib.hid (by rw [hW0]; have := LawS.start hL; rw [HLC.out] at this; exact this)
  have HCC : Hid (∀ W, LawS l p w W → W.cell? ⟨w.heap.size, 0, none⟩ = some (.slice al nl cl) ∧ W.cell? ⟨w.heap.size, 1, none⟩ = some (.int .i64 st) ∧ W.cell? ⟨w.heap.size, 2, none⟩ = some (.slice ab nb cb) ∧ W.cell? ⟨w.heap.size, 3, none⟩ = some (.slice ap np cp) ∧ W.cell? ⟨w.heap.size, 4, none⟩ = some (.int .i64 lp) ∧ W.cell? ⟨w.heap.size, 5, none⟩ = some (.slice ao no co)) :=
    Lib.hid fun W h => by have := h.cells; rw [hvl, hvb, hvp, hvo, ← hst, ← hlp] at this; exact this
  clear hvl hvb hvp hvo hnl hnb hnp hno hst hlp hL
  rw [HLV.out]
  obtain ⟨c0, c1, c2, c3, c4, c5⟩ := HCC.out _ HS.out
  go_enter Try.func25, Try.ntmps25
  go_upto_region 1 with fail
  rw [← hW0]
  clear hW0
  go_wp2_with fail
  refine Calls.mono (by have h := long13_any l p n cap ae _ HS.out.lot; rw [HLV.out] at h; exact h) ?_
  rintro e w1 ⟨rfl, hb⟩
  clear c0 c1 c2 c3 c4 c5
  replace HS := Lib.hid (HS.out.later hb)
  clear hb
  obtain ⟨c0, c1, c2, c3, c4, c5⟩ := HCC.out _ HS.out
  dsimp only
  by_cases hlg : 40 < longL l n
  · have hff : fb = false := by
      rw [HF.out]
      exact Bool.eq_false_iff.2 fun h => fine_long h hlg
    subst hff
    rw [decide_eq_true hlg]
    go_wp2
    exact bodyPost_ret (v := .bool false) (by simp [results, Try.results25, go_sem]) rfl ⟨rfl, HS.out.bel⟩
  rw [decide_eq_false hlg]
  have H9 := Lib.hid (long_small hlg)
  clear hlg
  go_wp2_with fail
  refine Calls.mono (by have h := r13lot_any l p _ HS.out.lot H9.out.1; rw [HLV.out] at h; exact h) ?_
  rintro e w2 ⟨rfl, hb⟩
  clear c0 c1 c2 c3 c4 c5
  replace HS := Lib.hid (HS.out.later hb)
  clear hb
  obtain ⟨c0, c1, c2, c3, c4, c5⟩ := HCC.out _ HS.out
  dsimp only
  cases hv : validL l with
  | false =>
    have hff : fb = false := by
      rw [HF.out]; unfold fineB; rw [hv]; simp
    subst hff
    go_wp2
    exact bodyPost_ret (v := .bool false) (by simp [results, Try.results25, go_sem]) rfl ⟨rfl, HS.out.bel⟩
  | true =>
  have HVL := Lib.hid hv
  have hff : fb = !clashL l := by
    rw [HF.out]; unfold fineB; rw [hv, decide_eq_true H9.out.2]; simp
  subst hff
  clear hv HF
  go_wp2_with fail
  refine Calls.mono (by have h := lValue_any l p _ HS.out.lot H9.out.1; rw [HLV.out] at h; exact h) ?_
  rintro e w3 ⟨rfl, hb⟩
  clear c0 c1 c2 c3 c4 c5
  replace HS := Lib.hid (HS.out.later hb)
  clear hb
  obtain ⟨c0, c1, c2, c3, c4, c5⟩ := HCC.out _ HS.out
  dsimp only
  rw [value_err l HVL.out]
  obtain ⟨x, y, hxy⟩ : ∃ x y, (valueD l).1 = (x, y) := ⟨_, _, rfl⟩
  rw [hxy]
  cases hc : clashL l with
  | false =>
    go_wp2
    exact bodyPost_ret (v := .bool true) (by simp [results, Try.results25, go_sem]) rfl ⟨by first | rfl | (rw [hc]; rfl), HS.out.bel.alloc HS.out.bel.size _⟩
  | true =>
    go_wp2
    exact bodyPost_ret (v := .bool false) (by simp [results, Try.results25, go_sem]) rfl ⟨by first | rfl | (rw [hc]; rfl), HS.out.bel.alloc HS.out.bel.size _⟩
end Go.Proofs.Ytagjepclobobjaa

/- LotBest: what a way to sell a block brings. -/
namespace Go.Proofs.Ytagjepclobobjaa
set_option linter.unusedVariables false
set_option linter.unusedSimpArgs false
open Go.RowKit Go.Shelf
attribute [local go_sem] Oper.semAt_some

theorem FineL.ok {l : LotD} (h : FineL l) : OkL l := OkL.of (es := []) (v := true) (by rw [err_of h]; rfl)
theorem FineL.lim {l : LotD} (h : FineL l) : 1 ≤ l.lim.length ∧ l.lim.length ≤ 4 := by
  have := (validL_parts h.v).2.2.2.2.1
  unfold validG at this
  simp only [Bool.and_eq_true, decide_eq_true_eq] at this
  exact this.1.1.1
theorem pay_range {l : LotD} (h : validL l = true) (n : Nat) : 0 ≤ paidL l n ∧ paidL l n ≤ 100 := by
  have hp := (validL_parts h).2.2.2.2.2.2.1
  unfold paidL
  induction n with
  | zero =>
    by_cases hn : 0 < l.pays.length
    · have := hp 0 hn
      rw [if_pos rfl] at this
      exact this
    · have hz : l.pays = [] := List.length_eq_zero_iff.1 (by omega)
      rw [hz]; simp
  | succ n ih =>
    by_cases hn : n + 1 < l.pays.length
    · have := hp (n + 1) hn
      rw [if_neg (by omega), Nat.add_sub_cancel] at this
      omega
    · rw [List.getD_eq_getElem?_getD, List.getElem?_eq_none (by omega)]
      simp
theorem err_gradeL {l : LotD} (h : FineL l) {b n : Nat} (hb : b < l.blocks.length) (hn : n < l.lim.length) : errG (gradeL l b) (inN (n : Int) 0 (((gradeL l b).lim.length : Int) - 1)) = 0 := by
  unfold errG
  rw [if_pos (valid_gradeL h.v hb), if_pos (by unfold inN gradeL; simp; omega), if_neg (h.ok.t b hb)]
theorem sureD_gradeL {l : LotD} (h : FineL l) {b n : Nat} (hb : b < l.blocks.length) (hn : n < l.lim.length) : (sureD (gradeL l b) n).2 = 0 ∧ ((sureD (gradeL l b) n).1 = 2 ↔ sureL l b n = true) ∧ ((sureD (gradeL l b) n).1 = 0 ∨ (sureD (gradeL l b) n).1 = 1 ∨ (sureD (gradeL l b) n).1 = 2) := by
  unfold sureD sureL
  dsimp only
  rw [err_gradeL h hb hn, Int.toNat_natCast]
  simp only [if_true]
  cases sureG (gradeL l b) n <;> cases neverG (gradeL l b) n <;> simp
theorem lapD_gradeL {l : LotD} (h : FineL l) {b n : Nat} (hb : b < l.blocks.length) (hn : n < l.lim.length) : (lapD (gradeL l b) n).2 = if lapsL l b n then 0 else 4 := by
  unfold lapD lapsL
  dsimp only
  rw [err_gradeL h hb hn, Int.toNat_natCast]
  cases lapsG (gradeL l b) n <;> rfl
def gradeO (l : LotD) (p : PartsL) (b : Nat) : Obj := .cells (gradeC p.lims (l.blocks.getD b []) l.step).toArray 53 (0, 0)
theorem pts_five {l : LotD} {p : PartsL} {w0 W : World} (h : LawS l p w0 W) {b : Nat} (hb : b < l.blocks.length) : (gradeL l b).pts.length = 5 := by
  obtain ⟨_, _, _, _, _, hel⟩ := h.lot.blk
  have := (hel b hb).1
  unfold gradeL
  rw [List.getD_eq_getElem?_getD, List.getElem?_eq_getElem hb]
  exact this
theorem gradeC_size (lv : Value) {pts : List (Int × Int)} (hp : pts.length = 5) (st : Int) : (Try.prog.info? 53).map (·.size) = some (gradeC lv pts st).toArray.size := by
  have h : (gradeC lv pts st).toArray.size = 12 := by
    have := pts_len pts
    simp [gradeC, this, hp]
  rw [h]
  exact sizeGrade0
theorem brings_plain (l : LotD) (b n : Nat) : bringsL l b n false = if sureL l b n then paidL l n else -1 := rfl
theorem brings_lap (l : LotD) (b n : Nat) : bringsL l b n true = if (List.range (n + 1)).any fun k => lapsL l b k then paidL l n - l.lap else -1 := rfl
set_option maxRecDepth 100000 in
set_option maxHeartbeats 4000000 in
theorem brings_any (l : LotD) (hf : FineL l) (p : PartsL) (w0 : World) (b n : Nat) (lap : Bool) (hb : b < l.blocks.length) (hn : n < l.lim.length) (xb : Nat) (w : World) (hS : LawS l p w0 w) (hx : w.heap[xb]? = some (gradeO l p b)) :
    Calls Try.prog 26 #[.int .i64 (n : Int), .bool lap, .pointer (some ⟨xb, 0, none⟩), .pointer (some ⟨w0.heap.size, 0, none⟩)] w fun e w' => e = .returned (.int .i64 (bringsL l b n lap)) ∧ Below w.heap.size w w' := by
  obtain ⟨hlp0, hlp1⟩ := (validL_parts hf.v).2.2.1
  obtain ⟨hp0, hp1⟩ := pay_range hf.v n
  have hlp : l.pays.length = l.lim.length := (validL_parts hf.v).2.2.2.1
  have hn4 := hf.lim.2
  have hB := And.intro (brings_plain l b n) (brings_lap l b n)
  generalize hv : bringsL l b n lap = v
  have HBR := Lib.hid hv
  obtain ⟨pd, hpd⟩ : ∃ x, x = paidL l n := ⟨_, rfl⟩
  obtain ⟨lp, hlpe⟩ : ∃ x, x = l.lap := ⟨_, rfl⟩
  rw [← hpd, ← hlpe] at hB
  rw [← hpd] at hp0 hp1
  rw [← hlpe] at hlp0 hlp1
  have HB2 := Lib.hid hB
  have HS := Lib.hid hS
  have HX := Lib.hid hx
  have HF := Lib.hid hf
  obtain ⟨ap, cp, hpv, _, _, hep⟩ := hS.lot.pay
  obtain ⟨np, hnp⟩ : ∃ x, x = l.pays.length := ⟨_, rfl⟩
  rw [← hnp] at hpv
  have hnn : n < np := by omega
  obtain ⟨ba, off, rfl, _, hbl, e0⟩ := hep n (by omega)
  have hgd : l.pays[n]'(by omega) = pd := by rw [hpd]; unfold paidL; rw [List.getD_eq_getElem?_getD, List.getElem?_eq_getElem (by omega)]; rfl
  rw [hgd] at e0
  have c3 : w.cell? ⟨w0.heap.size, 3, none⟩ = some (.slice (some ⟨ba, off, none⟩) np cp) := by rw [hS.cells.2.2.2.1, hpv]
  have c4 : w.cell? ⟨w0.heap.size, 4, none⟩ = some (.int .i64 lp) := by rw [hS.cells.2.2.2.2.1, hlpe]
  have HC3 := Lib.hid c3
  have HC4 := Lib.hid c4
  have HE0 := Lib.hid e0
  have hlt4 : w0.heap.size < w.heap.size := lt_of_block hS.row
  have HOLD : Hid (∀ W : World, Below w.heap.size w W → LawS l p w0 W ∧ W.heap[xb]? = some (gradeO l p b) ∧ W.cell? ⟨w0.heap.size, 3, none⟩ = some (.slice (some ⟨ba, off, none⟩) np cp) ∧ W.cell? ⟨w0.heap.size, 4, none⟩ = some (.int .i64 lp) ∧ W.cell? ⟨ba, off + n, none⟩ = some (.int .i64 pd)) := Lib.hid fun W hb =>
    ⟨HS.out.later hb, (hb.block _ (lt_of_block HX.out)).trans HX.out, (World.cell?_of_block (hb.block _ hlt4)).trans HC3.out, (World.cell?_of_block (hb.block _ hlt4)).trans HC4.out, (World.cell?_of_block (hb.block _ hbl)).trans HE0.out⟩
  have hni : (n : Int) < (np : Int) := by omega
  have hwn : IntKind.i64.wrap ((n : Int) + 1) = (n : Int) + 1 := by rw [IntWalk.i64_in _ (by omega)]
  have hws : IntKind.i64.wrap (pd - lp) = pd - lp := by rw [IntWalk.i64_in _ (by omega)]
  have hn9 : n < 4 := by omega
  have HNN := Lib.hid (And.intro hn hb)
  have H5 := Lib.hid (pts_five hS hb)
  clear hv hB hS hx hf hpv hep hnp hgd hpd hlpe e0 c3 c4 hn hb hlp hbl hlt4
  go_enter Try.func26, Try.ntmps26
  cases lap with
  | false =>
    go_wp2_with (first | (refine wpList_load_row rfl 53 _ rfl xb rfl 53 (gradeC p.lims (l.blocks.getD b []) l.step).toArray (0, 0) _ HX.out underGrade rfl (gradeC_size _ H5.out _) ?_))
    refine (gSure_any (gradeL l b) H5.out p.lims (n : Int) w HS.out.lot.lim (by have := HF.out.lim.2; show l.lim.length ≤ 1000; omega)).mono ?_
    rintro e w1 ⟨rfl, hb⟩
    obtain ⟨k1, k2, k3⟩ := sureD_gradeL HF.out HNN.out.2 HNN.out.1
    rw [k1]
    have HB1 := Lib.hid hb
    obtain ⟨_, _, c3, c4, e0⟩ := HOLD.out _ hb
    clear hb
    dsimp only
    cases hs : sureL l b n with
    | true =>
      have hvv : v = pd := by rw [← HBR.out, HB2.out.1, hs]; rfl
      rw [k2.2 hs]
      subst hvv
      clear k1 k2 k3
      go_wp2
      exact bodyPost_ret (v := .int .i64 v) (by simp [results, Try.results26, go_sem]) rfl ⟨rfl, HB1.out⟩
    | false =>
      have hvv : v = -1 := by rw [← HBR.out, HB2.out.1, hs]; rfl
      subst hvv
      have k4 : ¬ (sureD (gradeL l b) n).1 = 2 := fun h => by rw [k2.1 h] at hs; cases hs
      generalize (sureD (gradeL l b) n).1 = sv at *
      clear k1 k2 k3
      go_wp2
      exact bodyPost_ret (v := .int .i64 (-1)) (by simp [results, Try.results26, go_sem]) rfl ⟨rfl, HB1.out⟩
  | true =>
    go_wp2_with fail
    go_loopw [33] (fun iv wr => ∃ k : Nat, k ≤ n + 1 ∧ iv = .int .i64 k ∧ (∀ j, j < k → lapsL l b j = false) ∧ Below w.heap.size w wr) (fun iv _ => n + 1 - (intOf iv).toNat)
    case atStart => exact ⟨0, Nat.zero_le _, rfl, fun j h => by omega, Below.refl _ _⟩
    case round =>
      obtain ⟨k, hk, rfl, hpre, hb⟩ := hrel
      have HPRE := Lib.hid hpre
      have HB1 := Lib.hid hb
      obtain ⟨hS, hX, c3, c4, e0⟩ := HOLD.out _ hb
      have HS1 := Lib.hid hS
      have HX1 := Lib.hid hX
      clear hpre hb hS hX
      by_cases hlt : k < n + 1
      · have hlti : (k : Int) < (n : Int) + 1 := by omega
        have hw : IntKind.i64.wrap ((k : Int) + 1) = (k : Int) + 1 := by rw [IntWalk.i64_in _ (by omega)]
        go_wp2_with (first | (refine wpList_load_row rfl 53 _ rfl xb rfl 53 (gradeC p.lims (l.blocks.getD b []) l.step).toArray (0, 0) _ HX1.out underGrade rfl (gradeC_size _ H5.out _) ?_))
        refine (gLap_any (gradeL l b) H5.out p.lims (k : Int) wr HS1.out.lot.lim (by have := HF.out.lim.2; show l.lim.length ≤ 1000; omega)).mono ?_
        rintro e w1 ⟨rfl, hb⟩
        have k1 := lapD_gradeL HF.out HNN.out.2 (show k < l.lim.length from by have := HNN.out.1; omega)
        rw [k1]
        replace HB1 := Lib.hid (HB1.out.trans (hb.mono HB1.out.size))
        clear hb k1 c3 c4 e0
        obtain ⟨_, _, c3, c4, e0⟩ := HOLD.out _ HB1.out
        dsimp only
        cases hs : lapsL l b k with
        | true =>
          have hvv : v = pd - lp := by
            rw [← HBR.out, HB2.out.2, if_pos]
            rw [List.any_eq_true]
            exact ⟨k, List.mem_range.2 hlt, hs⟩
          subst hvv
          go_wp2_with fail
          refine wp_region_held_drew (S := fun W => W.cell? ⟨w0.heap.size, 3, none⟩ = some (.slice (some ⟨ba, off, none⟩) np cp) ∧ W.cell? ⟨w0.heap.size, 4, none⟩ = some (.int .i64 lp) ∧ W.cell? ⟨ba, off + n, none⟩ = some (.int .i64 pd)) rfl ⟨c3, c4, e0⟩ fun hS => ?_
          refine wpAnyH_take (i := 0) (v := ?_) rfl (by kernel_rfl) (by kernel_rfl) (by kernel_rfl) (fun _ _ _ h => h) (Or.inl ⟨by rfl, ?_⟩) hS ?_
          rotate_left
          · (intro W hSw; obtain ⟨q0, q1, q2⟩ := hSw; go_simp; try with_reducible rfl)
          try simp only [List.getElem_toArray, List.getElem_cons_succ, List.getElem_cons_zero, Act.put, List.setIfInBounds_toArray, List.set_cons_zero, List.set_cons_succ]
          refine wpAnyH_take (i := 1) (v := ?_) rfl (by kernel_rfl) (by kernel_rfl) (by kernel_rfl) (fun _ _ _ h => h) (Or.inl ⟨by rfl, ?_⟩) hS ?_
          rotate_left
          · (intro W hSw; obtain ⟨q0, q1, q2⟩ := hSw; go_simp; try with_reducible rfl)
          try simp only [List.getElem_toArray, List.getElem_cons_succ, List.getElem_cons_zero, Act.put, List.setIfInBounds_toArray, List.set_cons_zero, List.set_cons_succ]
          refine wpAnyH_take (i := 2) (v := ?_) rfl (by kernel_rfl) (by kernel_rfl) (by kernel_rfl) (fun _ _ _ h => h) (Or.inl ⟨by rfl, ?_⟩) hS ?_
          rotate_left
          · (intro W hSw; obtain ⟨q0, q1, q2⟩ := hSw; go_simp; try with_reducible rfl)
          try simp only [List.getElem_toArray, List.getElem_cons_succ, List.getElem_cons_zero, Act.put, List.setIfInBounds_toArray, List.set_cons_zero, List.set_cons_succ]
          refine wpAnyH_take (i := 3) (v := ?_) rfl (by kernel_rfl) (by kernel_rfl) (by kernel_rfl) (fun _ _ _ h => h) (Or.inl ⟨by rfl, ?_⟩) hS ?_
          rotate_left
          · (intro W hSw; obtain ⟨q0, q1, q2⟩ := hSw; go_simp; try with_reducible rfl)
          try simp only [List.getElem_toArray, List.getElem_cons_succ, List.getElem_cons_zero, Act.put, List.setIfInBounds_toArray, List.set_cons_zero, List.set_cons_succ]
          refine wpAnyH_take (i := 4) (v := ?_) rfl (by kernel_rfl) (by kernel_rfl) (by kernel_rfl) (fun _ _ _ h => h) (Or.inl ⟨by rfl, ?_⟩) hS ?_
          rotate_left
          · (intro W hSw; obtain ⟨q0, q1, q2⟩ := hSw; go_simp; try with_reducible rfl)
          try simp only [List.getElem_toArray, List.getElem_cons_succ, List.getElem_cons_zero, Act.put, List.setIfInBounds_toArray, List.set_cons_zero, List.set_cons_succ]
          refine wpAnyH_take (i := 5) (v := ?_) rfl (by kernel_rfl) (by kernel_rfl) (by kernel_rfl) (fun _ _ _ h => h) (Or.inl ⟨by rfl, ?_⟩) hS ?_
          rotate_left
          · (intro W hSw; obtain ⟨q0, q1, q2⟩ := hSw; go_simp; try with_reducible rfl)
          try simp only [List.getElem_toArray, List.getElem_cons_succ, List.getElem_cons_zero, Act.put, List.setIfInBounds_toArray, List.set_cons_zero, List.set_cons_succ]
          refine wpAnyH_take (i := 6) (v := ?_) rfl (by kernel_rfl) (by kernel_rfl) (by kernel_rfl) (fun _ _ _ h => h) (Or.inl ⟨by rfl, ?_⟩) hS ?_
          rotate_left
          · (intro W hSw; obtain ⟨q0, q1, q2⟩ := hSw; go_simp; try with_reducible rfl)
          try simp only [List.getElem_toArray, List.getElem_cons_succ, List.getElem_cons_zero, Act.put, List.setIfInBounds_toArray, List.set_cons_zero, List.set_cons_succ]
          refine wpAnyH_take (i := 7) (v := ?_) rfl (by kernel_rfl) (by kernel_rfl) (by kernel_rfl) (fun _ _ _ h => h) (Or.inl ⟨by rfl, ?_⟩) hS ?_
          rotate_left
          · (intro W hSw; obtain ⟨q0, q1, q2⟩ := hSw; go_simp; try with_reducible rfl)
          try simp only [List.getElem_toArray, List.getElem_cons_succ, List.getElem_cons_zero, Act.put, List.setIfInBounds_toArray, List.set_cons_zero, List.set_cons_succ]
          refine wpAnyH_take (i := 8) (v := ?_) rfl (by kernel_rfl) (by kernel_rfl) (by kernel_rfl) (fun _ _ _ h => h) (Or.inl ⟨by rfl, ?_⟩) hS ?_
          rotate_left
          · (intro W hSw; obtain ⟨q0, q1, q2⟩ := hSw; go_simp; try with_reducible rfl)
          try simp only [List.getElem_toArray, List.getElem_cons_succ, List.getElem_cons_zero, Act.put, List.setIfInBounds_toArray, List.set_cons_zero, List.set_cons_succ]
          refine wpAnyH_done (by kernel_rfl) ?_ _
          clear hS
          go_wp2
          exact bodyPost_ret (v := .int .i64 (pd - lp)) (by simp [results, Try.results26, go_sem]) rfl ⟨rfl, HB1.out.drew⟩
        | false =>
          go_wp2
          refine ⟨⟨k + 1, hlt, by simp, fun j hj => ?_, HB1.out⟩, by simp [intOf]; omega⟩
          by_cases hji : j = k
          · subst hji; exact hs
          · exact HPRE.out j (by omega)
      · obtain rfl : k = n + 1 := by omega
        have hlti : ¬ ((n + 1 : Nat) : Int) < (n : Int) + 1 := by omega
        have hvv : v = -1 := by
          rw [← HBR.out, HB2.out.2, if_neg]
          rw [Bool.not_eq_true, List.any_eq_false]
          intro k hk
          rw [HPRE.out k (List.mem_range.1 hk)]
          simp
        subst hvv
        go_wp2
        exact bodyPost_ret (v := .int .i64 (-1)) (by simp [results, Try.results26, go_sem]) rfl ⟨rfl, HB1.out⟩
end Go.Proofs.Ytagjepclobobjaa

/- LotBest: the walk. -/
namespace Go.Proofs.Ytagjepclobobjaa
set_option linter.unusedVariables false
set_option linter.unusedSimpArgs false
open Go.RowKit Go.Shelf
attribute [local go_sem] Oper.semAt_some
theorem rem_facts {x : Int} (h0 : 0 ≤ x) (h9 : x ≤ 255) {n : Nat} (hn : 0 < n) (hn9 : n ≤ 1000) : ∃ b : Nat, b < n ∧ x.tmod (n : Int) = (b : Int) ∧ IntKind.i64.wrap (b : Int) = (b : Int) ∧ IntKind.i64.wrap x = x := by
  have h1 := Int.emod_nonneg x (b := (n : Int)) (by omega)
  have h2 := Int.emod_lt_of_pos x (b := (n : Int)) (by omega)
  have h3 := Int.tmod_eq_emod_of_nonneg (b := (n : Int)) h0
  refine ⟨(x % (n : Int)).toNat, by omega, by omega, ?_, IntWalk.i64_in _ (by omega)⟩
  rw [IntWalk.i64_in _ (by omega)]
theorem LawS.drew {l : LotD} {p : PartsL} {w W : World} (h : LawS l p w W) : LawS l p w W.drew := h.later (Below.refl _ _).drew
theorem bestD_fine {l : LotD} (h : FineL l) {b : Nat} (hb : b < l.blocks.length) : bestD l (b : Int) = (((bestN l b).1 : Int), (bestN l b).2.1, max 0 (bestN l b).2.2, 0) := by
  have he : errL l [] (isBlockL l (b : Int)) = 0 := by rw [err_of h]; simp [isBlockL, hb]
  unfold bestD
  dsimp only
  rw [if_pos he, Int.toNat_natCast]
set_option maxRecDepth 100000 in
set_option maxHeartbeats 8000000 in
theorem best13_any (l : LotD) (p : PartsL) (x y : Int) (hx : 0 ≤ x ∧ x ≤ 255) (hy : 0 ≤ y ∧ y ≤ 255) (lap : Bool) (w : World) (hL : LotAt l p (fun k => k < w.heap.size) w) :
    Calls Try.prog 5 #[lotV l p, .int .u8 x, .int .u8 y, .bool lap] w fun e w' => e = .returned (.bool true) ∧ Below w.heap.size w w' := by
  obtain ⟨al, cl, hvl, -⟩ := id hL.lim
  obtain ⟨ab, cb, hvb, -⟩ := id hL.blk
  obtain ⟨ap, cp, hvp, -⟩ := id hL.pay
  obtain ⟨ao, co, hvo, -⟩ := id hL.ord
  obtain ⟨nl, hnl⟩ : ∃ n, n = l.lim.length := ⟨_, rfl⟩
  obtain ⟨nb, hnb⟩ : ∃ n, n = l.blocks.length := ⟨_, rfl⟩
  obtain ⟨np, hnp⟩ : ∃ n, n = l.pays.length := ⟨_, rfl⟩
  obtain ⟨no, hno⟩ : ∃ n, n = l.orders.length := ⟨_, rfl⟩
  rw [← hnl] at hvl
  rw [← hnb] at hvb
  rw [← hnp] at hvp
  rw [← hno] at hvo
  obtain ⟨st, hst⟩ : ∃ x, x = l.step := ⟨_, rfl⟩
  obtain ⟨lp, hlp⟩ : ∃ x, x = l.lap := ⟨_, rfl⟩
  have HVP := Lib.hid (And.intro hvl (And.intro hvb (And.intro hvp hvo)))
  have HNL := Lib.hid hnl
  have HNB := Lib.hid hnb
  have HNP := Lib.hid hnp
  have HNO := Lib.hid hno
  have HLP := Lib.hid hlp
  have HST := Lib.hid hst
  have hmf : ∀ fn first cap w, (Instr.makeFunc fn first cap).run Try.prog w = .ok (.func fn first cap) w := fun _ _ _ _ => rfl
  have HLC := Lib.hid (show lotC l p = [.slice al nl cl, .int .i64 st, .slice ab nb cb, .slice ap np cp, .int .i64 lp, .slice ao no co] by unfold lotC; rw [hvl, hvb, hvp, hvo, hst, hlp])
  have HLV := Lib.hid (show lotV l p = .agg #[.slice al nl cl, .int .i64 st, .slice ab nb cb, .slice ap np cp, .int .i64 lp, .slice ao no co] by unfold lotV; rw [HLC.out])
  obtain ⟨W0, hW0⟩ : ∃ W0, W0 = w.alloc (.cells #[.slice al nl cl, .int .i64 st, .slice ab nb cb, .slice ap np cp, .int .i64 lp, .slice ao no co] 32) := ⟨_, rfl⟩
  have HS : Hid (LawS l p w W0) := Lib.hid (by rw [hW0]; have := LawS.start hL; rw [HLC.out] at this; exact this)
  have HCC : Hid (∀ W, LawS l p w W → W.cell? ⟨w.heap.size, 0, none⟩ = some (.slice al nl cl) ∧ W.cell? ⟨w.heap.size, 1, none⟩ = some (.int .i64 st) ∧ W.cell? ⟨w.heap.size, 2, none⟩ = some (.slice ab nb cb) ∧ W.cell? ⟨w.heap.size, 3, none⟩ = some (.slice ap np cp) ∧ W.cell? ⟨w.heap.size, 4, none⟩ = some (.int .i64 lp) ∧ W.cell? ⟨w.heap.size, 5, none⟩ = some (.slice ao no co)) :=
    Lib.hid fun W h => by have := h.cells; rw [hvl, hvb, hvp, hvo, ← hst, ← hlp] at this; exact this
  clear hvl hvb hvp hvo hnl hnb hnp hno hst hlp hL
  rw [HLV.out]
  obtain ⟨c0, c1, c2, c3, c4, c5⟩ := HCC.out _ HS.out
  go_enter Try.func5, Try.ntmps5
  go_upto_region 1 with fail
  rw [← hW0]
  clear hW0
  go_wp2_with fail
  refine Calls.mono (by have h := fine13_any l p 0 0 none _ HS.out.lot; rw [HLV.out] at h; exact h) ?_
  rintro e w1 ⟨rfl, hb⟩
  clear c0 c1 c2 c3 c4 c5
  replace HS := Lib.hid (HS.out.later hb)
  clear hb
  obtain ⟨c0, c1, c2, c3, c4, c5⟩ := HCC.out _ HS.out
  dsimp only
  cases hf : fineB l 0 with
  | false =>
    go_wp2_with fail
    refine (alive13_any _).mono ?_
    rintro e wz ⟨rfl, hb⟩
    replace HS := Lib.hid (HS.out.later hb)
    clear hb
    dsimp only
    go_wp2
    exact bodyPost_ret (v := .bool true) (by simp [results, Try.results5, go_sem]) rfl ⟨rfl, HS.out.bel⟩
  | true =>
  have HF := Lib.hid (fine_of hf).2
  clear hf
  by_cases hnz : (nb : Int) = 0
  · skip
    go_wp2_with fail
    refine (alive13_any _).mono ?_
    rintro e wz ⟨rfl, hb⟩
    replace HS := Lib.hid (HS.out.later hb)
    clear hb
    dsimp only
    go_wp2
    exact bodyPost_ret (v := .bool true) (by simp [results, Try.results5, go_sem]) rfl ⟨rfl, HS.out.bel⟩
  have hl4 := HF.out.lim
  rw [← HNL.out] at hl4
  obtain ⟨b, hb, htb, hwb, hwx⟩ := rem_facts hx.1 hx.2 (n := nb) (by omega) (by have := (valid_small HF.out.v).2.1; rw [← HNB.out] at this; omega)
  obtain ⟨m, hm, htm, hwm, hwy⟩ := rem_facts hy.1 hy.2 (n := nl) (by omega) (by omega)
  have hlz : ¬ nl = 0 := by omega
  have hbz : ¬ nb = 0 := by omega
  go_upto_region 3 with fail
  refine wp_region_held_drew (S := fun W => LawS l p w W) rfl HS.out.drew fun hS => ?_
  refine wpAnyH_take (i := 0) (v := ?_) rfl (by kernel_rfl) (by kernel_rfl) (by kernel_rfl) (fun _ _ _ h => h) (Or.inl ⟨by rfl, ?_⟩) hS ?_
  rotate_left
  · (intro W hSw; obtain ⟨q0, q1, q2, q3, q4, q5⟩ := HCC.out W hSw; go_simp; try with_reducible rfl)
  try simp only [List.getElem_toArray, List.getElem_cons_succ, List.getElem_cons_zero, Act.put, List.setIfInBounds_toArray, List.set_cons_zero, List.set_cons_succ]
  refine wpAnyH_take (i := 1) (v := ?_) rfl (by kernel_rfl) (by kernel_rfl) (by kernel_rfl) (fun _ _ _ h => h) (Or.inl ⟨by rfl, ?_⟩) hS ?_
  rotate_left
  · (intro W hSw; obtain ⟨q0, q1, q2, q3, q4, q5⟩ := HCC.out W hSw; go_simp; try with_reducible rfl)
  try simp only [List.getElem_toArray, List.getElem_cons_succ, List.getElem_cons_zero, Act.put, List.setIfInBounds_toArray, List.set_cons_zero, List.set_cons_succ]
  refine wpAnyH_take (i := 2) (v := ?_) rfl (by kernel_rfl) (by kernel_rfl) (by kernel_rfl) (fun _ _ _ h => h) (Or.inl ⟨by rfl, ?_⟩) hS ?_
  rotate_left
  · (intro W hSw; obtain ⟨q0, q1, q2, q3, q4, q5⟩ := HCC.out W hSw; go_simp; try with_reducible rfl)
  try simp only [List.getElem_toArray, List.getElem_cons_succ, List.getElem_cons_zero, Act.put, List.setIfInBounds_toArray, List.set_cons_zero, List.set_cons_succ]
  refine wpAnyH_take (i := 3) (v := ?_) rfl (by kernel_rfl) (by kernel_rfl) (by kernel_rfl) (fun _ _ _ h => h) (Or.inl ⟨by rfl, ?_⟩) hS ?_
  rotate_left
  · (intro W hSw; obtain ⟨q0, q1, q2, q3, q4, q5⟩ := HCC.out W hSw; go_simp; try with_reducible rfl)
  try simp only [List.getElem_toArray, List.getElem_cons_succ, List.getElem_cons_zero, Act.put, List.setIfInBounds_toArray, List.set_cons_zero, List.set_cons_succ]
  refine wpAnyH_take (i := 4) (v := ?_) rfl (by kernel_rfl) (by kernel_rfl) (by kernel_rfl) (fun _ _ _ h => h) (Or.inl ⟨by rfl, ?_⟩) hS ?_
  rotate_left
  · (intro W hSw; obtain ⟨q0, q1, q2, q3, q4, q5⟩ := HCC.out W hSw; go_simp; try with_reducible rfl)
  try simp only [List.getElem_toArray, List.getElem_cons_succ, List.getElem_cons_zero, Act.put, List.setIfInBounds_toArray, List.set_cons_zero, List.set_cons_succ]
  refine wpAnyH_take (i := 5) (v := ?_) rfl (by kernel_rfl) (by kernel_rfl) (by kernel_rfl) (fun _ _ _ h => h) (Or.inl ⟨by rfl, ?_⟩) hS ?_
  rotate_left
  · (intro W hSw; obtain ⟨q0, q1, q2, q3, q4, q5⟩ := HCC.out W hSw; go_simp; try with_reducible rfl)
  try simp only [List.getElem_toArray, List.getElem_cons_succ, List.getElem_cons_zero, Act.put, List.setIfInBounds_toArray, List.set_cons_zero, List.set_cons_succ]
  refine wpAnyH_take (i := 6) (v := ?_) rfl (by kernel_rfl) (by kernel_rfl) (by kernel_rfl) (fun _ _ _ h => h) (Or.inl ⟨by rfl, ?_⟩) hS ?_
  rotate_left
  · (intro W hSw; obtain ⟨q0, q1, q2, q3, q4, q5⟩ := HCC.out W hSw; go_simp; try with_reducible rfl)
  try simp only [List.getElem_toArray, List.getElem_cons_succ, List.getElem_cons_zero, Act.put, List.setIfInBounds_toArray, List.set_cons_zero, List.set_cons_succ]
  refine wpAnyH_take (i := 7) (v := ?_) rfl (by kernel_rfl) (by kernel_rfl) (by kernel_rfl) (fun _ _ _ h => h) (Or.inl ⟨by rfl, ?_⟩) hS ?_
  rotate_left
  · (intro W hSw; obtain ⟨q0, q1, q2, q3, q4, q5⟩ := HCC.out W hSw; go_simp; try with_reducible rfl)
  try simp only [List.getElem_toArray, List.getElem_cons_succ, List.getElem_cons_zero, Act.put, List.setIfInBounds_toArray, List.set_cons_zero, List.set_cons_succ]
  refine wpAnyH_take (i := 8) (v := ?_) rfl (by kernel_rfl) (by kernel_rfl) (by kernel_rfl) (fun _ _ _ h => h) (Or.inl ⟨by rfl, ?_⟩) hS ?_
  rotate_left
  · (intro W hSw; obtain ⟨q0, q1, q2, q3, q4, q5⟩ := HCC.out W hSw; go_simp; try with_reducible rfl)
  try simp only [List.getElem_toArray, List.getElem_cons_succ, List.getElem_cons_zero, Act.put, List.setIfInBounds_toArray, List.set_cons_zero, List.set_cons_succ]
  refine wpAnyH_take (i := 9) (v := ?_) rfl (by kernel_rfl) (by kernel_rfl) (by kernel_rfl) (fun _ _ _ h => h) (Or.inl ⟨by rfl, ?_⟩) hS ?_
  rotate_left
  · (intro W hSw; obtain ⟨q0, q1, q2, q3, q4, q5⟩ := HCC.out W hSw; go_simp; try with_reducible rfl)
  try simp only [List.getElem_toArray, List.getElem_cons_succ, List.getElem_cons_zero, Act.put, List.setIfInBounds_toArray, List.set_cons_zero, List.set_cons_succ]
  refine wpAnyH_take (i := 10) (v := ?_) rfl (by kernel_rfl) (by kernel_rfl) (by kernel_rfl) (fun _ _ _ h => h) (Or.inl ⟨by rfl, ?_⟩) hS ?_
  rotate_left
  · (intro W hSw; obtain ⟨q0, q1, q2, q3, q4, q5⟩ := HCC.out W hSw; go_simp; try with_reducible rfl)
  try simp only [List.getElem_toArray, List.getElem_cons_succ, List.getElem_cons_zero, Act.put, List.setIfInBounds_toArray, List.set_cons_zero, List.set_cons_succ]
  refine wpAnyH_take (i := 11) (v := ?_) rfl (by kernel_rfl) (by kernel_rfl) (by kernel_rfl) (fun _ _ _ h => h) (Or.inl ⟨by rfl, ?_⟩) hS ?_
  rotate_left
  · (intro W hSw; obtain ⟨q0, q1, q2, q3, q4, q5⟩ := HCC.out W hSw; go_simp; try with_reducible rfl)
  try simp only [List.getElem_toArray, List.getElem_cons_succ, List.getElem_cons_zero, Act.put, List.setIfInBounds_toArray, List.set_cons_zero, List.set_cons_succ]
  refine wpAnyH_take (i := 12) (v := ?_) rfl (by kernel_rfl) (by kernel_rfl) (by kernel_rfl) (fun _ _ _ h => h) (Or.inl ⟨by rfl, ?_⟩) hS ?_
  rotate_left
  · (intro W hSw; obtain ⟨q0, q1, q2, q3, q4, q5⟩ := HCC.out W hSw; go_simp; try with_reducible rfl)
  try simp only [List.getElem_toArray, List.getElem_cons_succ, List.getElem_cons_zero, Act.put, List.setIfInBounds_toArray, List.set_cons_zero, List.set_cons_succ]
  refine wpAnyH_take (i := 13) (v := ?_) rfl (by kernel_rfl) (by kernel_rfl) (by kernel_rfl) (fun _ _ _ h => h) (Or.inl ⟨by rfl, ?_⟩) hS ?_
  rotate_left
  · (intro W hSw; obtain ⟨q0, q1, q2, q3, q4, q5⟩ := HCC.out W hSw; go_simp; try with_reducible rfl)
  try simp only [List.getElem_toArray, List.getElem_cons_succ, List.getElem_cons_zero, Act.put, List.setIfInBounds_toArray, List.set_cons_zero, List.set_cons_succ]
  refine wpAnyH_done (by kernel_rfl) ?_ _
  clear c0 c1 c2 c3 c4 c5
  replace HS := Lib.hid hS
  clear hS
  obtain ⟨c0, c1, c2, c3, c4, c5⟩ := HCC.out _ HS.out
  have hbl : b < l.blocks.length := by rw [← HNB.out]; exact hb
  have hml : m < l.lim.length := by rw [← HNL.out]; exact hm
  have HBL := Lib.hid hbl
  have HML := Lib.hid hml
  have H9 := Lib.hid (show Small9 l from by have := valid_small HF.out.v; exact ⟨by omega, by omega, by omega, by omega⟩)
  obtain ⟨oth, hoth⟩ : ∃ x, x = bringsL l b m lap := ⟨_, rfl⟩
  obtain ⟨gn, hgn⟩ : ∃ x, x = (bestN l b).1 := ⟨_, rfl⟩
  obtain ⟨ld, hld⟩ : ∃ x, x = (bestN l b).2.1 := ⟨_, rfl⟩
  obtain ⟨pe, hpe⟩ : ∃ x, x = max 0 (bestN l b).2.2 := ⟨_, rfl⟩
  have hbd := bestD_fine HF.out hbl
  have hfacts := best_facts (fun n => (pay_range HF.out.v n).1) b m lap hml
  rw [← hgn, ← hld, ← hpe] at hbd
  rw [← hoth, ← hgn, ← hld, ← hpe, ← HNL.out] at hfacts
  have HBD := Lib.hid hbd
  have HFA := Lib.hid hfacts
  have HO := Lib.hid hoth
  have HPE := Lib.hid hpe
  clear hbd hfacts hoth hgn hld hpe hbl hml htb htm hwx hwy
  go_wp2_with fail
  refine Calls.mono (by have h := lBest_any l p (b : Int) _ HS.out.lot H9.out; rw [HLV.out, HBD.out] at h; exact h) ?_
  rintro e w2 ⟨rfl, hb2⟩
  clear c0 c1 c2 c3 c4 c5
  replace HS := Lib.hid (HS.out.later hb2)
  clear hb2
  obtain ⟨c0, c1, c2, c3, c4, c5⟩ := HCC.out _ HS.out
  dsimp only
  obtain ⟨⟨a0, z0⟩, ⟨a1, z1⟩, ⟨a2, z2⟩, ⟨a3, z3⟩, ⟨a4, z4⟩, hpts⟩ := list5' (pts_five HS.out HBL.out)
  have HPT := Lib.hid (show l.blocks.getD b [] = _ from hpts)
  have HG := Lib.hid (show gradeV p.lims (l.blocks.getD b []) l.step = .agg #[.slice al nl cl, .int .i64 a0, .int .i64 z0, .int .i64 a1, .int .i64 z1, .int .i64 a2, .int .i64 z2, .int .i64 a3, .int .i64 z3, .int .i64 a4, .int .i64 z4, .int .i64 st] by rw [HPT.out, HVP.out.1, ← HST.out]; rfl)
  have HGO := Lib.hid (show gradeO l p b = .cells #[.slice al nl cl, .int .i64 a0, .int .i64 z0, .int .i64 a1, .int .i64 z1, .int .i64 a2, .int .i64 z2, .int .i64 a3, .int .i64 z3, .int .i64 a4, .int .i64 z4, .int .i64 st] 53 (0, 0) by unfold gradeO; rw [HPT.out, HVP.out.1, ← HST.out]; rfl)
  clear hpts
  go_wp2_with fail
  refine Calls.mono (by have h := r13grade_any l p b HBL.out _ HS.out.lot H9.out.b; rw [HLV.out, HG.out] at h; exact h) ?_
  rintro e w3 ⟨rfl, hb3⟩
  clear c0 c1 c2 c3 c4 c5
  obtain ⟨W3, hW3⟩ : ∃ W, W = w3.alloc (.cells #[.slice al nl cl, .int .i64 a0, .int .i64 z0, .int .i64 a1, .int .i64 z1, .int .i64 a2, .int .i64 z2, .int .i64 a3, .int .i64 z3, .int .i64 a4, .int .i64 z4, .int .i64 st] 53) := ⟨_, rfl⟩
  have HX := Lib.hid (show W3.heap[w3.heap.size]? = some (gradeO l p b) by rw [hW3, HGO.out]; exact heap_alloc_at _ _ _ rfl)
  replace HS := Lib.hid (show LawS l p w W3 by rw [hW3]; exact (HS.out.later hb3).later (below_allocG _ _))
  clear hb3
  obtain ⟨c0, c1, c2, c3, c4, c5⟩ := HCC.out _ HS.out
  dsimp only
  go_upto_region 7 with fail
  rw [← hW3]
  clear hW3
  have hgl : gn ≤ nl := by rcases HFA.out with h | h <;> omega
  have hgi : ¬ (nl : Int) < (gn : Int) := by omega
  have hg0 : ¬ (gn : Int) < 0 := by omega
  have hgn : ¬ nl < gn := by omega
  go_wp2_with fail
  refine Calls.mono (brings_any l HF.out p w b m lap HBL.out HML.out w3.heap.size _ HS.out HX.out) ?_
  rintro e w4 ⟨rfl, hb4⟩
  rw [← HO.out]
  clear c0 c1 c2 c3 c4 c5
  replace HS := Lib.hid (HS.out.later hb4)
  replace HX := Lib.hid ((hb4.block _ (lt_of_block HX.out)).trans HX.out)
  clear hb4
  obtain ⟨c0, c1, c2, c3, c4, c5⟩ := HCC.out _ HS.out
  dsimp only
  rcases HFA.out with ⟨rfl, rfl, rfl, ho⟩ | ⟨hgl2, hbr, hle, hor⟩
  · clear hgi hg0 hgn hgl
    go_wp2_with fail
    refine (alive13_any _).mono ?_
    rintro e wz ⟨rfl, hb⟩
    replace HS := Lib.hid (HS.out.later hb)
    clear hb
    dsimp only
    go_wp2
    exact bodyPost_ret (v := .bool true) (by simp [results, Try.results5, go_sem]) rfl ⟨rfl, HS.out.bel⟩
  · have hgne : ¬ gn = nl := by omega
    have hgne2 : ¬ (gn : Int) = (nl : Int) := by omega
    have hpe0 : 0 ≤ pe := by rw [HPE.out]; exact Int.le_max_left _ _
    have hpe1 : ¬ pe < 0 := by omega
    have hop : ¬ pe < oth := by omega
    go_wp2_with fail
    refine Calls.mono (brings_any l HF.out p w b gn ld HBL.out (by rw [← HNL.out]; exact hgl2) w3.heap.size _ HS.out HX.out) ?_
    rintro e w5 ⟨rfl, hb5⟩
    rw [hbr]
    clear c0 c1 c2 c3 c4 c5
    replace HS := Lib.hid (HS.out.later hb5)
    clear hb5
    obtain ⟨c0, c1, c2, c3, c4, c5⟩ := HCC.out _ HS.out
    have HOR := Lib.hid hor
    clear hbr hor
    dsimp only
    by_cases k1 : oth < pe
    · skip
      go_wp2_with fail
      refine (alive13_any _).mono ?_
      rintro e wz ⟨rfl, hb⟩
      replace HS := Lib.hid (HS.out.later hb)
      clear hb
      dsimp only
      go_wp2
      exact bodyPost_ret (v := .bool true) (by simp [results, Try.results5, go_sem]) rfl ⟨rfl, HS.out.bel⟩
    have hor2 := HOR.out.resolve_left k1
    cases ld with
    | false =>
      cases lap with
      | false =>
        have k2 : gn ≤ m := by simpa using hor2
        have k3 : (gn : Int) ≤ (m : Int) := by omega
        clear hor2
        go_wp2_with fail
        refine (alive13_any _).mono ?_
        rintro e wz ⟨rfl, hb⟩
        replace HS := Lib.hid (HS.out.later hb)
        clear hb
        dsimp only
        go_wp2
        exact bodyPost_ret (v := .bool true) (by simp [results, Try.results5, go_sem]) rfl ⟨rfl, HS.out.bel⟩
      | true =>
        clear hor2
        go_wp2_with fail
        refine (alive13_any _).mono ?_
        rintro e wz ⟨rfl, hb⟩
        replace HS := Lib.hid (HS.out.later hb)
        clear hb
        dsimp only
        go_wp2
        exact bodyPost_ret (v := .bool true) (by simp [results, Try.results5, go_sem]) rfl ⟨rfl, HS.out.bel⟩
    | true =>
      cases lap with
      | false => simp at hor2
      | true =>
        have k2 : gn ≤ m := by simpa using hor2
        have k3 : (gn : Int) ≤ (m : Int) := by omega
        clear hor2
        go_wp2_with fail
        refine (alive13_any _).mono ?_
        rintro e wz ⟨rfl, hb⟩
        replace HS := Lib.hid (HS.out.later hb)
        clear hb
        dsimp only
        go_wp2
        exact bodyPost_ret (v := .bool true) (by simp [results, Try.results5, go_sem]) rfl ⟨rfl, HS.out.bel⟩
end Go.Proofs.Ytagjepclobobjaa

/- Arguments that come in, and read as they did: lots, entries, small numbers (plain). -/
namespace Go.Proofs.Ytagjepclobobjaa
set_option linter.unusedVariables false
set_option linter.unusedSimpArgs false
open Go.ChangeShapes Go.WideShapes Go.ChangeAt Go.RowKit Go.Deep

theorem choose_list {α : Type} {Q : Nat → α → Prop} : ∀ n : Nat, (∀ i, i < n → ∃ x, Q i x) → ∃ l : List α, l.length = n ∧ ∀ i (h : i < l.length), Q i l[i]
  | 0, _ => ⟨[], rfl, fun i h => absurd h (by simp)⟩
  | n + 1, h => by
    obtain ⟨l, hl, hq⟩ := choose_list n (fun i hi => h i (by omega))
    obtain ⟨x, hx⟩ := h n (by omega)
    refine ⟨l ++ [x], by simp [hl], fun i hi => ?_⟩
    by_cases hin : i < l.length
    · rw [List.getElem_append_left hin]; exact hq i hin
    · have : i = n := by simp at hi; omega
      subst this
      rw [List.getElem_append_right (by omega)]
      simpa [hl] using hx
theorem addr_of_cell {w : World} {a : Addr} {v : Value} (h : w.cell? a = some v) : a = ⟨a.block, a.off, none⟩ ∧ a.block < w.heap.size := by
  obtain ⟨b, o, s⟩ := a
  unfold World.cell? at h
  cases hh : w.heap[b]? with
  | none => rw [hh] at h; simp at h
  | some ob =>
    rw [hh] at h
    refine ⟨?_, (Array.getElem?_eq_some_iff.1 hh).1⟩
    cases s with
    | none => rfl
    | some s => cases ob <;> simp at h
theorem laid_out : laidOutB Try.prog = true := by kernel_rfl
theorem trodAll_stays {H : Type} {enc : TypeId × Value → H} {P : Program} (hl : laidOutB P = true) {W W' : World} {sp : Nat → Bool} : ∀ {ts : List TypeId} {vs : List Value} {ds : List (DataW H)} {ps : List MemPlace},
    (∀ t ∈ ts, P.readableRec t = true ∧ t < P.types.size) → DataW.TrodAll enc P W 0 (fun _ => true) true ts vs ds ps → Below W.heap.size W W' → (∀ x ∈ ps, x.block < W.heap.size) → (∀ x ∈ ps, sp x.block = true) → DataW.TrodAll enc P W' 0 sp true ts vs ds ps
  | [], [], [], _, _, h, _, _, _ => h
  | t :: ts, _ :: _, _ :: _, _, hT, ⟨p, q, h1, h2, e⟩, hb, hlt, hs =>
    ⟨p, q, WideElems.Trod_stays hl (hT t List.mem_cons_self).1 (hT t List.mem_cons_self).2 h1 (fun x hx => hb.same (hlt x (by rw [e]; exact List.mem_append_left _ hx))) (fun x hx => hs x (by rw [e]; exact List.mem_append_left _ hx)),
      trodAll_stays hl (fun t' ht' => hT t' (List.mem_cons_of_mem _ ht')) h2 hb (fun x hx => hlt x (by rw [e]; exact List.mem_append_right _ hx)) (fun x hx => hs x (by rw [e]; exact List.mem_append_right _ hx)), e⟩
set_option maxRecDepth 100000 in
theorem lawEnd {H : Type} {enc : TypeId × Value → H} {f : Func} {s : ChangeSpec} {W W' : World} {args : Array Value} {ds : List (DataW H)} {p : List MemPlace} {ts : List TypeId}
    (hW : DataW.Whole enc Try.prog f.params.toList s.vars false W args.toList ds [] p) (hvs : s.vars = []) (hA : DataW.TrodAll enc Try.prog W 0 (fun _ => true) true ts args.toList ds p) (hts : f.params.toList = ts)
    (hT : ∀ t ∈ ts, Try.prog.readableRec t = true ∧ t < Try.prog.types.size)
    (hfn : s.fn H (ds ++ []) = { results := [.lit (.bool true)], args := ds }) (hr : f.resultTypes = #[4]) (hb : Below W.heap.size W W') :
    s.post enc Try.prog f false true false false W args (.bool true) W' := by
  refine post_of_below (pa := p) (pv := []) hW (fun b sp hd => ?_) (fun sp hsp => ?_) (fun sp _ => ?_) (List.append_nil p).symm hb (ok_one hr rfl (okWide_bool_mk Try.underlying4 _))
  · rw [hr, hfn]
    exact trodAll_cons_mk (shut_bool Try.underlying4 _) trodAll_mk0
  · rw [hfn, hts]
    exact trodAll_stays laid_out hT hA hb (fun x hx => by simpa using hW.lt x hx) hsp
  · rw [hfn, hvs]
    rfl
section
variable {H : Type} {enc : TypeId × Value → H} {w : World} {base : Nat} {spare : Nat → Bool} {held : Bool}
theorem open_int2 {n : Nat} {t : TypeId} {v : Value} {x : DataW H × List MemPlace} (ht : Try.prog.underlying t = some (.int .i64)) (h : DataW.trod enc Try.prog w base spare held n t [v] = some x) : ∃ i, v = .int .i64 i := by
  obtain ⟨i, hi, _⟩ := DataW.trod_int ht h
  exact ⟨i, by simpa using hi⟩
theorem under3 : Try.prog.underlying 3 = some (.int .i64) := by kernel_rfl
theorem cells_int : Try.prog.cellsOf 3 = 1 := by kernel_rfl
theorem cells_span : Try.prog.cellsOf 37 = 2 := by kernel_rfl
set_option maxRecDepth 100000 in
theorem open_spanV {n : Nat} {cs : List Value} {x : DataW H × List MemPlace} (h : DataW.trod enc Try.prog w base spare held n 37 cs = some x) : ∃ a b, cs = [.int .i64 a, .int .i64 b] := by
  obtain ⟨xs, m, _, _, hl, hx, hf⟩ := DataW.trod_struct Try.underlying37 h
  rw [cells_span] at hl
  match cs, hl with
  | [c0, c1], _ =>
    have h0 := hf 0 _ rfl
    have h1 := hf 1 _ rfl
    have hxl : xs.length = 2 := hx
    match xs, hxl with
    | [y0, y1], _ =>
      have e0 : DataW.trod enc Try.prog w base spare held m 3 [c0] = some y0 := by
        change DataW.trod enc Try.prog w base spare held m 3 (List.take (Try.prog.cellsOf 3) (List.drop 0 [c0, c1])) = some y0 at h0
        rw [cells_int] at h0
        exact h0
      have e1 : DataW.trod enc Try.prog w base spare held m 3 [c1] = some y1 := by
        change DataW.trod enc Try.prog w base spare held m 3 (List.take (Try.prog.cellsOf 3) (List.drop 1 [c0, c1])) = some y1 at h1
        rw [cells_int] at h1
        exact h1
      obtain ⟨a, rfl⟩ := open_int2 under3 e0
      obtain ⟨b, rfl⟩ := open_int2 under3 e1
      exact ⟨a, b, rfl⟩
theorem cells_limit : Try.prog.cellsOf 82 = 2 := by kernel_rfl
set_option maxRecDepth 100000 in
theorem open_limitV {n : Nat} {cs : List Value} {x : DataW H × List MemPlace} (h : DataW.trod enc Try.prog w base spare held n 82 cs = some x) : ∃ a b, cs = [.int .i64 a, .int .i64 b] := by
  obtain ⟨xs, m, _, _, hl, hx, hf⟩ := DataW.trod_struct Try.underlying82 h
  rw [cells_limit] at hl
  match cs, hl with
  | [c0, c1], _ =>
    have h0 := hf 0 _ rfl
    have h1 := hf 1 _ rfl
    have hxl : xs.length = 2 := hx
    match xs, hxl with
    | [y0, y1], _ =>
      have e0 : DataW.trod enc Try.prog w base spare held m 3 [c0] = some y0 := by
        change DataW.trod enc Try.prog w base spare held m 3 (List.take (Try.prog.cellsOf 3) (List.drop 0 [c0, c1])) = some y0 at h0
        rw [cells_int] at h0
        exact h0
      have e1 : DataW.trod enc Try.prog w base spare held m 3 [c1] = some y1 := by
        change DataW.trod enc Try.prog w base spare held m 3 (List.take (Try.prog.cellsOf 3) (List.drop 1 [c0, c1])) = some y1 at h1
        rw [cells_int] at h1
        exact h1
      obtain ⟨a, rfl⟩ := open_int2 under3 e0
      obtain ⟨b, rfl⟩ := open_int2 under3 e1
      exact ⟨a, b, rfl⟩
set_option maxRecDepth 100000 in
theorem open_limitsV {n : Nat} {v : Value} {x : DataW H × List MemPlace} (h : DataW.trod enc Try.prog w base spare held n 27 [v] = some x) : ∃ l, SpansAt w v l (fun k => k < w.heap.size) := by
  rcases open_slice Try.underlying27 h with ⟨h1, _⟩ | ⟨a, len, cap, m, k, D, Pl, h1, _, h2, h3, h4, _, h5⟩
  · exact ⟨[], none, 0, by simpa using h1, by simp, by simp, fun i hi => absurd hi (by simp)⟩
  · have hv : v = .slice (some a) len cap := by simpa using h1
    have hlm : len ≤ m := by rw [h4]; split <;> omega
    by_cases h0 : len = 0
    · subst h0
      exact ⟨[], some a, cap, hv, by simp, h3, fun i hi => absurd hi (by simp)⟩
    have hcells : ∀ i, i < len → ∃ s : Int × Int, w.cell? (a.add (i * 2)) = some (.int .i64 s.1) ∧ w.cell? (a.add (i * 2 + 1)) = some (.int .i64 s.2) := fun i hi => by
      obtain ⟨cs', hc, ht⟩ := h5 i (by omega)
      rw [cells_limit] at hc
      obtain ⟨lo, hi', rfl⟩ := open_limitV ht
      obtain ⟨_, _, hat⟩ := World.cells?_some hc
      have a0 := hat 0 (by omega)
      have a1 := hat 1 (by omega)
      rw [Go.Deep.add_add] at a0 a1
      exact ⟨(lo, hi'), a0, a1⟩
    obtain ⟨s0, hs0, _⟩ := hcells 0 (by omega)
    obtain ⟨hae, hab⟩ := addr_of_cell (a := a) hs0
    obtain ⟨l, hl, hq⟩ := choose_list (Q := fun i (s : Int × Int) => w.cell? ⟨a.block, a.off + i * 2, none⟩ = some (.int .i64 s.1) ∧ w.cell? ⟨a.block, a.off + i * 2 + 1, none⟩ = some (.int .i64 s.2)) len (fun i hi => by
      obtain ⟨s, e1, e2⟩ := hcells i hi
      rw [hae, Addr.add_mid] at e1 e2
      exact ⟨s, e1, by rw [Nat.add_assoc]; exact e2⟩)
    refine ⟨l, some a, cap, by rw [hv, hl], by omega, h3, fun i hi => ?_⟩
    obtain ⟨e3, e4⟩ := hq i hi
    exact ⟨a.block, a.off, by rw [← hae], hab, hab, e3, e4⟩
theorem cells_order : Try.prog.cellsOf 64 = 2 := by kernel_rfl
set_option maxRecDepth 100000 in
theorem open_orderV {n : Nat} {cs : List Value} {x : DataW H × List MemPlace} (h : DataW.trod enc Try.prog w base spare held n 64 cs = some x) : ∃ a b, cs = [.int .i64 a, .int .i64 b] := by
  obtain ⟨xs, m, _, _, hl, hx, hf⟩ := DataW.trod_struct Try.underlying64 h
  rw [cells_order] at hl
  match cs, hl with
  | [c0, c1], _ =>
    have h0 := hf 0 _ rfl
    have h1 := hf 1 _ rfl
    have hxl : xs.length = 2 := hx
    match xs, hxl with
    | [y0, y1], _ =>
      have e0 : DataW.trod enc Try.prog w base spare held m 3 [c0] = some y0 := by
        change DataW.trod enc Try.prog w base spare held m 3 (List.take (Try.prog.cellsOf 3) (List.drop 0 [c0, c1])) = some y0 at h0
        rw [cells_int] at h0
        exact h0
      have e1 : DataW.trod enc Try.prog w base spare held m 3 [c1] = some y1 := by
        change DataW.trod enc Try.prog w base spare held m 3 (List.take (Try.prog.cellsOf 3) (List.drop 1 [c0, c1])) = some y1 at h1
        rw [cells_int] at h1
        exact h1
      obtain ⟨a, rfl⟩ := open_int2 under3 e0
      obtain ⟨b, rfl⟩ := open_int2 under3 e1
      exact ⟨a, b, rfl⟩
set_option maxRecDepth 100000 in
theorem open_ordersV {n : Nat} {v : Value} {x : DataW H × List MemPlace} (h : DataW.trod enc Try.prog w base spare held n 30 [v] = some x) : ∃ l, SpansAt w v l (fun k => k < w.heap.size) := by
  rcases open_slice Try.underlying30 h with ⟨h1, _⟩ | ⟨a, len, cap, m, k, D, Pl, h1, _, h2, h3, h4, _, h5⟩
  · exact ⟨[], none, 0, by simpa using h1, by simp, by simp, fun i hi => absurd hi (by simp)⟩
  · have hv : v = .slice (some a) len cap := by simpa using h1
    have hlm : len ≤ m := by rw [h4]; split <;> omega
    by_cases h0 : len = 0
    · subst h0
      exact ⟨[], some a, cap, hv, by simp, h3, fun i hi => absurd hi (by simp)⟩
    have hcells : ∀ i, i < len → ∃ s : Int × Int, w.cell? (a.add (i * 2)) = some (.int .i64 s.1) ∧ w.cell? (a.add (i * 2 + 1)) = some (.int .i64 s.2) := fun i hi => by
      obtain ⟨cs', hc, ht⟩ := h5 i (by omega)
      rw [cells_order] at hc
      obtain ⟨lo, hi', rfl⟩ := open_orderV ht
      obtain ⟨_, _, hat⟩ := World.cells?_some hc
      have a0 := hat 0 (by omega)
      have a1 := hat 1 (by omega)
      rw [Go.Deep.add_add] at a0 a1
      exact ⟨(lo, hi'), a0, a1⟩
    obtain ⟨s0, hs0, _⟩ := hcells 0 (by omega)
    obtain ⟨hae, hab⟩ := addr_of_cell (a := a) hs0
    obtain ⟨l, hl, hq⟩ := choose_list (Q := fun i (s : Int × Int) => w.cell? ⟨a.block, a.off + i * 2, none⟩ = some (.int .i64 s.1) ∧ w.cell? ⟨a.block, a.off + i * 2 + 1, none⟩ = some (.int .i64 s.2)) len (fun i hi => by
      obtain ⟨s, e1, e2⟩ := hcells i hi
      rw [hae, Addr.add_mid] at e1 e2
      exact ⟨s, e1, by rw [Nat.add_assoc]; exact e2⟩)
    refine ⟨l, some a, cap, by rw [hv, hl], by omega, h3, fun i hi => ?_⟩
    obtain ⟨e3, e4⟩ := hq i hi
    exact ⟨a.block, a.off, by rw [← hae], hab, hab, e3, e4⟩
theorem cells_lim1 : Try.prog.cellsOf 27 = 1 := by kernel_rfl
theorem cells_ord1 : Try.prog.cellsOf 30 = 1 := by kernel_rfl
theorem cells_ints : Try.prog.cellsOf 29 = 1 := by kernel_rfl
theorem cells_pts : Try.prog.cellsOf 51 = 10 := by kernel_rfl
theorem cells_blks : Try.prog.cellsOf 28 = 1 := by kernel_rfl
theorem cells_lot : Try.prog.cellsOf 32 = 6 := by kernel_rfl
theorem cells_ent : Try.prog.cellsOf 69 = 3 := by kernel_rfl
set_option maxRecDepth 100000 in
theorem open_numsV {n : Nat} {v : Value} {x : DataW H × List MemPlace} (h : DataW.trod enc Try.prog w base spare held n 29 [v] = some x) : ∃ l, NumsAt w v l (fun k => k < w.heap.size) := by
  rcases open_slice Try.underlying29 h with ⟨h1, _⟩ | ⟨a, len, cap, m, k, D, Pl, h1, _, h2, h3, h4, _, h5⟩
  · exact ⟨[], none, 0, by simpa using h1, by simp, by simp, fun i hi => absurd hi (by simp)⟩
  · have hv : v = .slice (some a) len cap := by simpa using h1
    have hlm : len ≤ m := by rw [h4]; split <;> omega
    by_cases h0 : len = 0
    · subst h0
      exact ⟨[], some a, cap, hv, by simp, h3, fun i hi => absurd hi (by simp)⟩
    have hcells : ∀ i, i < len → ∃ s : Int, w.cell? (a.add i) = some (.int .i64 s) := fun i hi => by
      obtain ⟨cs', hc, ht⟩ := h5 i (by omega)
      rw [cells_int] at hc
      obtain ⟨_, hlen, hat⟩ := World.cells?_some hc
      match cs', hlen with
      | [c], _ =>
        obtain ⟨s, rfl⟩ := open_int2 under3 ht
        have a0 := hat 0 (by omega)
        rw [Go.Deep.add_add, Nat.mul_one] at a0
        exact ⟨s, a0⟩
    obtain ⟨s0, hs0⟩ := hcells 0 (by omega)
    obtain ⟨hae, hab⟩ := addr_of_cell (a := a) hs0
    obtain ⟨l, hl, hq⟩ := choose_list (Q := fun i (s : Int) => w.cell? ⟨a.block, a.off + i, none⟩ = some (.int .i64 s)) len (fun i hi => by
      obtain ⟨s, e1⟩ := hcells i hi
      rw [hae, Addr.add_mid] at e1
      exact ⟨s, e1⟩)
    refine ⟨l, some a, cap, by rw [hv, hl], by omega, h3, fun i hi => ?_⟩
    exact ⟨a.block, a.off, by rw [← hae], hab, hab, hq i hi⟩
set_option maxRecDepth 100000 in
theorem open_ptsV {n : Nat} {cs : List Value} {x : DataW H × List MemPlace} (h : DataW.trod enc Try.prog w base spare held n 51 cs = some x) : ∃ p : List (Int × Int), p.length = 5 ∧ cs = ptsC p := by
  obtain ⟨xs, m, _, _, hl, hx, hf⟩ := DataW.trod_array Try.underlying51 h
  rw [cells_pts] at hl
  rw [cells_span] at hf
  match cs, hl with
  | [c0, c1, c2, c3, c4, c5, c6, c7, c8, c9], _ =>
    match xs, hx with
    | [y0, y1, y2, y3, y4], _ =>
      obtain ⟨a0, b0, h0⟩ := open_spanV (hf 0 (by decide))
      obtain ⟨a1, b1, h1⟩ := open_spanV (hf 1 (by decide))
      obtain ⟨a2, b2, h2⟩ := open_spanV (hf 2 (by decide))
      obtain ⟨a3, b3, h3⟩ := open_spanV (hf 3 (by decide))
      obtain ⟨a4, b4, h4⟩ := open_spanV (hf 4 (by decide))
      simp at h0 h1 h2 h3 h4
      obtain ⟨rfl, rfl⟩ := h0
      obtain ⟨rfl, rfl⟩ := h1
      obtain ⟨rfl, rfl⟩ := h2
      obtain ⟨rfl, rfl⟩ := h3
      obtain ⟨rfl, rfl⟩ := h4
      exact ⟨[(a0, b0), (a1, b1), (a2, b2), (a3, b3), (a4, b4)], rfl, rfl⟩
set_option maxRecDepth 100000 in
theorem open_blksV {n : Nat} {v : Value} {x : DataW H × List MemPlace} (h : DataW.trod enc Try.prog w base spare held n 28 [v] = some x) : ∃ l, BlocksAt w v l (fun k => k < w.heap.size) := by
  rcases open_slice Try.underlying28 h with ⟨h1, _⟩ | ⟨a, len, cap, m, k, D, Pl, h1, _, h2, h3, h4, _, h5⟩
  · exact ⟨[], none, 0, by simpa using h1, by simp, by simp, fun i hi => absurd hi (by simp)⟩
  · have hv : v = .slice (some a) len cap := by simpa using h1
    have hlm : len ≤ m := by rw [h4]; split <;> omega
    by_cases h0 : len = 0
    · subst h0
      exact ⟨[], some a, cap, hv, by simp, h3, fun i hi => absurd hi (by simp)⟩
    have hcells : ∀ i, i < len → ∃ s : List (Int × Int), s.length = 5 ∧ ∀ q, q < 10 → w.cell? (a.add (i * 10 + q)) = (ptsC s)[q]? := fun i hi => by
      obtain ⟨cs', hc, ht⟩ := h5 i (by omega)
      rw [cells_pts] at hc
      obtain ⟨p, hp, rfl⟩ := open_ptsV ht
      obtain ⟨_, _, hat⟩ := World.cells?_some hc
      refine ⟨p, hp, fun q hq => ?_⟩
      have a0 := hat q hq
      rw [Go.Deep.add_add] at a0
      exact a0
    obtain ⟨s0, hp0, hs0⟩ := hcells 0 (by omega)
    have hs0 := hs0 0 (by omega)
    rw [List.getElem?_eq_getElem (by rw [pts_len]; omega)] at hs0
    obtain ⟨hae, hab⟩ := addr_of_cell (a := a) hs0
    obtain ⟨l, hl, hq⟩ := choose_list (Q := fun i (s : List (Int × Int)) => s.length = 5 ∧ ∀ q, q < 10 → w.cell? ⟨a.block, a.off + i * 10 + q, none⟩ = (ptsC s)[q]?) len (fun i hi => by
      obtain ⟨s, hp, e1⟩ := hcells i hi
      refine ⟨s, hp, fun q hq => ?_⟩
      have := e1 q hq
      rw [hae, Addr.add_mid, ← Nat.add_assoc] at this
      exact this)
    refine ⟨l, some a, cap, by rw [hv, hl], by omega, h3, fun i hi => ?_⟩
    exact ⟨(hq i hi).1, a.block, a.off, by rw [← hae], hab, hab, (hq i hi).2⟩
set_option maxRecDepth 100000 in
theorem open_lotV {r : Reach} {b0 : Nat} {v : Value} {d : DataW H} {ps : List MemPlace} (hv : Value.okWide Try.prog w r b0 32 v) (h : DataW.Trod enc Try.prog w base spare held 32 v d ps) :
    ∃ l p, v = lotV l p ∧ LotAt l p (fun k => k < w.heap.size) w := by
  obtain ⟨cs, rfl, hsz⟩ := okWide_struct Try.underlying32 hv
  obtain ⟨l⟩ := cs
  obtain ⟨fuel, hf⟩ := h
  obtain ⟨xs, m, _, _, hl, hx, hg⟩ := DataW.trod_struct Try.underlying32 hf
  match l, hsz.trans cells_lot with
  | [c0, c1, c2, c3, c4, c5], _ =>
    have h0 := hg 0 _ rfl
    have h1 := hg 1 _ rfl
    have h2 := hg 2 _ rfl
    have h3 := hg 3 _ rfl
    have h4 := hg 4 _ rfl
    have h5 := hg 5 _ rfl
    have hxl : xs.length = 6 := hx
    match xs, hxl with
    | [y0, y1, y2, y3, y4, y5], _ =>
      have e0 : DataW.trod enc Try.prog w base spare held m 27 [c0] = some y0 := by
        change DataW.trod enc Try.prog w base spare held m 27 (List.take (Try.prog.cellsOf 27) (List.drop 0 [c0, c1, c2, c3, c4, c5])) = some y0 at h0
        rw [cells_lim1] at h0
        exact h0
      have e1 : DataW.trod enc Try.prog w base spare held m 3 [c1] = some y1 := by
        change DataW.trod enc Try.prog w base spare held m 3 (List.take (Try.prog.cellsOf 3) (List.drop 1 [c0, c1, c2, c3, c4, c5])) = some y1 at h1
        rw [cells_int] at h1
        exact h1
      have e2 : DataW.trod enc Try.prog w base spare held m 28 [c2] = some y2 := by
        change DataW.trod enc Try.prog w base spare held m 28 (List.take (Try.prog.cellsOf 28) (List.drop 2 [c0, c1, c2, c3, c4, c5])) = some y2 at h2
        rw [cells_blks] at h2
        exact h2
      have e3 : DataW.trod enc Try.prog w base spare held m 29 [c3] = some y3 := by
        change DataW.trod enc Try.prog w base spare held m 29 (List.take (Try.prog.cellsOf 29) (List.drop 3 [c0, c1, c2, c3, c4, c5])) = some y3 at h3
        rw [cells_ints] at h3
        exact h3
      have e4 : DataW.trod enc Try.prog w base spare held m 3 [c4] = some y4 := by
        change DataW.trod enc Try.prog w base spare held m 3 (List.take (Try.prog.cellsOf 3) (List.drop 4 [c0, c1, c2, c3, c4, c5])) = some y4 at h4
        rw [cells_int] at h4
        exact h4
      have e5 : DataW.trod enc Try.prog w base spare held m 30 [c5] = some y5 := by
        change DataW.trod enc Try.prog w base spare held m 30 (List.take (Try.prog.cellsOf 30) (List.drop 5 [c0, c1, c2, c3, c4, c5])) = some y5 at h5
        rw [cells_ord1] at h5
        exact h5
      obtain ⟨la, hla⟩ := open_limitsV e0
      obtain ⟨st, rfl⟩ := open_int2 under3 e1
      obtain ⟨bl, hbl⟩ := open_blksV e2
      obtain ⟨pl, hpl⟩ := open_numsV e3
      obtain ⟨lp, rfl⟩ := open_int2 under3 e4
      obtain ⟨ol, hol⟩ := open_ordersV e5
      exact ⟨⟨la, st, bl, pl, lp, ol⟩, ⟨c0, c2, c3, c5⟩, rfl, ⟨hla, hbl, hpl, hol⟩⟩
end
end Go.Proofs.Ytagjepclobobjaa

/- Arguments that come in: small numbers, entries (plain). -/
namespace Go.Proofs.Ytagjepclobobjaa
set_option linter.unusedVariables false
set_option linter.unusedSimpArgs false
open Go.ChangeShapes Go.WideShapes Go.ChangeAt Go.RowKit Go.Deep

def SmallAt (κ : IntKind) (W : World) (v : Value) (l : List Int) (Rd : Nat → Prop) : Prop :=
  ∃ ao cap, v = .slice ao l.length cap ∧ l.length ≤ cap ∧ cap ≤ maxLen ∧ ∀ i (h : i < l.length), (0 ≤ l[i] ∧ l[i] < 65536) ∧ ∃ b off, ao = some ⟨b, off, none⟩ ∧ Rd b ∧ b < W.heap.size ∧ W.cell? ⟨b, off + i, none⟩ = some (.int κ l[i])
section
variable {H : Type} {enc : TypeId × Value → H} {w : World} {base : Nat} {spare : Nat → Bool} {held : Bool}
set_option maxRecDepth 100000 in
theorem open_smallV {κ : IntKind} {t ts : TypeId} {n : Nat} {v : Value} {x : DataW H × List MemPlace} (hts : Try.prog.underlying ts = some (.slice t)) (ht : Try.prog.underlying t = some (.int κ)) (hcl : Try.prog.cellsOf t = 1) (hr : ∀ n : Int, (Lit.int κ n).wf = true → 0 ≤ n ∧ n < 65536) (h : DataW.trod enc Try.prog w base spare held n ts [v] = some x) : ∃ l, SmallAt κ w v l (fun k => k < w.heap.size) := by
  rcases open_slice hts h with ⟨h1, _⟩ | ⟨a, len, cap, m, k, D, Pl, h1, _, h2, h3, h4, _, h5⟩
  · exact ⟨[], none, 0, by simpa using h1, by simp, by simp, fun i hi => absurd hi (by simp)⟩
  · have hv : v = .slice (some a) len cap := by simpa using h1
    have hlm : len ≤ m := by rw [h4]; split <;> omega
    by_cases h0 : len = 0
    · subst h0
      exact ⟨[], some a, cap, hv, by simp, h3, fun i hi => absurd hi (by simp)⟩
    have hcells : ∀ i, i < len → ∃ s : Int, (0 ≤ s ∧ s < 65536) ∧ w.cell? (a.add i) = some (.int κ s) := fun i hi => by
      obtain ⟨cs', hc, ht'⟩ := h5 i (by omega)
      rw [hcl] at hc
      obtain ⟨s, rfl, _, hwf⟩ := DataW.trod_int ht ht'
      obtain ⟨_, _, hat⟩ := World.cells?_some hc
      have a0 := hat 0 (by omega)
      rw [Go.Deep.add_add, Nat.mul_one, Nat.add_zero] at a0
      exact ⟨s, hr s hwf, a0⟩
    obtain ⟨s0, _, hs0⟩ := hcells 0 (by omega)
    obtain ⟨hae, hab⟩ := addr_of_cell (a := a) (w := w) hs0
    obtain ⟨l, hl, hq⟩ := choose_list (Q := fun i (s : Int) => (0 ≤ s ∧ s < 65536) ∧ w.cell? ⟨a.block, a.off + i, none⟩ = some (.int κ s)) len (fun i hi => by
      obtain ⟨s, e0, e1⟩ := hcells i hi
      rw [hae, Addr.add_mid] at e1
      exact ⟨s, e0, e1⟩)
    refine ⟨l, some a, cap, by rw [hv, hl], by omega, h3, fun i hi => ?_⟩
    obtain ⟨e0, e1⟩ := hq i hi
    exact ⟨e0, a.block, a.off, by rw [← hae], hab, hab, e1⟩
set_option maxRecDepth 100000 in
theorem open_entV {n : Nat} {cs : List Value} {x : DataW H × List MemPlace} (h : DataW.trod enc Try.prog w base spare held n 69 cs = some x) : ∃ a b c, cs = [.int .i64 a, .int .i64 b, .int .i64 c] := by
  obtain ⟨xs, m, _, _, hl, hx, hf⟩ := DataW.trod_struct Try.underlying69 h
  rw [cells_ent] at hl
  match cs, hl with
  | [c0, c1, c2], _ =>
    have h0 := hf 0 _ rfl
    have h1 := hf 1 _ rfl
    have h2 := hf 2 _ rfl
    have hxl : xs.length = 3 := hx
    match xs, hxl with
    | [y0, y1, y2], _ =>
      have e0 : DataW.trod enc Try.prog w base spare held m 3 [c0] = some y0 := by
        change DataW.trod enc Try.prog w base spare held m 3 (List.take (Try.prog.cellsOf 3) (List.drop 0 [c0, c1, c2])) = some y0 at h0
        rw [cells_int] at h0
        exact h0
      have e1 : DataW.trod enc Try.prog w base spare held m 3 [c1] = some y1 := by
        change DataW.trod enc Try.prog w base spare held m 3 (List.take (Try.prog.cellsOf 3) (List.drop 1 [c0, c1, c2])) = some y1 at h1
        rw [cells_int] at h1
        exact h1
      have e2 : DataW.trod enc Try.prog w base spare held m 3 [c2] = some y2 := by
        change DataW.trod enc Try.prog w base spare held m 3 (List.take (Try.prog.cellsOf 3) (List.drop 2 [c0, c1, c2])) = some y2 at h2
        rw [cells_int] at h2
        exact h2
      obtain ⟨a, rfl⟩ := open_int2 under3 e0
      obtain ⟨b, rfl⟩ := open_int2 under3 e1
      obtain ⟨c, rfl⟩ := open_int2 under3 e2
      exact ⟨a, b, c, rfl⟩
set_option maxRecDepth 100000 in
theorem open_entsV {n : Nat} {v : Value} {x : DataW H × List MemPlace} (h : DataW.trod enc Try.prog w base spare held n 42 [v] = some x) : ∃ l, EntsAt w v l (fun k => k < w.heap.size) := by
  rcases open_slice Try.underlying42 h with ⟨h1, _⟩ | ⟨a, len, cap, m, k, D, Pl, h1, _, h2, h3, h4, _, h5⟩
  · exact ⟨[], none, 0, by simpa using h1, by simp, by simp, fun i hi => absurd hi (by simp)⟩
  · have hv : v = .slice (some a) len cap := by simpa using h1
    have hlm : len ≤ m := by rw [h4]; split <;> omega
    by_cases h0 : len = 0
    · subst h0
      exact ⟨[], some a, cap, hv, by simp, h3, fun i hi => absurd hi (by simp)⟩
    have hcells : ∀ i, i < len → ∃ s : EntD, w.cell? (a.add (i * 3)) = some (.int .i64 s.1) ∧ w.cell? (a.add (i * 3 + 1)) = some (.int .i64 s.2.1) ∧ w.cell? (a.add (i * 3 + 2)) = some (.int .i64 s.2.2) := fun i hi => by
      obtain ⟨cs', hc, ht⟩ := h5 i (by omega)
      rw [cells_ent] at hc
      obtain ⟨x, y, z, rfl⟩ := open_entV ht
      obtain ⟨_, _, hat⟩ := World.cells?_some hc
      have a0 := hat 0 (by omega)
      have a1 := hat 1 (by omega)
      have a2 := hat 2 (by omega)
      rw [Go.Deep.add_add] at a0 a1 a2
      exact ⟨(x, y, z), a0, a1, a2⟩
    obtain ⟨s0, hs0, _⟩ := hcells 0 (by omega)
    obtain ⟨hae, hab⟩ := addr_of_cell (a := a) hs0
    obtain ⟨l, hl, hq⟩ := choose_list (Q := fun i (s : EntD) => w.cell? ⟨a.block, a.off + i * 3, none⟩ = some (.int .i64 s.1) ∧ w.cell? ⟨a.block, a.off + i * 3 + 1, none⟩ = some (.int .i64 s.2.1) ∧ w.cell? ⟨a.block, a.off + i * 3 + 2, none⟩ = some (.int .i64 s.2.2)) len (fun i hi => by
      obtain ⟨s, e1, e2, e3⟩ := hcells i hi
      rw [hae, Addr.add_mid] at e1 e2 e3
      exact ⟨s, e1, by rw [Nat.add_assoc]; exact e2, by rw [Nat.add_assoc]; exact e3⟩)
    refine ⟨l, some a, cap, by rw [hv, hl], by omega, h3, fun i hi => ?_⟩
    obtain ⟨e3, e4, e5⟩ := hq i hi
    exact ⟨a.block, a.off, by rw [← hae], hab, hab, e3, e4, e5⟩
end
theorem u8_range {n : Int} (h : (Lit.int .u8 n).wf = true) : 0 ≤ n ∧ n < 256 := by
  have h1 : (decide (IntKind.u8.min ≤ n) && decide (n ≤ IntKind.u8.max)) = true := h
  rw [Bool.and_eq_true, decide_eq_true_eq, decide_eq_true_eq, show IntKind.u8.min = 0 by decide, show IntKind.u8.max = 255 by decide] at h1
  omega
theorem under_u8 : Try.prog.underlying 5 = some (.int .u8) := by kernel_rfl
end Go.Proofs.Ytagjepclobobjaa

/- LotBest: the law returns true. No conditions. -/
namespace Go.Proofs.Ytagjepclobobjaa
set_option linter.unusedVariables false
set_option linter.unusedSimpArgs false
open Go.ChangeShapes Go.WideShapes Go.ChangeAt Go.RowKit Go.Deep
set_option maxRecDepth 100000 in
theorem lotBest_lifted (os : Os) (started : os.Started) (H : Type) (enc : TypeId × Value → H) :
    ReturnsInHanded {} Try.checked os 5 .any (Rows.lotBestSpec.pre6 enc Try.prog Try.f5 Rows.lotBestRow.domain false) (Rows.lotBestSpec.post enc Try.prog Try.f5 false true false false) := by
  refine returnsInHanded_of_change (C := Try.checked) own_knob started (by kernel_rfl) Try.func5
    (ChangeSpec.witness6 (enc := enc) (C := Try.checked) false ⟨#[], #[.agg #[.slice none 0 0, .int .i64 0, .slice none 0 0, .slice none 0 0, .int .i64 0, .slice none 0 0], .int .u8 0, .int .u8 0, .bool false], []⟩ 8 (by kernel_rfl) (by kernel_rfl) (by kernel_rfl) (by kernel_rfl)) ?_
  intro W base args ds gs before hval0 hW hcnd _
  have hval : ∀ (j : Nat) t v, Try.f5.params[j]? = some t → args[j]? = some v → Value.okWide Try.prog W .any base t v := hval0
  have hW' := hW
  obtain ⟨p, q, hA0, hV, rfl, hfz, hnd⟩ := hW
  have hA : DataW.TrodAll enc Try.prog W 0 (fun _ => true) true Try.f5.params.toList args.toList ds p := hA0
  rw [Try.params5] at hA hval
  obtain ⟨rfl, rfl⟩ := trodVars_none hV
  clear hA0 hval0
  simp only [List.append_nil] at hW'
  have hst := hA
  obtain ⟨v0, v1, v2, v3, d0, d1, d2, d3, p0, p1, p2, p3, rfl, rfl, rfl, h0, h1, h2, h3⟩ := trodAll_four hA
  obtain ⟨l, p, rfl, hpa⟩ := open_lotV (hval 0 _ _ rfl rfl) h0
  obtain ⟨x, rfl, _, _, hx⟩ := Go.ChangeShapes.open_int under_u8 (hval 1 _ _ rfl rfl) h1
  obtain ⟨y, rfl, _, _, hy⟩ := Go.ChangeShapes.open_int under_u8 (hval 2 _ _ rfl rfl) h2
  obtain ⟨b, rfl, _⟩ := Go.RowKit.open_bool Try.underlying4 (hval 3 _ _ rfl rfl) h3
  refine (best13_any l p x y (by have := u8_range hx; omega) (by have := u8_range hy; omega) b W hpa).mono fun e W' ⟨he, hb⟩ => ?_
  subst he
  exact ⟨_, rfl, lawEnd hW' rfl hst rfl (by decide +kernel) rfl rfl hb⟩
theorem lotBest_over : Rows.lotBestRow.holds Try.pinned (OpenSpec.ofChange Rows.lotBestSpec) :=
  OpenClaim.holds_of_wide 5 Try.f5 rfl rfl rfl rfl rfl rfl rfl ⟨rfl, rfl, rfl, rfl, rfl⟩ rfl rfl rfl rfl rfl (by kernel_rfl) Try.func5 (by kernel_rfl)
    (of_decide_eq_true (by kernel_rfl)) (by unfold Func.isWrapper; first | (rw [if_pos (by decide +kernel)]; kernel_rfl) | (rw [if_neg (by decide +kernel)]; exact ⟨rfl, rfl⟩))
    (fun os started H enc _ => lotBest_lifted os started H enc)
/-- The statement. -/
theorem lot_best : Rows.LotBestSaid := lotBest_over
end Go.Proofs.Ytagjepclobobjaa
