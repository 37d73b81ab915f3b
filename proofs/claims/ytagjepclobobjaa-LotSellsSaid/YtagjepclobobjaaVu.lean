/- Texts Fx, Fy, Fz in one file; each begins with a word on what it proves. -/
import Derived.Test.YtagjepclobobjaaVp

/- LotSells in plain words. -/
namespace Go.Proofs.Ytagjepclobobjaa
set_option linter.unusedVariables false
set_option linter.unusedSimpArgs false

theorem value_e (l : LotD) : (valueD l).2 = errL l [] true := by
  unfold valueD; dsimp only; split
  · rename_i h; exact h.symm
  · rfl
theorem scrap_e (l : LotD) : (scrapD l).2.2 = errL l [] true := by
  unfold scrapD; dsimp only; split
  · rename_i h; exact h.symm
  · rfl
theorem value_z {l : LotD} (h : errL l [] true ≠ 0) : (valueD l).1 = (0, 0) := by unfold valueD; dsimp only; rw [if_neg h]
theorem scrap_z {l : LotD} (h : errL l [] true ≠ 0) : (scrapD l).1 = 0 ∧ (scrapD l).2.1 = 0 := by unfold scrapD; dsimp only; rw [if_neg h]; exact ⟨rfl, rfl⟩
theorem err_valid {l : LotD} (hv : validL l = true) : errL l [] true = if clashL l then 10 else 0 := by unfold errL; rw [if_pos hv]; simp
theorem err_bad {l : LotD} (hv : validL l = false) : errL l [] true = 1 := by unfold errL; rw [hv]; rfl
theorem err_block {l : LotD} (hv : validL l = true) {b : Nat} (hb : b < l.blocks.length) : errL l [] (isBlockL l (b : Int)) = errL l [] true := by
  have : isBlockL l (b : Int) = true := by simp [isBlockL, hb]
  rw [this]
theorem sells_at {l : LotD} (hv : validL l = true) {b : Nat} (hb : b < l.blocks.length) : (sellsD l (b : Int)).2 = errL l [] true ∧ (errL l [] true = 0 → (sellsD l (b : Int)).1 = (sellsN l b : Int)) := by
  unfold sellsD
  dsimp only
  rw [err_block hv hb, Int.toNat_natCast]
  split
  · rename_i h; exact ⟨h.symm, fun _ => rfl⟩
  · rename_i h; exact ⟨rfl, fun h2 => absurd h2 h⟩
theorem worth_at {l : LotD} (hv : validL l = true) {b : Nat} (hb : b < l.blocks.length) : (worthD l (b : Int)).2 = errL l [] true ∧ (worthD l (b : Int)).1 = if errL l [] true = 0 then worthN l b else (0, 0) := by
  unfold worthD
  dsimp only
  rw [err_block hv hb, Int.toNat_natCast]
  split
  · rename_i h; exact ⟨h.symm, rfl⟩
  · rename_i h; exact ⟨rfl, rfl⟩
theorem sells_out {l : LotD} (hv : validL l = true) (n : Nat) (hn : n = l.blocks.length) : sellsD l (n : Int) = (0, 2) := by
  have he : errL l [] (isBlockL l (n : Int)) = 2 := by unfold errL isBlockL; rw [if_pos hv]; simp [hn]
  unfold sellsD; dsimp only; rw [he]; rfl
theorem worth_out {l : LotD} (hv : validL l = true) : worthD l (-1) = ((0, 0), 2) := by
  have he : errL l [] (isBlockL l (-1)) = 2 := by unfold errL isBlockL; rw [if_pos hv]; simp
  unfold worthD; dsimp only; rw [he]; rfl
theorem check_out {l : LotD} (hv : validL l = true) (n : Nat) (hn : n = l.lim.length) : checkL l [(0, (n : Int), 0)] = (0, 0, 2) := by
  have he : errL l [(0, (n : Int), 0)] true = 2 := by unfold errL; rw [if_pos hv]; simp [isGradeL, hn]
  unfold checkL; dsimp only; rw [he]; rfl
theorem check_long {l : LotD} (hv : validL l = true) : checkL l (List.replicate 9 (0, 0, 0)) = (0, 0, 3) := by
  have he : errL l (List.replicate 9 (0, 0, 0)) true = 3 := by unfold errL; rw [if_pos hv]; simp
  unfold checkL; dsimp only; rw [he]; rfl
def clashB (l : LotD) (b : Nat) : Bool := (truthsG (gradeL l b)).isEmpty
def clashP (l : LotD) (k : Nat) : Bool := (List.range k).any fun b => clashB l b
def lowP (l : LotD) (k : Nat) : Int × Int := (List.range k).foldl (fun s b => if clashB l b then s else addS s (worthD l (b : Int)).1) (0, 0)
def allP (l : LotD) (k : Nat) : Nat := (List.range k).foldl (fun s b => if setsL l b = 2 ^ l.lim.length then s ||| 2 ^ b else s) 0
def someP (l : LotD) (k : Nat) : Nat := (List.range k).foldl (fun s b => if (setsL l b).testBit l.lim.length then s ||| 2 ^ b else s) 0
theorem clashP_succ (l : LotD) (k : Nat) : clashP l (k + 1) = (clashP l k || clashB l k) := by unfold clashP; rw [List.range_succ, List.any_append]; simp
theorem lowP_succ (l : LotD) (k : Nat) : lowP l (k + 1) = if clashB l k then lowP l k else addS (lowP l k) (worthD l (k : Int)).1 := by unfold lowP; rw [List.range_succ, List.foldl_append]; rfl
theorem allP_succ (l : LotD) (k : Nat) : allP l (k + 1) = if setsL l k = 2 ^ l.lim.length then allP l k ||| 2 ^ k else allP l k := by unfold allP; rw [List.range_succ, List.foldl_append]; rfl
theorem someP_succ (l : LotD) (k : Nat) : someP l (k + 1) = if (setsL l k).testBit l.lim.length then someP l k ||| 2 ^ k else someP l k := by unfold someP; rw [List.range_succ, List.foldl_append]; rfl
theorem allP_lt (l : LotD) : ∀ k, k ≤ 6 → allP l k < 64
  | 0, _ => by show 0 < 64; decide
  | k + 1, h => by
    rw [allP_succ]
    have := allP_lt l k (by omega)
    split
    · exact Nat.or_lt_two_pow (n := 6) this (Nat.pow_lt_pow_right (by decide) (by omega))
    · exact this
theorem someP_lt (l : LotD) : ∀ k, k ≤ 6 → someP l k < 64
  | 0, _ => by show 0 < 64; decide
  | k + 1, h => by
    rw [someP_succ]
    have := someP_lt l k (by omega)
    split
    · exact Nat.or_lt_two_pow (n := 6) this (Nat.pow_lt_pow_right (by decide) (by omega))
    · exact this
theorem clash_sets {l : LotD} {b : Nat} (h : clashB l b = true) : setsL l b = 0 := by
  have : truthsG (gradeL l b) = [] := List.isEmpty_iff.1 h
  unfold setsL gradesG setG
  rw [this]; rfl
theorem worthS_upto (l : LotD) (hp : ∀ n, 0 ≤ paidL l n ∧ paidL l n ≤ 100) (s : Nat) : ∀ k, let w := (List.range k).foldl (fun w n => if s.testBit n then (min w.1 (paidL l n), max w.2 (paidL l n)) else w) ((100 : Int), (0 : Int)); (0 ≤ w.1 ∧ w.1 ≤ 100) ∧ 0 ≤ w.2 ∧ w.2 ≤ 100
  | 0 => by simp
  | k + 1 => by
    have ih := worthS_upto l hp s k
    dsimp only at ih ⊢
    rw [List.range_succ, List.foldl_append]
    simp only [List.foldl_cons, List.foldl_nil]
    have := hp k
    split
    · dsimp only; omega
    · exact ih
theorem worth_bound {l : LotD} (hv : validL l = true) {b : Nat} (hb : b < l.blocks.length) : (0 ≤ (worthD l (b : Int)).1.1 ∧ (worthD l (b : Int)).1.1 ≤ 100) ∧ 0 ≤ (worthD l (b : Int)).1.2 ∧ (worthD l (b : Int)).1.2 ≤ 100 := by
  rw [(worth_at hv hb).2]
  split
  · exact worthS_upto l (pay_range hv) _ _
  · exact ⟨⟨by decide, by decide⟩, by decide, by decide⟩
theorem lowP_bound {l : LotD} (hv : validL l = true) : ∀ k, k ≤ l.blocks.length → (0 ≤ (lowP l k).1 ∧ (lowP l k).1 ≤ 100 * k) ∧ 0 ≤ (lowP l k).2 ∧ (lowP l k).2 ≤ 100 * k
  | 0, _ => by simp [lowP]
  | k + 1, h => by
    have ih := lowP_bound hv k (by omega)
    have hw := worth_bound hv (b := k) (by omega)
    rw [lowP_succ]
    split
    · omega
    · unfold addS; dsimp only; omega
theorem clashP_all (l : LotD) : clashP l l.blocks.length = clashL l := rfl
theorem all_end (l : LotD) : allP l l.blocks.length = surelyN l := rfl
theorem some_end (l : LotD) : someP l l.blocks.length = perhapsN l := rfl
theorem low_end {l : LotD} (hv : validL l = true) (hc : clashL l = false) : ∀ k, k ≤ l.blocks.length → lowP l k = (List.range k).foldl (fun s b => addS s (worthN l b)) (0, 0)
  | 0, _ => rfl
  | k + 1, h => by
    have hb : clashB l k = false := by
      unfold clashL at hc
      rw [List.any_eq_false] at hc
      have := hc k (List.mem_range.2 (by omega))
      unfold clashB
      simpa using this
    rw [lowP_succ, if_neg (by rw [hb]; decide), (worth_at hv (by omega)).2, if_pos (by rw [err_valid hv, hc]; rfl), low_end hv hc k (by omega), List.range_succ, List.foldl_append]
    rfl
/-- What the law asks at last. -/
theorem sells_final {l : LotD} (hv : validL l = true) : (clashL l = true → valueD l = ((0, 0), 10) ∧ scrapD l = (0, 0, 10)) ∧ (clashL l = false → valueD l = (lowP l l.blocks.length, 0) ∧ scrapD l = ((allP l l.blocks.length : Int), (someP l l.blocks.length : Int), 0)) := by
  constructor
  · intro h
    have he : errL l [] true = 10 := by rw [err_valid hv, h]; rfl
    unfold valueD scrapD
    dsimp only
    rw [he]
    exact ⟨rfl, rfl⟩
  · intro h
    have he : errL l [] true = 0 := by rw [err_valid hv, h]; rfl
    unfold valueD scrapD
    dsimp only
    rw [he, low_end hv h _ (Nat.le_refl _)]
    exact ⟨rfl, rfl⟩
end Go.Proofs.Ytagjepclobobjaa

/- LotSells: the walk. -/
namespace Go.Proofs.Ytagjepclobobjaa
set_option linter.unusedVariables false
set_option linter.unusedSimpArgs false
open Go.RowKit Go.Shelf
attribute [local go_sem] Oper.semAt_some
def spanO (x y : Int) : Obj := .cells #[.int .i64 x, .int .i64 y] 37 (0, 0)
theorem span_cells {W : World} {b : Nat} {x y : Int} (h : W.heap[b]? = some (spanO x y)) : W.cell? ⟨b, 0, none⟩ = some (.int .i64 x) ∧ W.cell? ⟨b, 1, none⟩ = some (.int .i64 y) :=
  ⟨by rw [cell_of_row W _ _ _ _ _ h]; rfl, by rw [cell_of_row W _ _ _ _ _ h]; rfl⟩
def LawV (l : LotD) (p : PartsL) (w : World) (vb : Nat) (vx vy : Int) (W : World) : Prop := LawS l p w W ∧ W.heap[vb]? = some (spanO vx vy)
theorem LawV.later {l : LotD} {p : PartsL} {w : World} {vb : Nat} {vx vy : Int} {W W' : World} (h : LawV l p w vb vx vy W) (hb : Below W.heap.size W W') : LawV l p w vb vx vy W' := ⟨h.1.later hb, (hb.block _ (lt_of_block h.2)).trans h.2⟩
theorem nine_cells : (madeCells #[Value.int .i64 0, .int .i64 0, .int .i64 0] (9 * 3)).toList = (List.replicate 9 ((0, 0, 0) : EntD)).flatMap fun x => [Value.int .i64 x.1, .int .i64 x.2.1, .int .i64 x.2.2] := by
  kernel_rfl
theorem ents_nine (W : World) : EntsAt (W.alloc (.cells (madeCells #[.int .i64 0, .int .i64 0, .int .i64 0] (9 * 3)) 69)) (.slice (some ⟨W.heap.size, 0, none⟩) 9 9) (List.replicate 9 (0, 0, 0)) (fun k => k < (W.alloc (.cells (madeCells #[.int .i64 0, .int .i64 0, .int .i64 0] (9 * 3)) 69)).heap.size) :=
  (ents_rowF (List.replicate 9 (0, 0, 0)) (heap_alloc_at _ _ _ rfl) nine_cells (by decide)).low
theorem bit1_lot : ∀ n : Fin 8, ∀ s : Fin 64, (bits BinOp.and IntKind.i64 ((s.val : Int) / 2 ^ n.val) 1 == 1) = s.val.testBit n.val := by decide +kernel
theorem if_min (x y : Int) : (if y < x then y else x) = min x y := by split <;> omega
theorem if_max (x y : Int) : (if x < y then y else x) = max x y := by split <;> omega
theorem entF_three (a b c : Int) : entF [a, b, c] = [(a, b, c)] := by simp [entF, entN]
theorem make_nine (W : World) : (Instr.makeSlice 42 (.int .i64 9) (.int .i64 9)).run Try.prog W = .ok (.slice (some ⟨W.heap.size, 0, none⟩) 9 9) (W.alloc (.cells (madeCells #[.int .i64 0, .int .i64 0, .int .i64 0] (9 * 3)) 69)) := by
  obtain ⟨i0, hi0, hz0, hz1, hz2⟩ := info_parts infoEnt
  have := run_makeSlice (P := Try.prog) (w := W) 42 69 i0 _ underEnts hi0 hz0 .i64 .i64 9 9 (by decide) (by decide) (by rw [hz1]; decide) (by rw [hz2]; decide) (by decide)
  rw [hz1] at this
  exact this
structure LawG (l : LotD) (p : PartsL) (w : World) (vb : Nat) (vx vy : Int) (gb k wb : Nat) (wx wy : Int) (W : World) : Prop where
  v : LawV l p w vb vx vy W
  g : W.heap[gb]? = some (gradeO l p k)
  b : W.heap[wb]? = some (spanO wx wy)
theorem LawG.later {l : LotD} {p : PartsL} {w : World} {vb gb k wb : Nat} {vx vy wx wy : Int} {W W' : World} (h : LawG l p w vb vx vy gb k wb wx wy W) (hb : Below W.heap.size W W') : LawG l p w vb vx vy gb k wb wx wy W' :=
  ⟨h.v.later hb, (hb.block _ (lt_of_block h.g)).trans h.g, (hb.block _ (lt_of_block h.b)).trans h.b⟩
def worthQ (l : LotD) (s k : Nat) : Int × Int := (List.range k).foldl (fun w n => if s.testBit n then (min w.1 (paidL l n), max w.2 (paidL l n)) else w) (100, 0)
theorem worthQ_succ (l : LotD) (s k : Nat) : worthQ l s (k + 1) = if s.testBit k then (min (worthQ l s k).1 (paidL l k), max (worthQ l s k).2 (paidL l k)) else worthQ l s k := by
  unfold worthQ; rw [List.range_succ, List.foldl_append]; rfl
theorem gradesD_at {l : LotD} (hv : validL l = true) {b : Nat} (hb : b < l.blocks.length) : gradesD (gradeL l b) = if clashB l b then (0, 10) else ((setsL l b : Int), 0) := by
  have he : errG (gradeL l b) true = if clashB l b then 10 else 0 := by
    unfold errG clashB
    rw [if_pos (valid_gradeL hv hb)]
    cases h : truthsG (gradeL l b) <;> simp
  unfold gradesD
  rw [he]
  cases clashB l b <;> rfl
theorem sureD_at {l : LotD} (hv : validL l = true) {b n : Nat} (hb : b < l.blocks.length) (hn : n < l.lim.length) (hc : clashB l b = false) : (sureD (gradeL l b) n).2 = 0 ∧ ((sureD (gradeL l b) n).1 = 2 ↔ sureL l b n = true) := by
  have he : errG (gradeL l b) (inN (n : Int) 0 (((gradeL l b).lim.length : Int) - 1)) = 0 := by
    unfold errG
    rw [if_pos (valid_gradeL hv hb), if_pos (by unfold inN gradeL; simp; omega), if_neg]
    intro h
    unfold clashB at hc
    rw [h] at hc
    cases hc
  unfold sureD sureL
  dsimp only
  rw [he, Int.toNat_natCast]
  simp only [if_true]
  cases sureG (gradeL l b) n <;> cases neverG (gradeL l b) n <;> simp
theorem sets_small {l : LotD} (hv : validL l = true) (b : Nat) : setsL l b < 32 := by
  have h1 := grades_lt (gradeL l b)
  have h2 := (valid_small hv).1
  have : 2 ^ ((gradeL l b).lim.length + 1) ≤ 2 ^ 5 := Nat.pow_le_pow_right (by decide) (by show l.lim.length + 1 ≤ 5; omega)
  show gradesG (gradeL l b) < 32
  omega
set_option maxRecDepth 100000 in
set_option maxHeartbeats 16000000 in
theorem sells13_any (l : LotD) (p : PartsL) (w : World) (hL : LotAt l p (fun k => k < w.heap.size) w) :
    Calls Try.prog 4 #[lotV l p] w fun e w' => e = .returned (.bool true) ∧ Below w.heap.size w w' := by
  have HP := Lib.hid (And.intro (value_e l) (scrap_e l))
  obtain ⟨E, hE⟩ : ∃ E, E = errL l [] true := ⟨_, rfl⟩
  obtain ⟨⟨vx, vy⟩, hv1⟩ : ∃ x, x = (valueD l).1 := ⟨_, rfl⟩
  obtain ⟨su, hsu⟩ : ∃ x, x = (scrapD l).1 := ⟨_, rfl⟩
  obtain ⟨pe, hpe⟩ : ∃ x, x = (scrapD l).2.1 := ⟨_, rfl⟩
  have hvd : valueD l = ((vx, vy), E) := by rw [hv1, hE, ← HP.out.1]
  have hsd : scrapD l = (su, pe, E) := by rw [hsu, hpe, hE, ← HP.out.2]
  have HE := Lib.hid hE
  have HVD := Lib.hid hvd
  have HSD := Lib.hid hsd
  clear hE hv1 hsu hpe hvd hsd
  obtain ⟨al, cl, hvl, -⟩ := id hL.lim
  obtain ⟨ab, cb, hvb, -⟩ := id hL.blk
  obtain ⟨ap, cp, hvp, -⟩ := id hL.pay
  obtain ⟨ao, co, hvo, -⟩ := id hL.ord
  obtain ⟨nl, hnl⟩ : ∃ n, n = l.lim.length := ⟨_, rfl⟩
  obtain ⟨nb, hnb⟩ : ∃ n, n = l.blocks.length := ⟨_, rfl⟩
  obtain ⟨np, hnp⟩ : ∃ n, n = l.pays.length := ⟨_, rfl⟩
  obtain ⟨no, hno⟩ : ∃ n, n = l.orders.length := ⟨_, rfl⟩
  rw [← hnl] at hvl
  rw [← hnb] at hvb
  rw [← hnp] at hvp
  rw [← hno] at hvo
  obtain ⟨st, hst⟩ : ∃ x, x = l.step := ⟨_, rfl⟩
  obtain ⟨lp, hlp⟩ : ∃ x, x = l.lap := ⟨_, rfl⟩
  have HVP := Lib.hid (And.intro hvl (And.intro hvb (And.intro hvp hvo)))
  have HNL := Lib.hid hnl
  have HNB := Lib.hid hnb
  have HNP := Lib.hid hnp
  have HNO := Lib.hid hno
  have HLP := Lib.hid hlp
  have HST := Lib.hid hst
  have hmf : ∀ fn first cap w, (Instr.makeFunc fn first cap).run Try.prog w = .ok (.func fn first cap) w := fun _ _ _ _ => rfl
  have HLC := Lib.hid (show lotC l p = [.slice al nl cl, .int .i64 st, .slice ab nb cb, .slice ap np cp, .int .i64 lp, .slice ao no co] by unfold lotC; rw [hvl, hvb, hvp, hvo, hst, hlp])
  have HLV := Lib.hid (show lotV l p = .agg #[.slice al nl cl, .int .i64 st, .slice ab nb cb, .slice ap np cp, .int .i64 lp, .slice ao no co] by unfold lotV; rw [HLC.out])
  obtain ⟨W0, hW0⟩ : ∃ W0, W0 = w.alloc (.cells #[.slice al nl cl, .int .i64 st, .slice ab nb cb, .slice ap np cp, .int .i64 lp, .slice ao no co] 32) := ⟨_, rfl⟩
  have HS : Hid (LawS l p w W0) := Lib.hid (by rw [hW0]; have := LawS.start hL; rw [HLC.out] at this; exact this)
  have HCC : Hid (∀ W, LawS l p w W → W.cell? ⟨w.heap.size, 0, none⟩ = some (.slice al nl cl) ∧ W.cell? ⟨w.heap.size, 1, none⟩ = some (.int .i64 st) ∧ W.cell? ⟨w.heap.size, 2, none⟩ = some (.slice ab nb cb) ∧ W.cell? ⟨w.heap.size, 3, none⟩ = some (.slice ap np cp) ∧ W.cell? ⟨w.heap.size, 4, none⟩ = some (.int .i64 lp) ∧ W.cell? ⟨w.heap.size, 5, none⟩ = some (.slice ao no co)) :=
    Lib.hid fun W h => by have := h.cells; rw [hvl, hvb, hvp, hvo, ← hst, ← hlp] at this; exact this
  clear hvl hvb hvp hvo hnl hnb hnp hno hst hlp hL
  rw [HLV.out]
  obtain ⟨c0, c1, c2, c3, c4, c5⟩ := HCC.out _ HS.out
  go_enter Try.func4, Try.ntmps4
  go_upto_region 1 with fail
  rw [← hW0]
  clear hW0
  go_wp2_with fail
  refine Calls.mono (by have h := long13_any l p 0 0 none _ HS.out.lot; rw [HLV.out] at h; exact h) ?_
  rintro e w1 ⟨rfl, hb⟩
  clear c0 c1 c2 c3 c4 c5
  replace HS := Lib.hid (HS.out.later hb)
  clear hb
  obtain ⟨c0, c1, c2, c3, c4, c5⟩ := HCC.out _ HS.out
  dsimp only
  by_cases hlg : 40 < longL l 0
  · rw [decide_eq_true hlg]
    go_wp2_with fail
    refine (alive13_any _).mono ?_
    rintro e wz ⟨rfl, hb⟩
    replace HS := Lib.hid (HS.out.later hb)
    clear hb
    dsimp only
    go_wp2
    exact bodyPost_ret (v := .bool true) (by simp [results, Try.results4, go_sem]) rfl ⟨rfl, HS.out.bel⟩
  rw [decide_eq_false hlg]
  have H9 := Lib.hid (long_small hlg).1
  have H40 := Lib.hid (show l.lim.length ≤ 40 by unfold longL at hlg; omega)
  clear hlg
  go_wp2_with fail
  refine Calls.mono (by have h := lValue_any l p _ HS.out.lot H9.out; rw [HLV.out, HVD.out] at h; exact h) ?_
  rintro e w2 ⟨rfl, hb⟩
  clear c0 c1 c2 c3 c4 c5
  obtain ⟨W2, hW2⟩ : ∃ W, W = w2.alloc (.cells #[.int .i64 vx, .int .i64 vy] 37) := ⟨_, rfl⟩
  replace HS := Lib.hid (show LawS l p w W2 by rw [hW2]; exact (HS.out.later hb).later (below_allocG _ _))
  have HVB := Lib.hid (show W2.heap[w2.heap.size]? = some (spanO vx vy) by rw [hW2]; exact heap_alloc_at _ _ _ rfl)
  obtain ⟨vb, hvb⟩ : ∃ k, k = w2.heap.size := ⟨_, rfl⟩
  rw [← hvb] at HVB
  clear hb
  obtain ⟨c0, c1, c2, c3, c4, c5⟩ := HCC.out _ HS.out
  dsimp only
  go_upto_region 4 with fail
  rw [← hW2, ← hvb]
  clear hW2 hvb
  go_wp2_with fail
  refine Calls.mono (by have h := lScrap_any l p _ HS.out.lot H9.out H40.out; rw [HLV.out, HSD.out] at h; exact h) ?_
  rintro e w3 ⟨rfl, hb⟩
  clear c0 c1 c2 c3 c4 c5
  replace HS := Lib.hid (HS.out.later hb)
  replace HVB := Lib.hid ((hb.block _ (lt_of_block HVB.out)).trans HVB.out)
  clear hb
  obtain ⟨c0, c1, c2, c3, c4, c5⟩ := HCC.out _ HS.out
  dsimp only
  go_wp2_with fail
  refine Calls.mono (by have h := r13lot_any l p _ HS.out.lot H9.out; rw [HLV.out] at h; exact h) ?_
  rintro e w4 ⟨rfl, hb⟩
  clear c0 c1 c2 c3 c4 c5
  replace HS := Lib.hid (HS.out.later hb)
  replace HVB := Lib.hid ((hb.block _ (lt_of_block HVB.out)).trans HVB.out)
  clear hb
  obtain ⟨c0, c1, c2, c3, c4, c5⟩ := HCC.out _ HS.out
  dsimp only
  cases hv : validL l with
  | false =>
    have h1 : E = 1 := by rw [HE.out]; exact err_bad hv
    have h2 := value_z (l := l) (by rw [← HE.out, h1]; decide)
    have h3 := scrap_z (l := l) (by rw [← HE.out, h1]; decide)
    rw [HVD.out] at h2
    rw [HSD.out] at h3
    dsimp only at h3
    obtain ⟨h4, h5⟩ := Prod.mk.inj h2
    obtain ⟨h6, h7⟩ := h3
    subst h1 h4 h5 h6 h7
    obtain ⟨d0, d1⟩ := span_cells HVB.out
    clear h2
    go_wp2_with fail
    refine (alive13_any _).mono ?_
    rintro e wz ⟨rfl, hb⟩
    replace HS := Lib.hid (HS.out.later hb)
    clear hb
    dsimp only
    go_wp2
    exact bodyPost_ret (v := .bool true) (by simp [results, Try.results4, go_sem]) rfl ⟨rfl, HS.out.bel⟩
  | true =>
  have HVL := Lib.hid hv
  clear hv
  go_wp2_with fail
  refine Calls.mono (by have h := (by have h := lSells_any l p (nb : Int) _ HS.out.lot H9.out; rw [sells_out HVL.out nb HNB.out] at h; exact h); rw [HLV.out] at h; exact h) ?_
  rintro e w5 ⟨rfl, hb⟩
  clear c0 c1 c2 c3 c4 c5
  replace HS := Lib.hid (HS.out.later hb)
  replace HVB := Lib.hid ((hb.block _ (lt_of_block HVB.out)).trans HVB.out)
  clear hb
  obtain ⟨c0, c1, c2, c3, c4, c5⟩ := HCC.out _ HS.out
  dsimp only
  go_wp2_with fail
  refine Calls.mono (by have h := lWorth_any l p (-1) _ HS.out.lot H9.out; rw [HLV.out, worth_out HVL.out] at h; exact h) ?_
  rintro e w6 ⟨rfl, hb⟩
  clear c0 c1 c2 c3 c4 c5
  obtain ⟨W6, hW6⟩ : ∃ W, W = w6.alloc (.cells #[.int .i64 0, .int .i64 0] 37) := ⟨_, rfl⟩
  have hb6 : Below w5.heap.size w5 W6 := by rw [hW6]; exact hb.alloc hb.size _
  replace HS := Lib.hid (HS.out.later hb6)
  replace HVB := Lib.hid ((hb6.block _ (lt_of_block HVB.out)).trans HVB.out)
  clear hb hb6
  obtain ⟨c0, c1, c2, c3, c4, c5⟩ := HCC.out _ HS.out
  dsimp only
  go_upto_region 11 with fail
  rw [← hW6]
  clear hW6
  refine wp_region_held_drew (S := fun W => LawV l p w vb vx vy W) rfl (LawV.later (W := W6) ⟨HS.out, HVB.out⟩ (Below.refl _ _).drew) fun hS => ?_
  clear c0 c1 c2 c3 c4 c5
  refine wpAnyH_take (i := 0) (v := ?_) rfl (by kernel_rfl) (by kernel_rfl) (by kernel_rfl) (fun _ _ _ h => h) (Or.inl ⟨by rfl, ?_⟩) hS ?_
  rotate_left
  · (intro W hSw; obtain ⟨q0, q1, q2, q3, q4, q5⟩ := HCC.out W hSw.1; go_simp; try with_reducible rfl)
  try simp only [List.getElem_toArray, List.getElem_cons_succ, List.getElem_cons_zero, Act.put, List.setIfInBounds_toArray, List.set_cons_zero, List.set_cons_succ]
  refine wpAnyH_take (i := 1) (v := ?_) rfl (by kernel_rfl) (by kernel_rfl) (by kernel_rfl) (fun _ _ _ h => h) (Or.inl ⟨by rfl, ?_⟩) hS ?_
  rotate_left
  · (intro W hSw; obtain ⟨q0, q1, q2, q3, q4, q5⟩ := HCC.out W hSw.1; go_simp; try with_reducible rfl)
  try simp only [List.getElem_toArray, List.getElem_cons_succ, List.getElem_cons_zero, Act.put, List.setIfInBounds_toArray, List.set_cons_zero, List.set_cons_succ]
  refine wpAnyH_take (i := 2) (v := ?_) rfl (by kernel_rfl) (by kernel_rfl) (by kernel_rfl) (fun _ _ _ h => h) (Or.inl ⟨by rfl, ?_⟩) hS ?_
  rotate_left
  · (intro W hSw; obtain ⟨q0, q1, q2, q3, q4, q5⟩ := HCC.out W hSw.1; go_simp; try with_reducible rfl)
  try simp only [List.getElem_toArray, List.getElem_cons_succ, List.getElem_cons_zero, Act.put, List.setIfInBounds_toArray, List.set_cons_zero, List.set_cons_succ]
  refine wpAnyH_take (i := 3) (v := ?_) rfl (by kernel_rfl) (by kernel_rfl) (by kernel_rfl) (fun _ _ _ h => h) (Or.inl ⟨by rfl, ?_⟩) hS ?_
  rotate_left
  · (intro W hSw; obtain ⟨q0, q1, q2, q3, q4, q5⟩ := HCC.out W hSw.1; go_simp; try with_reducible rfl)
  try simp only [List.getElem_toArray, List.getElem_cons_succ, List.getElem_cons_zero, Act.put, List.setIfInBounds_toArray, List.set_cons_zero, List.set_cons_succ]
  refine wpAnyH_value (k := 4) (v := .slice (some ⟨W6.heap.size, 0, none⟩) 3 3) (w' := W6.drew.alloc (.cells #[.int .i64 0, .int .i64 (nl : Int), .int .i64 0] 3)) (by kernel_rfl) rfl rfl (by simp [execOp, go_sem, Act.eval, Act.put]) (hS.later (below_allocG _ _)) ?_
  try simp only [List.getElem_toArray, List.getElem_cons_succ, List.getElem_cons_zero, Act.put, List.setIfInBounds_toArray, List.set_cons_zero, List.set_cons_succ]
  refine wpAnyH_ready (rs := [5]) (by kernel_rfl) (by simp) ?_
  refine AllReadyH.cons rfl (fun K hK => ?_) AllReadyH.nil
  go_simp
  refine Calls.mono (ents13 (w := W6.drew) [0, (nl : Int), 0] _ _ rfl (by simp) 3 rfl) ?_
  rintro e w7 ⟨ev, rfl, hents, hb⟩
  rw [entF_three] at hents
  dsimp only
  refine hK.out _ _ (hS.later hb) (fun hS => ?_)
  clear hK K hb
  try simp only [List.getElem_toArray, List.getElem_cons_succ, List.getElem_cons_zero, Act.put, List.setIfInBounds_toArray, List.set_cons_zero, List.set_cons_succ]
  refine wpAnyH_ready (rs := [6]) (by kernel_rfl) (by simp) ?_
  refine AllReadyH.cons rfl (fun K hK => ?_) AllReadyH.nil
  go_simp
  refine Calls.mono (by have h := lCheck_any l p [(0, (nl : Int), 0)] ev w7 hS.1.lot hents (by simp) H9.out; rw [HLV.out, check_out HVL.out nl HNL.out] at h; exact h) ?_
  rintro e w8 ⟨rfl, hb⟩
  dsimp only
  refine hK.out _ _ (hS.later hb) (fun hS => ?_)
  clear hK K hb hents
  try simp only [List.getElem_toArray, List.getElem_cons_succ, List.getElem_cons_zero, Act.put, List.setIfInBounds_toArray, List.set_cons_zero, List.set_cons_succ]
  refine wpAnyH_take (i := 7) (v := ?_) rfl (by kernel_rfl) (by kernel_rfl) (by kernel_rfl) (fun _ _ _ h => h) (Or.inl ⟨by rfl, ?_⟩) hS ?_
  rotate_left
  · (intro W hSw; obtain ⟨q0, q1, q2, q3, q4, q5⟩ := HCC.out W hSw.1; go_simp; try with_reducible rfl)
  try simp only [List.getElem_toArray, List.getElem_cons_succ, List.getElem_cons_zero, Act.put, List.setIfInBounds_toArray, List.set_cons_zero, List.set_cons_succ]
  refine wpAnyH_take (i := 8) (v := ?_) rfl (by kernel_rfl) (by kernel_rfl) (by kernel_rfl) (fun _ _ _ h => h) (Or.inl ⟨by rfl, ?_⟩) hS ?_
  rotate_left
  · (intro W hSw; obtain ⟨q0, q1, q2, q3, q4, q5⟩ := HCC.out W hSw.1; go_simp; try with_reducible rfl)
  try simp only [List.getElem_toArray, List.getElem_cons_succ, List.getElem_cons_zero, Act.put, List.setIfInBounds_toArray, List.set_cons_zero, List.set_cons_succ]
  refine wpAnyH_take (i := 9) (v := ?_) rfl (by kernel_rfl) (by kernel_rfl) (by kernel_rfl) (fun _ _ _ h => h) (Or.inl ⟨by rfl, ?_⟩) hS ?_
  rotate_left
  · (intro W hSw; obtain ⟨q0, q1, q2, q3, q4, q5⟩ := HCC.out W hSw.1; go_simp; try with_reducible rfl)
  try simp only [List.getElem_toArray, List.getElem_cons_succ, List.getElem_cons_zero, Act.put, List.setIfInBounds_toArray, List.set_cons_zero, List.set_cons_succ]
  refine wpAnyH_take (i := 10) (v := ?_) rfl (by kernel_rfl) (by kernel_rfl) (by kernel_rfl) (fun _ _ _ h => h) (Or.inl ⟨by rfl, ?_⟩) hS ?_
  rotate_left
  · (intro W hSw; obtain ⟨q0, q1, q2, q3, q4, q5⟩ := HCC.out W hSw.1; go_simp; try with_reducible rfl)
  try simp only [List.getElem_toArray, List.getElem_cons_succ, List.getElem_cons_zero, Act.put, List.setIfInBounds_toArray, List.set_cons_zero, List.set_cons_succ]
  refine wpAnyH_take (i := 11) (v := ?_) rfl (by kernel_rfl) (by kernel_rfl) (by kernel_rfl) (fun _ _ _ h => h) (Or.inl ⟨by rfl, ?_⟩) hS ?_
  rotate_left
  · (intro W hSw; obtain ⟨q0, q1, q2, q3, q4, q5⟩ := HCC.out W hSw.1; go_simp; try with_reducible rfl)
  try simp only [List.getElem_toArray, List.getElem_cons_succ, List.getElem_cons_zero, Act.put, List.setIfInBounds_toArray, List.set_cons_zero, List.set_cons_succ]
  refine wpAnyH_take (i := 12) (v := ?_) rfl (by kernel_rfl) (by kernel_rfl) (by kernel_rfl) (fun _ _ _ h => h) (Or.inl ⟨by rfl, ?_⟩) hS ?_
  rotate_left
  · (intro W hSw; obtain ⟨q0, q1, q2, q3, q4, q5⟩ := HCC.out W hSw.1; go_simp; try with_reducible rfl)
  try simp only [List.getElem_toArray, List.getElem_cons_succ, List.getElem_cons_zero, Act.put, List.setIfInBounds_toArray, List.set_cons_zero, List.set_cons_succ]
  refine wpAnyH_take (i := 13) (v := ?_) rfl (by kernel_rfl) (by kernel_rfl) (by kernel_rfl) (fun _ _ _ h => h) (Or.inl ⟨by rfl, ?_⟩) hS ?_
  rotate_left
  · (intro W hSw; obtain ⟨q0, q1, q2, q3, q4, q5⟩ := HCC.out W hSw.1; go_simp; try with_reducible rfl)
  try simp only [List.getElem_toArray, List.getElem_cons_succ, List.getElem_cons_zero, Act.put, List.setIfInBounds_toArray, List.set_cons_zero, List.set_cons_succ]
  refine wpAnyH_done (by kernel_rfl) ?_ _
  replace HS := Lib.hid hS.1
  replace HVB := Lib.hid hS.2
  clear hS
  go_upto_region 12 with fail
  refine wp_region_held_drew (S := fun W => LawV l p w vb vx vy W) rfl (LawV.later (W := w8) ⟨HS.out, HVB.out⟩ (Below.refl _ _).drew) fun hS => ?_
  refine wpAnyH_take (i := 0) (v := ?_) rfl (by kernel_rfl) (by kernel_rfl) (by kernel_rfl) (fun _ _ _ h => h) (Or.inl ⟨by rfl, ?_⟩) hS ?_
  rotate_left
  · (intro W hSw; obtain ⟨q0, q1, q2, q3, q4, q5⟩ := HCC.out W hSw.1; go_simp; try with_reducible rfl)
  try simp only [List.getElem_toArray, List.getElem_cons_succ, List.getElem_cons_zero, Act.put, List.setIfInBounds_toArray, List.set_cons_zero, List.set_cons_succ]
  have hmk := make_nine w8.drew
  refine wpAnyH_value (k := 1) (v := .slice (some ⟨w8.heap.size, 0, none⟩) 9 9) (w' := w8.drew.alloc (.cells (madeCells #[.int .i64 0, .int .i64 0, .int .i64 0] (9 * 3)) 69)) (by kernel_rfl) rfl rfl (by simp [execOp, go_sem, Act.eval, Act.put, hmk]) (hS.later (below_allocG _ _)) ?_
  clear hmk
  try simp only [List.getElem_toArray, List.getElem_cons_succ, List.getElem_cons_zero, Act.put, List.setIfInBounds_toArray, List.set_cons_zero, List.set_cons_succ]
  refine wpAnyH_ready (rs := [2]) (by kernel_rfl) (by simp) ?_
  refine AllReadyH.cons rfl (fun K hK => ?_) AllReadyH.nil
  go_simp
  have hents := ents_nine w8.drew
  have hS9 := hS.later (below_allocG w8.drew (.cells (madeCells #[.int .i64 0, .int .i64 0, .int .i64 0] (9 * 3)) 69))
  refine Calls.mono (by have h := lCheck_any l p _ _ _ hS9.1.lot hents (by decide) H9.out; rw [HLV.out, check_long HVL.out] at h; exact h) ?_
  rintro e w9 ⟨rfl, hb⟩
  dsimp only
  refine hK.out _ _ (hS9.later hb) (fun hS => ?_)
  clear hK K hb hents hS9
  try simp only [List.getElem_toArray, List.getElem_cons_succ, List.getElem_cons_zero, Act.put, List.setIfInBounds_toArray, List.set_cons_zero, List.set_cons_succ]
  refine wpAnyH_take (i := 3) (v := ?_) rfl (by kernel_rfl) (by kernel_rfl) (by kernel_rfl) (fun _ _ _ h => h) (Or.inl ⟨by rfl, ?_⟩) hS ?_
  rotate_left
  · (intro W hSw; obtain ⟨q0, q1, q2, q3, q4, q5⟩ := HCC.out W hSw.1; go_simp; try with_reducible rfl)
  try simp only [List.getElem_toArray, List.getElem_cons_succ, List.getElem_cons_zero, Act.put, List.setIfInBounds_toArray, List.set_cons_zero, List.set_cons_succ]
  refine wpAnyH_take (i := 4) (v := ?_) rfl (by kernel_rfl) (by kernel_rfl) (by kernel_rfl) (fun _ _ _ h => h) (Or.inl ⟨by rfl, ?_⟩) hS ?_
  rotate_left
  · (intro W hSw; obtain ⟨q0, q1, q2, q3, q4, q5⟩ := HCC.out W hSw.1; go_simp; try with_reducible rfl)
  try simp only [List.getElem_toArray, List.getElem_cons_succ, List.getElem_cons_zero, Act.put, List.setIfInBounds_toArray, List.set_cons_zero, List.set_cons_succ]
  refine wpAnyH_take (i := 5) (v := ?_) rfl (by kernel_rfl) (by kernel_rfl) (by kernel_rfl) (fun _ _ _ h => h) (Or.inl ⟨by rfl, ?_⟩) hS ?_
  rotate_left
  · (intro W hSw; obtain ⟨q0, q1, q2, q3, q4, q5⟩ := HCC.out W hSw.1; go_simp; try with_reducible rfl)
  try simp only [List.getElem_toArray, List.getElem_cons_succ, List.getElem_cons_zero, Act.put, List.setIfInBounds_toArray, List.set_cons_zero, List.set_cons_succ]
  refine wpAnyH_take (i := 6) (v := ?_) rfl (by kernel_rfl) (by kernel_rfl) (by kernel_rfl) (fun _ _ _ h => h) (Or.inl ⟨by rfl, ?_⟩) hS ?_
  rotate_left
  · (intro W hSw; obtain ⟨q0, q1, q2, q3, q4, q5⟩ := HCC.out W hSw.1; go_simp; try with_reducible rfl)
  try simp only [List.getElem_toArray, List.getElem_cons_succ, List.getElem_cons_zero, Act.put, List.setIfInBounds_toArray, List.set_cons_zero, List.set_cons_succ]
  refine wpAnyH_take (i := 7) (v := ?_) rfl (by kernel_rfl) (by kernel_rfl) (by kernel_rfl) (fun _ _ _ h => h) (Or.inl ⟨by rfl, ?_⟩) hS ?_
  rotate_left
  · (intro W hSw; obtain ⟨q0, q1, q2, q3, q4, q5⟩ := HCC.out W hSw.1; go_simp; try with_reducible rfl)
  try simp only [List.getElem_toArray, List.getElem_cons_succ, List.getElem_cons_zero, Act.put, List.setIfInBounds_toArray, List.set_cons_zero, List.set_cons_succ]
  refine wpAnyH_take (i := 8) (v := ?_) rfl (by kernel_rfl) (by kernel_rfl) (by kernel_rfl) (fun _ _ _ h => h) (Or.inl ⟨by rfl, ?_⟩) hS ?_
  rotate_left
  · (intro W hSw; obtain ⟨q0, q1, q2, q3, q4, q5⟩ := HCC.out W hSw.1; go_simp; try with_reducible rfl)
  try simp only [List.getElem_toArray, List.getElem_cons_succ, List.getElem_cons_zero, Act.put, List.setIfInBounds_toArray, List.set_cons_zero, List.set_cons_succ]
  refine wpAnyH_take (i := 9) (v := ?_) rfl (by kernel_rfl) (by kernel_rfl) (by kernel_rfl) (fun _ _ _ h => h) (Or.inl ⟨by rfl, ?_⟩) hS ?_
  rotate_left
  · (intro W hSw; obtain ⟨q0, q1, q2, q3, q4, q5⟩ := HCC.out W hSw.1; go_simp; try with_reducible rfl)
  try simp only [List.getElem_toArray, List.getElem_cons_succ, List.getElem_cons_zero, Act.put, List.setIfInBounds_toArray, List.set_cons_zero, List.set_cons_succ]
  refine wpAnyH_done (by kernel_rfl) ?_ _
  replace HS := Lib.hid hS.1
  replace HVB := Lib.hid hS.2
  clear hS
  obtain ⟨c0, c1, c2, c3, c4, c5⟩ := HCC.out _ HS.out
  go_wp2_with fail
  have hnb6 : nb ≤ 6 := by have := (valid_small HVL.out).2.1; rw [← HNB.out] at this; exact this
  have hnl4 : nl ≤ 4 := by have := (valid_small HVL.out).1; rw [← HNL.out] at this; exact this
  go_loopw [18, 19, 20, 21, 22, 126] (fun cv lv hv av sv iv wr => ∃ k : Nat, k ≤ nb ∧ iv = .int .i64 k ∧ cv = .bool (clashP l k) ∧ lv = .int .i64 (lowP l k).1 ∧ hv = .int .i64 (lowP l k).2 ∧ av = .int .i64 (allP l k : Nat) ∧ sv = .int .i64 (someP l k : Nat) ∧ LawV l p w vb vx vy wr)
    (fun _ _ _ _ _ iv _ => nb - (intOf iv).toNat)
  case atStart => exact ⟨0, Nat.zero_le _, rfl, rfl, rfl, rfl, rfl, rfl, HS.out, HVB.out⟩
  case round =>
    clear c0 c1 c2 c3 c4 c5 HS HVB
    obtain ⟨k, hk, rfl, rfl, rfl, rfl, rfl, rfl, hS⟩ := hrel
    have HS := Lib.hid hS.1
    have HV := Lib.hid hS
    clear hS
    obtain ⟨c0, c1, c2, c3, c4, c5⟩ := HCC.out _ HS.out
    obtain ⟨ck, hck⟩ : ∃ x, x = clashP l k := ⟨_, rfl⟩
    obtain ⟨⟨lo, hi⟩, hlh⟩ : ∃ x, x = lowP l k := ⟨_, rfl⟩
    obtain ⟨ak, hak⟩ : ∃ x, x = allP l k := ⟨_, rfl⟩
    obtain ⟨sk, hsk⟩ : ∃ x, x = someP l k := ⟨_, rfl⟩
    have hal := allP_lt l k (by omega)
    have hsl := someP_lt l k (by omega)
    have hlb := lowP_bound HVL.out k (by rw [← HNB.out]; exact hk)
    rw [← hck, ← hlh, ← hak, ← hsk]
    rw [← hak] at hal
    rw [← hsk] at hsl
    rw [← hlh] at hlb
    have HK := Lib.hid (And.intro hck (And.intro hlh (And.intro hak hsk)))
    clear hck hlh hak hsk
    dsimp only at hlb ⊢
    by_cases hlt : k < nb
    · have hlti : (k : Int) < (nb : Int) := by omega
      have hbl : k < l.blocks.length := by rw [← HNB.out]; exact hlt
      have HBL := Lib.hid hbl
      have hw : IntKind.i64.wrap ((k : Int) + 1) = (k : Int) + 1 := by rw [IntWalk.i64_in _ (by omega)]
      clear hbl
      obtain ⟨⟨a0, z0⟩, ⟨a1, z1⟩, ⟨a2, z2⟩, ⟨a3, z3⟩, ⟨a4, z4⟩, hpts⟩ := list5' (pts_five HS.out HBL.out)
      have HPT := Lib.hid (show l.blocks.getD k [] = _ from hpts)
      have HG := Lib.hid (show gradeV p.lims (l.blocks.getD k []) l.step = .agg #[.slice al nl cl, .int .i64 a0, .int .i64 z0, .int .i64 a1, .int .i64 z1, .int .i64 a2, .int .i64 z2, .int .i64 a3, .int .i64 z3, .int .i64 a4, .int .i64 z4, .int .i64 st] by rw [HPT.out, HVP.out.1, ← HST.out]; rfl)
      have HGO := Lib.hid (show gradeO l p k = .cells #[.slice al nl cl, .int .i64 a0, .int .i64 z0, .int .i64 a1, .int .i64 z1, .int .i64 a2, .int .i64 z2, .int .i64 a3, .int .i64 z3, .int .i64 a4, .int .i64 z4, .int .i64 st] 53 (0, 0) by unfold gradeO; rw [HPT.out, HVP.out.1, ← HST.out]; rfl)
      clear hpts
      have H5 := Lib.hid (pts_five HS.out HBL.out)
      go_wp2_with fail
      refine Calls.mono (by have h := r13grade_any l p k HBL.out _ HS.out.lot H9.out.b; rw [HLV.out, HG.out] at h; exact h) ?_
      rintro e w3 ⟨rfl, hb3⟩
      clear c0 c1 c2 c3 c4 c5
      obtain ⟨W3, hW3⟩ : ∃ W, W = w3.alloc (.cells #[.slice al nl cl, .int .i64 a0, .int .i64 z0, .int .i64 a1, .int .i64 z1, .int .i64 a2, .int .i64 z2, .int .i64 a3, .int .i64 z3, .int .i64 a4, .int .i64 z4, .int .i64 st] 53) := ⟨_, rfl⟩
      have HX := Lib.hid (show W3.heap[w3.heap.size]? = some (gradeO l p k) by rw [hW3, HGO.out]; exact heap_alloc_at _ _ _ rfl)
      replace HV := Lib.hid (show LawV l p w vb vx vy W3 by rw [hW3]; exact (HV.out.later hb3).later (below_allocG _ _))
      replace HS := Lib.hid HV.out.1
      clear hb3
      obtain ⟨gb, hgb⟩ : ∃ x, x = w3.heap.size := ⟨_, rfl⟩
      obtain ⟨c0, c1, c2, c3, c4, c5⟩ := HCC.out _ HS.out
      dsimp only
      go_upto_region 21 with fail
      rw [← hW3, ← hgb]
      rw [← hgb] at HX
      clear hW3 hgb
      go_wp2_with (first | (refine wpList_load_row rfl 53 _ rfl gb rfl 53 (gradeC p.lims (l.blocks.getD k []) l.step).toArray (0, 0) _ HX.out underGrade rfl (gradeC_size _ H5.out _) ?_))
      refine Calls.mono (gGrades_any (gradeL l k) H5.out p.lims _ HS.out.lot.lim H9.out.a) ?_
      rintro e w4 ⟨rfl, hb⟩
      rw [gradesD_at HVL.out HBL.out]
      clear c0 c1 c2 c3 c4 c5
      replace HV := Lib.hid (HV.out.later hb)
      replace HS := Lib.hid HV.out.1
      replace HX := Lib.hid ((hb.block _ (lt_of_block HX.out)).trans HX.out)
      clear hb
      obtain ⟨c0, c1, c2, c3, c4, c5⟩ := HCC.out _ HS.out
      cases hc : clashB l k with
      | true =>
        have HSS := clash_sets hc
        have e1 : clashP l (k + 1) = true := by rw [clashP_succ, hc, Bool.or_true]
        have e2 : lowP l (k + 1) = lowP l k := by rw [lowP_succ, if_pos hc]
        have e3 : allP l (k + 1) = allP l k := by rw [allP_succ, HSS, if_neg]; have := Nat.two_pow_pos l.lim.length; omega
        have e4 : someP l (k + 1) = someP l k := by rw [someP_succ, HSS]; simp
        have HEE := Lib.hid (And.intro e1 (And.intro e2 (And.intro e3 e4)))
        clear HSS e1 e2 e3 e4
        dsimp only
        simp only [if_true]
        go_wp2
        refine ⟨⟨k + 1, hlt, by simp, by rw [HEE.out.1], by rw [HEE.out.2.1, ← HK.out.2.1], by rw [HEE.out.2.1, ← HK.out.2.1], by rw [HEE.out.2.2.1, ← HK.out.2.2.1], by rw [HEE.out.2.2.2, ← HK.out.2.2.2], HV.out⟩, by simp [intOf]; omega⟩
      | false =>
        have hsat := sells_at HVL.out HBL.out
        have hwat := worth_at HVL.out HBL.out
        have hwbd := worth_bound HVL.out HBL.out
        obtain ⟨sn, hsn⟩ : ∃ x, x = (sellsD l (k : Int)).1 := ⟨_, rfl⟩
        obtain ⟨⟨wx, wy⟩, hwx⟩ : ∃ x, x = (worthD l (k : Int)).1 := ⟨_, rfl⟩
        rw [← HE.out, ← hsn] at hsat
        rw [← HE.out, ← hwx] at hwat
        rw [← hwx] at hwbd
        have hsd2 : sellsD l (k : Int) = (sn, E) := by rw [hsn, ← hsat.1]
        have hwd2 : worthD l (k : Int) = ((wx, wy), E) := by rw [hwx, ← hwat.1]
        have HSN := Lib.hid hsat.2
        have HWX := Lib.hid hwat.2
        have HWK := Lib.hid hwx
        have HSD2 := Lib.hid hsd2
        have HWD2 := Lib.hid hwd2
        obtain ⟨gs, hgs⟩ : ∃ x, x = setsL l k := ⟨_, rfl⟩
        have hgs32 : gs < 32 := by rw [hgs]; exact sets_small HVL.out k
        rw [← hgs]
        have HGS := Lib.hid hgs
        have HCL := Lib.hid hc
        clear hsat hwat hsn hwx hsd2 hwd2 hgs hc
        dsimp only at hwbd
        simp only [Bool.false_eq_true, if_false]
        go_wp2_with fail
        refine Calls.mono (by have h := lSells_any l p (k : Int) _ HS.out.lot H9.out; rw [HLV.out, HSD2.out] at h; exact h) ?_
        rintro e w5 ⟨rfl, hb⟩
        clear c0 c1 c2 c3 c4 c5
        replace HV := Lib.hid (HV.out.later hb)
        replace HS := Lib.hid HV.out.1
        replace HX := Lib.hid ((hb.block _ (lt_of_block HX.out)).trans HX.out)
        clear hb
        obtain ⟨c0, c1, c2, c3, c4, c5⟩ := HCC.out _ HS.out
        dsimp only
        go_wp2_with fail
        refine Calls.mono (by have h := lWorth_any l p (k : Int) _ HS.out.lot H9.out; rw [HLV.out, HWD2.out] at h; exact h) ?_
        rintro e w6 ⟨rfl, hb⟩
        clear c0 c1 c2 c3 c4 c5
        obtain ⟨W6, hW6⟩ : ∃ W, W = w6.alloc (.cells #[.int .i64 wx, .int .i64 wy] 37) := ⟨_, rfl⟩
        have hb6 : Below w5.heap.size w5 W6 := by rw [hW6]; exact hb.alloc hb.size _
        have HLG : Hid (LawG l p w vb vx vy gb k w6.heap.size wx wy W6) := Lib.hid ⟨HV.out.later hb6, (hb6.block _ (lt_of_block HX.out)).trans HX.out, by rw [hW6]; exact heap_alloc_at _ _ _ rfl⟩
        obtain ⟨wb, hwb⟩ : ∃ x, x = w6.heap.size := ⟨_, rfl⟩
        rw [← hwb] at HLG
        clear hb hb6 HV HS HX
        obtain ⟨c0, c1, c2, c3, c4, c5⟩ := HCC.out _ HLG.out.v.1
        have hwl : IntKind.i64.wrap ((nl : Int) + 1) = (nl : Int) + 1 := by rw [IntWalk.i64_in _ (by omega)]
        dsimp only
        go_upto_region 26 with fail
        rw [← hW6, ← hwb]
        clear hW6 hwb
        go_wp2_with fail
        go_loopw [31, 32, 155] (fun av bv iv wr => ∃ j : Nat, j ≤ nl + 1 ∧ iv = .int .i64 j ∧ av = .int .i64 (worthQ l gs j).1 ∧ bv = .int .i64 (worthQ l gs j).2 ∧ LawG l p w vb vx vy gb k wb wx wy wr) (fun _ _ iv _ => nl + 1 - (intOf iv).toNat)
        case atStart => exact ⟨0, Nat.zero_le _, rfl, rfl, rfl, HLG.out⟩
        case round =>
          clear c0 c1 c2 c3 c4 c5 HLG
          obtain ⟨j, hj, rfl, rfl, rfl, hS⟩ := hrel
          have HLG := Lib.hid hS
          clear hS
          obtain ⟨c0, c1, c2, c3, c4, c5⟩ := HCC.out _ HLG.out.v.1
          obtain ⟨⟨xa, xb⟩, hxx⟩ : ∃ x, x = worthQ l gs j := ⟨_, rfl⟩
          rw [← hxx]
          dsimp only
          by_cases hjl : j < nl + 1
          · have hjli : (j : Int) < (nl : Int) + 1 := by omega
            have hwj : IntKind.i64.wrap ((j : Int) + 1) = (j : Int) + 1 := by rw [IntWalk.i64_in _ (by omega)]
            have hws := worthQ_succ l gs j
            rw [← hxx] at hws
            have HWS := Lib.hid hws
            clear hws hxx
            have hb1 := bit1_lot ⟨j, by omega⟩ ⟨gs, by omega⟩
            dsimp only at hb1
            have hmj : min j 64 = j := by omega
            cases hbit : gs.testBit j with
            | false =>
              rw [hbit] at hb1
              have HB1 := HWS.out
              rw [hbit, if_neg (by decide)] at HB1
              replace HB1 := Lib.hid HB1
              clear hbit
              go_wp2
              refine ⟨⟨j + 1, hjl, by simp, by rw [HB1.out], by rw [HB1.out], HLG.out⟩, by simp [intOf]; omega⟩
            | true =>
              rw [hbit] at hb1
              have HB1 := HWS.out
              rw [hbit, if_pos rfl] at HB1
              replace HB1 := Lib.hid HB1
              clear hbit
              have hpl : l.pays.length = l.lim.length := (validL_parts HVL.out).2.2.2.1
              have hnpl : np = nl := by rw [HNP.out, hpl, ← HNL.out]
              by_cases hjn : j < np
              · obtain ⟨ap', cp', hv', _, _, hel⟩ := HLG.out.v.1.lot.pay
                rw [HVP.out.2.2.1] at hv'
                injection hv' with e1 e2 e3
                subst e1 e3
                clear e2
                obtain ⟨ba, off, hao, _, _, e0⟩ := hel j (by rw [← HNP.out]; exact hjn)
                rw [hao] at c3
                have hpd : paidL l j = l.pays[j]'(by rw [← HNP.out]; exact hjn) := by unfold paidL; rw [List.getD_eq_getElem?_getD, List.getElem?_eq_getElem (by rw [← HNP.out]; exact hjn)]; rfl
                rw [← hpd] at e0
                obtain ⟨pd, hpd2⟩ : ∃ x, x = paidL l j := ⟨_, rfl⟩
                rw [← hpd2] at e0
                replace HB1 := Lib.hid (show _ = _ from (show worthQ l gs (j + 1) = (min xa pd, max xb pd) by rw [HB1.out, hpd2]))
                have hjni : (j : Int) < (np : Int) := by omega
                clear hel hao hpd hpd2 hpl
                go_wp2
                refine ⟨⟨j + 1, hjl, by simp, by rw [HB1.out, if_min], by rw [HB1.out, if_max], HLG.out⟩, by simp [intOf]; omega⟩
              · have hpd : paidL l j = 0 := by unfold paidL; rw [List.getD_eq_getElem?_getD, List.getElem?_eq_none (by rw [← HNP.out]; omega)]; rfl
                replace HB1 := Lib.hid (show _ = _ from (show worthQ l gs (j + 1) = (min xa 0, max xb 0) by rw [HB1.out, hpd]))
                have hjni : ¬ (j : Int) < (np : Int) := by omega
                clear hpd hpl
                go_wp2
                refine ⟨⟨j + 1, hjl, by simp, by rw [HB1.out, if_min], by rw [HB1.out, if_max], HLG.out⟩, by simp [intOf]; omega⟩
          · obtain rfl : j = nl + 1 := by omega
            have hjli : ¬ ((nl + 1 : Nat) : Int) < (nl : Int) + 1 := by omega
            have HXX := Lib.hid (show (xa, xb) = worthQ l gs (l.lim.length + 1) by rw [hxx, HNL.out])
            have hE2 : E = 0 ∨ E = 10 := by rw [HE.out, err_valid HVL.out]; cases clashL l <;> simp
            clear hxx
            rcases hE2 with rfl | rfl
            · as_aux_lemma =>
                have HSE := Lib.hid (HSN.out rfl)
                go_upto_region 36 with fail
                refine wp_region_held_drew (S := fun W => LawG l p w vb vx vy gb k wb wx wy W) rfl (LawG.later HLG.out (Below.refl _ _).drew) fun hS => ?_
                have hxw : (wx, wy) = (xa, xb) := by rw [HXX.out, HWX.out, if_pos rfl, HGS.out]; rfl
                obtain ⟨rfl, rfl⟩ := Prod.mk.inj hxw
                clear hxw
                refine wpAnyH_take (i := 0) (v := ?_) rfl (by kernel_rfl) (by kernel_rfl) (by kernel_rfl) (fun _ _ _ h => h) (Or.inl ⟨by rfl, ?_⟩) hS ?_
                rotate_left
                · (intro W hSw; obtain ⟨q0, q1, q2, q3, q4, q5⟩ := HCC.out W hSw.v.1; obtain ⟨q6, q7⟩ := span_cells hSw.b; go_simp; try with_reducible rfl)
                try simp only [List.getElem_toArray, List.getElem_cons_succ, List.getElem_cons_zero, Act.put, List.setIfInBounds_toArray, List.set_cons_zero, List.set_cons_succ]
                refine wpAnyH_take (i := 1) (v := ?_) rfl (by kernel_rfl) (by kernel_rfl) (by kernel_rfl) (fun _ _ _ h => h) (Or.inl ⟨by rfl, ?_⟩) hS ?_
                rotate_left
                · (intro W hSw; obtain ⟨q0, q1, q2, q3, q4, q5⟩ := HCC.out W hSw.v.1; obtain ⟨q6, q7⟩ := span_cells hSw.b; go_simp; try with_reducible rfl)
                try simp only [List.getElem_toArray, List.getElem_cons_succ, List.getElem_cons_zero, Act.put, List.setIfInBounds_toArray, List.set_cons_zero, List.set_cons_succ]
                refine wpAnyH_take (i := 2) (v := ?_) rfl (by kernel_rfl) (by kernel_rfl) (by kernel_rfl) (fun _ _ _ h => h) (Or.inl ⟨by rfl, ?_⟩) hS ?_
                rotate_left
                · (intro W hSw; obtain ⟨q0, q1, q2, q3, q4, q5⟩ := HCC.out W hSw.v.1; obtain ⟨q6, q7⟩ := span_cells hSw.b; go_simp; try with_reducible rfl)
                try simp only [List.getElem_toArray, List.getElem_cons_succ, List.getElem_cons_zero, Act.put, List.setIfInBounds_toArray, List.set_cons_zero, List.set_cons_succ]
                refine wpAnyH_take (i := 3) (v := ?_) rfl (by kernel_rfl) (by kernel_rfl) (by kernel_rfl) (fun _ _ _ h => h) (Or.inl ⟨by rfl, ?_⟩) hS ?_
                rotate_left
                · (intro W hSw; obtain ⟨q0, q1, q2, q3, q4, q5⟩ := HCC.out W hSw.v.1; obtain ⟨q6, q7⟩ := span_cells hSw.b; go_simp; try with_reducible rfl)
                try simp only [List.getElem_toArray, List.getElem_cons_succ, List.getElem_cons_zero, Act.put, List.setIfInBounds_toArray, List.set_cons_zero, List.set_cons_succ]
                refine wpAnyH_take (i := 4) (v := ?_) rfl (by kernel_rfl) (by kernel_rfl) (by kernel_rfl) (fun _ _ _ h => h) (Or.inl ⟨by rfl, ?_⟩) hS ?_
                rotate_left
                · (intro W hSw; obtain ⟨q0, q1, q2, q3, q4, q5⟩ := HCC.out W hSw.v.1; obtain ⟨q6, q7⟩ := span_cells hSw.b; go_simp; try with_reducible rfl)
                try simp only [List.getElem_toArray, List.getElem_cons_succ, List.getElem_cons_zero, Act.put, List.setIfInBounds_toArray, List.set_cons_zero, List.set_cons_succ]
                refine wpAnyH_take (i := 5) (v := ?_) rfl (by kernel_rfl) (by kernel_rfl) (by kernel_rfl) (fun _ _ _ h => h) (Or.inl ⟨by rfl, ?_⟩) hS ?_
                rotate_left
                · (intro W hSw; obtain ⟨q0, q1, q2, q3, q4, q5⟩ := HCC.out W hSw.v.1; obtain ⟨q6, q7⟩ := span_cells hSw.b; go_simp; try with_reducible rfl)
                try simp only [List.getElem_toArray, List.getElem_cons_succ, List.getElem_cons_zero, Act.put, List.setIfInBounds_toArray, List.set_cons_zero, List.set_cons_succ]
                refine wpAnyH_take (i := 6) (v := ?_) rfl (by kernel_rfl) (by kernel_rfl) (by kernel_rfl) (fun _ _ _ h => h) (Or.inl ⟨by rfl, ?_⟩) hS ?_
                rotate_left
                · (intro W hSw; obtain ⟨q0, q1, q2, q3, q4, q5⟩ := HCC.out W hSw.v.1; obtain ⟨q6, q7⟩ := span_cells hSw.b; go_simp; try with_reducible rfl)
                try simp only [List.getElem_toArray, List.getElem_cons_succ, List.getElem_cons_zero, Act.put, List.setIfInBounds_toArray, List.set_cons_zero, List.set_cons_succ]
                refine wpAnyH_take (i := 7) (v := ?_) rfl (by kernel_rfl) (by kernel_rfl) (by kernel_rfl) (fun _ _ _ h => h) (Or.inl ⟨by rfl, ?_⟩) hS ?_
                rotate_left
                · (intro W hSw; obtain ⟨q0, q1, q2, q3, q4, q5⟩ := HCC.out W hSw.v.1; obtain ⟨q6, q7⟩ := span_cells hSw.b; go_simp; try with_reducible rfl)
                try simp only [List.getElem_toArray, List.getElem_cons_succ, List.getElem_cons_zero, Act.put, List.setIfInBounds_toArray, List.set_cons_zero, List.set_cons_succ]
                refine wpAnyH_take (i := 8) (v := ?_) rfl (by kernel_rfl) (by kernel_rfl) (by kernel_rfl) (fun _ _ _ h => h) (Or.inl ⟨by rfl, ?_⟩) hS ?_
                rotate_left
                · (intro W hSw; obtain ⟨q0, q1, q2, q3, q4, q5⟩ := HCC.out W hSw.v.1; obtain ⟨q6, q7⟩ := span_cells hSw.b; go_simp; try with_reducible rfl)
                try simp only [List.getElem_toArray, List.getElem_cons_succ, List.getElem_cons_zero, Act.put, List.setIfInBounds_toArray, List.set_cons_zero, List.set_cons_succ]
                refine wpAnyH_take (i := 9) (v := ?_) rfl (by kernel_rfl) (by kernel_rfl) (by kernel_rfl) (fun _ _ _ h => h) (Or.inl ⟨by rfl, ?_⟩) hS ?_
                rotate_left
                · (intro W hSw; obtain ⟨q0, q1, q2, q3, q4, q5⟩ := HCC.out W hSw.v.1; obtain ⟨q6, q7⟩ := span_cells hSw.b; go_simp; try with_reducible rfl)
                try simp only [List.getElem_toArray, List.getElem_cons_succ, List.getElem_cons_zero, Act.put, List.setIfInBounds_toArray, List.set_cons_zero, List.set_cons_succ]
                refine wpAnyH_take (i := 10) (v := ?_) rfl (by kernel_rfl) (by kernel_rfl) (by kernel_rfl) (fun _ _ _ h => h) (Or.inl ⟨by rfl, ?_⟩) hS ?_
                rotate_left
                · (intro W hSw; obtain ⟨q0, q1, q2, q3, q4, q5⟩ := HCC.out W hSw.v.1; obtain ⟨q6, q7⟩ := span_cells hSw.b; go_simp; try with_reducible rfl)
                try simp only [List.getElem_toArray, List.getElem_cons_succ, List.getElem_cons_zero, Act.put, List.setIfInBounds_toArray, List.set_cons_zero, List.set_cons_succ]
                refine wpAnyH_take (i := 11) (v := ?_) rfl (by kernel_rfl) (by kernel_rfl) (by kernel_rfl) (fun _ _ _ h => h) (Or.inl ⟨by rfl, ?_⟩) hS ?_
                rotate_left
                · (intro W hSw; obtain ⟨q0, q1, q2, q3, q4, q5⟩ := HCC.out W hSw.v.1; obtain ⟨q6, q7⟩ := span_cells hSw.b; go_simp; try with_reducible rfl)
                try simp only [List.getElem_toArray, List.getElem_cons_succ, List.getElem_cons_zero, Act.put, List.setIfInBounds_toArray, List.set_cons_zero, List.set_cons_succ]
                refine wpAnyH_take (i := 12) (v := ?_) rfl (by kernel_rfl) (by kernel_rfl) (by kernel_rfl) (fun _ _ _ h => h) (Or.inl ⟨by rfl, ?_⟩) hS ?_
                rotate_left
                · (intro W hSw; obtain ⟨q0, q1, q2, q3, q4, q5⟩ := HCC.out W hSw.v.1; obtain ⟨q6, q7⟩ := span_cells hSw.b; go_simp; try with_reducible rfl)
                try simp only [List.getElem_toArray, List.getElem_cons_succ, List.getElem_cons_zero, Act.put, List.setIfInBounds_toArray, List.set_cons_zero, List.set_cons_succ]
                refine wpAnyH_take (i := 13) (v := ?_) rfl (by kernel_rfl) (by kernel_rfl) (by kernel_rfl) (fun _ _ _ h => h) (Or.inl ⟨by rfl, ?_⟩) hS ?_
                rotate_left
                · (intro W hSw; obtain ⟨q0, q1, q2, q3, q4, q5⟩ := HCC.out W hSw.v.1; obtain ⟨q6, q7⟩ := span_cells hSw.b; go_simp; try with_reducible rfl)
                try simp only [List.getElem_toArray, List.getElem_cons_succ, List.getElem_cons_zero, Act.put, List.setIfInBounds_toArray, List.set_cons_zero, List.set_cons_succ]
                refine wpAnyH_take (i := 14) (v := ?_) rfl (by kernel_rfl) (by kernel_rfl) (by kernel_rfl) (fun _ _ _ h => h) (Or.inl ⟨by rfl, ?_⟩) hS ?_
                rotate_left
                · (intro W hSw; obtain ⟨q0, q1, q2, q3, q4, q5⟩ := HCC.out W hSw.v.1; obtain ⟨q6, q7⟩ := span_cells hSw.b; go_simp; try with_reducible rfl)
                try simp only [List.getElem_toArray, List.getElem_cons_succ, List.getElem_cons_zero, Act.put, List.setIfInBounds_toArray, List.set_cons_zero, List.set_cons_succ]
                refine wpAnyH_ready (rs := [15]) (by kernel_rfl) (by simp) ?_
                refine AllReadyH.cons rfl (fun K hK => ?_) AllReadyH.nil
                go_simp
                refine Calls.mono (span13_any wx wy _) ?_
                rintro e wz ⟨rfl, hb⟩
                dsimp only
                refine hK.out _ _ (hS.later hb) (fun hS => ?_)
                clear hb hK K
                try simp only [List.getElem_toArray, List.getElem_cons_succ, List.getElem_cons_zero, Act.put, List.setIfInBounds_toArray, List.set_cons_zero, List.set_cons_succ]
                refine wpAnyH_take (i := 16) (v := ?_) rfl (by kernel_rfl) (by kernel_rfl) (by kernel_rfl) (fun _ _ _ h => h) (Or.inl ⟨by rfl, ?_⟩) hS ?_
                rotate_left
                · (intro W hSw; obtain ⟨q0, q1, q2, q3, q4, q5⟩ := HCC.out W hSw.v.1; obtain ⟨q6, q7⟩ := span_cells hSw.b; go_simp; try with_reducible rfl)
                try simp only [List.getElem_toArray, List.getElem_cons_succ, List.getElem_cons_zero, Act.put, List.setIfInBounds_toArray, List.set_cons_zero, List.set_cons_succ]
                refine wpAnyH_take (i := 17) (v := ?_) rfl (by kernel_rfl) (by kernel_rfl) (by kernel_rfl) (fun _ _ _ h => h) (Or.inl ⟨by rfl, ?_⟩) hS ?_
                rotate_left
                · (intro W hSw; obtain ⟨q0, q1, q2, q3, q4, q5⟩ := HCC.out W hSw.v.1; obtain ⟨q6, q7⟩ := span_cells hSw.b; go_simp; try with_reducible rfl)
                try simp only [List.getElem_toArray, List.getElem_cons_succ, List.getElem_cons_zero, Act.put, List.setIfInBounds_toArray, List.set_cons_zero, List.set_cons_succ]
                refine wpAnyH_take (i := 18) (v := ?_) rfl (by kernel_rfl) (by kernel_rfl) (by kernel_rfl) (fun _ _ _ h => h) (Or.inl ⟨by rfl, ?_⟩) hS ?_
                rotate_left
                · (intro W hSw; obtain ⟨q0, q1, q2, q3, q4, q5⟩ := HCC.out W hSw.v.1; obtain ⟨q6, q7⟩ := span_cells hSw.b; go_simp; try with_reducible rfl)
                try simp only [List.getElem_toArray, List.getElem_cons_succ, List.getElem_cons_zero, Act.put, List.setIfInBounds_toArray, List.set_cons_zero, List.set_cons_succ]
                refine wpAnyH_done (by kernel_rfl) ?_ _
                have HLG := Lib.hid hS
                clear hS HXX
                obtain ⟨c0, c1, c2, c3, c4, c5⟩ := HCC.out _ HLG.out.v.1
                go_wp2_with fail
                go_loopw [202] (fun iv wr => ∃ j : Nat, j ≤ nl ∧ iv = .int .i64 j ∧ LawG l p w vb vx vy gb k wb wx wy wr) (fun iv _ => nl - (intOf iv).toNat)
                case atStart => exact ⟨0, Nat.zero_le _, rfl, HLG.out⟩
                case round =>
                  clear c0 c1 c2 c3 c4 c5 HLG
                  obtain ⟨j, hj, rfl, hS⟩ := hrel
                  have HLG := Lib.hid hS
                  clear hS
                  obtain ⟨c0, c1, c2, c3, c4, c5⟩ := HCC.out _ HLG.out.v.1
                  by_cases hjl : j < nl
                  · have hjli : (j : Int) < (nl : Int) := by omega
                    have hwj : IntKind.i64.wrap ((j : Int) + 1) = (j : Int) + 1 := by rw [IntWalk.i64_in _ (by omega)]
                    go_wp2_with (first | (refine wpList_load_row rfl 53 _ rfl gb rfl 53 (gradeC p.lims (l.blocks.getD k []) l.step).toArray (0, 0) _ HLG.out.g underGrade rfl (gradeC_size _ H5.out _) ?_))
                    refine Calls.mono (gSure_any (gradeL l k) H5.out p.lims (j : Int) _ HLG.out.v.1.lot.lim H9.out.a) ?_
                    rintro e w7 ⟨rfl, hb⟩
                    obtain ⟨k1, k2⟩ := sureD_at HVL.out HBL.out (show j < l.lim.length by rw [← HNL.out]; exact hjl) HCL.out
                    rw [k1]
                    clear c0 c1 c2 c3 c4 c5 k1
                    replace HLG := Lib.hid (HLG.out.later hb)
                    clear hb
                    obtain ⟨c0, c1, c2, c3, c4, c5⟩ := HCC.out _ HLG.out.v.1
                    dsimp only
                    have k3 : sn ≤ (j : Int) ↔ sureL l k j = true := by
                      rw [HSE.out, ← sells_le k j (show j < l.lim.length by rw [← HNL.out]; exact hjl)]
                      omega
                    cases hs : sureL l k j with
                    | true =>
                      rw [k2.2 hs]
                      have k4 : sn ≤ (j : Int) := k3.2 hs
                      clear k2 k3 hs
                      go_wp2
                      exact ⟨⟨j + 1, hjl, by simp, HLG.out⟩, by simp [intOf]; omega⟩
                    | false =>
                      have k4 : ¬ sn ≤ (j : Int) := fun h => by rw [k3.1 h] at hs; cases hs
                      have k5 : ¬ (sureD (gradeL l k) (j : Int)).1 = 2 := fun h => by rw [k2.1 h] at hs; cases hs
                      generalize (sureD (gradeL l k) (j : Int)).1 = sv at *
                      clear k2 k3 hs
                      go_wp2
                      exact ⟨⟨j + 1, hjl, by simp, HLG.out⟩, by simp [intOf]; omega⟩
                  · obtain rfl : j = nl := by omega
                    have hjli : ¬ (j : Int) < (j : Int) := by omega
                    have hw1 : IntKind.i64.wrap (lo + wx) = lo + wx := by rw [IntWalk.i64_in _ (by omega)]
                    have hw2 : IntKind.i64.wrap (hi + wy) = hi + wy := by rw [IntWalk.i64_in _ (by omega)]
                    go_upto_region 45 with fail
                    refine wp_region_held_drew (S := fun W => LawG l p w vb vx vy gb k wb wx wy W) rfl (LawG.later HLG.out (Below.refl _ _).drew) fun hS => ?_
                    refine wpAnyH_take (i := 0) (v := ?_) rfl (by kernel_rfl) (by kernel_rfl) (by kernel_rfl) (fun _ _ _ h => h) (Or.inl ⟨by rfl, ?_⟩) hS ?_
                    rotate_left
                    · (intro W hSw; obtain ⟨q0, q1, q2, q3, q4, q5⟩ := HCC.out W hSw.v.1; obtain ⟨q6, q7⟩ := span_cells hSw.b; go_simp; try with_reducible rfl)
                    try simp only [List.getElem_toArray, List.getElem_cons_succ, List.getElem_cons_zero, Act.put, List.setIfInBounds_toArray, List.set_cons_zero, List.set_cons_succ]
                    refine wpAnyH_take (i := 1) (v := ?_) rfl (by kernel_rfl) (by kernel_rfl) (by kernel_rfl) (fun _ _ _ h => h) (Or.inl ⟨by rfl, ?_⟩) hS ?_
                    rotate_left
                    · (intro W hSw; obtain ⟨q0, q1, q2, q3, q4, q5⟩ := HCC.out W hSw.v.1; obtain ⟨q6, q7⟩ := span_cells hSw.b; go_simp; try with_reducible rfl)
                    try simp only [List.getElem_toArray, List.getElem_cons_succ, List.getElem_cons_zero, Act.put, List.setIfInBounds_toArray, List.set_cons_zero, List.set_cons_succ]
                    refine wpAnyH_take (i := 2) (v := ?_) rfl (by kernel_rfl) (by kernel_rfl) (by kernel_rfl) (fun _ _ _ h => h) (Or.inl ⟨by rfl, ?_⟩) hS ?_
                    rotate_left
                    · (intro W hSw; obtain ⟨q0, q1, q2, q3, q4, q5⟩ := HCC.out W hSw.v.1; obtain ⟨q6, q7⟩ := span_cells hSw.b; go_simp; try with_reducible rfl)
                    try simp only [List.getElem_toArray, List.getElem_cons_succ, List.getElem_cons_zero, Act.put, List.setIfInBounds_toArray, List.set_cons_zero, List.set_cons_succ]
                    refine wpAnyH_take (i := 3) (v := ?_) rfl (by kernel_rfl) (by kernel_rfl) (by kernel_rfl) (fun _ _ _ h => h) (Or.inl ⟨by rfl, ?_⟩) hS ?_
                    rotate_left
                    · (intro W hSw; obtain ⟨q0, q1, q2, q3, q4, q5⟩ := HCC.out W hSw.v.1; obtain ⟨q6, q7⟩ := span_cells hSw.b; go_simp; try with_reducible rfl)
                    try simp only [List.getElem_toArray, List.getElem_cons_succ, List.getElem_cons_zero, Act.put, List.setIfInBounds_toArray, List.set_cons_zero, List.set_cons_succ]
                    refine wpAnyH_take (i := 4) (v := ?_) rfl (by kernel_rfl) (by kernel_rfl) (by kernel_rfl) (fun _ _ _ h => h) (Or.inl ⟨by rfl, ?_⟩) hS ?_
                    rotate_left
                    · (intro W hSw; obtain ⟨q0, q1, q2, q3, q4, q5⟩ := HCC.out W hSw.v.1; obtain ⟨q6, q7⟩ := span_cells hSw.b; go_simp; try with_reducible rfl)
                    try simp only [List.getElem_toArray, List.getElem_cons_succ, List.getElem_cons_zero, Act.put, List.setIfInBounds_toArray, List.set_cons_zero, List.set_cons_succ]
                    refine wpAnyH_take (i := 5) (v := ?_) rfl (by kernel_rfl) (by kernel_rfl) (by kernel_rfl) (fun _ _ _ h => h) (Or.inl ⟨by rfl, ?_⟩) hS ?_
                    rotate_left
                    · (intro W hSw; obtain ⟨q0, q1, q2, q3, q4, q5⟩ := HCC.out W hSw.v.1; obtain ⟨q6, q7⟩ := span_cells hSw.b; go_simp; try with_reducible rfl)
                    try simp only [List.getElem_toArray, List.getElem_cons_succ, List.getElem_cons_zero, Act.put, List.setIfInBounds_toArray, List.set_cons_zero, List.set_cons_succ]
                    refine wpAnyH_take (i := 6) (v := ?_) rfl (by kernel_rfl) (by kernel_rfl) (by kernel_rfl) (fun _ _ _ h => h) (Or.inl ⟨by rfl, ?_⟩) hS ?_
                    rotate_left
                    · (intro W hSw; obtain ⟨q0, q1, q2, q3, q4, q5⟩ := HCC.out W hSw.v.1; obtain ⟨q6, q7⟩ := span_cells hSw.b; go_simp; try with_reducible rfl)
                    try simp only [List.getElem_toArray, List.getElem_cons_succ, List.getElem_cons_zero, Act.put, List.setIfInBounds_toArray, List.set_cons_zero, List.set_cons_succ]
                    refine wpAnyH_take (i := 7) (v := ?_) rfl (by kernel_rfl) (by kernel_rfl) (by kernel_rfl) (fun _ _ _ h => h) (Or.inl ⟨by rfl, ?_⟩) hS ?_
                    rotate_left
                    · (intro W hSw; obtain ⟨q0, q1, q2, q3, q4, q5⟩ := HCC.out W hSw.v.1; obtain ⟨q6, q7⟩ := span_cells hSw.b; go_simp; try with_reducible rfl)
                    try simp only [List.getElem_toArray, List.getElem_cons_succ, List.getElem_cons_zero, Act.put, List.setIfInBounds_toArray, List.set_cons_zero, List.set_cons_succ]
                    refine wpAnyH_take (i := 8) (v := ?_) rfl (by kernel_rfl) (by kernel_rfl) (by kernel_rfl) (fun _ _ _ h => h) (Or.inl ⟨by rfl, ?_⟩) hS ?_
                    rotate_left
                    · (intro W hSw; obtain ⟨q0, q1, q2, q3, q4, q5⟩ := HCC.out W hSw.v.1; obtain ⟨q6, q7⟩ := span_cells hSw.b; go_simp; try with_reducible rfl)
                    try simp only [List.getElem_toArray, List.getElem_cons_succ, List.getElem_cons_zero, Act.put, List.setIfInBounds_toArray, List.set_cons_zero, List.set_cons_succ]
                    refine wpAnyH_take (i := 9) (v := ?_) rfl (by kernel_rfl) (by kernel_rfl) (by kernel_rfl) (fun _ _ _ h => h) (Or.inl ⟨by rfl, ?_⟩) hS ?_
                    rotate_left
                    · (intro W hSw; obtain ⟨q0, q1, q2, q3, q4, q5⟩ := HCC.out W hSw.v.1; obtain ⟨q6, q7⟩ := span_cells hSw.b; go_simp; try with_reducible rfl)
                    try simp only [List.getElem_toArray, List.getElem_cons_succ, List.getElem_cons_zero, Act.put, List.setIfInBounds_toArray, List.set_cons_zero, List.set_cons_succ]
                    refine wpAnyH_done (by kernel_rfl) ?_ _
                    clear c0 c1 c2 c3 c4 c5
                    replace HLG := Lib.hid hS
                    clear hS
                    obtain ⟨c0, c1, c2, c3, c4, c5⟩ := HCC.out _ HLG.out.v.1
                    have e1 : clashP l (k + 1) = ck := by rw [clashP_succ, HCL.out, Bool.or_false, HK.out.1]
                    have e2 : lowP l (k + 1) = (lo + wx, hi + wy) := by rw [lowP_succ, if_neg (by rw [HCL.out]; decide), ← HK.out.2.1, ← HWK.out]; rfl
                    have e3 := allP_succ l k
                    have e4 := someP_succ l k
                    rw [← HGS.out, ← HNL.out, ← HK.out.2.2.1] at e3
                    rw [← HGS.out, ← HNL.out, ← HK.out.2.2.2] at e4
                    have HEE := Lib.hid (And.intro e1 (And.intro e2 (And.intro e3 e4)))
                    clear e1 e2 e3 e4
                    have hp1 := pow_i64L ⟨j, by omega⟩
                    have hp2 := pow_i64L ⟨k, by omega⟩
                    have ho1 := or_i64L ⟨k, by omega⟩ ⟨ak, hal⟩
                    have ho2 := or_i64L ⟨k, by omega⟩ ⟨sk, hsl⟩
                    have hb1 := bit1_lot ⟨j, by omega⟩ ⟨gs, by omega⟩
                    dsimp only at hp1 hp2 ho1 ho2 hb1
                    have hmj : min j 64 = j := by omega
                    have hmk : min k 64 = k := by omega
                    obtain ⟨q, hq⟩ : ∃ q, q = 2 ^ j := ⟨_, rfl⟩
                    obtain ⟨r, hr⟩ : ∃ r, r = 2 ^ k := ⟨_, rfl⟩
                    rw [← hq] at hp1
                    rw [← hr] at hp2 ho1 ho2
                    have HQR := Lib.hid (And.intro hq hr)
                    clear hw1 hw2
                    by_cases hgq : gs = q
                    · have ht : gs.testBit j = true := by rw [hgq, hq]; exact Nat.testBit_two_pow_self
                      rw [ht] at hb1
                      have HT := Lib.hid ht
                      clear ht hq hr
                      subst hgq
                      go_wp2
                      refine ⟨⟨k + 1, hlt, by simp, by rw [HEE.out.1], by rw [HEE.out.2.1], by rw [HEE.out.2.1], by rw [HEE.out.2.2.1, ← HQR.out.1, if_pos rfl, ← HQR.out.2], by rw [HEE.out.2.2.2, if_pos HT.out, ← HQR.out.2], HLG.out.v⟩, by simp [intOf]; omega⟩
                    · have HGQ := Lib.hid hgq
                      cases ht : gs.testBit j with
                      | true =>
                        rw [ht] at hb1
                        have HT := Lib.hid ht
                        clear ht hq hr
                        go_wp2
                        refine ⟨⟨k + 1, hlt, by simp, by rw [HEE.out.1], by rw [HEE.out.2.1], by rw [HEE.out.2.1], by rw [HEE.out.2.2.1, ← HQR.out.1, if_neg HGQ.out], by rw [HEE.out.2.2.2, if_pos HT.out, ← HQR.out.2], HLG.out.v⟩, by simp [intOf]; omega⟩
                      | false =>
                        rw [ht] at hb1
                        have HT := Lib.hid (show ¬ gs.testBit j = true by rw [ht]; decide)
                        clear ht hq hr
                        go_wp2
                        refine ⟨⟨k + 1, hlt, by simp, by rw [HEE.out.1], by rw [HEE.out.2.1], by rw [HEE.out.2.1], by rw [HEE.out.2.2.1, ← HQR.out.1, if_neg HGQ.out], by rw [HEE.out.2.2.2, if_neg HT.out], HLG.out.v⟩, by simp [intOf]; omega⟩
            · as_aux_lemma =>
                go_upto_region 36 with fail
                refine wp_region_held_drew (S := fun W => LawG l p w vb vx vy gb k wb wx wy W) rfl (LawG.later HLG.out (Below.refl _ _).drew) fun hS => ?_
                refine wpAnyH_take (i := 0) (v := ?_) rfl (by kernel_rfl) (by kernel_rfl) (by kernel_rfl) (fun _ _ _ h => h) (Or.inl ⟨by rfl, ?_⟩) hS ?_
                rotate_left
                · (intro W hSw; obtain ⟨q0, q1, q2, q3, q4, q5⟩ := HCC.out W hSw.v.1; obtain ⟨q6, q7⟩ := span_cells hSw.b; go_simp; try with_reducible rfl)
                try simp only [List.getElem_toArray, List.getElem_cons_succ, List.getElem_cons_zero, Act.put, List.setIfInBounds_toArray, List.set_cons_zero, List.set_cons_succ]
                refine wpAnyH_take (i := 1) (v := ?_) rfl (by kernel_rfl) (by kernel_rfl) (by kernel_rfl) (fun _ _ _ h => h) (Or.inl ⟨by rfl, ?_⟩) hS ?_
                rotate_left
                · (intro W hSw; obtain ⟨q0, q1, q2, q3, q4, q5⟩ := HCC.out W hSw.v.1; obtain ⟨q6, q7⟩ := span_cells hSw.b; go_simp; try with_reducible rfl)
                try simp only [List.getElem_toArray, List.getElem_cons_succ, List.getElem_cons_zero, Act.put, List.setIfInBounds_toArray, List.set_cons_zero, List.set_cons_succ]
                refine wpAnyH_take (i := 2) (v := ?_) rfl (by kernel_rfl) (by kernel_rfl) (by kernel_rfl) (fun _ _ _ h => h) (Or.inl ⟨by rfl, ?_⟩) hS ?_
                rotate_left
                · (intro W hSw; obtain ⟨q0, q1, q2, q3, q4, q5⟩ := HCC.out W hSw.v.1; obtain ⟨q6, q7⟩ := span_cells hSw.b; go_simp; try with_reducible rfl)
                try simp only [List.getElem_toArray, List.getElem_cons_succ, List.getElem_cons_zero, Act.put, List.setIfInBounds_toArray, List.set_cons_zero, List.set_cons_succ]
                refine wpAnyH_take (i := 3) (v := ?_) rfl (by kernel_rfl) (by kernel_rfl) (by kernel_rfl) (fun _ _ _ h => h) (Or.inl ⟨by rfl, ?_⟩) hS ?_
                rotate_left
                · (intro W hSw; obtain ⟨q0, q1, q2, q3, q4, q5⟩ := HCC.out W hSw.v.1; obtain ⟨q6, q7⟩ := span_cells hSw.b; go_simp; try with_reducible rfl)
                try simp only [List.getElem_toArray, List.getElem_cons_succ, List.getElem_cons_zero, Act.put, List.setIfInBounds_toArray, List.set_cons_zero, List.set_cons_succ]
                refine wpAnyH_take (i := 4) (v := ?_) rfl (by kernel_rfl) (by kernel_rfl) (by kernel_rfl) (fun _ _ _ h => h) (Or.inl ⟨by rfl, ?_⟩) hS ?_
                rotate_left
                · (intro W hSw; obtain ⟨q0, q1, q2, q3, q4, q5⟩ := HCC.out W hSw.v.1; obtain ⟨q6, q7⟩ := span_cells hSw.b; go_simp; try with_reducible rfl)
                try simp only [List.getElem_toArray, List.getElem_cons_succ, List.getElem_cons_zero, Act.put, List.setIfInBounds_toArray, List.set_cons_zero, List.set_cons_succ]
                refine wpAnyH_take (i := 5) (v := ?_) rfl (by kernel_rfl) (by kernel_rfl) (by kernel_rfl) (fun _ _ _ h => h) (Or.inl ⟨by rfl, ?_⟩) hS ?_
                rotate_left
                · (intro W hSw; obtain ⟨q0, q1, q2, q3, q4, q5⟩ := HCC.out W hSw.v.1; obtain ⟨q6, q7⟩ := span_cells hSw.b; go_simp; try with_reducible rfl)
                try simp only [List.getElem_toArray, List.getElem_cons_succ, List.getElem_cons_zero, Act.put, List.setIfInBounds_toArray, List.set_cons_zero, List.set_cons_succ]
                refine wpAnyH_take (i := 6) (v := ?_) rfl (by kernel_rfl) (by kernel_rfl) (by kernel_rfl) (fun _ _ _ h => h) (Or.inl ⟨by rfl, ?_⟩) hS ?_
                rotate_left
                · (intro W hSw; obtain ⟨q0, q1, q2, q3, q4, q5⟩ := HCC.out W hSw.v.1; obtain ⟨q6, q7⟩ := span_cells hSw.b; go_simp; try with_reducible rfl)
                try simp only [List.getElem_toArray, List.getElem_cons_succ, List.getElem_cons_zero, Act.put, List.setIfInBounds_toArray, List.set_cons_zero, List.set_cons_succ]
                refine wpAnyH_take (i := 7) (v := ?_) rfl (by kernel_rfl) (by kernel_rfl) (by kernel_rfl) (fun _ _ _ h => h) (Or.inl ⟨by rfl, ?_⟩) hS ?_
                rotate_left
                · (intro W hSw; obtain ⟨q0, q1, q2, q3, q4, q5⟩ := HCC.out W hSw.v.1; obtain ⟨q6, q7⟩ := span_cells hSw.b; go_simp; try with_reducible rfl)
                try simp only [List.getElem_toArray, List.getElem_cons_succ, List.getElem_cons_zero, Act.put, List.setIfInBounds_toArray, List.set_cons_zero, List.set_cons_succ]
                refine wpAnyH_take (i := 8) (v := ?_) rfl (by kernel_rfl) (by kernel_rfl) (by kernel_rfl) (fun _ _ _ h => h) (Or.inl ⟨by rfl, ?_⟩) hS ?_
                rotate_left
                · (intro W hSw; obtain ⟨q0, q1, q2, q3, q4, q5⟩ := HCC.out W hSw.v.1; obtain ⟨q6, q7⟩ := span_cells hSw.b; go_simp; try with_reducible rfl)
                try simp only [List.getElem_toArray, List.getElem_cons_succ, List.getElem_cons_zero, Act.put, List.setIfInBounds_toArray, List.set_cons_zero, List.set_cons_succ]
                refine wpAnyH_take (i := 9) (v := ?_) rfl (by kernel_rfl) (by kernel_rfl) (by kernel_rfl) (fun _ _ _ h => h) (Or.inl ⟨by rfl, ?_⟩) hS ?_
                rotate_left
                · (intro W hSw; obtain ⟨q0, q1, q2, q3, q4, q5⟩ := HCC.out W hSw.v.1; obtain ⟨q6, q7⟩ := span_cells hSw.b; go_simp; try with_reducible rfl)
                try simp only [List.getElem_toArray, List.getElem_cons_succ, List.getElem_cons_zero, Act.put, List.setIfInBounds_toArray, List.set_cons_zero, List.set_cons_succ]
                refine wpAnyH_take (i := 10) (v := ?_) rfl (by kernel_rfl) (by kernel_rfl) (by kernel_rfl) (fun _ _ _ h => h) (Or.inl ⟨by rfl, ?_⟩) hS ?_
                rotate_left
                · (intro W hSw; obtain ⟨q0, q1, q2, q3, q4, q5⟩ := HCC.out W hSw.v.1; obtain ⟨q6, q7⟩ := span_cells hSw.b; go_simp; try with_reducible rfl)
                try simp only [List.getElem_toArray, List.getElem_cons_succ, List.getElem_cons_zero, Act.put, List.setIfInBounds_toArray, List.set_cons_zero, List.set_cons_succ]
                refine wpAnyH_take (i := 11) (v := ?_) rfl (by kernel_rfl) (by kernel_rfl) (by kernel_rfl) (fun _ _ _ h => h) (Or.inl ⟨by rfl, ?_⟩) hS ?_
                rotate_left
                · (intro W hSw; obtain ⟨q0, q1, q2, q3, q4, q5⟩ := HCC.out W hSw.v.1; obtain ⟨q6, q7⟩ := span_cells hSw.b; go_simp; try with_reducible rfl)
                try simp only [List.getElem_toArray, List.getElem_cons_succ, List.getElem_cons_zero, Act.put, List.setIfInBounds_toArray, List.set_cons_zero, List.set_cons_succ]
                refine wpAnyH_take (i := 12) (v := undef) rfl (by kernel_rfl) (by kernel_rfl) (by kernel_rfl) (fun _ _ _ h => h) (.inr ⟨rfl, rfl⟩) hS ?_
                try simp only [List.getElem_toArray, List.getElem_cons_succ, List.getElem_cons_zero, Act.put, List.setIfInBounds_toArray, List.set_cons_zero, List.set_cons_succ]
                refine wpAnyH_take (i := 13) (v := undef) rfl (by kernel_rfl) (by kernel_rfl) (by kernel_rfl) (fun _ _ _ h => h) (.inr ⟨rfl, rfl⟩) hS ?_
                try simp only [List.getElem_toArray, List.getElem_cons_succ, List.getElem_cons_zero, Act.put, List.setIfInBounds_toArray, List.set_cons_zero, List.set_cons_succ]
                refine wpAnyH_take (i := 14) (v := undef) rfl (by kernel_rfl) (by kernel_rfl) (by kernel_rfl) (fun _ _ _ h => h) (.inr ⟨rfl, rfl⟩) hS ?_
                try simp only [List.getElem_toArray, List.getElem_cons_succ, List.getElem_cons_zero, Act.put, List.setIfInBounds_toArray, List.set_cons_zero, List.set_cons_succ]
                refine wpAnyH_take (i := 15) (v := undef) rfl (by kernel_rfl) (by kernel_rfl) (by kernel_rfl) (fun _ _ _ h => h) (.inr ⟨rfl, rfl⟩) hS ?_
                try simp only [List.getElem_toArray, List.getElem_cons_succ, List.getElem_cons_zero, Act.put, List.setIfInBounds_toArray, List.set_cons_zero, List.set_cons_succ]
                refine wpAnyH_take (i := 16) (v := undef) rfl (by kernel_rfl) (by kernel_rfl) (by kernel_rfl) (fun _ _ _ h => h) (.inr ⟨rfl, rfl⟩) hS ?_
                try simp only [List.getElem_toArray, List.getElem_cons_succ, List.getElem_cons_zero, Act.put, List.setIfInBounds_toArray, List.set_cons_zero, List.set_cons_succ]
                refine wpAnyH_take (i := 17) (v := ?_) rfl (by kernel_rfl) (by kernel_rfl) (by kernel_rfl) (fun _ _ _ h => h) (Or.inl ⟨by rfl, ?_⟩) hS ?_
                rotate_left
                · (intro W hSw; obtain ⟨q0, q1, q2, q3, q4, q5⟩ := HCC.out W hSw.v.1; obtain ⟨q6, q7⟩ := span_cells hSw.b; go_simp; try with_reducible rfl)
                try simp only [List.getElem_toArray, List.getElem_cons_succ, List.getElem_cons_zero, Act.put, List.setIfInBounds_toArray, List.set_cons_zero, List.set_cons_succ]
                refine wpAnyH_take (i := 18) (v := ?_) rfl (by kernel_rfl) (by kernel_rfl) (by kernel_rfl) (fun _ _ _ h => h) (Or.inl ⟨by rfl, ?_⟩) hS ?_
                rotate_left
                · (intro W hSw; obtain ⟨q0, q1, q2, q3, q4, q5⟩ := HCC.out W hSw.v.1; obtain ⟨q6, q7⟩ := span_cells hSw.b; go_simp; try with_reducible rfl)
                try simp only [List.getElem_toArray, List.getElem_cons_succ, List.getElem_cons_zero, Act.put, List.setIfInBounds_toArray, List.set_cons_zero, List.set_cons_succ]
                refine wpAnyH_done (by kernel_rfl) ?_ _
                have HLG := Lib.hid hS
                clear hS HXX
                obtain ⟨c0, c1, c2, c3, c4, c5⟩ := HCC.out _ HLG.out.v.1
                go_wp2_with fail
                go_loopw [202] (fun iv wr => ∃ j : Nat, j ≤ nl ∧ iv = .int .i64 j ∧ LawG l p w vb vx vy gb k wb wx wy wr) (fun iv _ => nl - (intOf iv).toNat)
                case atStart => exact ⟨0, Nat.zero_le _, rfl, HLG.out⟩
                case round =>
                  clear c0 c1 c2 c3 c4 c5 HLG
                  obtain ⟨j, hj, rfl, hS⟩ := hrel
                  have HLG := Lib.hid hS
                  clear hS
                  obtain ⟨c0, c1, c2, c3, c4, c5⟩ := HCC.out _ HLG.out.v.1
                  by_cases hjl : j < nl
                  · have hjli : (j : Int) < (nl : Int) := by omega
                    have hwj : IntKind.i64.wrap ((j : Int) + 1) = (j : Int) + 1 := by rw [IntWalk.i64_in _ (by omega)]
                    go_wp2_with (first | (refine wpList_load_row rfl 53 _ rfl gb rfl 53 (gradeC p.lims (l.blocks.getD k []) l.step).toArray (0, 0) _ HLG.out.g underGrade rfl (gradeC_size _ H5.out _) ?_))
                    refine Calls.mono (gSure_any (gradeL l k) H5.out p.lims (j : Int) _ HLG.out.v.1.lot.lim H9.out.a) ?_
                    rintro e w7 ⟨rfl, hb⟩
                    obtain ⟨k1, k2⟩ := sureD_at HVL.out HBL.out (show j < l.lim.length by rw [← HNL.out]; exact hjl) HCL.out
                    rw [k1]
                    clear c0 c1 c2 c3 c4 c5 k1
                    replace HLG := Lib.hid (HLG.out.later hb)
                    clear hb
                    obtain ⟨c0, c1, c2, c3, c4, c5⟩ := HCC.out _ HLG.out.v.1
                    dsimp only
                    generalize (sureD (gradeL l k) (j : Int)).1 = sv at *
                    clear k2
                    go_wp2
                    exact ⟨⟨j + 1, hjl, by simp, HLG.out⟩, by simp [intOf]; omega⟩
                  · obtain rfl : j = nl := by omega
                    have hjli : ¬ (j : Int) < (j : Int) := by omega
                    have hw1 : IntKind.i64.wrap (lo + wx) = lo + wx := by rw [IntWalk.i64_in _ (by omega)]
                    have hw2 : IntKind.i64.wrap (hi + wy) = hi + wy := by rw [IntWalk.i64_in _ (by omega)]
                    go_upto_region 45 with fail
                    refine wp_region_held_drew (S := fun W => LawG l p w vb vx vy gb k wb wx wy W) rfl (LawG.later HLG.out (Below.refl _ _).drew) fun hS => ?_
                    refine wpAnyH_take (i := 0) (v := ?_) rfl (by kernel_rfl) (by kernel_rfl) (by kernel_rfl) (fun _ _ _ h => h) (Or.inl ⟨by rfl, ?_⟩) hS ?_
                    rotate_left
                    · (intro W hSw; obtain ⟨q0, q1, q2, q3, q4, q5⟩ := HCC.out W hSw.v.1; obtain ⟨q6, q7⟩ := span_cells hSw.b; go_simp; try with_reducible rfl)
                    try simp only [List.getElem_toArray, List.getElem_cons_succ, List.getElem_cons_zero, Act.put, List.setIfInBounds_toArray, List.set_cons_zero, List.set_cons_succ]
                    refine wpAnyH_take (i := 1) (v := ?_) rfl (by kernel_rfl) (by kernel_rfl) (by kernel_rfl) (fun _ _ _ h => h) (Or.inl ⟨by rfl, ?_⟩) hS ?_
                    rotate_left
                    · (intro W hSw; obtain ⟨q0, q1, q2, q3, q4, q5⟩ := HCC.out W hSw.v.1; obtain ⟨q6, q7⟩ := span_cells hSw.b; go_simp; try with_reducible rfl)
                    try simp only [List.getElem_toArray, List.getElem_cons_succ, List.getElem_cons_zero, Act.put, List.setIfInBounds_toArray, List.set_cons_zero, List.set_cons_succ]
                    refine wpAnyH_take (i := 2) (v := ?_) rfl (by kernel_rfl) (by kernel_rfl) (by kernel_rfl) (fun _ _ _ h => h) (Or.inl ⟨by rfl, ?_⟩) hS ?_
                    rotate_left
                    · (intro W hSw; obtain ⟨q0, q1, q2, q3, q4, q5⟩ := HCC.out W hSw.v.1; obtain ⟨q6, q7⟩ := span_cells hSw.b; go_simp; try with_reducible rfl)
                    try simp only [List.getElem_toArray, List.getElem_cons_succ, List.getElem_cons_zero, Act.put, List.setIfInBounds_toArray, List.set_cons_zero, List.set_cons_succ]
                    refine wpAnyH_take (i := 3) (v := ?_) rfl (by kernel_rfl) (by kernel_rfl) (by kernel_rfl) (fun _ _ _ h => h) (Or.inl ⟨by rfl, ?_⟩) hS ?_
                    rotate_left
                    · (intro W hSw; obtain ⟨q0, q1, q2, q3, q4, q5⟩ := HCC.out W hSw.v.1; obtain ⟨q6, q7⟩ := span_cells hSw.b; go_simp; try with_reducible rfl)
                    try simp only [List.getElem_toArray, List.getElem_cons_succ, List.getElem_cons_zero, Act.put, List.setIfInBounds_toArray, List.set_cons_zero, List.set_cons_succ]
                    refine wpAnyH_take (i := 4) (v := ?_) rfl (by kernel_rfl) (by kernel_rfl) (by kernel_rfl) (fun _ _ _ h => h) (Or.inl ⟨by rfl, ?_⟩) hS ?_
                    rotate_left
                    · (intro W hSw; obtain ⟨q0, q1, q2, q3, q4, q5⟩ := HCC.out W hSw.v.1; obtain ⟨q6, q7⟩ := span_cells hSw.b; go_simp; try with_reducible rfl)
                    try simp only [List.getElem_toArray, List.getElem_cons_succ, List.getElem_cons_zero, Act.put, List.setIfInBounds_toArray, List.set_cons_zero, List.set_cons_succ]
                    refine wpAnyH_take (i := 5) (v := ?_) rfl (by kernel_rfl) (by kernel_rfl) (by kernel_rfl) (fun _ _ _ h => h) (Or.inl ⟨by rfl, ?_⟩) hS ?_
                    rotate_left
                    · (intro W hSw; obtain ⟨q0, q1, q2, q3, q4, q5⟩ := HCC.out W hSw.v.1; obtain ⟨q6, q7⟩ := span_cells hSw.b; go_simp; try with_reducible rfl)
                    try simp only [List.getElem_toArray, List.getElem_cons_succ, List.getElem_cons_zero, Act.put, List.setIfInBounds_toArray, List.set_cons_zero, List.set_cons_succ]
                    refine wpAnyH_take (i := 6) (v := ?_) rfl (by kernel_rfl) (by kernel_rfl) (by kernel_rfl) (fun _ _ _ h => h) (Or.inl ⟨by rfl, ?_⟩) hS ?_
                    rotate_left
                    · (intro W hSw; obtain ⟨q0, q1, q2, q3, q4, q5⟩ := HCC.out W hSw.v.1; obtain ⟨q6, q7⟩ := span_cells hSw.b; go_simp; try with_reducible rfl)
                    try simp only [List.getElem_toArray, List.getElem_cons_succ, List.getElem_cons_zero, Act.put, List.setIfInBounds_toArray, List.set_cons_zero, List.set_cons_succ]
                    refine wpAnyH_take (i := 7) (v := ?_) rfl (by kernel_rfl) (by kernel_rfl) (by kernel_rfl) (fun _ _ _ h => h) (Or.inl ⟨by rfl, ?_⟩) hS ?_
                    rotate_left
                    · (intro W hSw; obtain ⟨q0, q1, q2, q3, q4, q5⟩ := HCC.out W hSw.v.1; obtain ⟨q6, q7⟩ := span_cells hSw.b; go_simp; try with_reducible rfl)
                    try simp only [List.getElem_toArray, List.getElem_cons_succ, List.getElem_cons_zero, Act.put, List.setIfInBounds_toArray, List.set_cons_zero, List.set_cons_succ]
                    refine wpAnyH_take (i := 8) (v := ?_) rfl (by kernel_rfl) (by kernel_rfl) (by kernel_rfl) (fun _ _ _ h => h) (Or.inl ⟨by rfl, ?_⟩) hS ?_
                    rotate_left
                    · (intro W hSw; obtain ⟨q0, q1, q2, q3, q4, q5⟩ := HCC.out W hSw.v.1; obtain ⟨q6, q7⟩ := span_cells hSw.b; go_simp; try with_reducible rfl)
                    try simp only [List.getElem_toArray, List.getElem_cons_succ, List.getElem_cons_zero, Act.put, List.setIfInBounds_toArray, List.set_cons_zero, List.set_cons_succ]
                    refine wpAnyH_take (i := 9) (v := ?_) rfl (by kernel_rfl) (by kernel_rfl) (by kernel_rfl) (fun _ _ _ h => h) (Or.inl ⟨by rfl, ?_⟩) hS ?_
                    rotate_left
                    · (intro W hSw; obtain ⟨q0, q1, q2, q3, q4, q5⟩ := HCC.out W hSw.v.1; obtain ⟨q6, q7⟩ := span_cells hSw.b; go_simp; try with_reducible rfl)
                    try simp only [List.getElem_toArray, List.getElem_cons_succ, List.getElem_cons_zero, Act.put, List.setIfInBounds_toArray, List.set_cons_zero, List.set_cons_succ]
                    refine wpAnyH_done (by kernel_rfl) ?_ _
                    clear c0 c1 c2 c3 c4 c5
                    replace HLG := Lib.hid hS
                    clear hS
                    obtain ⟨c0, c1, c2, c3, c4, c5⟩ := HCC.out _ HLG.out.v.1
                    have e1 : clashP l (k + 1) = ck := by rw [clashP_succ, HCL.out, Bool.or_false, HK.out.1]
                    have e2 : lowP l (k + 1) = (lo + wx, hi + wy) := by rw [lowP_succ, if_neg (by rw [HCL.out]; decide), ← HK.out.2.1, ← HWK.out]; rfl
                    have e3 := allP_succ l k
                    have e4 := someP_succ l k
                    rw [← HGS.out, ← HNL.out, ← HK.out.2.2.1] at e3
                    rw [← HGS.out, ← HNL.out, ← HK.out.2.2.2] at e4
                    have HEE := Lib.hid (And.intro e1 (And.intro e2 (And.intro e3 e4)))
                    clear e1 e2 e3 e4
                    have hp1 := pow_i64L ⟨j, by omega⟩
                    have hp2 := pow_i64L ⟨k, by omega⟩
                    have ho1 := or_i64L ⟨k, by omega⟩ ⟨ak, hal⟩
                    have ho2 := or_i64L ⟨k, by omega⟩ ⟨sk, hsl⟩
                    have hb1 := bit1_lot ⟨j, by omega⟩ ⟨gs, by omega⟩
                    dsimp only at hp1 hp2 ho1 ho2 hb1
                    have hmj : min j 64 = j := by omega
                    have hmk : min k 64 = k := by omega
                    obtain ⟨q, hq⟩ : ∃ q, q = 2 ^ j := ⟨_, rfl⟩
                    obtain ⟨r, hr⟩ : ∃ r, r = 2 ^ k := ⟨_, rfl⟩
                    rw [← hq] at hp1
                    rw [← hr] at hp2 ho1 ho2
                    have HQR := Lib.hid (And.intro hq hr)
                    clear hw1 hw2
                    by_cases hgq : gs = q
                    · have ht : gs.testBit j = true := by rw [hgq, hq]; exact Nat.testBit_two_pow_self
                      rw [ht] at hb1
                      have HT := Lib.hid ht
                      clear ht hq hr
                      subst hgq
                      go_wp2
                      refine ⟨⟨k + 1, hlt, by simp, by rw [HEE.out.1], by rw [HEE.out.2.1], by rw [HEE.out.2.1], by rw [HEE.out.2.2.1, ← HQR.out.1, if_pos rfl, ← HQR.out.2], by rw [HEE.out.2.2.2, if_pos HT.out, ← HQR.out.2], HLG.out.v⟩, by simp [intOf]; omega⟩
                    · have HGQ := Lib.hid hgq
                      cases ht : gs.testBit j with
                      | true =>
                        rw [ht] at hb1
                        have HT := Lib.hid ht
                        clear ht hq hr
                        go_wp2
                        refine ⟨⟨k + 1, hlt, by simp, by rw [HEE.out.1], by rw [HEE.out.2.1], by rw [HEE.out.2.1], by rw [HEE.out.2.2.1, ← HQR.out.1, if_neg HGQ.out], by rw [HEE.out.2.2.2, if_pos HT.out, ← HQR.out.2], HLG.out.v⟩, by simp [intOf]; omega⟩
                      | false =>
                        rw [ht] at hb1
                        have HT := Lib.hid (show ¬ gs.testBit j = true by rw [ht]; decide)
                        clear ht hq hr
                        go_wp2
                        refine ⟨⟨k + 1, hlt, by simp, by rw [HEE.out.1], by rw [HEE.out.2.1], by rw [HEE.out.2.1], by rw [HEE.out.2.2.1, ← HQR.out.1, if_neg HGQ.out], by rw [HEE.out.2.2.2, if_neg HT.out], HLG.out.v⟩, by simp [intOf]; omega⟩
    · as_aux_lemma =>
        obtain rfl : k = nb := by omega
        have hlti : ¬ (k : Int) < (k : Int) := by omega
        obtain ⟨hfc, hfo⟩ := sells_final HVL.out
        rw [HVD.out, HSD.out] at hfc hfo
        have hcl : ck = clashL l := by rw [HK.out.1, HNB.out]; rfl
        rw [← HNB.out, ← HK.out.2.1, ← HK.out.2.2.1, ← HK.out.2.2.2] at hfo
        rw [← hcl] at hfc hfo
        obtain ⟨d0, d1⟩ := span_cells HV.out.2
        cases ck with
        | true =>
          have h1 := hfc rfl
          simp only [Prod.mk.injEq] at h1
          obtain ⟨⟨⟨rfl, rfl⟩, rfl⟩, rfl, rfl, _⟩ := h1
          clear hfc hfo hcl
          go_wp2_with fail
          refine (alive13_any _).mono ?_
          rintro e wz ⟨rfl, hb⟩
          replace HS := Lib.hid (HS.out.later hb)
          clear hb
          dsimp only
          go_wp2
          exact bodyPost_ret (v := .bool true) (by simp [results, Try.results4, go_sem]) rfl ⟨rfl, HS.out.bel⟩
        | false =>
          have h1 := hfo rfl
          simp only [Prod.mk.injEq] at h1
          obtain ⟨⟨⟨rfl, rfl⟩, rfl⟩, rfl, rfl, _⟩ := h1
          clear hfc hfo hcl
          go_upto_region 53 with fail
          refine wp_region_held_drew (S := fun W => LawV l p w vb vx vy W) rfl (LawV.later HV.out (Below.refl _ _).drew) fun hS => ?_
          refine wpAnyH_take (i := 0) (v := ?_) rfl (by kernel_rfl) (by kernel_rfl) (by kernel_rfl) (fun _ _ _ h => h) (Or.inl ⟨by rfl, ?_⟩) hS ?_
          rotate_left
          · (intro W hSw; obtain ⟨q6, q7⟩ := span_cells hSw.2; go_simp; try with_reducible rfl)
          try simp only [List.getElem_toArray, List.getElem_cons_succ, List.getElem_cons_zero, Act.put, List.setIfInBounds_toArray, List.set_cons_zero, List.set_cons_succ]
          refine wpAnyH_take (i := 1) (v := ?_) rfl (by kernel_rfl) (by kernel_rfl) (by kernel_rfl) (fun _ _ _ h => h) (Or.inl ⟨by rfl, ?_⟩) hS ?_
          rotate_left
          · (intro W hSw; obtain ⟨q6, q7⟩ := span_cells hSw.2; go_simp; try with_reducible rfl)
          try simp only [List.getElem_toArray, List.getElem_cons_succ, List.getElem_cons_zero, Act.put, List.setIfInBounds_toArray, List.set_cons_zero, List.set_cons_succ]
          refine wpAnyH_take (i := 2) (v := ?_) rfl (by kernel_rfl) (by kernel_rfl) (by kernel_rfl) (fun _ _ _ h => h) (Or.inl ⟨by rfl, ?_⟩) hS ?_
          rotate_left
          · (intro W hSw; obtain ⟨q6, q7⟩ := span_cells hSw.2; go_simp; try with_reducible rfl)
          try simp only [List.getElem_toArray, List.getElem_cons_succ, List.getElem_cons_zero, Act.put, List.setIfInBounds_toArray, List.set_cons_zero, List.set_cons_succ]
          refine wpAnyH_take (i := 3) (v := ?_) rfl (by kernel_rfl) (by kernel_rfl) (by kernel_rfl) (fun _ _ _ h => h) (Or.inl ⟨by rfl, ?_⟩) hS ?_
          rotate_left
          · (intro W hSw; obtain ⟨q6, q7⟩ := span_cells hSw.2; go_simp; try with_reducible rfl)
          try simp only [List.getElem_toArray, List.getElem_cons_succ, List.getElem_cons_zero, Act.put, List.setIfInBounds_toArray, List.set_cons_zero, List.set_cons_succ]
          refine wpAnyH_take (i := 4) (v := ?_) rfl (by kernel_rfl) (by kernel_rfl) (by kernel_rfl) (fun _ _ _ h => h) (Or.inl ⟨by rfl, ?_⟩) hS ?_
          rotate_left
          · (intro W hSw; obtain ⟨q6, q7⟩ := span_cells hSw.2; go_simp; try with_reducible rfl)
          try simp only [List.getElem_toArray, List.getElem_cons_succ, List.getElem_cons_zero, Act.put, List.setIfInBounds_toArray, List.set_cons_zero, List.set_cons_succ]
          refine wpAnyH_take (i := 5) (v := ?_) rfl (by kernel_rfl) (by kernel_rfl) (by kernel_rfl) (fun _ _ _ h => h) (Or.inl ⟨by rfl, ?_⟩) hS ?_
          rotate_left
          · (intro W hSw; obtain ⟨q6, q7⟩ := span_cells hSw.2; go_simp; try with_reducible rfl)
          try simp only [List.getElem_toArray, List.getElem_cons_succ, List.getElem_cons_zero, Act.put, List.setIfInBounds_toArray, List.set_cons_zero, List.set_cons_succ]
          refine wpAnyH_ready (rs := [6]) (by kernel_rfl) (by simp) ?_
          refine AllReadyH.cons rfl (fun K hK => ?_) AllReadyH.nil
          go_simp
          refine Calls.mono (span13_any _ _ _) ?_
          rintro e wz ⟨rfl, hb⟩
          dsimp only
          refine hK.out _ _ (hS.later hb) (fun hS => ?_)
          clear hb hK K
          try simp only [List.getElem_toArray, List.getElem_cons_succ, List.getElem_cons_zero, Act.put, List.setIfInBounds_toArray, List.set_cons_zero, List.set_cons_succ]
          refine wpAnyH_take (i := 7) (v := ?_) rfl (by kernel_rfl) (by kernel_rfl) (by kernel_rfl) (fun _ _ _ h => h) (Or.inl ⟨by rfl, ?_⟩) hS ?_
          rotate_left
          · (intro W hSw; obtain ⟨q6, q7⟩ := span_cells hSw.2; go_simp; try with_reducible rfl)
          try simp only [List.getElem_toArray, List.getElem_cons_succ, List.getElem_cons_zero, Act.put, List.setIfInBounds_toArray, List.set_cons_zero, List.set_cons_succ]
          refine wpAnyH_take (i := 8) (v := ?_) rfl (by kernel_rfl) (by kernel_rfl) (by kernel_rfl) (fun _ _ _ h => h) (Or.inl ⟨by rfl, ?_⟩) hS ?_
          rotate_left
          · (intro W hSw; obtain ⟨q6, q7⟩ := span_cells hSw.2; go_simp; try with_reducible rfl)
          try simp only [List.getElem_toArray, List.getElem_cons_succ, List.getElem_cons_zero, Act.put, List.setIfInBounds_toArray, List.set_cons_zero, List.set_cons_succ]
          refine wpAnyH_take (i := 9) (v := ?_) rfl (by kernel_rfl) (by kernel_rfl) (by kernel_rfl) (fun _ _ _ h => h) (Or.inl ⟨by rfl, ?_⟩) hS ?_
          rotate_left
          · (intro W hSw; obtain ⟨q6, q7⟩ := span_cells hSw.2; go_simp; try with_reducible rfl)
          try simp only [List.getElem_toArray, List.getElem_cons_succ, List.getElem_cons_zero, Act.put, List.setIfInBounds_toArray, List.set_cons_zero, List.set_cons_succ]
          refine wpAnyH_take (i := 10) (v := ?_) rfl (by kernel_rfl) (by kernel_rfl) (by kernel_rfl) (fun _ _ _ h => h) (Or.inl ⟨by rfl, ?_⟩) hS ?_
          rotate_left
          · (intro W hSw; obtain ⟨q6, q7⟩ := span_cells hSw.2; go_simp; try with_reducible rfl)
          try simp only [List.getElem_toArray, List.getElem_cons_succ, List.getElem_cons_zero, Act.put, List.setIfInBounds_toArray, List.set_cons_zero, List.set_cons_succ]
          refine wpAnyH_take (i := 11) (v := ?_) rfl (by kernel_rfl) (by kernel_rfl) (by kernel_rfl) (fun _ _ _ h => h) (Or.inl ⟨by rfl, ?_⟩) hS ?_
          rotate_left
          · (intro W hSw; obtain ⟨q6, q7⟩ := span_cells hSw.2; go_simp; try with_reducible rfl)
          try simp only [List.getElem_toArray, List.getElem_cons_succ, List.getElem_cons_zero, Act.put, List.setIfInBounds_toArray, List.set_cons_zero, List.set_cons_succ]
          refine wpAnyH_take (i := 12) (v := ?_) rfl (by kernel_rfl) (by kernel_rfl) (by kernel_rfl) (fun _ _ _ h => h) (Or.inl ⟨by rfl, ?_⟩) hS ?_
          rotate_left
          · (intro W hSw; obtain ⟨q6, q7⟩ := span_cells hSw.2; go_simp; try with_reducible rfl)
          try simp only [List.getElem_toArray, List.getElem_cons_succ, List.getElem_cons_zero, Act.put, List.setIfInBounds_toArray, List.set_cons_zero, List.set_cons_succ]
          refine wpAnyH_take (i := 13) (v := ?_) rfl (by kernel_rfl) (by kernel_rfl) (by kernel_rfl) (fun _ _ _ h => h) (Or.inl ⟨by rfl, ?_⟩) hS ?_
          rotate_left
          · (intro W hSw; obtain ⟨q6, q7⟩ := span_cells hSw.2; go_simp; try with_reducible rfl)
          try simp only [List.getElem_toArray, List.getElem_cons_succ, List.getElem_cons_zero, Act.put, List.setIfInBounds_toArray, List.set_cons_zero, List.set_cons_succ]
          refine wpAnyH_take (i := 14) (v := ?_) rfl (by kernel_rfl) (by kernel_rfl) (by kernel_rfl) (fun _ _ _ h => h) (Or.inl ⟨by rfl, ?_⟩) hS ?_
          rotate_left
          · (intro W hSw; obtain ⟨q6, q7⟩ := span_cells hSw.2; go_simp; try with_reducible rfl)
          try simp only [List.getElem_toArray, List.getElem_cons_succ, List.getElem_cons_zero, Act.put, List.setIfInBounds_toArray, List.set_cons_zero, List.set_cons_succ]
          refine wpAnyH_take (i := 15) (v := ?_) rfl (by kernel_rfl) (by kernel_rfl) (by kernel_rfl) (fun _ _ _ h => h) (Or.inl ⟨by rfl, ?_⟩) hS ?_
          rotate_left
          · (intro W hSw; obtain ⟨q6, q7⟩ := span_cells hSw.2; go_simp; try with_reducible rfl)
          try simp only [List.getElem_toArray, List.getElem_cons_succ, List.getElem_cons_zero, Act.put, List.setIfInBounds_toArray, List.set_cons_zero, List.set_cons_succ]
          refine wpAnyH_take (i := 16) (v := ?_) rfl (by kernel_rfl) (by kernel_rfl) (by kernel_rfl) (fun _ _ _ h => h) (Or.inl ⟨by rfl, ?_⟩) hS ?_
          rotate_left
          · (intro W hSw; obtain ⟨q6, q7⟩ := span_cells hSw.2; go_simp; try with_reducible rfl)
          try simp only [List.getElem_toArray, List.getElem_cons_succ, List.getElem_cons_zero, Act.put, List.setIfInBounds_toArray, List.set_cons_zero, List.set_cons_succ]
          refine wpAnyH_take (i := 17) (v := ?_) rfl (by kernel_rfl) (by kernel_rfl) (by kernel_rfl) (fun _ _ _ h => h) (Or.inl ⟨by rfl, ?_⟩) hS ?_
          rotate_left
          · (intro W hSw; obtain ⟨q6, q7⟩ := span_cells hSw.2; go_simp; try with_reducible rfl)
          try simp only [List.getElem_toArray, List.getElem_cons_succ, List.getElem_cons_zero, Act.put, List.setIfInBounds_toArray, List.set_cons_zero, List.set_cons_succ]
          refine wpAnyH_take (i := 18) (v := ?_) rfl (by kernel_rfl) (by kernel_rfl) (by kernel_rfl) (fun _ _ _ h => h) (Or.inl ⟨by rfl, ?_⟩) hS ?_
          rotate_left
          · (intro W hSw; obtain ⟨q6, q7⟩ := span_cells hSw.2; go_simp; try with_reducible rfl)
          try simp only [List.getElem_toArray, List.getElem_cons_succ, List.getElem_cons_zero, Act.put, List.setIfInBounds_toArray, List.set_cons_zero, List.set_cons_succ]
          refine wpAnyH_take (i := 19) (v := ?_) rfl (by kernel_rfl) (by kernel_rfl) (by kernel_rfl) (fun _ _ _ h => h) (Or.inl ⟨by rfl, ?_⟩) hS ?_
          rotate_left
          · (intro W hSw; obtain ⟨q6, q7⟩ := span_cells hSw.2; go_simp; try with_reducible rfl)
          try simp only [List.getElem_toArray, List.getElem_cons_succ, List.getElem_cons_zero, Act.put, List.setIfInBounds_toArray, List.set_cons_zero, List.set_cons_succ]
          refine wpAnyH_ready (rs := [20]) (by kernel_rfl) (by simp) ?_
          refine AllReadyH.cons rfl (fun K hK => ?_) AllReadyH.nil
          go_simp
          refine Calls.mono (alive13_any _) ?_
          rintro e wz ⟨rfl, hb⟩
          dsimp only
          refine hK.out _ _ (hS.later hb) (fun hS => ?_)
          clear hb hK K
          try simp only [List.getElem_toArray, List.getElem_cons_succ, List.getElem_cons_zero, Act.put, List.setIfInBounds_toArray, List.set_cons_zero, List.set_cons_succ]
          refine wpAnyH_take (i := 21) (v := ?_) rfl (by kernel_rfl) (by kernel_rfl) (by kernel_rfl) (fun _ _ _ h => h) (Or.inl ⟨by rfl, ?_⟩) hS ?_
          rotate_left
          · (intro W hSw; obtain ⟨q6, q7⟩ := span_cells hSw.2; go_simp; try with_reducible rfl)
          try simp only [List.getElem_toArray, List.getElem_cons_succ, List.getElem_cons_zero, Act.put, List.setIfInBounds_toArray, List.set_cons_zero, List.set_cons_succ]
          refine wpAnyH_take (i := 22) (v := ?_) rfl (by kernel_rfl) (by kernel_rfl) (by kernel_rfl) (fun _ _ _ h => h) (Or.inl ⟨by rfl, ?_⟩) hS ?_
          rotate_left
          · (intro W hSw; obtain ⟨q6, q7⟩ := span_cells hSw.2; go_simp; try with_reducible rfl)
          try simp only [List.getElem_toArray, List.getElem_cons_succ, List.getElem_cons_zero, Act.put, List.setIfInBounds_toArray, List.set_cons_zero, List.set_cons_succ]
          refine wpAnyH_done (by kernel_rfl) ?_ _
          have HF := Lib.hid hS.1.bel
          clear hS
          go_wp2
          exact bodyPost_ret (v := .bool true) (by simp [results, Try.results4, go_sem]) rfl ⟨rfl, HF.out⟩
end Go.Proofs.Ytagjepclobobjaa

/- LotSells: the law returns true. No conditions. -/
namespace Go.Proofs.Ytagjepclobobjaa
set_option linter.unusedVariables false
set_option linter.unusedSimpArgs false
open Go.ChangeShapes Go.WideShapes Go.ChangeAt Go.RowKit Go.Deep
set_option maxRecDepth 100000 in
theorem lotSells_lifted (os : Os) (started : os.Started) (H : Type) (enc : TypeId × Value → H) :
    ReturnsInHanded {} Try.checked os 4 .any (Rows.lotSellsSpec.pre6 enc Try.prog Try.f4 Rows.lotSellsRow.domain false) (Rows.lotSellsSpec.post enc Try.prog Try.f4 false true false false) := by
  refine returnsInHanded_of_change (C := Try.checked) own_knob started (by kernel_rfl) Try.func4
    (ChangeSpec.witness6 (enc := enc) (C := Try.checked) false ⟨#[], #[.agg #[.slice none 0 0, .int .i64 0, .slice none 0 0, .slice none 0 0, .int .i64 0, .slice none 0 0]], []⟩ 8 (by kernel_rfl) (by kernel_rfl) (by kernel_rfl) (by kernel_rfl)) ?_
  intro W base args ds gs before hval0 hW hcnd _
  have hval : ∀ (j : Nat) t v, Try.f4.params[j]? = some t → args[j]? = some v → Value.okWide Try.prog W .any base t v := hval0
  have hW' := hW
  obtain ⟨p, q, hA0, hV, rfl, hfz, hnd⟩ := hW
  have hA : DataW.TrodAll enc Try.prog W 0 (fun _ => true) true Try.f4.params.toList args.toList ds p := hA0
  rw [Try.params4] at hA hval
  obtain ⟨rfl, rfl⟩ := trodVars_none hV
  clear hA0 hval0
  simp only [List.append_nil] at hW'
  have hst := hA
  obtain ⟨v0, d0, rfl, rfl, h0⟩ := trodAll_one hA
  obtain ⟨l, p, rfl, hpa⟩ := open_lotV (hval 0 _ _ rfl rfl) h0
  refine (sells13_any l p W hpa).mono fun e W' ⟨he, hb⟩ => ?_
  subst he
  exact ⟨_, rfl, lawEnd hW' rfl hst rfl (by decide +kernel) rfl rfl hb⟩
theorem lotSells_over : Rows.lotSellsRow.holds Try.pinned (OpenSpec.ofChange Rows.lotSellsSpec) :=
  OpenClaim.holds_of_wide 4 Try.f4 rfl rfl rfl rfl rfl rfl rfl ⟨rfl, rfl, rfl, rfl, rfl⟩ rfl rfl rfl rfl rfl (by kernel_rfl) Try.func4 (by kernel_rfl)
    (of_decide_eq_true (by kernel_rfl)) (by unfold Func.isWrapper; first | (rw [if_pos (by decide +kernel)]; kernel_rfl) | (rw [if_neg (by decide +kernel)]; exact ⟨rfl, rfl⟩))
    (fun os started H enc _ => lotSells_lifted os started H enc)
/-- The statement. -/
theorem lot_sells : Rows.LotSellsSaid := lotSells_over
end Go.Proofs.Ytagjepclobobjaa
