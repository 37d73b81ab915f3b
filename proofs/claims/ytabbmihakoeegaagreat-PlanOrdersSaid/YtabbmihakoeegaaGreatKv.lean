/- Texts Rc, Rd, Re, Rf, Rg, Rh, Ri, Rj, Yu, Qh, Qi, Qj, Qk, Ql in one file; each begins with a word on what it proves. -/
import Derived.Maps.AppendAt
import Derived.Lib.MinMax
import Derived.Test.YtabbmihakoeegaaGreatKi
import Derived.Test.YtabbmihakoeegaaGreatKn
import Derived.Test.YtabbmihakoeegaaGreatKz

/- The reference: what is shown of equal blocks; is a reading right? -/
namespace Go.Proofs.YtabbmihakoeegaaGreat
set_option linter.unusedVariables false
set_option linter.unusedSimpArgs false
open Go.RowKit Go.Shelf
attribute [local go_sem] Oper.semAt_some

theorem down_any (n : Int) (h1 : -1000000 ≤ n) (h2 : n ≤ 1000000) (w : World) :
    Calls Tryz.prog 131 #[.int .i64 n] w fun e w' => e = .returned (.int .i64 (n / 10)) ∧ w = w' := by
  have HT := Lib.hid (tdiv_facts n)
  have HT2 := Lib.hid (tdiv_facts (9 - n))
  by_cases h0 : 0 ≤ n
  · have hd : decide (0 ≤ n) = true := by simpa using h0
    have hw : wrap64 (n / 10) = n / 10 := by unfold wrap64; omega
    go_enter Tryz.func131, Tryz.ntmps131
    go_wp2
    go_ret
    exact ⟨rfl, rfl⟩
  · have hd : decide (0 ≤ n) = false := by simpa using h0
    have HE : Hid (n / 10 = -((9 - n) / 10)) := by show _ = _; omega
    go_enter Tryz.func131, Tryz.ntmps131
    go_wp2
    go_ret
    refine ⟨?_, rfl⟩
    rw [HE.out]
    rfl
def truthRow (v : Value) (c : Int × Int) : Array Value := #[v, .int .i64 c.1, .int .i64 c.2]
set_option maxRecDepth 100000 in
set_option maxHeartbeats 2000000 in
theorem equal_any (v : Value) (hv : v.oneCell' = true) (c : Int × Int) (m : Int) (hz : -1000 ≤ c.1 ∧ c.1 ≤ 1000) (hr : -1000 ≤ c.2 ∧ c.2 ≤ 1000) (hm : 0 ≤ m ∧ m ≤ 60) (w : World) :
    Calls Tryz.prog 130 #[.agg (truthRow v c), .int .i64 m] w fun e w' => e = .returned (.int .i64 (showsC c.1 c.2 m)) ∧ Below w.heap.size w w' := by
  obtain ⟨z, r⟩ := c
  dsimp only at *
  have hmb := mul_bounds r m hr.1 hr.2 hm.1 hm.2
  obtain ⟨W, hW⟩ : ∃ W, W = w.alloc (.cells (truthRow v (z, r)) 114) := ⟨_, rfl⟩
  have hrow : W.heap[w.heap.size]? = some (.cells #[v, .int .i64 z, .int .i64 r] 114 (0, 0)) := by rw [hW]; exact heap_alloc_at _ _ _ rfl
  have hbw : Below w.heap.size w W := by rw [hW]; exact (Below.refl _ _).alloc (Nat.le_refl _) _
  have c1 : W.cell? ⟨w.heap.size, 1, none⟩ = some (.int .i64 z) := by rw [cell_of_row W _ _ _ _ _ hrow]; rfl
  have c2 : W.cell? ⟨w.heap.size, 2, none⟩ = some (.int .i64 r) := by rw [cell_of_row W _ _ _ _ _ hrow]; rfl
  have HB := Lib.hid hbw
  have HS : Hid (showsC z r m = z + r * m / 10) := rfl
  clear hrow hbw
  unfold truthRow at hW ⊢
  go_enter Tryz.func130, Tryz.ntmps130
  go_wp2_with fail
  rw [← hW]
  clear hW
  have hmul : IntKind.i64.wrap (r * m) = r * m := IntWalk.i64_in _ (by omega)
  have hadd : IntKind.i64.wrap (z + r * m / 10) = z + r * m / 10 := IntWalk.i64_in _ (by omega)
  have s0 : W.drew.cell? ⟨w.heap.size, 1, none⟩ = some (.int .i64 z) ∧ W.drew.cell? ⟨w.heap.size, 2, none⟩ = some (.int .i64 r) := ⟨c1, c2⟩
  go_region_held3 (fun w' => w'.cell? ⟨w.heap.size, 1, none⟩ = some (.int .i64 z) ∧ w'.cell? ⟨w.heap.size, 2, none⟩ = some (.int .i64 r))
    (first | exact s0)
    (first | (go_at_call 131; refine (down_any (r * m) (by omega) (by omega) _).mono ?_; rintro e w2 ⟨rfl, rfl⟩))
  go_wp2
  go_ret
  exact ⟨by rw [HS.out]; rfl, HB.out.drew⟩
set_option maxRecDepth 100000 in
set_option maxHeartbeats 2000000 in
theorem right1_any (x : List Int) (v : Value) (c : Int × Int) (r : RdD) (Rd : Nat → Prop) (w : World) (hv : ListAt w v (x.map (Value.int .i64)) Rd) (hz : -1000 ≤ c.1 ∧ c.1 ≤ 1000) (hr : -1000 ≤ c.2 ∧ c.2 ≤ 1000) (hm : 0 ≤ r.m ∧ r.m ≤ 60)
    (ha : 0 ≤ r.a ∧ r.a < x.length) (hb : 0 ≤ r.b ∧ r.b < x.length) (hx : ∀ y ∈ x, -1000 ≤ y ∧ y ≤ 1000) :
    Calls Tryz.prog 128 #[.agg (truthRow v c), readV r] w fun e w' => e = .returned (.bool (inB (atL x r.a - atL x r.b + showsC c.1 c.2 r.m) r.lo r.hi)) ∧ Below w.heap.size w w' := by
  obtain ⟨z, q⟩ := c
  obtain ⟨a, b, m, lo, hi⟩ := r
  dsimp only at *
  obtain ⟨ao, cap, rfl, hlen, hel⟩ := hv
  obtain ⟨na, rfl⟩ := Int.eq_ofNat_of_zero_le ha.1
  obtain ⟨nb, rfl⟩ := Int.eq_ofNat_of_zero_le hb.1
  obtain ⟨blk, off, rfl, _, hlt, hca⟩ := hel na (by simp; omega)
  obtain ⟨_, _, hbo, _, _, hcb⟩ := hel nb (by simp; omega)
  cases hbo
  rw [List.getElem_map] at hca hcb
  have hla : na < x.length := by omega
  have hlb : nb < x.length := by omega
  have exa : x[na] = atL x na := by simp [atL, List.getD_eq_getElem?_getD, hla]
  have exb : x[nb] = atL x nb := by simp [atL, List.getD_eq_getElem?_getD, hlb]
  have hba := hx _ (List.getElem_mem hla)
  have hbb := hx _ (List.getElem_mem hlb)
  rw [exa] at hca hba
  rw [exb] at hcb hbb
  rw [List.length_map] at hlen ⊢
  generalize atL x na = ya at *
  generalize atL x nb = yb at *
  obtain ⟨W, hW⟩ : ∃ W, W = (w.alloc (.cells #[.slice (some ⟨blk, off, none⟩) x.length cap, .int .i64 z, .int .i64 q] 114)).alloc (.cells #[.int .i64 na, .int .i64 nb, .int .i64 m, .int .i64 lo, .int .i64 hi] 94) := ⟨_, rfl⟩
  have r1 : W.heap[w.heap.size]? = some (.cells #[.slice (some ⟨blk, off, none⟩) x.length cap, .int .i64 z, .int .i64 q] 114 (0, 0)) := by rw [hW]; exact (by repeat (first | (refine heap_alloc_at _ _ _ ?_; (simp <;> omega); done) | (refine (hget_old _ _ _ ?_).trans ?_; · (simp <;> omega))))
  have r2 : W.heap[w.heap.size + 1]? = some (.cells #[.int .i64 na, .int .i64 nb, .int .i64 m, .int .i64 lo, .int .i64 hi] 94 (0, 0)) := by rw [hW]; exact (by repeat (first | (refine heap_alloc_at _ _ _ ?_; (simp <;> omega); done) | (refine (hget_old _ _ _ ?_).trans ?_; · (simp <;> omega))))
  have hbw : Below w.heap.size w W := by rw [hW]; exact ((Below.refl _ _).alloc (Nat.le_refl _) _).alloc (by simp) _
  have rows : ∀ W', Below W.heap.size W W' → (W'.cell? ⟨w.heap.size, 0, none⟩ = some (.slice (some ⟨blk, off, none⟩) x.length cap) ∧ W'.cell? ⟨w.heap.size, 1, none⟩ = some (.int .i64 z) ∧ W'.cell? ⟨w.heap.size, 2, none⟩ = some (.int .i64 q)) ∧
      (W'.cell? ⟨w.heap.size + 1, 0, none⟩ = some (.int .i64 na) ∧ W'.cell? ⟨w.heap.size + 1, 1, none⟩ = some (.int .i64 nb) ∧ W'.cell? ⟨w.heap.size + 1, 2, none⟩ = some (.int .i64 m) ∧ W'.cell? ⟨w.heap.size + 1, 3, none⟩ = some (.int .i64 lo) ∧ W'.cell? ⟨w.heap.size + 1, 4, none⟩ = some (.int .i64 hi)) ∧
      W'.cell? ⟨blk, off + na, none⟩ = some (.int .i64 ya) ∧ W'.cell? ⟨blk, off + nb, none⟩ = some (.int .i64 yb) := fun W' hb' => by
    have q1 := (hb'.block _ (lt_of_block r1)).trans r1
    have q2 := (hb'.block _ (lt_of_block r2)).trans r2
    refine ⟨⟨?_, ?_, ?_⟩, ⟨?_, ?_, ?_, ?_, ?_⟩, ?_, ?_⟩
    · rw [cell_of_row _ _ _ _ _ _ q1]; rfl
    · rw [cell_of_row _ _ _ _ _ _ q1]; rfl
    · rw [cell_of_row _ _ _ _ _ _ q1]; rfl
    · rw [cell_of_row _ _ _ _ _ _ q2]; rfl
    · rw [cell_of_row _ _ _ _ _ _ q2]; rfl
    · rw [cell_of_row _ _ _ _ _ _ q2]; rfl
    · rw [cell_of_row _ _ _ _ _ _ q2]; rfl
    · rw [cell_of_row _ _ _ _ _ _ q2]; rfl
    · exact ((hbw.trans (hb'.mono hbw.size)).cell (p := ⟨blk, off + na, none⟩) hlt).trans hca
    · exact ((hbw.trans (hb'.mono hbw.size)).cell (p := ⟨blk, off + nb, none⟩) hlt).trans hcb
  have HB := Lib.hid hbw
  have ROWS := Lib.hid rows
  have s0 := rows W (Below.refl _ _)
  obtain ⟨⟨a0, a1, a2⟩, ⟨a3, a4, a5, a6, a7⟩, a8, a9⟩ := s0
  clear rows hca hcb r1 r2 hbw exa exb hel
  have hd1 : decide ((na : Int) < x.length) = true := by simp; omega
  have hd2 : decide ((nb : Int) < x.length) = true := by simp; omega
  unfold truthRow readV at *
  dsimp only at *
  go_enter Tryz.func128, Tryz.ntmps128
  go_wp2_with fail
  rw [← hW]
  clear hW
  have hs1 : IntKind.i64.wrap (ya - yb) = ya - yb := IntWalk.i64_in _ (by omega)
  have hsb := mul_bounds q m hr.1 hr.2 hm.1 hm.2
  have hs2 : IntKind.i64.wrap (ya - yb + showsC z q m) = ya - yb + showsC z q m := IntWalk.i64_in _ (by unfold showsC; omega)
  go_region_held3 (fun W' => (W'.cell? ⟨w.heap.size, 0, none⟩ = some (.slice (some ⟨blk, off, none⟩) x.length cap) ∧ W'.cell? ⟨w.heap.size, 1, none⟩ = some (.int .i64 z) ∧ W'.cell? ⟨w.heap.size, 2, none⟩ = some (.int .i64 q)) ∧
      (W'.cell? ⟨w.heap.size + 1, 0, none⟩ = some (.int .i64 na) ∧ W'.cell? ⟨w.heap.size + 1, 1, none⟩ = some (.int .i64 nb) ∧ W'.cell? ⟨w.heap.size + 1, 2, none⟩ = some (.int .i64 m) ∧ W'.cell? ⟨w.heap.size + 1, 3, none⟩ = some (.int .i64 lo) ∧ W'.cell? ⟨w.heap.size + 1, 4, none⟩ = some (.int .i64 hi)) ∧
      W'.cell? ⟨blk, off + na, none⟩ = some (.int .i64 ya) ∧ W'.cell? ⟨blk, off + nb, none⟩ = some (.int .i64 yb))
    (first | exact ROWS.out _ ((Below.refl _ _).drew.trans hb2) | exact ROWS.out _ (Below.refl _ _).drew)
    (first | (go_at_call 130; refine (equal_any (.slice (some ⟨blk, off, none⟩) x.length cap) rfl (z, q) m hz hr hm _).mono ?_; rintro e w2 ⟨rfl, hb2⟩) | (go_at_call 105; refine (rin_any _ _ _ _).mono ?_; rintro e w3 ⟨rfl, rfl⟩))
  go_wp2
  go_ret
  exact ⟨rfl, HB.out.trans (((Below.refl _ _).drew.trans hb2).mono HB.out.size)⟩

end Go.Proofs.YtabbmihakoeegaaGreat

/- The reference: are the readings of a set right? -/
namespace Go.Proofs.YtabbmihakoeegaaGreat
set_option linter.unusedVariables false
set_option linter.unusedSimpArgs false
open Go.RowKit Go.Shelf
attribute [local go_sem] Oper.semAt_some

theorem rightK_next (p : PairD) (s : Nat) (c : Int × Int) (x : List Int) (k : Nat) : rightK p s c x (k + 1) = (rightK p s c x k && rightN p s c x k) := by simp [rightK, List.range_succ]
theorem rightK_all (p : PairD) (s : Nat) (c : Int × Int) (x : List Int) (k : Nat) (hk : k < p.rs.length) (h : rightN p s c x k = false) : rightL p s c x = false := by
  unfold rightL rightK
  rw [List.all_eq_false]
  exact ⟨k, List.mem_range.2 hk, by simp [h]⟩
theorem rightN_at (p : PairD) (s : Nat) (c : Int × Int) (x : List Int) (k : Nat) (hk : k < p.rs.length) : rightN p s c x k = (!(s.testBit k) || rightR c x p.rs[k]) := by
  unfold rightN
  rw [List.getElem?_eq_getElem hk]
theorem ListAt.later {W W' : World} {v : Value} {xs : List Value} {Rd : Nat → Prop} (h : ListAt W v xs Rd) (hb : Below W.heap.size W W') : ListAt W' v xs Rd := by
  obtain ⟨ao, cap, h1, h2, h3⟩ := h
  refine ⟨ao, cap, h1, h2, fun i hi => ?_⟩
  obtain ⟨b, off, e1, e2, e3, e4⟩ := h3 i hi
  exact ⟨b, off, e1, e2, Nat.lt_of_lt_of_le e3 hb.size, (hb.cell (p := ⟨b, off + i, none⟩) e3).trans e4⟩
set_option maxRecDepth 100000 in
set_option maxHeartbeats 8000000 in
theorem right_any (p : PairD) (hv : validB p = true) (bs rs v : Value) (x : List Int) (c : Int × Int) (s : Nat) (hs : s < 256) (Rd : Nat → Prop) (w : World) (hpa : PairAt w p bs rs) (hx : ListAt w v (x.map (Value.int .i64)) Rd)
    (hz : -1000 ≤ c.1 ∧ c.1 ≤ 1000) (hr : -1000 ≤ c.2 ∧ c.2 ≤ 1000) (hxs : ∀ y ∈ x, -1000 ≤ y ∧ y ≤ 1000) :
    Calls Tryz.prog 125 #[.agg (pairRow p bs rs), .agg (truthRow v c), .int .i64 s] w fun e w' => e = .returned (.bool (rightL p s c x)) ∧ Below w.heap.size w w' := by
  have hp := OkP.of p hv
  have hm8 := hp.m8
  obtain ⟨z, q⟩ := c
  dsimp only at hz hr
  obtain ⟨ao, cap, hbs, _⟩ := id hpa.b
  subst hbs
  obtain ⟨ao2, cap2, hrs, hc3, hc4, hel2⟩ := id hpa.r
  subst hrs
  obtain ⟨aox, capx, hve, hlen, _⟩ := id hx
  subst hve
  rw [List.length_map] at hlen hx
  rw [List.length_map]
  have HE2 := Lib.hid hel2
  have HX := Lib.hid hx
  clear hel2 hx
  obtain ⟨W0, hW0⟩ : ∃ W0, W0 = (w.alloc (.cells (pairRow p (.slice ao p.bs.length cap) (.slice ao2 p.rs.length cap2)) 27 (0, 0))).alloc (.cells (truthRow (.slice aox x.length capx) (z, q)) 114 (0, 0)) := ⟨_, rfl⟩
  have hb0 : Below w.heap.size w W0 := by rw [hW0]; exact ((Below.refl _ _).alloc (Nat.le_refl _) _).alloc (by simp) _
  have hr1 : W0.heap[w.heap.size]? = some (pairObj p (.slice ao p.bs.length cap) (.slice ao2 p.rs.length cap2)) := by rw [hW0]; exact (hget_old _ _ _ (by simp)).trans (heap_alloc_at _ _ _ rfl)
  have hr2 : W0.heap[w.heap.size + 1]? = some (.cells (truthRow (.slice aox x.length capx) (z, q)) 114 (0, 0)) := by rw [hW0]; exact heap_alloc_at _ _ _ (by simp)
  have hsw : W0.heap.size = w.heap.size + 2 := by rw [hW0]; simp
  have HB0 := Lib.hid hb0
  have HR1 := Lib.hid hr1
  have HR2 := Lib.hid hr2
  clear hb0 hr1 hr2
  unfold pairRow truthRow at hW0 ⊢
  go_enter Tryz.func125, Tryz.ntmps125
  go_wp2_with fail
  rw [← hW0]
  clear hW0
  go_loopw [7] (fun i wr => ∃ k : Nat, k ≤ p.rs.length ∧ i = .int .i64 k ∧ rightK p s (z, q) x k = true ∧ Below W0.heap.size W0 wr) (fun i _ => p.rs.length - (intOf i).toNat)
  case atStart => exact ⟨0, by omega, rfl, rfl, Below.refl _ _⟩
  case round =>
    obtain ⟨k, hk, rfl, hra, hb⟩ := hrel
    have HB := Lib.hid hb
    have HRA := Lib.hid hra
    have hrow1 := (hb.block _ (lt_of_block HR1.out)).trans HR1.out
    have hrow2 := (hb.block _ (lt_of_block HR2.out)).trans HR2.out
    have hl1 := lt_of_block hrow1
    have hl2 := lt_of_block hrow2
    unfold pairObj pairRow at hrow1
    unfold truthRow at hrow2
    have c5 : wr.cell? ⟨w.heap.size, 5, none⟩ = some (.slice ao2 p.rs.length cap2) := by rw [cell_of_row wr _ _ _ _ _ hrow1]; rfl
    by_cases hlk : k < p.rs.length
    · have g0 : ∀ o, (wr.alloc o).cell? ⟨w.heap.size + 1, 0, none⟩ = some (.slice aox x.length capx) := fun o => by rw [cell_of_row _ _ _ _ _ _ ((hget_old wr o _ (by omega)).trans hrow2)]; rfl
      have g1 : ∀ o, (wr.alloc o).cell? ⟨w.heap.size + 1, 1, none⟩ = some (.int .i64 z) := fun o => by rw [cell_of_row _ _ _ _ _ _ ((hget_old wr o _ (by omega)).trans hrow2)]; rfl
      have g2 : ∀ o, (wr.alloc o).cell? ⟨w.heap.size + 1, 2, none⟩ = some (.int .i64 q) := fun o => by rw [cell_of_row _ _ _ _ _ _ ((hget_old wr o _ (by omega)).trans hrow2)]; rfl
      obtain ⟨b, off, rfl, _, hbl, e1, e2, e3, e4, e5⟩ := HE2.out k hlk
      have hbw : Below w.heap.size w wr := HB0.out.trans (hb.mono (by omega))
      have f1 := (hbw.cell (p := ⟨b, off + k * 5, none⟩) hbl).trans e1
      have f2 := (hbw.cell (p := ⟨b, off + k * 5 + 1, none⟩) hbl).trans e2
      have f3 := (hbw.cell (p := ⟨b, off + k * 5 + 2, none⟩) hbl).trans e3
      have f4 := (hbw.cell (p := ⟨b, off + k * 5 + 3, none⟩) hbl).trans e4
      have f5 := (hbw.cell (p := ⟨b, off + k * 5 + 4, none⟩) hbl).trans e5
      have hrd := hp.rs _ (List.getElem_mem hlk)
      have HNX := Lib.hid (rightK_next p s (z, q) x k)
      have HNO := Lib.hid (rightK_all p s (z, q) x k hlk)
      have HAT := Lib.hid (rightN_at p s (z, q) x k hlk)
      have HXW := Lib.hid (fun o => HX.out.later (hbw.alloc hbw.size o))
      clear e1 e2 e3 e4 e5 hrow1 hrow2 hra hb hbw
      generalize p.rs[k] = rd at *
      obtain ⟨ra, rb, rm, rlo, rhi⟩ := rd
      dsimp only at hrd
      go_wp2_with fail
      refine (rhas_any s k hs (by omega) _).mono ?_
      rintro e w' ⟨rfl, rfl⟩
      have HB1 := Lib.hid (HB.out.alloc HB.out.size (.cells #[.int .i64 ra, .int .i64 rb, .int .i64 rm, .int .i64 rlo, .int .i64 rhi] 94))
      have hr1 : (wr.alloc (.cells #[.int .i64 ra, .int .i64 rb, .int .i64 rm, .int .i64 rlo, .int .i64 rhi] 94)).heap[wr.heap.size]? = some (.cells #[.int .i64 ra, .int .i64 rb, .int .i64 rm, .int .i64 rlo, .int .i64 rhi] 94 (0, 0)) := heap_alloc_at _ _ _ rfl
      have HXX := Lib.hid (HXW.out (.cells #[.int .i64 ra, .int .i64 rb, .int .i64 rm, .int .i64 rlo, .int .i64 rhi] 94))
      obtain ⟨W1, hW1⟩ : ∃ W1, W1 = wr.alloc (.cells #[.int .i64 ra, .int .i64 rb, .int .i64 rm, .int .i64 rlo, .int .i64 rhi] 94) := ⟨_, rfl⟩
      rw [← hW1] at HB1 hr1 HXX
      have g0 := g0 (.cells #[.int .i64 ra, .int .i64 rb, .int .i64 rm, .int .i64 rlo, .int .i64 rhi] 94)
      have g1 := g1 (.cells #[.int .i64 ra, .int .i64 rb, .int .i64 rm, .int .i64 rlo, .int .i64 rhi] 94)
      have g2 := g2 (.cells #[.int .i64 ra, .int .i64 rb, .int .i64 rm, .int .i64 rlo, .int .i64 rhi] 94)
      rw [← hW1] at g0 g1 g2
      rw [← hW1]
      have d0 : W1.cell? ⟨wr.heap.size, 0, none⟩ = some (.int .i64 ra) := by rw [cell_of_row _ _ _ _ _ _ hr1]; rfl
      have d1 : W1.cell? ⟨wr.heap.size, 1, none⟩ = some (.int .i64 rb) := by rw [cell_of_row _ _ _ _ _ _ hr1]; rfl
      have d2 : W1.cell? ⟨wr.heap.size, 2, none⟩ = some (.int .i64 rm) := by rw [cell_of_row _ _ _ _ _ _ hr1]; rfl
      have d3 : W1.cell? ⟨wr.heap.size, 3, none⟩ = some (.int .i64 rlo) := by rw [cell_of_row _ _ _ _ _ _ hr1]; rfl
      have d4 : W1.cell? ⟨wr.heap.size, 4, none⟩ = some (.int .i64 rhi) := by rw [cell_of_row _ _ _ _ _ _ hr1]; rfl
      clear hW1 hr1 f1 f2 f3 f4 f5 c5
      cases ht : s.testBit k with
      | false =>
        have HN : Hid (rightN p s (z, q) x k = true) := by
          have := HAT.out
          rw [ht] at this
          exact this
        clear ht
        go_wp2
        exact ⟨⟨k + 1, by omega, by go_num, by rw [HNX.out, HRA.out, HN.out]; rfl, HB1.out⟩, by simp [intOf]; omega⟩
      | true =>
        by_cases h1 : ra < x.length
        case neg =>
          have hd : decide (ra < (x.length : Int)) = false := by simpa using h1
          have HN : Hid (rightN p s (z, q) x k = true) := by
            show _ = _
            rw [HAT.out, ht]
            have : decide ((x.length : Int) ≤ ra) = true := by simp; omega
            simp [rightR, this]
          clear ht
          go_wp2
          exact ⟨⟨k + 1, by omega, by go_num, by rw [HNX.out, HRA.out, HN.out]; rfl, HB1.out⟩, by simp [intOf]; omega⟩
        have hd1 : decide (ra < (x.length : Int)) = true := by simpa using h1
        by_cases h2 : rb < x.length
        case neg =>
          have hd : decide (rb < (x.length : Int)) = false := by simpa using h2
          have HN : Hid (rightN p s (z, q) x k = true) := by
            show _ = _
            rw [HAT.out, ht]
            have : decide ((x.length : Int) ≤ rb) = true := by simp; omega
            simp [rightR, this]
          clear ht
          go_wp2
          exact ⟨⟨k + 1, by omega, by go_num, by rw [HNX.out, HRA.out, HN.out]; rfl, HB1.out⟩, by simp [intOf]; omega⟩
        have hd2 : decide (rb < (x.length : Int)) = true := by simpa using h2
        have HN : Hid (rightN p s (z, q) x k = inB (atL x ra - atL x rb + showsC z q rm) rlo rhi) := by
          show _ = _
          rw [HAT.out, ht]
          have e1 : decide ((x.length : Int) ≤ ra) = false := by simp; omega
          have e2 : decide ((x.length : Int) ≤ rb) = false := by simp; omega
          simp [rightR, e1, e2, inB]
        clear ht
        go_wp2_with fail
        have hxx := HXX.out
        rw [show x.length = (x.map (Value.int .i64)).length by simp] at hxx
        refine (right1_any x _ (z, q) ⟨ra, rb, rm, rlo, rhi⟩ Rd W1 HXX.out hz hr ⟨hrd.2.2.2.2.1, hrd.2.2.2.2.2.1⟩ ⟨hrd.1, h1⟩ ⟨hrd.2.2.1, h2⟩ hxs).mono ?_
        rintro e w4 ⟨rfl, hb4⟩
        have HB4 := Lib.hid (HB1.out.trans (hb4.mono HB1.out.size))
        dsimp only at HN ⊢
        clear hb4 hxx
        generalize inB (atL x ra - atL x rb + showsC z q rm) rlo rhi = res at HN ⊢
        cases res with
        | true =>
          go_wp2
          exact ⟨⟨k + 1, by omega, by go_num, by rw [HNX.out, HRA.out, HN.out]; rfl, HB4.out⟩, by simp [intOf]; omega⟩
        | false =>
          go_wp2
          go_ret
          refine ⟨?_, HB0.out.trans (HB4.out.mono (by omega))⟩
          rw [HNO.out HN.out]
          rfl
    · obtain rfl : k = p.rs.length := by omega
      clear hrow1 hrow2 hra hb
      go_wp2
      go_ret
      refine ⟨?_, HB0.out.trans (HB.out.mono (by omega))⟩
      rw [show rightL p s (z, q) x = true from HRA.out]
      rfl

end Go.Proofs.YtabbmihakoeegaaGreat

/- The reference: lists of truths in memory; laws for appends. -/
namespace Go.Proofs.YtabbmihakoeegaaGreat
set_option linter.unusedVariables false
set_option linter.unusedSimpArgs false
open Go.RowKit Go.Shelf
attribute [local go_sem] Oper.semAt_some

section
variable {P : Program} {w : World}
/-- An append at an operation, in a region too. -/
theorem wp_append_at {o : Oper} {a : Act} {K : Act → World → Prop} {Q : Exit → Act → World → Prop} (s x : Operand) (t : TypeId)
    (ho : o.op = .call { callee := .builtin .append, args := #[s, x], argTypes := #[t, t] })
    (base : Nat) (e : TypeId) (size bytes : Nat) (z : Value) (ht : P.underlying t = some (.slice e)) (hinfo : (P.info? e).map (fun i => (i.zero, i.size, i.bytes)) = some (some z, size, bytes)) (hzs : z.cells.size = size) (hsz : 0 < size)
    (v : Value) (n : Nat) (xs : List Value) (hs : a.eval s = v) (hown : w.ownsRow base e size v n xs)
    (ad : Addr) (m c : Nat) (news : List Value) (hx : a.eval x = .slice (some ad) m c) (hl : news.length = m * size) (hnews : ∀ j u, news[j]? = some u → w.cell? (ad.add j) = some u) (h1 : ∀ u ∈ news, u.oneCell' = true)
    (h63 : n + m ≤ 1000001) (hbytes : bytes ≤ 1000) (hbase : base ≤ w.heap.size)
    (h : ∀ v' w', w'.ownsRow base e size v' (n + m) (xs ++ news) → w.grownBy w' v.ownBlock → (v'.ownBlock = v.ownBlock ∨ v'.ownBlock = some w.heap.size) → K (a.put o.dst v') w') : o.wp P a w K Q := by
  obtain ⟨i, hi, hz, hsize, hby⟩ := info_parts hinfo
  have hb : (n + m) * bytes ≤ 140737488355328 := by
    have h2 : (n + m) * bytes ≤ 1000001 * 1000 := Nat.mul_le_mul h63 hbytes
    omega
  obtain ⟨v', w', hr, h2, h3, h4, h5⟩ := run_append_own_at (P := P) w base t o.type e i z size bytes ht hi hz hsize hby hzs hsz v n xs hown ad m c news hl hnews h1 (by unfold maxLen; omega) hb hbase
  unfold Oper.wp execOp
  simp only [ho, resolve, invoke, builtin, Sem.run_bind, Sem.run_pure, Result.andThen_ok, List.map_toArray, List.map_cons, List.map_nil, hs, hx, hr]
  exact h v' w' h2 h3 h5
end
theorem Keeps.of_grown {w w' : World} {row : Option Nat} (h : w.grownBy w' row) : Keeps (fun k => row = some k) w w' :=
  ⟨h.os, h.tape, h.output, h.size, fun k hk hn => h.block k hk (fun e => hn e.symm)⟩
/-- A block of ints. -/
def RdI (w : World) (b : Nat) : Prop := ∃ cs fr, w.heap[b]? = some (.cells cs 3 fr)
theorem ListAt.keeps {w w' : World} {M : Nat → Prop} {v : Value} {xs : List Value} (h : ListAt w v xs (RdI w)) (hk : Keeps M w w') (hM : ∀ k, M k → ¬ RdI w k) : ListAt w' v xs (RdI w') := by
  obtain ⟨ao, cap, h1, h2, h3⟩ := h
  refine ⟨ao, cap, h1, h2, fun i hi => ?_⟩
  obtain ⟨b, off, e1, e2, e3, e4⟩ := h3 i hi
  have hb := hk.block b e3 (fun hm => hM b hm e2)
  obtain ⟨cs, fr, hcs⟩ := e2
  exact ⟨b, off, e1, ⟨cs, fr, hb.trans hcs⟩, Nat.lt_of_lt_of_le e3 hk.size, (World.cell?_of_block (w := w) (a := ⟨b, off + i, none⟩) hb).trans e4⟩
abbrev TruT := Value × (List Int × (Int × Int))
def trC (t : TruT) : List Value := [t.1, .int .i64 t.2.2.1, .int .i64 t.2.2.2]
/-- A slice of truths in memory, of the call's own. -/
structure TruthsAt (w : World) (B : Nat) (vl : Value) (L : List (List Int × (Int × Int))) (TL : List TruT) : Prop where
  map : TL.map (·.2) = L
  own : w.ownsRow B 114 3 vl TL.length (TL.flatMap trC)
  at' : ∀ t ∈ TL, ListAt w t.1 (t.2.1.map (Value.int .i64)) (RdI w)
theorem own_not_int {w : World} {B : Nat} {vl : Value} {n : Nat} {xs : List Value} (h : w.ownsRow B 114 3 vl n xs) : ∀ k, vl.ownBlock = some k → ¬ RdI w k := by
  rintro k hk ⟨cs, fr, hcs⟩
  rcases h.2 with ⟨h1, _⟩ | ⟨g, cap, cur, h1, _, h3, _⟩
  · subst h1; simp [Value.ownBlock] at hk
  · subst h1
    simp only [Value.ownBlock, Option.some.injEq] at hk
    subst hk
    rw [h3] at hcs
    simp at hcs
theorem own_ge {w : World} {B : Nat} {e : TypeId} {size : Nat} {vl : Value} {n : Nat} {xs : List Value} (h : w.ownsRow B e size vl n xs) : ∀ k, vl.ownBlock = some k → B ≤ k ∧ k < w.heap.size := h.lt
theorem TruthsAt.later {w w' : World} {B : Nat} {vl : Value} {L : List (List Int × (Int × Int))} {TL : List TruT} (h : TruthsAt w B vl L TL) (hb : Below w.heap.size w w') : TruthsAt w' B vl L TL :=
  ⟨h.map, own_below h.own hb, fun t ht => (h.at' t ht).keeps (M := fun _ => False) ⟨hb.os, hb.tape, hb.output, hb.size, fun k hk _ => hb.block k hk⟩ (fun _ h => h.elim)⟩
theorem infoTruth : (Tryz.prog.info? 114).map (fun i => (i.zero, i.size, i.bytes)) = some (some (.agg #[.slice none 0 0, .int .i64 0, .int .i64 0]), 3, 40) := by kernel_rfl
theorem infoIntR : (Tryz.prog.info? 3).map (fun i => (i.zero, i.size, i.bytes)) = some (some (.int .i64 0), 1, 8) := by kernel_rfl
theorem underTruths : Tryz.prog.underlying 111 = some (.slice 114) := by kernel_rfl
theorem underIntsR : Tryz.prog.underlying 28 = some (.slice 3) := by kernel_rfl
/-- A row of ints of the call's own, as a list. -/
theorem listAt_ints {w : World} {B n : Nat} {v : Value} {x : List Int} (h : w.ownsRow B 3 1 v n (x.map (Value.int .i64))) (hn : n ≤ 1000) : ListAt w v (x.map (Value.int .i64)) (RdI w) := by
  have hl := own_length h
  rcases h.2 with ⟨h2, h3⟩ | ⟨g, cap, cur, h2, h3, h4, h5, h6, h7, h8⟩
  · subst h3
    exact ⟨none, 0, by rw [h2, hl], by omega, fun i hi => by omega⟩
  · refine ⟨_, cap, by rw [h2, hl], by omega, fun i hi => ⟨g, 0, rfl, ⟨_, _, h4⟩, lt_of_block h4, ?_⟩⟩
    rw [Nat.zero_add, cell_of_row w g i cur _ (0, 0) h4]
    have : (x.map (Value.int .i64))[i]? = cur[i]? := by
      rw [← h8, List.getElem?_take, if_pos (by omega)]
      simp
    rw [← this]
    exact List.getElem?_eq_getElem hi

end Go.Proofs.YtabbmihakoeegaaGreat

/- The reference: all truths that go on from some deviations. -/
namespace Go.Proofs.YtabbmihakoeegaaGreat
set_option linter.unusedVariables false
set_option linter.unusedSimpArgs false
open Go.RowKit Go.Shelf
attribute [local go_sem] Oper.semAt_some

def roundsL (p : PairD) (s : Nat) (c : Int × Int) (n : Nat) (x : List Int) (lo : Int) (j : Nat) : List (List Int) := ((List.range j).map fun k : Nat => lo + (k : Int)).flatMap fun k => fromL p s c n (x ++ [k])
theorem roundsL_next (p : PairD) (s : Nat) (c : Int × Int) (n : Nat) (x : List Int) (lo : Int) (j : Nat) : roundsL p s c n x lo (j + 1) = roundsL p s c n x lo j ++ fromL p s c n (x ++ [lo + (j : Int)]) := by
  simp [roundsL, List.range_succ, List.flatMap_append]
theorem roundsL_le (p : PairD) (s : Nat) (c : Int × Int) (n : Nat) (x : List Int) (lo : Int) : ∀ (m j : Nat), j ≤ m → (roundsL p s c n x lo j).length ≤ (roundsL p s c n x lo m).length
  | 0, j, h => by
    have : j = 0 := by omega
    subst this
    exact Nat.le_refl _
  | m + 1, j, h => by
    by_cases hj : j = m + 1
    · subst hj; exact Nat.le_refl _
    · have := roundsL_le p s c n x lo m j (by omega)
      rw [roundsL_next, List.length_append]
      omega
theorem fromL_succ (p : PairD) (s : Nat) (c : Int × Int) (n : Nat) (x : List Int) (lo hi : Int) (hx : p.bs[x.length]? = some (lo, hi)) (h : rightL p s c x = true) : fromL p s c (n + 1) x = roundsL p s c n x lo (hi - lo + 1).toNat := by
  show (if rightL p s c x = true then _ else _) = _
  rw [if_pos h]
  have : p.bs.getD x.length (0, 0) = (lo, hi) := by rw [List.getD_eq_getElem?_getD, hx]; rfl
  rw [this]
  rfl
theorem fromL_no (p : PairD) (s : Nat) (c : Int × Int) (x : List Int) (h : rightL p s c x = false) : ∀ n, fromL p s c n x = []
  | 0 => by unfold fromL; rw [if_neg (by simp [h])]
  | n + 1 => by unfold fromL; rw [if_neg (by simp [h])]
theorem fromL_end (p : PairD) (s : Nat) (c : Int × Int) (x : List Int) (h : rightL p s c x = true) : fromL p s c 0 x = [x] := by
  unfold fromL; rw [if_pos h]
theorem SpansAt.keeps {w W : World} {v : Value} {l : List (Int × Int)} {B : Nat} {M : Nat → Prop} (h : SpansAt w v l (fun k => k < B)) (hk : Keeps M w W) (hM : ∀ k, M k → B ≤ k) : SpansAt W v l (fun k => k < B) :=
  h.later hk.size (fun k h1 h2 => hk.block k h1 (fun hm => by have := hM k hm; omega))
theorem ReadsAt.keeps {w W : World} {v : Value} {l : List RdD} {B : Nat} {M : Nat → Prop} (h : ReadsAt w v l (fun k => k < B)) (hk : Keeps M w W) (hM : ∀ k, M k → B ≤ k) : ReadsAt W v l (fun k => k < B) :=
  h.later hk.size (fun k h1 h2 => hk.block k h1 (fun hm => by have := hM k hm; omega))

theorem drew_heap (w : World) : w.drew.heap = w.heap := rfl
theorem keeps_of_below {M : Nat → Prop} {w w' : World} (h : Below w.heap.size w w') : Keeps M w w' := ⟨h.os, h.tape, h.output, h.size, fun k hk _ => h.block k hk⟩
theorem keeps_join {A B C : World} {M N : Nat → Prop} (h : Keeps M A B) (k : Keeps N B C) (hN : ∀ i, N i → M i ∨ A.heap.size ≤ i) : Keeps M A C :=
  ⟨k.os.trans h.os, k.tape.trans h.tape, k.output.trans h.output, Nat.le_trans h.size k.size, fun i hi hm => (k.block i (Nat.lt_of_lt_of_le hi h.size) (fun hn => (hN i hn).elim hm (fun hh => by omega))).trans (h.block i hi hm)⟩
theorem wp_append_nil {w : World} {o : Oper} {a : Act} {K : Act → World → Prop} {Q : Exit → Act → World → Prop} (s x : Operand) (t : TypeId)
    (ho : o.op = .call { callee := .builtin .append, args := #[s, x], argTypes := #[t, t] }) (e : TypeId) (size bytes : Nat) (z : Value) (ht : Tryz.prog.underlying t = some (.slice e)) (hinfo : (Tryz.prog.info? e).map (fun i => (i.zero, i.size, i.bytes)) = some (some z, size, bytes))
    (g : Nat) (hs : a.eval s = .slice (some ⟨g, 0, none⟩) 0 0) (m c : Nat) (hx : a.eval x = .slice none m c) (hm : m = 0) (hty : t = t) (h : K (a.put o.dst (.slice (some ⟨g, 0, none⟩) 0 0)) w) : o.wp Tryz.prog a w K Q := by
  subst hm
  obtain ⟨i, hi, hz, hsize, hby⟩ := info_parts hinfo
  unfold Oper.wp execOp
  simp only [ho, resolve, invoke, builtin, Sem.run_bind, Sem.run_pure, Result.andThen_ok, List.map_toArray, List.map_cons, List.map_nil, hs, hx]
  have hr : (Builtin.append_ #[t, t] o.type #[.slice (some ⟨g, 0, none⟩) 0 0, .slice none 0 c]).run Tryz.prog w = .ok (.slice (some ⟨g, 0, none⟩) 0 0) w := by
    simp [Builtin.append_, run_underlying ht, sizeOf, typeInfo, hi, Builtin.lenOf, Builtin.firstCells, loadCells, loadCellsFrom, storeCells]
  rw [hr]
  exact h
theorem own_empty {w : World} {base g : Nat} (h : w.heap[g]? = some (.cells #[] 3 (0, 0))) (hb : base ≤ g) : w.ownsRow base 3 1 (.slice (some ⟨g, 0, none⟩) 0 0) 0 [] :=
  ⟨rfl, .inr ⟨g, 0, #[], rfl, hb, h, Nat.le_refl _, by simp, rfl, rfl⟩⟩
theorem lt_of_cell {w : World} {a : Addr} {v : Value} (h : w.cell? a = some v) : a.block < w.heap.size := by
  unfold World.cell? at h
  cases hh : w.heap[a.block]? with
  | none => rw [hh] at h; simp at h
  | some o => exact (Array.getElem?_eq_some_iff.1 hh).1
theorem ones_ints (x : List Int) : ∀ u ∈ x.map (Value.int .i64), u.oneCell' = true := by
  intro u hu
  obtain ⟨y, _, rfl⟩ := List.mem_map.1 hu
  rfl
theorem listAt_news {W : World} {a : Addr} {n cap : Nat} {xs : List Value} {Rd : Nat → Prop} (h : ListAt W (.slice (some a) n cap) xs Rd) : ∀ j u, xs[j]? = some u → W.cell? (a.add j) = some u := by
  obtain ⟨ao, cap', h1, h2, h3⟩ := h
  intro j u hu
  obtain ⟨hj, rfl⟩ := List.getElem?_eq_some_iff.1 hu
  obtain ⟨b, off, e1, _, _, e4⟩ := h3 j hj
  simp only [Value.slice.injEq] at h1
  rw [← h1.1] at e1
  cases e1
  rw [Addr.add_mid]
  exact e4
theorem listAt_none {W : World} {n cap : Nat} {xs : List Value} {Rd : Nat → Prop} (h : ListAt W (.slice none n cap) xs Rd) : xs = [] := by
  obtain ⟨ao, cap', h1, h2, h3⟩ := h
  cases xs with
  | nil => rfl
  | cons a l =>
    obtain ⟨b, off, e1, _⟩ := h3 0 (by simp)
    simp only [Value.slice.injEq] at h1
    rw [← h1.1] at e1
    cases e1
set_option maxRecDepth 100000 in
set_option maxHeartbeats 8000000 in
theorem from_any (p : PairD) (hv : validB p = true) (bs rs : Value) (s : Nat) (hs : s < 256) (c : Int × Int) (hz : -1000 ≤ c.1 ∧ c.1 ≤ 1000) (hr : -1000 ≤ c.2 ∧ c.2 ≤ 1000) (B : Nat) :
    ∀ (n : Nat) (x : List Int) (v vl : Value) (L : List (List Int × (Int × Int))) (TL : List TruT) (w : World), x.length + n = p.bs.length → (∀ y ∈ x, -1000 ≤ y ∧ y ≤ 1000) → SpansAt w bs p.bs (fun k => k < B) → ReadsAt w rs p.rs (fun k => k < B) → B ≤ w.heap.size →
      ListAt w v (x.map (Value.int .i64)) (RdI w) → TruthsAt w B vl L TL → L.length + (fromL p s c n x).length ≤ 1000000 →
      Calls Tryz.prog 120 #[.agg (pairRow p bs rs), .int .i64 s, .agg (truthRow v c), vl] w fun e w' => (∃ vl' TL', e = .returned vl' ∧ TruthsAt w' B vl' (L ++ (fromL p s c n x).map fun y => (y, c)) TL' ∧
        ∀ k, vl'.ownBlock = some k → vl.ownBlock = some k ∨ w.heap.size ≤ k) ∧ Keeps (fun k => vl.ownBlock = some k) w w' := by
  have hp := OkP.of p hv
  have hn5 := hp.n5
  have egf := enters_of Tryz.func120 (by kernel_rfl) rfl
  obtain ⟨z, q⟩ := c
  dsimp only at hz hr
  intro n
  induction n with
  | zero =>
    intro x v vl L TL w hxn hxs hbs hrs hB hx ht hcount
    have hpa : PairAt w p bs rs := ⟨hbs.low, hrs.low⟩
    obtain ⟨ao, cap, hbse, _⟩ := id hbs
    subst hbse
    obtain ⟨ao2, cap2, hrse, _⟩ := id hrs
    subst hrse
    obtain ⟨aox, capx, hve, hlen, _⟩ := id hx
    subst hve
    rw [List.length_map] at hx hlen ⊢
    obtain ⟨W0, hW0⟩ : ∃ W0, W0 = (w.alloc (.cells (pairRow p (.slice ao p.bs.length cap) (.slice ao2 p.rs.length cap2)) 27 (0, 0))).alloc (.cells (truthRow (.slice aox x.length capx) (z, q)) 114 (0, 0)) := ⟨_, rfl⟩
    have hb0 : Below w.heap.size w W0 := by rw [hW0]; exact ((Below.refl _ _).alloc (Nat.le_refl _) _).alloc (by simp) _
    have hr1 : W0.heap[w.heap.size]? = some (pairObj p (.slice ao p.bs.length cap) (.slice ao2 p.rs.length cap2)) := by rw [hW0]; exact (hget_old _ _ _ (by simp)).trans (heap_alloc_at _ _ _ rfl)
    have hr2 : W0.heap[w.heap.size + 1]? = some (.cells (truthRow (.slice aox x.length capx) (z, q)) 114 (0, 0)) := by rw [hW0]; exact heap_alloc_at _ _ _ (by simp)
    have hsw : W0.heap.size = w.heap.size + 2 := by rw [hW0]; simp
    have HB0 := Lib.hid hb0
    have HX0 := Lib.hid (hx.keeps (M := fun _ => False) ⟨hb0.os, hb0.tape, hb0.output, hb0.size, fun k hk _ => hb0.block k hk⟩ (fun _ h => h.elim))
    have HT0 := Lib.hid (ht.later hb0)
    have HPA0 := Lib.hid (hpa.later hb0)
    have HR1 := Lib.hid hr1
    have HR2 := Lib.hid hr2
    have HC := Lib.hid hcount
    have hrow1 := hr1
    have hrow2 := hr2
    unfold pairObj pairRow at hrow1
    unfold truthRow at hrow2
    have c0 : W0.cell? ⟨w.heap.size, 0, none⟩ = some (.slice ao p.bs.length cap) := by rw [cell_of_row W0 _ _ _ _ _ hrow1]; rfl
    have c1 : W0.cell? ⟨w.heap.size, 1, none⟩ = some (.int .i64 p.zl) := by rw [cell_of_row W0 _ _ _ _ _ hrow1]; rfl
    have c2 : W0.cell? ⟨w.heap.size, 2, none⟩ = some (.int .i64 p.zh) := by rw [cell_of_row W0 _ _ _ _ _ hrow1]; rfl
    have c3 : W0.cell? ⟨w.heap.size, 3, none⟩ = some (.int .i64 p.rl) := by rw [cell_of_row W0 _ _ _ _ _ hrow1]; rfl
    have c4 : W0.cell? ⟨w.heap.size, 4, none⟩ = some (.int .i64 p.rh) := by rw [cell_of_row W0 _ _ _ _ _ hrow1]; rfl
    have c5 : W0.cell? ⟨w.heap.size, 5, none⟩ = some (.slice ao2 p.rs.length cap2) := by rw [cell_of_row W0 _ _ _ _ _ hrow1]; rfl
    have d0 : W0.cell? ⟨w.heap.size + 1, 0, none⟩ = some (.slice aox x.length capx) := by rw [cell_of_row W0 _ _ _ _ _ hrow2]; rfl
    have d1 : W0.cell? ⟨w.heap.size + 1, 1, none⟩ = some (.int .i64 z) := by rw [cell_of_row W0 _ _ _ _ _ hrow2]; rfl
    have d2 : W0.cell? ⟨w.heap.size + 1, 2, none⟩ = some (.int .i64 q) := by rw [cell_of_row W0 _ _ _ _ _ hrow2]; rfl
    clear hb0 hr1 hr2 hrow1 hrow2 hx ht hbs hrs hpa hcount
    unfold pairRow truthRow at hW0 ⊢
    go_enter Tryz.func120, Tryz.ntmps120
    go_wp2_with fail
    rw [← hW0]
    clear hW0
    refine (right_any p hv _ _ _ x (z, q) s hs (RdI W0) W0 (by exact HPA0.out) (by have := HX0.out; simpa using this) hz hr hxs).mono ?_
    rintro e w2 ⟨rfl, hb2⟩
    have HB2 := Lib.hid (HB0.out.trans (hb2.mono (by omega)))
    have HT2 := Lib.hid (HT0.out.later hb2)
    have HX2 := Lib.hid (HX0.out.keeps (M := fun _ => False) (keeps_of_below hb2) (fun _ h => h.elim))
    have hrow1 := (hb2.block _ (by omega)).trans HR1.out
    have hrow2 := (hb2.block _ (by omega)).trans HR2.out
    unfold pairObj pairRow at hrow1
    unfold truthRow at hrow2
    clear hb2 c0 c1 c2 c3 c4 c5 d0 d1 d2
    have c0 : w2.cell? ⟨w.heap.size, 0, none⟩ = some (.slice ao p.bs.length cap) := by rw [cell_of_row w2 _ _ _ _ _ hrow1]; rfl
    have d0 : w2.cell? ⟨w.heap.size + 1, 0, none⟩ = some (.slice aox x.length capx) := by rw [cell_of_row w2 _ _ _ _ _ hrow2]; rfl
    have d1 : w2.cell? ⟨w.heap.size + 1, 1, none⟩ = some (.int .i64 z) := by rw [cell_of_row w2 _ _ _ _ _ hrow2]; rfl
    have d2 : w2.cell? ⟨w.heap.size + 1, 2, none⟩ = some (.int .i64 q) := by rw [cell_of_row w2 _ _ _ _ _ hrow2]; rfl
    clear hrow1 hrow2
    cases hrl : rightL p s (z, q) x with
    | false =>
      have HE := Lib.hid (fromL_no p s (z, q) x hrl 0)
      clear hrl
      go_wp2
      go_ret
      refine ⟨⟨vl, TL, rfl, ?_, fun k hk => .inl hk⟩, keeps_of_below HB2.out⟩
      rw [HE.out, List.map_nil, List.append_nil]
      exact HT2.out
    | true =>
      have HE := Lib.hid (fromL_end p s (z, q) x hrl)
      clear hrl
      have hd : ((x.length : Int) == (p.bs.length : Int)) = true := by simp; omega
      have hTLn : TL.length ≤ 1000000 := by
        have h1 := HC.out
        have h2 := HT2.out.map
        have : TL.length = L.length := by rw [← h2]; simp
        omega
      obtain ⟨i0, hi0, hz0, hz1, hz2⟩ := info_parts infoTruth
      have hsw2 := HB2.out.size
      go_wp2_with (at_builtin; refine wpList_append_own_at (w := _) rfl _ _ 111 rfl B 114 i0 _ 3 40 underTruths hi0 hz0 hz1 hz2 rfl (by decide) vl TL.length _ rfl (HT2.out.own.alloc _) ⟨w2.heap.size, 0, none⟩ 1 1 [.slice aox x.length capx, .int .i64 z, .int .i64 q] rfl rfl (news_block (cs := #[.slice aox x.length capx, .int .i64 z, .int .i64 q]) (heap_alloc_at _ _ _ rfl)) (by simp [Value.oneCell']) (by unfold maxLen; omega) (by omega) (by simp; omega) ?_; intro v' w3 hown' hgrow' hnil' hat'; have HO3 := Lib.hid hown'; have HG3 := Lib.hid hgrow'; have HA3 := Lib.hid hat'; clear hown' hgrow' hnil' hat')
      go_ret
      have hkk : Keeps (fun k => vl.ownBlock = some k) w2 w3 := (Keeps.alloc _ _ _).trans (Keeps.of_grown HG3.out)
      have h1 : TruthsAt w3 B v' (L ++ (fromL p s (z, q) 0 x).map fun y => (y, (z, q))) (TL ++ [(.slice aox x.length capx, (x, (z, q)))]) := by
        refine ⟨by rw [HE.out, List.map_append, HT2.out.map]; rfl, ?_, fun t htm => ?_⟩
        · rw [List.length_append, List.flatMap_append]
          exact HO3.out
        · rcases List.mem_append.1 htm with h | h
          · exact (HT2.out.at' t h).keeps hkk (fun k hk => own_not_int HT2.out.own k hk)
          · rw [List.mem_singleton.1 h]
            have := HX2.out.keeps hkk (fun k hk => own_not_int HT2.out.own k hk)
            exact this
      have h2 : ∀ k, v'.ownBlock = some k → vl.ownBlock = some k ∨ w.heap.size ≤ k := fun k hk => by
        rcases HA3.out with h | h
        · exact .inl (h ▸ hk)
        · rw [h] at hk
          simp at hk
          exact .inr (by omega)
      refine ⟨?_, (keeps_of_below HB2.out).trans hkk⟩
      first | exact ⟨v', _, rfl, h1, h2⟩ | exact ⟨v', rfl, ⟨_, h1⟩, h2⟩
  | succ n ih =>
    intro x v vl L TL w hxn hxs hbs hrs hB hx ht hcount
    have hpa : PairAt w p bs rs := ⟨hbs.low, hrs.low⟩
    have hxl : x.length < p.bs.length := by omega
    obtain ⟨ao, cap, hbse, hcb1, hcb2, hel⟩ := id hbs
    subst hbse
    obtain ⟨ao2, cap2, hrse, _, _, _⟩ := id hrs
    subst hrse
    obtain ⟨aox, capx, hve, hlen, _⟩ := id hx
    subst hve
    rw [List.length_map] at hx hlen ⊢
    obtain ⟨blk, off, rfl, hblk, hbls, e1, e2⟩ := hel x.length hxl
    have hsp := hp.bs _ (List.getElem_mem hxl)
    have HGE : Hid (p.bs[x.length]? = some (p.bs[x.length].1, p.bs[x.length].2)) := List.getElem?_eq_getElem hxl
    obtain ⟨lo, hlo⟩ : ∃ lo, lo = p.bs[x.length].1 := ⟨_, rfl⟩
    obtain ⟨hi, hhi⟩ : ∃ hi, hi = p.bs[x.length].2 := ⟨_, rfl⟩
    rw [← hlo] at e1 HGE hsp
    rw [← hhi] at e2 HGE hsp
    clear hlo hhi hel
    obtain ⟨W0, hW0⟩ : ∃ W0, W0 = (w.alloc (.cells (pairRow p (.slice (some ⟨blk, off, none⟩) p.bs.length cap) (.slice ao2 p.rs.length cap2)) 27 (0, 0))).alloc (.cells (truthRow (.slice aox x.length capx) (z, q)) 114 (0, 0)) := ⟨_, rfl⟩
    have hb0 : Below w.heap.size w W0 := by rw [hW0]; exact ((Below.refl _ _).alloc (Nat.le_refl _) _).alloc (by simp) _
    have hr1 : W0.heap[w.heap.size]? = some (pairObj p (.slice (some ⟨blk, off, none⟩) p.bs.length cap) (.slice ao2 p.rs.length cap2)) := by rw [hW0]; exact (hget_old _ _ _ (by simp)).trans (heap_alloc_at _ _ _ rfl)
    have hr2 : W0.heap[w.heap.size + 1]? = some (.cells (truthRow (.slice aox x.length capx) (z, q)) 114 (0, 0)) := by rw [hW0]; exact heap_alloc_at _ _ _ (by simp)
    have hsw : W0.heap.size = w.heap.size + 2 := by rw [hW0]; simp
    have HB0 := Lib.hid hb0
    have HR1 := Lib.hid hr1
    have HR2 := Lib.hid hr2
    have HX0 := Lib.hid (hx.keeps (M := fun _ => False) ⟨hb0.os, hb0.tape, hb0.output, hb0.size, fun k hk _ => hb0.block k hk⟩ (fun _ h => h.elim))
    have HT0 := Lib.hid (ht.later hb0)
    have HBS0 := Lib.hid (hbs.later hb0.size (fun k hk _ => hb0.block k hk))
    have HRS0 := Lib.hid (hrs.later hb0.size (fun k hk _ => hb0.block k hk))
    have HPA0 := Lib.hid (hpa.later hb0)
    have HT := Lib.hid ht
    have IH := Lib.hid ih
    have HC := Lib.hid hcount
    have HOWN := Lib.hid (own_ge ht.own)
    have f1 := (hb0.cell (p := ⟨blk, off + x.length * 2, none⟩) hbls).trans e1
    have f2 := (hb0.cell (p := ⟨blk, off + x.length * 2 + 1, none⟩) hbls).trans e2
    have hrow1 := hr1
    have hrow2 := hr2
    unfold pairObj pairRow at hrow1
    unfold truthRow at hrow2
    have rows : ∀ W', Keeps (fun k => vl.ownBlock = some k) W0 W' → ((W'.cell? ⟨w.heap.size, 0, none⟩ = some (.slice (some ⟨blk, off, none⟩) p.bs.length cap) ∧ W'.cell? ⟨w.heap.size, 1, none⟩ = some (.int .i64 p.zl) ∧ W'.cell? ⟨w.heap.size, 2, none⟩ = some (.int .i64 p.zh) ∧
        W'.cell? ⟨w.heap.size, 3, none⟩ = some (.int .i64 p.rl) ∧ W'.cell? ⟨w.heap.size, 4, none⟩ = some (.int .i64 p.rh) ∧ W'.cell? ⟨w.heap.size, 5, none⟩ = some (.slice ao2 p.rs.length cap2)) ∧
        (W'.cell? ⟨w.heap.size + 1, 0, none⟩ = some (.slice aox x.length capx) ∧ W'.cell? ⟨w.heap.size + 1, 1, none⟩ = some (.int .i64 z) ∧ W'.cell? ⟨w.heap.size + 1, 2, none⟩ = some (.int .i64 q)) ∧
        W'.cell? ⟨blk, off + x.length * 2, none⟩ = some (.int .i64 lo) ∧ W'.cell? ⟨blk, off + x.length * 2 + 1, none⟩ = some (.int .i64 hi)) := fun W' hk => by
      have q1 := (hk.block w.heap.size (by omega) (fun h => by have := HOWN.out _ h; omega)).trans hrow1
      have q2 := (hk.block (w.heap.size + 1) (by omega) (fun h => by have := HOWN.out _ h; omega)).trans hrow2
      have q3 := hk.block blk (by omega) (fun h => by have := HOWN.out _ h; omega)
      refine ⟨⟨?_, ?_, ?_, ?_, ?_, ?_⟩, ⟨?_, ?_, ?_⟩, ?_, ?_⟩
      · rw [cell_of_row _ _ _ _ _ _ q1]; rfl
      · rw [cell_of_row _ _ _ _ _ _ q1]; rfl
      · rw [cell_of_row _ _ _ _ _ _ q1]; rfl
      · rw [cell_of_row _ _ _ _ _ _ q1]; rfl
      · rw [cell_of_row _ _ _ _ _ _ q1]; rfl
      · rw [cell_of_row _ _ _ _ _ _ q1]; rfl
      · rw [cell_of_row _ _ _ _ _ _ q2]; rfl
      · rw [cell_of_row _ _ _ _ _ _ q2]; rfl
      · rw [cell_of_row _ _ _ _ _ _ q2]; rfl
      · exact (World.cell?_of_block (w := W0) (a := ⟨blk, off + x.length * 2, none⟩) q3).trans f1
      · exact (World.cell?_of_block (w := W0) (a := ⟨blk, off + x.length * 2 + 1, none⟩) q3).trans f2
    have ROWS := Lib.hid rows
    obtain ⟨⟨c0, c1, c2, c3, c4, c5⟩, ⟨d0, d1, d2⟩, f3, f4⟩ := rows W0 (Keeps.refl _ _)
    clear rows hb0 hr1 hr2 hrow1 hrow2 ih hx ht hbs hrs hpa hcount e1 e2 f1 f2
    unfold pairRow truthRow at hW0 ⊢
    go_enter Tryz.func120, Tryz.ntmps120
    go_wp2_with fail
    rw [← hW0]
    clear hW0
    refine (right_any p hv _ _ _ x (z, q) s hs (RdI W0) W0 (by exact HPA0.out) (by have := HX0.out; simpa using this) hz hr hxs).mono ?_
    rintro e w2 ⟨rfl, hb2⟩
    have HK2 : Hid (Keeps (fun k => vl.ownBlock = some k) W0 w2) := ⟨hb2.os, hb2.tape, hb2.output, hb2.size, fun k hk _ => hb2.block k hk⟩
    have HB2 := Lib.hid (HB0.out.trans (hb2.mono (by omega)))
    have HT2 := Lib.hid (HT0.out.later hb2)
    clear hb2 c0 c1 c2 c3 c4 c5 d0 d1 d2 f3 f4
    cases hrl : rightL p s (z, q) x with
    | false =>
      have HE := Lib.hid (fromL_no p s (z, q) x hrl (n + 1))
      clear hrl
      go_wp2
      go_ret
      refine ⟨⟨vl, TL, rfl, ?_, fun k hk => .inl hk⟩, ⟨HB2.out.os, HB2.out.tape, HB2.out.output, HB2.out.size, fun k hk _ => HB2.out.block k hk⟩⟩
      rw [HE.out, List.map_nil, List.append_nil]
      exact HT2.out
    | true =>
      have HE := Lib.hid (fromL_succ p s (z, q) n x lo hi HGE.out hrl)
      clear hrl
      obtain ⟨⟨c0, c1, c2, c3, c4, c5⟩, ⟨d0, d1, d2⟩, f3, f4⟩ := ROWS.out w2 HK2.out
      have hd : ((x.length : Int) == (p.bs.length : Int)) = false := by simp; omega
      have hd2 : decide ((x.length : Int) < (p.bs.length : Int)) = true := by simp; omega
      go_wp2_with fail
      clear c0 c1 c2 c3 c4 c5 d0 d1 d2 f3 f4
      go_loopw [3, 10] (fun o kk wr => ∃ (j : Nat) (TLj : List TruT), (j : Int) ≤ hi - lo + 1 ∧ kk = .int .i64 (lo + j) ∧ TruthsAt wr B o (L ++ (roundsL p s (z, q) n x lo j).map fun y => (y, (z, q))) TLj ∧ Keeps (fun k => vl.ownBlock = some k) W0 wr ∧ (∀ k, o.ownBlock = some k → vl.ownBlock = some k ∨ W0.heap.size ≤ k)) (fun _ kk _ => (hi + 1 - intOf kk).toNat)
      case atStart => exact ⟨0, TL, by omega, by simp, by simpa [roundsL] using HT2.out, HK2.out, fun k hk => .inl hk⟩
      case round =>
        obtain ⟨j, TLj, hj, rfl, htj, hkj, hoj⟩ := hrel
        have HTJ := Lib.hid htj
        have HKJ := Lib.hid hkj
        have HOJ := Lib.hid hoj
        obtain ⟨⟨c0, c1, c2, c3, c4, c5⟩, ⟨d0, d1, d2⟩, f3, f4⟩ := ROWS.out wr hkj
        have hsz := hkj.size
        have hwk : IntKind.i64.wrap (lo + (j : Int) + 1) = lo + ((j + 1 : Nat) : Int) := by rw [IntWalk.i64_in _ (by omega)]; omega
        clear htj hkj hoj
        by_cases hlk : lo + (j : Int) ≤ hi
        case neg =>
          have hjc : j = (hi - lo + 1).toNat := by omega
          have HJC := Lib.hid hjc
          have hdl : decide (lo + (j : Int) ≤ hi) = false := by simpa using hlk
          clear hjc hwk
          go_wp2
          go_ret
          have h1 : TruthsAt wr B u3 (L ++ (fromL p s (z, q) (n + 1) x).map fun y => (y, (z, q))) TLj := by rw [HE.out, ← HJC.out]; exact HTJ.out
          have h2 : ∀ k, u3.ownBlock = some k → vl.ownBlock = some k ∨ w.heap.size ≤ k := fun k hk => by
            rcases HOJ.out k hk with h | h
            · exact .inl h
            · exact .inr (by omega)
          have hkb : Keeps (fun k => vl.ownBlock = some k) w W0 := ⟨HB0.out.os, HB0.out.tape, HB0.out.output, HB0.out.size, fun k hk _ => HB0.out.block k hk⟩
          refine ⟨?_, hkb.trans HKJ.out⟩
          first | exact ⟨u3, rfl, ⟨TLj, h1⟩, h2⟩ | exact ⟨u3, TLj, rfl, h1, h2⟩ | exact ⟨_, TLj, rfl, h1, h2⟩ | exact ⟨TLj, h1, h2⟩ | exact ⟨⟨TLj, h1⟩, h2⟩
        have hdl : decide (lo + (j : Int) ≤ hi) = true := by simpa using hlk
        have hkD : Keeps (fun k => vl.ownBlock = some k) W0 wr.drew := HKJ.out.trans (Keeps.drew _ _)
        have hou : ∀ k, u3.ownBlock = some k → B ≤ k ∧ k < wr.heap.size := own_ge HTJ.out.own
        have rowsB : ∀ W', Keeps (fun k => u3.ownBlock = some k) wr.drew W' → Keeps (fun k => u3.ownBlock = some k) wr.drew W' ∧ (W'.cell? ⟨w.heap.size, 0, none⟩ = some (.slice (some ⟨blk, off, none⟩) p.bs.length cap) ∧ W'.cell? ⟨w.heap.size, 1, none⟩ = some (.int .i64 p.zl) ∧ W'.cell? ⟨w.heap.size, 2, none⟩ = some (.int .i64 p.zh) ∧
            W'.cell? ⟨w.heap.size, 3, none⟩ = some (.int .i64 p.rl) ∧ W'.cell? ⟨w.heap.size, 4, none⟩ = some (.int .i64 p.rh) ∧ W'.cell? ⟨w.heap.size, 5, none⟩ = some (.slice ao2 p.rs.length cap2)) ∧
            (W'.cell? ⟨w.heap.size + 1, 0, none⟩ = some (.slice aox x.length capx) ∧ W'.cell? ⟨w.heap.size + 1, 1, none⟩ = some (.int .i64 z) ∧ W'.cell? ⟨w.heap.size + 1, 2, none⟩ = some (.int .i64 q)) := fun W' hb => by
          have hk1 : Keeps (fun k => vl.ownBlock = some k ∨ W0.heap.size ≤ k) wr.drew W' := hb.mono fun k _ h => HOJ.out k h
          have hk2 := (hkD.mono (Mut' := fun k => vl.ownBlock = some k ∨ W0.heap.size ≤ k) fun k _ h => .inl h).trans hk1
          have := ROWS.out W' (hk2.mono fun k hk h => h.elim id (fun h => by omega))
          exact ⟨hb, this.1, this.2.1⟩
        have RB := Lib.hid rowsB
        have HKD := Lib.hid hkD
        have hxD : ListAt wr.drew (.slice aox x.length capx) (x.map (Value.int .i64)) (RdI wr.drew) := HX0.out.keeps hkD (fun k hk => own_not_int HT0.out.own k hk)
        have HXD := Lib.hid hxD
        have HNXT := Lib.hid (roundsL_next p s (z, q) n x lo j)
        have HLE := Lib.hid (roundsL_le p s (z, q) n x lo (hi - lo + 1).toNat (j + 1) (by omega))
        have hall : ∀ W', Below wr.heap.size wr.drew W' → SpansAt W' (.slice (some ⟨blk, off, none⟩) p.bs.length cap) p.bs (fun k => k < B) ∧ ReadsAt W' (.slice ao2 p.rs.length cap2) p.rs (fun k => k < B) ∧ TruthsAt W' B u3 (L ++ (roundsL p s (z, q) n x lo j).map fun y => (y, (z, q))) TLj := fun W' hb =>
          ⟨((HBS0.out.keeps hkD (fun k h => (HOWN.out k h).1)).later hb.size (fun k hk _ => hb.block k hk)), ((HRS0.out.keeps hkD (fun k h => (HOWN.out k h).1)).later hb.size (fun k hk _ => hb.block k hk)),
            (HTJ.out.later (w' := wr.drew) ⟨rfl, rfl, rfl, Nat.le_refl _, fun _ _ => rfl⟩).later hb⟩
        have HALL := Lib.hid hall
        have HXB : Hid (∀ y ∈ x ++ [lo + (j : Int)], -1000 ≤ y ∧ y ≤ 1000) := fun y hy => by
          rcases List.mem_append.1 hy with hy | hy
          · exact hxs y hy
          · rw [List.mem_singleton.1 hy]; omega
        clear rowsB hkD hall
        go_wp2_with fail
        clear c0 c1 c2 c3 c4 c5 d0 d1 d2 f3 f4
        cases aox with
        | none =>
          have hxe : x = [] := by simpa using listAt_none hxD
          clear hxD
          have HXL : Hid (x.length = 0) := by show _ = _; rw [hxe]; rfl
          have HXE := Lib.hid hxe
          clear hxe
          go_region_held3 (fun W' => Keeps (fun k => u3.ownBlock = some k) wr.drew W' ∧ (W'.cell? ⟨w.heap.size, 0, none⟩ = some (.slice (some ⟨blk, off, none⟩) p.bs.length cap) ∧ W'.cell? ⟨w.heap.size, 1, none⟩ = some (.int .i64 p.zl) ∧ W'.cell? ⟨w.heap.size, 2, none⟩ = some (.int .i64 p.zh) ∧
              W'.cell? ⟨w.heap.size, 3, none⟩ = some (.int .i64 p.rl) ∧ W'.cell? ⟨w.heap.size, 4, none⟩ = some (.int .i64 p.rh) ∧ W'.cell? ⟨w.heap.size, 5, none⟩ = some (.slice ao2 p.rs.length cap2)) ∧
              (W'.cell? ⟨w.heap.size + 1, 0, none⟩ = some (.slice none x.length capx) ∧ W'.cell? ⟨w.heap.size + 1, 1, none⟩ = some (.int .i64 z) ∧ W'.cell? ⟨w.heap.size + 1, 2, none⟩ = some (.int .i64 q)))
            ((refine RB.out _ ?_; first | exact hk3 | (refine keeps_of_below ?_; (repeat (first | exact hb2 | exact hb1 | exact ⟨rfl, rfl, rfl, Nat.le_refl _, fun _ _ => rfl⟩ | (refine Below.drew ?_) | (refine Below.alloc ?_ (by first | omega | (simp [drew_heap] <;> omega)) _))))))
            (first
              | ((rw [if_pos (by rfl)]; refine wp_append_nil (.tmp 47) (.tmp 49) 28 rfl 3 1 8 (.int .i64 0) underIntsR infoIntR _ rfl x.length capx rfl HXL.out rfl ?_))
              | ((rw [if_pos (by rfl)]; refine wp_append_at (.tmp 50) (.tmp 52) 28 rfl wr.heap.size 3 1 8 (.int .i64 0) underIntsR infoIntR rfl (by decide) _ 0 [] rfl (own_empty (by (try simp only [drew_heap]); first | exact heap_alloc_at _ _ _ rfl | exact heap_alloc_at _ _ _ (by simp) | exact (hget_old _ _ _ (by simp)).trans (heap_alloc_at _ _ _ rfl) | exact (hget_old _ _ _ (by simp)).trans (heap_alloc_at _ _ _ (by simp))) (by simp <;> omega)) _ 1 1 [.int .i64 (lo + (j : Int))] rfl rfl (news_block (cs := #[.int .i64 (lo + (j : Int))]) (t := 3) (fr := (0, 0)) (by first | exact (by (try simp only [drew_heap]); first | exact heap_alloc_at _ _ _ rfl | exact heap_alloc_at _ _ _ (by simp) | exact (hget_old _ _ _ (by simp)).trans (heap_alloc_at _ _ _ rfl) | exact (hget_old _ _ _ (by simp)).trans (heap_alloc_at _ _ _ (by simp))) | exact (hk1 _ (by first | omega | (simp [drew_heap] <;> omega)) (fun e => by have hq := Option.some.inj (show some _ = some _ from e); simp [drew_heap] at hq; try omega)).trans (by (try simp only [drew_heap]); first | exact heap_alloc_at _ _ _ rfl | exact heap_alloc_at _ _ _ (by simp) | exact (hget_old _ _ _ (by simp)).trans (heap_alloc_at _ _ _ rfl) | exact (hget_old _ _ _ (by simp)).trans (heap_alloc_at _ _ _ (by simp))))) (by simp [Value.oneCell']) (by omega) (by decide) (by first | omega | (simp [drew_heap] <;> omega)) ?_; intro v2 w2 hown2 hg2 hat2; obtain ⟨g2, cp2, rfl⟩ := own_pos hown2; have hown3 : w2.ownsRow wr.heap.size 3 1 (.slice (some ⟨g2, 0, none⟩) 1 cp2) 1 ((x ++ [lo + (j : Int)]).map (Value.int .i64)) := (by have e := HXE.out; rw [e]; simpa using hown2); have hb2 : Below wr.heap.size wr.drew w2 := Below.grown (by (repeat (first | exact hb2 | exact hb1 | exact ⟨rfl, rfl, rfl, Nat.le_refl _, fun _ _ => rfl⟩ | (refine Below.drew ?_) | (refine Below.alloc ?_ (by first | omega | (simp [drew_heap] <;> omega)) _)))) hg2 (by first | omega | (simp [drew_heap] <;> omega)) (fun kk hkk => by have hkq := Option.some.inj (show some _ = some kk from hkk); simp [drew_heap] at hkq; omega); have s2 : wr.heap.size ≤ w2.heap.size := hb2.size))
              | ((go_at_call 120; refine (IH.out (x ++ [lo + (j : Int)]) _ u3 (L ++ (roundsL p s (z, q) n x lo j).map fun y => (y, (z, q))) TLj w2 (by simp; omega) HXB.out (HALL.out w2 hb2).1 (HALL.out w2 hb2).2.1 (by omega) (listAt_ints hown3 (by omega)) (HALL.out w2 hb2).2.2 (by have e1 := HNXT.out; have e2 := HLE.out; have e3 := HC.out; rw [HE.out] at e3; rw [e1, List.length_append] at e2; rw [List.length_append, List.length_map]; omega)).mono ?_; rintro e w3 ⟨⟨vl3, TL3, rfl, ht3, ho3⟩, hkk3⟩; have hk3 : Keeps (fun k => u3.ownBlock = some k) wr.drew w3 := (keeps_of_below hb2).trans hkk3))
              | (fail))
          all_goals go_wp2
          all_goals refine ⟨⟨j + 1, TL3, by omega, rfl, ?_, ?_, fun k hk => ?_⟩, ?_⟩
          all_goals first
            | (rw [HNXT.out, List.map_append, ← List.append_assoc]; exact ht3)
            | exact keeps_join HKD.out hk3 HOJ.out
            | (simp [intOf]; omega)
            | exact (ho3 k hk).elim (HOJ.out k) (fun h => .inr (by omega))
            | skip
        | some ax =>
        have HNW := Lib.hid (listAt_news hxD)
        clear hxD
        go_region_held3 (fun W' => Keeps (fun k => u3.ownBlock = some k) wr.drew W' ∧ (W'.cell? ⟨w.heap.size, 0, none⟩ = some (.slice (some ⟨blk, off, none⟩) p.bs.length cap) ∧ W'.cell? ⟨w.heap.size, 1, none⟩ = some (.int .i64 p.zl) ∧ W'.cell? ⟨w.heap.size, 2, none⟩ = some (.int .i64 p.zh) ∧
            W'.cell? ⟨w.heap.size, 3, none⟩ = some (.int .i64 p.rl) ∧ W'.cell? ⟨w.heap.size, 4, none⟩ = some (.int .i64 p.rh) ∧ W'.cell? ⟨w.heap.size, 5, none⟩ = some (.slice ao2 p.rs.length cap2)) ∧
            (W'.cell? ⟨w.heap.size + 1, 0, none⟩ = some (.slice (some ax) x.length capx) ∧ W'.cell? ⟨w.heap.size + 1, 1, none⟩ = some (.int .i64 z) ∧ W'.cell? ⟨w.heap.size + 1, 2, none⟩ = some (.int .i64 q)))
          ((refine RB.out _ ?_; first | exact hk3 | (refine keeps_of_below ?_; (repeat (first | exact hb2 | exact hb1 | exact ⟨rfl, rfl, rfl, Nat.le_refl _, fun _ _ => rfl⟩ | (refine Below.drew ?_) | (refine Below.alloc ?_ (by first | omega | (simp [drew_heap] <;> omega)) _))))))
          (first
            | ((rw [if_pos (by rfl)]; refine wp_append_at (.tmp 47) (.tmp 49) 28 rfl wr.heap.size 3 1 8 (.int .i64 0) underIntsR infoIntR rfl (by decide) _ 0 [] rfl (own_empty (by (try simp only [drew_heap]); first | exact heap_alloc_at _ _ _ rfl | exact heap_alloc_at _ _ _ (by simp) | exact (hget_old _ _ _ (by simp)).trans (heap_alloc_at _ _ _ rfl) | exact (hget_old _ _ _ (by simp)).trans (heap_alloc_at _ _ _ (by simp))) (by simp <;> omega)) ax x.length capx (x.map (Value.int .i64)) rfl (by simp) (fun jj u hu => ((show Below wr.heap.size wr.drew _ by (repeat (first | exact hb2 | exact hb1 | exact ⟨rfl, rfl, rfl, Nat.le_refl _, fun _ _ => rfl⟩ | (refine Below.drew ?_) | (refine Below.alloc ?_ (by first | omega | (simp [drew_heap] <;> omega)) _)))).cell (lt_of_cell (HNW.out jj u hu))).trans (HNW.out jj u hu)) (ones_ints x) (by omega) (by decide) (by first | omega | (simp [drew_heap] <;> omega)) ?_; intro v1 w1 hown1 hg1 hat1; have hb1 : Below wr.heap.size wr.drew w1 := Below.grown (by (repeat (first | exact hb2 | exact hb1 | exact ⟨rfl, rfl, rfl, Nat.le_refl _, fun _ _ => rfl⟩ | (refine Below.drew ?_) | (refine Below.alloc ?_ (by first | omega | (simp [drew_heap] <;> omega)) _)))) hg1 (by first | omega | (simp [drew_heap] <;> omega)) (fun kk hkk => by have hkq := Option.some.inj (show some _ = some kk from hkk); simp [drew_heap] at hkq; omega); have s1 : wr.heap.size ≤ w1.heap.size := hb1.size; have hk1 := hg1.block))
            | ((rw [if_pos (by rfl)]; refine wp_append_at (.tmp 50) (.tmp 52) 28 rfl wr.heap.size 3 1 8 (.int .i64 0) underIntsR infoIntR rfl (by decide) v1 (0 + x.length) _ rfl (by first | exact hown1 | exact hown1.alloc _) _ 1 1 [.int .i64 (lo + (j : Int))] rfl rfl (news_block (cs := #[.int .i64 (lo + (j : Int))]) (t := 3) (fr := (0, 0)) (by first | exact (by (try simp only [drew_heap]); first | exact heap_alloc_at _ _ _ rfl | exact heap_alloc_at _ _ _ (by simp) | exact (hget_old _ _ _ (by simp)).trans (heap_alloc_at _ _ _ rfl) | exact (hget_old _ _ _ (by simp)).trans (heap_alloc_at _ _ _ (by simp))) | exact (hk1 _ (by first | omega | (simp [drew_heap] <;> omega)) (fun e => by have hq := Option.some.inj (show some _ = some _ from e); simp [drew_heap] at hq; try omega)).trans (by (try simp only [drew_heap]); first | exact heap_alloc_at _ _ _ rfl | exact heap_alloc_at _ _ _ (by simp) | exact (hget_old _ _ _ (by simp)).trans (heap_alloc_at _ _ _ rfl) | exact (hget_old _ _ _ (by simp)).trans (heap_alloc_at _ _ _ (by simp))))) (by simp [Value.oneCell']) (by omega) (by decide) (by first | omega | (simp [drew_heap] <;> omega)) ?_; intro v2 w2 hown2 hg2 hat2; obtain ⟨g2, cp2, rfl⟩ := own_pos hown2; have hown3 : w2.ownsRow wr.heap.size 3 1 (.slice (some ⟨g2, 0, none⟩) (x.length + 1) cp2) (x.length + 1) ((x ++ [lo + (j : Int)]).map (Value.int .i64)) := (by simpa using hown2); have hb2 : Below wr.heap.size wr.drew w2 := Below.grown (by (repeat (first | exact hb2 | exact hb1 | exact ⟨rfl, rfl, rfl, Nat.le_refl _, fun _ _ => rfl⟩ | (refine Below.drew ?_) | (refine Below.alloc ?_ (by first | omega | (simp [drew_heap] <;> omega)) _)))) hg2 (by first | omega | (simp [drew_heap] <;> omega)) (fun kk hkk => (own_ge hown1 kk hkk).1); have s2 : wr.heap.size ≤ w2.heap.size := hb2.size))
            | ((go_at_call 120; refine (IH.out (x ++ [lo + (j : Int)]) _ u3 (L ++ (roundsL p s (z, q) n x lo j).map fun y => (y, (z, q))) TLj w2 (by simp; omega) HXB.out (HALL.out w2 hb2).1 (HALL.out w2 hb2).2.1 (by omega) (listAt_ints hown3 (by omega)) (HALL.out w2 hb2).2.2 (by have e1 := HNXT.out; have e2 := HLE.out; have e3 := HC.out; rw [HE.out] at e3; rw [e1, List.length_append] at e2; rw [List.length_append, List.length_map]; omega)).mono ?_; rintro e w3 ⟨⟨vl3, TL3, rfl, ht3, ho3⟩, hkk3⟩; have hk3 : Keeps (fun k => u3.ownBlock = some k) wr.drew w3 := (keeps_of_below hb2).trans hkk3))
            | (fail))
        all_goals go_wp2
        all_goals refine ⟨⟨j + 1, TL3, by omega, rfl, ?_, ?_, fun k hk => ?_⟩, ?_⟩
        all_goals first
          | (rw [HNXT.out, List.map_append, ← List.append_assoc]; exact ht3)
          | exact keeps_join HKD.out hk3 HOJ.out
          | (simp [intOf]; omega)
          | exact (ho3 k hk).elim (HOJ.out k) (fun h => .inr (by omega))
          | skip

end Go.Proofs.YtabbmihakoeegaaGreat

/- The reference: all truths; the errors. -/
namespace Go.Proofs.YtabbmihakoeegaaGreat
set_option linter.unusedVariables false
set_option linter.unusedSimpArgs false
open Go.RowKit Go.Shelf
attribute [local go_sem] Oper.semAt_some

theorem own_lower {w : World} {base base' : Nat} {e : TypeId} {size : Nat} {v : Value} {n : Nat} {xs : List Value} (h : w.ownsRow base e size v n xs) (hb : base' ≤ base) : w.ownsRow base' e size v n xs :=
  ⟨h.1, h.2.imp id fun ⟨g, cap, cur, h1, h2, r⟩ => ⟨g, cap, cur, h1, Nat.le_trans hb h2, r⟩⟩
def roundT (p : PairD) (s : Nat) (z : Int) (j : Nat) : List (List Int × (Int × Int)) := ((List.range j).map fun k : Nat => p.rl + (k : Int)).flatMap fun r => (fromL p s (z, r) p.bs.length []).map fun y => (y, (z, r))
def zerosT (p : PairD) (s : Nat) (i : Nat) : List (List Int × (Int × Int)) := ((List.range i).map fun k : Nat => p.zl + (k : Int)).flatMap fun z => roundT p s z (wideN p.rl p.rh)
theorem roundT_next (p : PairD) (s : Nat) (z : Int) (j : Nat) : roundT p s z (j + 1) = roundT p s z j ++ (fromL p s (z, p.rl + (j : Int)) p.bs.length []).map fun y => (y, (z, p.rl + (j : Int))) := by
  simp [roundT, List.range_succ, List.flatMap_append]
theorem zerosT_next (p : PairD) (s : Nat) (i : Nat) : zerosT p s (i + 1) = zerosT p s i ++ roundT p s (p.zl + (i : Int)) (wideN p.rl p.rh) := by
  simp [zerosT, List.range_succ, List.flatMap_append]
theorem flatMap_range_mul {α : Type} (f : Nat → Nat → List α) (m : Nat) (hm : 0 < m) : ∀ n, (List.range (n * m)).flatMap (fun k => f (k / m) (k % m)) = (List.range n).flatMap fun i => (List.range m).flatMap fun j => f i j
  | 0 => by simp
  | n + 1 => by
    rw [List.range_succ, List.flatMap_append, ← flatMap_range_mul f m hm n, Nat.add_mul, Nat.one_mul, List.range_add, List.flatMap_append]
    congr 1
    rw [List.flatMap_map]
    simp only [List.flatMap_cons, List.flatMap_nil, List.append_nil]
    have key : ∀ k ∈ List.range m, f ((n * m + k) / m) ((n * m + k) % m) = f n k := fun k hk => by
      have hk' : k < m := List.mem_range.1 hk
      have h1 : (n * m + k) / m = n := by rw [Nat.mul_comm, Nat.mul_add_div hm, Nat.div_eq_of_lt hk', Nat.add_zero]
      have h2 : (n * m + k) % m = k := by rw [Nat.mul_comm, Nat.mul_add_mod, Nat.mod_eq_of_lt hk']
      rw [h1, h2]
    have go : ∀ l : List Nat, (∀ k ∈ l, f ((n * m + k) / m) ((n * m + k) % m) = f n k) → l.flatMap (fun k => f ((n * m + k) / m) ((n * m + k) % m)) = l.flatMap fun j => f n j := by
      intro l
      induction l with
      | nil => intro _; rfl
      | cons a l ih => intro h; rw [List.flatMap_cons, List.flatMap_cons, h a List.mem_cons_self, ih (fun k hk => h k (List.mem_cons_of_mem _ hk))]
    exact go _ key
theorem truthsL_zeros (p : PairD) (hp : OkP p) (s : Nat) : truthsL p s = zerosT p s (wideN p.zl p.zh) := by
  have hr := hp.rr
  have hm : 0 < wideN p.rl p.rh := by unfold wideN; omega
  unfold truthsL comps zerosT roundT
  rw [List.flatMap_map, List.flatMap_map, flatMap_range_mul (fun i j => (fromL p s (p.zl + (i : Int), p.rl + (j : Int)) p.bs.length []).map fun x => (x, (p.zl + (i : Int), p.rl + (j : Int)))) _ hm]
  simp only [List.flatMap_map]
theorem zerosT_le (p : PairD) (s : Nat) : ∀ (m j : Nat), j ≤ m → (zerosT p s j).length ≤ (zerosT p s m).length
  | 0, j, h => by
    have : j = 0 := by omega
    subst this
    exact Nat.le_refl _
  | m + 1, j, h => by
    by_cases hj : j = m + 1
    · subst hj; exact Nat.le_refl _
    · have := zerosT_le p s m j (by omega)
      rw [zerosT_next, List.length_append]
      omega
theorem roundT_le (p : PairD) (s : Nat) (z : Int) : ∀ (m j : Nat), j ≤ m → (roundT p s z j).length ≤ (roundT p s z m).length
  | 0, j, h => by
    have : j = 0 := by omega
    subst this
    exact Nat.le_refl _
  | m + 1, j, h => by
    by_cases hj : j = m + 1
    · subst hj; exact Nat.le_refl _
    · have := roundT_le p s z m j (by omega)
      rw [roundT_next, List.length_append]
      omega

set_option maxRecDepth 100000 in
set_option maxHeartbeats 8000000 in
theorem truths_any (p : PairD) (hv : validB p = true) (bs rs : Value) (s : Nat) (hs : s < 256) (hcnt : (truthsL p s).length ≤ 1000000) (w : World) (hpa : PairAt w p bs rs) :
    Calls Tryz.prog 110 #[.agg (pairRow p bs rs), .int .i64 s] w fun e w' => (∃ vl TL, e = .returned vl ∧ TruthsAt w' w.heap.size vl (truthsL p s) TL) ∧ Below w.heap.size w w' := by
  have hp := OkP.of p hv
  have hzz := hp.zz
  have hrr := hp.rr
  rw [truthsL_zeros p hp s] at hcnt ⊢
  obtain ⟨ao, cap, hbse, _⟩ := id hpa.b
  subst hbse
  obtain ⟨ao2, cap2, hrse, _⟩ := id hpa.r
  subst hrse
  obtain ⟨W0, hW0⟩ : ∃ W0, W0 = w.alloc (.cells (pairRow p (.slice ao p.bs.length cap) (.slice ao2 p.rs.length cap2)) 27 (0, 0)) := ⟨_, rfl⟩
  have hb0 : Below w.heap.size w W0 := by rw [hW0]; exact (Below.refl _ _).alloc (Nat.le_refl _) _
  have hr1 : W0.heap[w.heap.size]? = some (pairObj p (.slice ao p.bs.length cap) (.slice ao2 p.rs.length cap2)) := by rw [hW0]; exact heap_alloc_at _ _ _ rfl
  have hsw : W0.heap.size = w.heap.size + 1 := by rw [hW0]; simp
  have HB0 := Lib.hid hb0
  have HR1 := Lib.hid hr1
  have HC := Lib.hid hcnt
  have HBS := Lib.hid (hpa.b.later hb0.size (fun k hk _ => hb0.block k hk))
  have HRS := Lib.hid (hpa.r.later hb0.size (fun k hk _ => hb0.block k hk))
  have rows : ∀ W', Below W0.heap.size W0 W' → (W'.cell? ⟨w.heap.size, 0, none⟩ = some (.slice ao p.bs.length cap) ∧ W'.cell? ⟨w.heap.size, 1, none⟩ = some (.int .i64 p.zl) ∧ W'.cell? ⟨w.heap.size, 2, none⟩ = some (.int .i64 p.zh) ∧
        W'.cell? ⟨w.heap.size, 3, none⟩ = some (.int .i64 p.rl) ∧ W'.cell? ⟨w.heap.size, 4, none⟩ = some (.int .i64 p.rh) ∧ W'.cell? ⟨w.heap.size, 5, none⟩ = some (.slice ao2 p.rs.length cap2)) := fun W' hb => by
    have q1 := (hb.block w.heap.size (by omega)).trans hr1
    unfold pairObj pairRow at q1
    refine ⟨?_, ?_, ?_, ?_, ?_, ?_⟩ <;> (rw [cell_of_row _ _ _ _ _ _ q1]; rfl)
  have ROWS := Lib.hid rows
  obtain ⟨c0, c1, c2, c3, c4, c5⟩ := rows W0 (Below.refl _ _)
  clear rows hb0 hr1 hpa hcnt
  unfold pairRow at hW0 ⊢
  go_enter Tryz.func110, Tryz.ntmps110
  go_wp2_with fail
  rw [← hW0]
  clear hW0 c0 c1 c2 c3 c4 c5
  go_loopw [5, 6] (fun o zz wr => ∃ (i : Nat) (TLj : List TruT), (i : Int) ≤ p.zh - p.zl + 1 ∧ zz = .int .i64 (p.zl + i) ∧ TruthsAt wr W0.heap.size o (zerosT p s i) TLj ∧ Below W0.heap.size W0 wr) (fun _ zz _ => (p.zh + 1 - intOf zz).toNat)
  case atStart => exact ⟨0, [], by omega, by simp, ⟨rfl, World.ownsRow_nil _ _ _ _, by simp⟩, Below.refl _ _⟩
  case round =>
    obtain ⟨i, TLj, hi, rfl, htj, hbj⟩ := hrel
    have HTJ := Lib.hid htj
    have HBJ := Lib.hid hbj
    obtain ⟨c0, c1, c2, c3, c4, c5⟩ := ROWS.out wr hbj
    have hwz : IntKind.i64.wrap (p.zl + (i : Int) + 1) = p.zl + ((i + 1 : Nat) : Int) := by rw [IntWalk.i64_in _ (by omega)]; omega
    clear htj hbj
    by_cases hlz : p.zl + (i : Int) ≤ p.zh
    case neg =>
      have hic : i = wideN p.zl p.zh := by unfold wideN; omega
      have HIC := Lib.hid hic
      have hd : decide (p.zl + (i : Int) ≤ p.zh) = false := by simpa using hlz
      clear hic hwz
      go_wp2
      go_ret
      have h1 : TruthsAt wr w.heap.size u5 (zerosT p s (wideN p.zl p.zh)) TLj := by
        rw [← HIC.out]
        exact ⟨HTJ.out.map, own_lower HTJ.out.own (by omega), HTJ.out.at'⟩
      refine ⟨?_, HB0.out.trans (HBJ.out.mono (by omega))⟩
      first | exact ⟨u5, TLj, rfl, h1⟩ | exact ⟨_, ⟨TLj, rfl, h1⟩⟩ | exact ⟨u5, rfl, TLj, h1⟩
    have hd : decide (p.zl + (i : Int) ≤ p.zh) = true := by simpa using hlz
    have hsz := HBJ.out.size
    go_wp2_with fail
    clear c0 c1 c2 c3 c4 c5
    obtain ⟨wa, rfl⟩ : ∃ wa, wa = wr := ⟨_, rfl⟩
    go_loopw [5, 7] (fun o rr wq => ∃ (j : Nat) (TLq : List TruT), (j : Int) ≤ p.rh - p.rl + 1 ∧ rr = .int .i64 (p.rl + j) ∧ TruthsAt wq W0.heap.size o (zerosT p s i ++ roundT p s (p.zl + i) j) TLq ∧ Below W0.heap.size W0 wq) (fun _ rr _ => (p.rh + 1 - intOf rr).toNat)
    case atStart => exact ⟨0, TLj, by omega, by simp, by simpa [roundT] using HTJ.out, HBJ.out⟩
    case round =>
      obtain ⟨j, TLq, hj, rfl, htq, hbq⟩ := hrel
      have HTQ := Lib.hid htq
      have HBQ := Lib.hid hbq
      obtain ⟨c0, c1, c2, c3, c4, c5⟩ := ROWS.out wr hbq
      have hwr : IntKind.i64.wrap (p.rl + (j : Int) + 1) = p.rl + ((j + 1 : Nat) : Int) := by rw [IntWalk.i64_in _ (by omega)]; omega
      have HNZ := Lib.hid (zerosT_next p s i)
      have HNR := Lib.hid (roundT_next p s (p.zl + i) j)
      clear htq hbq
      by_cases hlr : p.rl + (j : Int) ≤ p.rh
      case neg =>
        have hjc : j = wideN p.rl p.rh := by unfold wideN; omega
        have HJC := Lib.hid hjc
        have hd2 : decide (p.rl + (j : Int) ≤ p.rh) = false := by simpa using hlr
        clear hjc hwr
        go_wp2
        exact ⟨⟨i + 1, TLq, by omega, rfl, by rw [HNZ.out, ← HJC.out]; exact HTQ.out, HBQ.out⟩, by simp [intOf]; omega⟩
      have hd2 : decide (p.rl + (j : Int) ≤ p.rh) = true := by simpa using hlr
      have hszq := HBQ.out.size
      have hcount : (zerosT p s i ++ roundT p s (p.zl + i) j).length + (fromL p s (p.zl + (i : Int), p.rl + (j : Int)) p.bs.length []).length ≤ 1000000 := by
        have h1 := HC.out
        have h2 := zerosT_le p s (wideN p.zl p.zh) (i + 1) (by unfold wideN; omega)
        have h3 := roundT_le p s (p.zl + i) (wideN p.rl p.rh) (j + 1) (by unfold wideN; omega)
        rw [HNZ.out, List.length_append] at h2
        rw [HNR.out, List.length_append, List.length_map] at h3
        rw [List.length_append]
        omega
      have HCT := Lib.hid hcount
      clear hcount
      go_wp2_with fail
      refine (from_any p hv _ _ s hs (p.zl + (i : Int), p.rl + (j : Int)) (by dsimp only; omega) (by dsimp only; omega) W0.heap.size p.bs.length [] (.slice none 0 0) u5 _ TLq wr (by simp) (by simp) ((HBS.out.later HBQ.out.size (fun k hk _ => HBQ.out.block k hk)).mono (fun k hk => by omega)) ((HRS.out.later HBQ.out.size (fun k hk _ => HBQ.out.block k hk)).mono (fun k hk => by omega)) (by omega) ⟨none, 0, rfl, by simp, fun i hi => absurd hi (by simp)⟩ HTQ.out HCT.out).mono ?_
      rintro e w3 ⟨⟨vl3, TL3, rfl, ht3, ho3⟩, hk3⟩
      have HT3 := Lib.hid ht3
      have HB3 := Lib.hid (HBQ.out.trans (hk3.below (by omega) (fun k hk h => by have := own_ge HTQ.out.own k h; omega)))
      clear ht3 ho3 hk3 c0 c1 c2 c3 c4 c5
      go_wp2
      exact ⟨⟨j + 1, TL3, by omega, rfl, by rw [HNR.out, ← List.append_assoc]; exact HT3.out, HB3.out⟩, by simp [intOf]; omega⟩

end Go.Proofs.YtabbmihakoeegaaGreat

/- The reference: all truths of a pair, or why there are none. -/
namespace Go.Proofs.YtabbmihakoeegaaGreat
set_option linter.unusedVariables false
set_option linter.unusedSimpArgs false
open Go.RowKit Go.Shelf
attribute [local go_sem] Oper.semAt_some

theorem revery_any (p : PairD) (n cap : Nat) (ao : Option Addr) (bs : Value) (hn : n ≤ 8) (w : World) :
    Calls Tryz.prog 111 #[.agg (pairRow p bs (.slice ao n cap))] w fun e w' => e = .returned (.int .i64 ((2 ^ n - 1 : Nat) : Int)) ∧ Below w.heap.size w w' := by
  have hpb := pow_bound n (by omega)
  have hpos : 1 ≤ 2 ^ n := Nat.one_le_two_pow
  have HE : Hid (((2 ^ n - 1 : Nat) : Int) = ((2 ^ n : Nat) : Int) - 1) := by show _ = _; omega
  unfold pairRow
  go_enter Tryz.func111, Tryz.ntmps111
  go_wp2_with fail
  refine (power_any n (by omega) _).mono ?_
  rintro e w' ⟨rfl, rfl⟩
  obtain ⟨P, hP⟩ : ∃ P, P = 2 ^ n := ⟨_, rfl⟩
  rw [← hP] at hpb hpos ⊢
  have HP := Lib.hid hP
  clear hP
  have hw : wrap64 ((P : Int) - 1) = (P : Int) - 1 := by unfold wrap64; omega
  go_wp2
  go_ret
  exact ⟨by rw [HE.out, ← HP.out]; rfl, (Below.refl _ _).alloc (Nat.le_refl _) _⟩
set_option maxRecDepth 100000 in
set_option maxHeartbeats 2000000 in
theorem alltruths_any (p : PairD) (hv : validB p = true) (bs rs : Value) (hcnt : (truA p).length ≤ 1000000) (w : World) (hpa : PairAt w p bs rs) :
    Calls Tryz.prog 84 #[.agg (pairRow p bs rs)] w fun e w' => (∃ vl TL, e = .returned vl ∧ TruthsAt w' w.heap.size vl (truA p) TL) ∧ Below w.heap.size w w' := by
  have hp := OkP.of p hv
  obtain ⟨ao, cap, hbse, _⟩ := id hpa.b
  subst hbse
  obtain ⟨ao2, cap2, hrse, _⟩ := id hpa.r
  subst hrse
  obtain ⟨W0, hW0⟩ : ∃ W0, W0 = w.alloc (.cells (pairRow p (.slice ao p.bs.length cap) (.slice ao2 p.rs.length cap2)) 27 (0, 0)) := ⟨_, rfl⟩
  have hb0 : Below w.heap.size w W0 := by rw [hW0]; exact (Below.refl _ _).alloc (Nat.le_refl _) _
  have hr1 : W0.heap[w.heap.size]? = some (pairObj p (.slice ao p.bs.length cap) (.slice ao2 p.rs.length cap2)) := by rw [hW0]; exact heap_alloc_at _ _ _ rfl
  have hsw : W0.heap.size = w.heap.size + 1 := by rw [hW0]; simp
  have HB0 := Lib.hid hb0
  have HPA := Lib.hid (hpa.later hb0)
  have HC := Lib.hid hcnt
  have rows : ∀ W', Below W0.heap.size W0 W' → (W'.cell? ⟨w.heap.size, 0, none⟩ = some (.slice ao p.bs.length cap) ∧ W'.cell? ⟨w.heap.size, 1, none⟩ = some (.int .i64 p.zl) ∧ W'.cell? ⟨w.heap.size, 2, none⟩ = some (.int .i64 p.zh) ∧
        W'.cell? ⟨w.heap.size, 3, none⟩ = some (.int .i64 p.rl) ∧ W'.cell? ⟨w.heap.size, 4, none⟩ = some (.int .i64 p.rh) ∧ W'.cell? ⟨w.heap.size, 5, none⟩ = some (.slice ao2 p.rs.length cap2)) := fun W' hb => by
    have q1 := (hb.block w.heap.size (by omega)).trans hr1
    unfold pairObj pairRow at q1
    refine ⟨?_, ?_, ?_, ?_, ?_, ?_⟩ <;> (rw [cell_of_row _ _ _ _ _ _ q1]; rfl)
  have ROWS := Lib.hid rows
  clear rows hb0 hr1 hpa hcnt
  unfold pairRow at hW0 ⊢
  go_enter Tryz.func84, Tryz.ntmps84
  go_wp2_with fail
  rw [← hW0]
  clear hW0
  go_region_held3 (fun W' => W'.cell? ⟨w.heap.size, 0, none⟩ = some (.slice ao p.bs.length cap) ∧ W'.cell? ⟨w.heap.size, 1, none⟩ = some (.int .i64 p.zl) ∧ W'.cell? ⟨w.heap.size, 2, none⟩ = some (.int .i64 p.zh) ∧
        W'.cell? ⟨w.heap.size, 3, none⟩ = some (.int .i64 p.rl) ∧ W'.cell? ⟨w.heap.size, 4, none⟩ = some (.int .i64 p.rh) ∧ W'.cell? ⟨w.heap.size, 5, none⟩ = some (.slice ao2 p.rs.length cap2))
    (first | exact ROWS.out _ hb3 | exact ROWS.out _ hb2 | exact ROWS.out _ (Below.refl _ _).drew)
    (first
      | ((go_at_call 111; refine (revery_any p p.rs.length cap2 ao2 _ hp.m8 _).mono ?_; rintro e w2 ⟨rfl, hb2'⟩; have hb2 : Below W0.heap.size W0 w2 := (Below.refl _ _).drew.trans hb2'))
      | ((go_at_call 110; refine (truths_any p hv _ _ (allR p) (allR_lt p hp.m8) HC.out w2 (HPA.out.later hb2)).mono ?_; rintro e w3 ⟨⟨vl, TL, rfl, ht⟩, hb3'⟩; have hb3 : Below W0.heap.size W0 w3 := hb2.trans (hb3'.mono hb2.size))))
  have HT := Lib.hid ht
  have HB3 := Lib.hid (HB0.out.trans (hb3.mono (by omega)))
  have hge : w.heap.size ≤ w2.heap.size := by have := hb2.size; omega
  clear ht hb3 hb3' hb2 hb2'
  go_wp2
  go_ret
  have h1 : TruthsAt w3 w.heap.size vl (truA p) TL := ⟨HT.out.map, own_lower HT.out.own hge, HT.out.at'⟩
  refine ⟨?_, HB3.out⟩
  first | exact ⟨vl, TL, rfl, h1⟩ | exact ⟨vl, rfl, TL, h1⟩
def checkV (p : PairD) (ok : Bool) : Int := if validB p = false then 1 else if ok = false then 2 else 0
set_option maxRecDepth 100000 in
theorem check_any (p : PairD) (bs rs : Value) (ok : Bool) (w : World) (hpa : PairAt w p bs rs) :
    Calls Tryz.prog 115 #[.agg (pairRow p bs rs), .bool ok] w fun e w' => e = .returned (.int .i64 (checkV p ok)) ∧ Below w.heap.size w w' := by
  obtain ⟨ao, cap, hbse, _⟩ := id hpa.b
  subst hbse
  obtain ⟨ao2, cap2, hrse, _⟩ := id hpa.r
  subst hrse
  have HPA := Lib.hid hpa
  have HA : Hid (∀ o, Below w.heap.size w (w.alloc o)) := fun o => (Below.refl _ _).alloc (Nat.le_refl _) _
  clear hpa
  have hcv : ∀ v, validB p = v → checkV p ok = if v = false then 1 else if ok = false then 2 else 0 := fun v h => by unfold checkV; rw [h]
  have HCV := Lib.hid hcv
  clear hcv
  unfold pairRow
  go_enter Tryz.func115, Tryz.ntmps115
  go_wp2_with fail
  refine (rpair_any (HPA.out.later (HA.out _))).mono ?_
  rintro e w2 ⟨rfl, hb2⟩
  have HB := Lib.hid ((HA.out _).trans (hb2.mono (by simp)))
  clear hb2
  cases hv : validB p with
  | false =>
    have e1 := HCV.out _ hv
    have E1 := Lib.hid e1
    clear e1 hv
    go_wp2
    go_ret
    exact ⟨by rw [E1.out]; rfl, HB.out⟩
  | true =>
    have e1 := HCV.out _ hv
    have E1 := Lib.hid e1
    clear e1 hv
    cases ok with
    | false =>
      go_wp2
      go_ret
      exact ⟨by rw [E1.out]; rfl, HB.out⟩
    | true =>
      go_wp2
      go_ret
      exact ⟨by rw [E1.out]; rfl, HB.out⟩
theorem truths_form {w : World} {B : Nat} {vl : Value} {L : List (List Int × (Int × Int))} {TL : List TruT} (h : TruthsAt w B vl L TL) : ∃ ao cap, vl = .slice ao L.length cap := by
  have hl : TL.length = L.length := by rw [← h.map]; simp
  rcases own_cases h.own with ⟨h1, h2⟩ | ⟨g, cap, h1, _⟩
  · exact ⟨none, 0, by rw [h1, ← hl, h2]⟩
  · exact ⟨_, cap, by rw [h1, hl]⟩
end Go.Proofs.YtabbmihakoeegaaGreat

/- The reference: the span of some numbers. -/
namespace Go.Proofs.YtabbmihakoeegaaGreat
set_option linter.unusedVariables false
set_option linter.unusedSimpArgs false
open Go.RowKit Go.Shelf
attribute [local go_sem] Oper.semAt_some

end Go.Proofs.YtabbmihakoeegaaGreat

/- The reference: Known. -/
namespace Go.Proofs.YtabbmihakoeegaaGreat
set_option linter.unusedVariables false
set_option linter.unusedSimpArgs false
open Go.RowKit Go.Shelf
attribute [local go_sem] Oper.semAt_some

theorem trC_get : ∀ (TL : List TruT) (k j : Nat) (hk : k < TL.length), j < 3 → (TL.flatMap trC)[k * 3 + j]? = (trC TL[k])[j]?
  | [], k, j, hk, _ => by simp at hk
  | t :: TL, 0, j, _, hj => by
    rw [List.flatMap_cons, List.getElem?_append_left (by show 0 * 3 + j < 3; omega)]
    simp
  | t :: TL, k + 1, j, hk, hj => by
    rw [List.flatMap_cons, List.getElem?_append_right (by show 3 ≤ _; omega)]
    have := trC_get TL k j (by simpa using hk) hj
    rw [show (k + 1) * 3 + j - (trC t).length = k * 3 + j by show _ - 3 = _; omega, this]
    rfl
/-- What of a slice of truths is read. -/
theorem truths_cells {w : World} {B : Nat} {vl : Value} {L : List (List Int × (Int × Int))} {TL : List TruT} (h : TruthsAt w B vl L TL) (hne : L ≠ []) :
    ∃ g cap, vl = .slice (some ⟨g, 0, none⟩) L.length cap ∧ g < w.heap.size ∧ ∀ k (hk : k < L.length), ∃ tv, w.cell? ⟨g, k * 3, none⟩ = some tv ∧ w.cell? ⟨g, k * 3 + 1, none⟩ = some (.int .i64 L[k].2.1) ∧ w.cell? ⟨g, k * 3 + 2, none⟩ = some (.int .i64 L[k].2.2) ∧
      ListAt w tv (L[k].1.map (Value.int .i64)) (RdI w) := by
  have hl : TL.length = L.length := by rw [← h.map]; simp
  rcases own_cases h.own with ⟨_, h2⟩ | ⟨g, cap, h1, h2, h3, h4, h5, h6⟩
  · exact absurd (List.length_eq_zero_iff.1 (hl.symm.trans h2)) hne
  · refine ⟨g, cap, by rw [h1, hl], h3, fun k hk => ?_⟩
    have hk' : k < TL.length := by omega
    have e : L[k] = TL[k].2 := by
      have : L[k]? = (TL.map (·.2))[k]? := by rw [h.map]
      simpa [hk, hk'] using this
    have key : ∀ j, j < 3 → w.cell? ⟨g, k * 3 + j, none⟩ = (trC TL[k])[j]? := fun j hj => by
      rw [h6 (k * 3 + j) (by omega), trC_get TL k j hk' hj]
    refine ⟨TL[k].1, key 0 (by omega), ?_, ?_, ?_⟩
    · rw [e]; exact key 1 (by omega)
    · rw [e]; exact key 2 (by omega)
    · rw [e]; exact h.at' _ (List.getElem_mem hk')
end Go.Proofs.YtabbmihakoeegaaGreat

/- PlanBlocks (plain). -/
namespace Go.Proofs.YtabbmihakoeegaaGreat
set_option linter.unusedVariables false
set_option linter.unusedSimpArgs false
open Go.RowKit Go.Shelf
attribute [local go_sem] Oper.semAt_some

/-! ### plain -/
def wK (p : PairD) (s : Nat) : Nat → Int
  | 0 => 0
  | k + 1 => max (wK p s k) (widB p s k)
theorem wK_le {p : PairD} {s : Nat} {w : Int} : ∀ k, wK p s k ≤ w ↔ 0 ≤ w ∧ ∀ b, b < k → widB p s b ≤ w
  | 0 => ⟨fun h => ⟨h, fun b hb => absurd hb (Nat.not_lt_zero _)⟩, fun h => h.1⟩
  | k + 1 => by
    have ih := wK_le (p := p) (s := s) (w := w) k
    unfold wK
    constructor
    · intro h
      have h1 := ih.1 (by omega)
      exact ⟨h1.1, fun b hb => by
        by_cases e : b = k
        · subst e; omega
        · exact h1.2 b (by omega)⟩
    · intro h
      have h1 := ih.2 ⟨h.1, fun b hb => h.2 b (by omega)⟩
      have h2 := h.2 k (by omega)
      omega
theorem wK_end {q : PlanD} (hq : OkQ q) (ht : truA q.pr ≠ []) (s : Nat) : wK q.pr s q.pr.bs.length = widestV q.pr s := by
  have hp := OkP.of _ hq.pr
  have h5 := hp.n5
  have h1 := hp.n1
  refine Int.le_antisymm ((wK_le _).2 ⟨?_, fun b hb => ?_⟩) (widest_le.2 fun b hb => ?_)
  · exact Int.le_trans (widB_40 hq.pr s 0 (truA_of_every hq ht s)).1 (widest_le.1 (Int.le_refl _) 0 (by omega))
  · exact widest_le.1 (Int.le_refl _) b (by omega)
  · have h2 := (wK_le (p := q.pr) (s := s) (w := wK q.pr s q.pr.bs.length) q.pr.bs.length).1 (Int.le_refl _)
    by_cases hb2 : b < q.pr.bs.length
    · exact h2.2 b hb2
    · unfold widB
      rw [if_neg hb2]
      exact h2.1
theorem wK_80 {q : PlanD} (hq : OkQ q) (ht : truA q.pr ≠ []) (s k : Nat) : wK q.pr s k ≤ 80 :=
  (wK_le k).2 ⟨by decide, fun b _ => (widB_40 hq.pr s b (truA_of_every hq ht s)).2⟩
theorem wK_pos (p : PairD) (s : Nat) : ∀ k, 0 ≤ wK p s k
  | 0 => Int.le_refl _
  | k + 1 => by have := wK_pos p s k; unfold wK; omega
end Go.Proofs.YtabbmihakoeegaaGreat

/- The reference: how wide each block is by a set of readings (Wide). -/
namespace Go.Proofs.YtabbmihakoeegaaGreat
set_option linter.unusedVariables false
set_option linter.unusedSimpArgs false
open Go.RowKit Go.Shelf
attribute [local go_sem] Oper.semAt_some

/-! ### plain: the least and the greatest of the first truths -/
def atT (b : Nat) (t : List Int × (Int × Int)) : Int := t.1.getD b 0
def loK (L : List (List Int × (Int × Int))) (b : Nat) : Nat → Int
  | 0 => atT b (L.headD ([], (0, 0)))
  | k + 1 => min (loK L b k) (atT b (L.getD k ([], (0, 0))))
def hiK (L : List (List Int × (Int × Int))) (b : Nat) : Nat → Int
  | 0 => atT b (L.headD ([], (0, 0)))
  | k + 1 => max (hiK L b k) (atT b (L.getD k ([], (0, 0))))
theorem loK_spec {L : List (List Int × (Int × Int))} (hne : L ≠ []) (b : Nat) : ∀ k, k ≤ L.length → (∃ t ∈ L, atT b t = loK L b k) ∧ ∀ i (h : i < L.length), i < k → loK L b k ≤ atT b L[i]
  | 0, _ => by
    refine ⟨?_, fun i _ h => absurd h (Nat.not_lt_zero _)⟩
    match L, hne with
    | t :: L, _ => exact ⟨t, List.mem_cons_self, rfl⟩
  | k + 1, hk => by
    obtain ⟨⟨t, ht, e⟩, h2⟩ := loK_spec hne b k (by omega)
    have hg : L.getD k ([], (0, 0)) = L[k] := by rw [List.getD_eq_getElem?_getD, List.getElem?_eq_getElem (by omega)]; rfl
    have hd : loK L b (k + 1) = min (loK L b k) (atT b L[k]) := by rw [← hg]; rfl
    constructor
    · by_cases hm : loK L b k ≤ atT b L[k]
      · exact ⟨t, ht, by rw [hd, e]; omega⟩
      · exact ⟨L[k], List.getElem_mem _, by rw [hd]; omega⟩
    · intro i hi hik
      by_cases e2 : i = k
      · subst e2; rw [hd]; omega
      · have := h2 i hi (by omega)
        rw [hd]; omega
theorem hiK_spec {L : List (List Int × (Int × Int))} (hne : L ≠ []) (b : Nat) : ∀ k, k ≤ L.length → (∃ t ∈ L, atT b t = hiK L b k) ∧ ∀ i (h : i < L.length), i < k → atT b L[i] ≤ hiK L b k
  | 0, _ => by
    refine ⟨?_, fun i _ h => absurd h (Nat.not_lt_zero _)⟩
    match L, hne with
    | t :: L, _ => exact ⟨t, List.mem_cons_self, rfl⟩
  | k + 1, hk => by
    obtain ⟨⟨t, ht, e⟩, h2⟩ := hiK_spec hne b k (by omega)
    have hg : L.getD k ([], (0, 0)) = L[k] := by rw [List.getD_eq_getElem?_getD, List.getElem?_eq_getElem (by omega)]; rfl
    have hd : hiK L b (k + 1) = max (hiK L b k) (atT b L[k]) := by rw [← hg]; rfl
    constructor
    · by_cases hm : atT b L[k] ≤ hiK L b k
      · exact ⟨t, ht, by rw [hd, e]; omega⟩
      · exact ⟨L[k], List.getElem_mem _, by rw [hd]; omega⟩
    · intro i hi hik
      by_cases e2 : i = k
      · subst e2; rw [hd]; omega
      · have := h2 i hi (by omega)
        rw [hd]; omega
theorem dif_markP {p : PairD} (hp : OkP p) {t : List Int × (Int × Int)} (ht : t ∈ truA p) {b : Nat} : dif b 5 t = t.1.getD b 0 := by
  unfold dif
  rw [truA_out hp ht 5 hp.n5]
  omega
theorem spanK_is {p : PairD} (hp : OkP p) (hne : truA p ≠ []) (b : Nat) : hullD p b 5 = (loK (truA p) b (truA p).length, hiK (truA p) b (truA p).length) := by
  obtain ⟨⟨t1, m1, e1⟩, h1⟩ := loK_spec hne b _ (Nat.le_refl _)
  obtain ⟨⟨t2, m2, e2⟩, h2⟩ := hiK_spec hne b _ (Nat.le_refl _)
  refine (hullD_spec hne b 5).eq { lo := ⟨t1, m1, ?_⟩, hi := ⟨t2, m2, ?_⟩, all := fun t ht => ?_ }
  · rw [dif_markP hp m1]; exact e1
  · rw [dif_markP hp m2]; exact e2
  · obtain ⟨i, hi, rfl⟩ := List.getElem_of_mem ht
    rw [dif_markP hp ht]
    exact ⟨h1 i hi hi, h2 i hi hi⟩
theorem loK_in {L : List (List Int × (Int × Int))} {b : Nat} (hbd : ∀ t ∈ L, -20 ≤ t.1.getD b 0 ∧ t.1.getD b 0 ≤ 20) (hne : L ≠ []) (k : Nat) (hk : k ≤ L.length) : (-20 ≤ loK L b k ∧ loK L b k ≤ 20) ∧ (-20 ≤ hiK L b k ∧ hiK L b k ≤ 20) := by
  obtain ⟨⟨t1, m1, e1⟩, _⟩ := loK_spec hne b k hk
  obtain ⟨⟨t2, m2, e2⟩, _⟩ := hiK_spec hne b k hk
  have a1 := hbd t1 m1
  have a2 := hbd t2 m2
  rw [← e1, ← e2]
  exact ⟨a1, a2⟩
def widsN (q : PlanD) (s k : Nat) : List Int := (List.range k).map (widB q.pr s)
theorem widsN_next (q : PlanD) (s k : Nat) : widsN q s (k + 1) = widsN q s k ++ [widB q.pr s k] := by unfold widsN; rw [List.range_succ, List.map_append]; rfl
end Go.Proofs.YtabbmihakoeegaaGreat

/- How many truths there are, at most, by a set of a plan's readings (plain). -/
namespace Go.Proofs.YtabbmihakoeegaaGreat
set_option linter.unusedVariables false
set_option linter.unusedSimpArgs false
open Go.RowKit

def waysB (p : PairD) (i : Nat) : Nat := ((p.bs.getD i (0, 0)).2 - (p.bs.getD i (0, 0)).1 + 1).toNat
def tailQ (p : PairD) : Nat → Nat → Nat
  | 0, _ => 1
  | n + 1, i => waysB p i * tailQ p n (i + 1)
theorem sum_le_ofQ {α : Type} (f : α → Nat) (b : Nat) : ∀ l : List α, (∀ x ∈ l, f x ≤ b) → (l.map f).sum ≤ l.length * b
  | [], _ => by simp
  | x :: l, h => by
    have h1 := h x List.mem_cons_self
    have h2 := sum_le_ofQ f b l (fun y hy => h y (List.mem_cons_of_mem _ hy))
    rw [List.map_cons, List.sum_cons, List.length_cons, Nat.add_mul]
    omega
theorem fromL_leQ (p : PairD) (s : Nat) (c : Int × Int) : ∀ (n : Nat) (x : List Int), (fromL p s c n x).length ≤ tailQ p n x.length
  | 0, x => by unfold fromL tailQ; split <;> simp
  | n + 1, x => by
    unfold fromL tailQ
    split
    · rw [List.length_flatMap]
      refine Nat.le_trans (sum_le_ofQ _ (tailQ p n (x.length + 1)) _ fun k _ => ?_) ?_
      · have := fromL_leQ p s c n (x ++ [k])
        rwa [List.length_append, List.length_singleton] at this
      · refine Nat.le_of_eq ?_
        congr 1
        simp [spanL, waysB]
    · simp
theorem truthsL_leQ (p : PairD) (s : Nat) : (truthsL p s).length ≤ (wideN p.zl p.zh * wideN p.rl p.rh) * tailQ p p.bs.length 0 := by
  unfold truthsL
  rw [List.length_flatMap]
  refine Nat.le_trans (sum_le_ofQ _ (tailQ p p.bs.length 0) _ fun c _ => ?_) (Nat.le_of_eq (by rw [comps_length]))
  rw [List.length_map]
  exact fromL_leQ p s c _ []
theorem prod_tailQ (p : PairD) (hp : OkP p) : ∀ n i, i + n = p.bs.length → prodK p (i + n) = prodK p i * (tailQ p n i : Nat)
  | 0, i, _ => by simp [tailQ]
  | n + 1, i, h => by
    have ih := prod_tailQ p hp n (i + 1) (by omega)
    have hlk : i < p.bs.length := by omega
    have hb := hp.bs _ (List.getElem_mem hlk)
    have e : p.bs.getD i (0, 0) = p.bs[i] := by rw [List.getD_eq_getElem?_getD, List.getElem?_eq_getElem hlk]; rfl
    rw [show i + (n + 1) = i + 1 + n by omega, ih]
    show prodK p i * ((p.bs.getD i (0, 0)).2 - (p.bs.getD i (0, 0)).1 + 1) * ((tailQ p n (i + 1) : Nat) : Int) = prodK p i * ((waysB p i * tailQ p n (i + 1) : Nat) : Int)
    have hw : ((waysB p i : Nat) : Int) = (p.bs.getD i (0, 0)).2 - (p.bs.getD i (0, 0)).1 + 1 := by
      unfold waysB
      rw [e]
      omega
    rw [← hw, Int.natCast_mul, Int.mul_assoc]
theorem prodK_only (p : PairD) (s : Nat) : ∀ k, prodK (onlyP p s) k = prodK p k
  | 0 => rfl
  | k + 1 => by unfold prodK; rw [prodK_only p s k]; rfl
theorem truA_count {p : PairD} (hp : OkP p) : ((truA p).length : Int) ≤ prodK p p.bs.length := by
  have h1 := truthsL_leQ p (allR p)
  have h2 := prod_tailQ p hp p.bs.length 0 (by omega)
  rw [Nat.zero_add] at h2
  have h0 : prodK p 0 = ((wideN p.zl p.zh * wideN p.rl p.rh : Nat) : Int) := by
    have := hp.zz
    have := hp.rr
    unfold prodK wideN
    rw [Int.natCast_mul, Int.toNat_of_nonneg (by omega), Int.toNat_of_nonneg (by omega)]
  rw [h0, ← Int.natCast_mul] at h2
  unfold truA
  omega
/-- The ways of a plan that is not heavy, by any readings. -/
def Light (q : PlanD) : Prop := (truA q.pr).length ≤ 1000000 ∧ ∀ s, (truA (onlyP q.pr s)).length ≤ 1000000
theorem light_of {q : PlanD} {ways : Int} (hw : ways ≤ 1000000) (h : heavyQ q ways = false) (hv : validP q = true) : Light q := by
  have hq := OkQ.of hv
  have h0 : prodK q.pr q.pr.bs.length ≤ ways := by
    unfold heavyQ at h
    rw [hv] at h
    cases hf : farQ q with
    | true => rw [hf] at h; simp at h
    | false =>
      rw [hf] at h
      simp only [Bool.false_eq_true, if_false, Bool.true_eq_false, decide_eq_false_iff_not] at h
      omega
  refine ⟨?_, fun s => ?_⟩
  · have h1 := truA_count (OkP.of _ hq.pr)
    omega
  · have h1 := truA_count (OkP.of _ (onlyP_valid q.pr s hq.pr))
    have h2 : prodK (onlyP q.pr s) (onlyP q.pr s).bs.length = prodK q.pr q.pr.bs.length := prodK_only q.pr s q.pr.bs.length
    omega
end Go.Proofs.YtabbmihakoeegaaGreat

/- The reference: Wide, walked. -/
namespace Go.Proofs.YtabbmihakoeegaaGreat
set_option linter.unusedVariables false
set_option linter.unusedSimpArgs false
open Go.RowKit Go.Shelf
attribute [local go_sem] Oper.semAt_some

theorem widB_span {q : PlanD} (hq : OkQ q) (ht : truA q.pr ≠ []) (s b : Nat) (hb : b < q.pr.bs.length) : widB q.pr s b = hiK (truA (onlyP q.pr s)) b (truA (onlyP q.pr s)).length - loK (truA (onlyP q.pr s)) b (truA (onlyP q.pr s)).length := by
  unfold widB
  rw [if_pos hb, spanK_is (OkP.of _ (onlyP_valid q.pr s hq.pr)) (truA_of_every hq ht s) b]
set_option maxRecDepth 100000 in
set_option maxHeartbeats 8000000 in
theorem wide8_any {q : PlanD} (hq : OkQ q) (ht : truA q.pr ≠ []) (hl : Light q) {bs rs ps : Value} (s : Nat) (hs : s < 2 ^ q.prices.length) (w : World) (hpa : PlanAt w q bs rs ps) :
    Calls Tryz.prog 46 #[.agg (planRow q bs rs ps), .int .i64 s] w fun e w' => ∃ v, e = .returned v ∧ NumsAt w' v (widsN q s q.pr.bs.length) (fun k => w.heap.size ≤ k) ∧ Below w.heap.size w w' := by
  obtain ⟨aob, capb, hbv, _⟩ := id hpa.p.b
  obtain ⟨aor, capr, hrv, _⟩ := id hpa.p.r
  obtain ⟨aop, capp, hpv, _⟩ := id hpa.n
  subst hbv hrv hpv
  obtain ⟨W0, hW0⟩ : ∃ W0, W0 = w.alloc (.cells (planRow q (.slice aob q.pr.bs.length capb) (.slice aor q.pr.rs.length capr) (.slice aop q.prices.length capp)) 30 (0, 0)) := ⟨_, rfl⟩
  have hb0 : Below w.heap.size w W0 := by rw [hW0]; exact (Below.refl _ _).alloc (Nat.le_refl _) _
  have hr1 : W0.heap[w.heap.size]? = some (.cells (planRow q (.slice aob q.pr.bs.length capb) (.slice aor q.pr.rs.length capr) (.slice aop q.prices.length capp)) 30 (0, 0)) := by rw [hW0]; exact heap_alloc_at _ _ _ rfl
  have hsw : W0.heap.size = w.heap.size + 1 := by rw [hW0]; simp
  have HB0 := Lib.hid hb0
  have HR1 := Lib.hid hr1
  have HPA := Lib.hid (hpa.later hb0)
  have rows : ∀ W', Below W0.heap.size W0 W' → (W'.cell? ⟨w.heap.size, 0, none⟩ = some (.slice aob q.pr.bs.length capb) ∧ W'.cell? ⟨w.heap.size, 1, none⟩ = some (.int .i64 q.pr.zl) ∧ W'.cell? ⟨w.heap.size, 2, none⟩ = some (.int .i64 q.pr.zh) ∧
        W'.cell? ⟨w.heap.size, 3, none⟩ = some (.int .i64 q.pr.rl) ∧ W'.cell? ⟨w.heap.size, 4, none⟩ = some (.int .i64 q.pr.rh) ∧ W'.cell? ⟨w.heap.size, 5, none⟩ = some (.slice aor q.pr.rs.length capr) ∧ W'.cell? ⟨w.heap.size, 6, none⟩ = some (.int .i64 q.wide) ∧ W'.cell? ⟨w.heap.size, 7, none⟩ = some (.slice aop q.prices.length capp)) := fun W' hb => by
    have q1 := (hb.block w.heap.size (by omega)).trans hr1
    unfold planRow at q1
    refine ⟨?_, ?_, ?_, ?_, ?_, ?_, ?_, ?_⟩ <;> (rw [cell_of_row _ _ _ _ _ _ q1]; rfl)
  have ROWS := Lib.hid rows
  clear rows hb0 hr1 hpa
  unfold planRow at hW0 ⊢
  obtain ⟨c0, c1, c2, c3, c4, c5, c6, c7⟩ := ROWS.out W0 (Below.refl _ _)
  have HB1 : Hid (Below W0.heap.size W0 W0) := Lib.hid (Below.refl _ _)
  have h256 := hq.p256
  have hp := OkP.of _ hq.pr
  have hn5 := hp.n5
  have hvo := onlyP_valid q.pr s hq.pr
  have hno := truA_of_every hq ht s
  have hpo := OkP.of _ hvo
  have hws := widB_span hq ht s
  have hcn := hl.2 s
  have hlen : ∀ t ∈ truA (onlyP q.pr s), t.1.length = q.pr.bs.length := fun t h => ((mem_truA hpo t).1 h).2.1
  have hbd : ∀ b, ∀ t ∈ truA (onlyP q.pr s), -20 ≤ t.1.getD b 0 ∧ t.1.getD b 0 ≤ 20 := fun b t h => truA_20 hpo h b
  obtain ⟨L, hL⟩ : ∃ L, L = truA (onlyP q.pr s) := ⟨_, rfl⟩
  rw [← hL] at hno hws hcn hlen hbd
  have HL := Lib.hid hL
  have HCN := Lib.hid hcn
  have HVO := Lib.hid hvo
  have HNE := Lib.hid hno
  have HWS := Lib.hid hws
  have HLEN := Lib.hid hlen
  have HBD := Lib.hid hbd
  have hpos := List.length_pos_iff.2 hno
  have HQ := Lib.hid hq
  clear hq ht hl hp hvo hno hpo hws hcn hlen hbd hL
  go_enter Tryz.func46, Tryz.ntmps46
  go_wp2_with fail
  rw [← hW0]
  clear hW0
  refine (only8_any HQ.out s (by omega) _ (HPA.out.later HB1.out)).mono ?_
  rintro e u1 ⟨rs', rfl, hrs, hb⟩
  have hba := HB1.out.trans (hb.mono HB1.out.size)
  have hpr : PairAt u1 (onlyP q.pr s) (.slice aob q.pr.bs.length capb) rs' := PairAt.of (HPA.out.later hba).p.b hrs
  have HPR := Lib.hid hpr
  have HBO := Lib.hid hba
  clear hb hba hrs hpr c0 c1 c2 c3 c4 c5 c6 c7
  dsimp only
  go_wp2_with fail
  refine (alltruths_any (onlyP q.pr s) HVO.out _ _ (by rw [← HL.out]; exact HCN.out) _ HPR.out).mono ?_
  rintro e u2 ⟨⟨vl, TL, rfl, hta⟩, hb2⟩
  rw [← HL.out] at hta
  obtain ⟨g, capt, rfl, hg, hcells⟩ := truths_cells hta HNE.out
  have HCE := Lib.hid hcells
  have HB2 := Lib.hid (HBO.out.trans (hb2.mono HBO.out.size))
  have hgu := hg
  have hzu := HB2.out.size
  clear hta hcells hb2 HPR HBO hg
  dsimp only
  go_wp2_with fail
  go_loopw [6, 7] (fun o iv wr => ∃ b : Nat, b ≤ q.pr.bs.length ∧ iv = .int .i64 b ∧ wr.ownsRow u2.heap.size 3 1 o b ((widsN q s b).map (Value.int .i64)) ∧ Below u2.heap.size u2 wr) (fun _ iv _ => q.pr.bs.length - (intOf iv).toNat)
  case atStart => exact ⟨0, Nat.zero_le _, rfl, World.ownsRow_nil _ _ _ _, Below.refl _ _⟩
  case round =>
    obtain ⟨b, hb, rfl, hown, hbw⟩ := hrel
    rename World => wo
    have HO := Lib.hid hown
    have HBw := Lib.hid hbw
    have hzr := hbw.size
    clear hown hbw
    by_cases hlt : b < q.pr.bs.length
    · obtain ⟨tv, e1, _, _, ⟨aot, capx, htv, hl1, hel⟩⟩ := HCE.out 0 hpos
      have hl2 := HLEN.out _ (List.getElem_mem hpos)
      rw [List.length_map, hl2] at htv
      subst htv
      obtain ⟨bt, off, rfl, _, hbt, e2⟩ := hel b (by rw [List.length_map]; omega)
      have ex : (L[0].1.map (Value.int .i64))[b]'(by rw [List.length_map]; omega) = .int .i64 (loK L b 0) := by
        rw [List.getElem_map]
        unfold loK atT
        rw [show L.headD ([], (0, 0)) = L[0] by cases L with | nil => exact absurd rfl HNE.out | cons t l => rfl]
        rw [List.getD_eq_getElem?_getD, List.getElem?_eq_getElem (by omega)]; rfl
      rw [ex] at e2
      rw [Nat.zero_mul] at e1
      obtain ⟨x0, hx0⟩ : ∃ x, x = loK L b 0 := ⟨_, rfl⟩
      have hx0h : hiK L b 0 = x0 := hx0.symm
      rw [← hx0] at e2
      have d1 := (HBw.out.cell (p := ⟨g, 0, none⟩) hgu).trans e1
      have d2 := (HBw.out.cell (p := ⟨bt, off + b, none⟩) hbt).trans e2
      obtain ⟨c0, c1, c2, c3, c4, c5, c6, c7⟩ := ROWS.out wo (HB2.out.trans (HBw.out.mono HB2.out.size))
      have HX0 := Lib.hid hx0
      have HX0H := Lib.hid hx0h
      have hlti : (b : Int) < (q.pr.bs.length : Int) := by omega
      have hposi : (0 : Int) < (L.length : Int) := by omega
      have hld : decide ((b : Int) < (q.pr.bs.length : Int)) = true := decide_eq_true hlti
      have hwi : IntKind.i64.wrap ((b : Int) + 1) = ((b + 1 : Nat) : Int) := by rw [IntWalk.i64_in _ (by omega)]; omega
      clear ex hel hl2 hl1 hx0 hx0h e1 e2
      go_wp2_with fail
      clear c0 c1 c2 c3 c4 c5 c6 c7
      refine wp_region_tail 16 #[false, false, false, false, false, false, false, false, false, false, false, false, false, false, false, false, true] (fun W' => W'.cell? ⟨g, 0, none⟩ = some (.slice (some ⟨bt, off, none⟩) q.pr.bs.length capx) ∧ W'.cell? ⟨bt, off + b, none⟩ = some (.int .i64 x0)) (by kernel_rfl) (by kernel_rfl) (by rfl) ⟨d1, d2⟩ fun hS => ?_
      clear d1 d2
      refine wpAnyH_take (i := 0) (v := ?_) rfl (by kernel_rfl) (by kernel_rfl) (by kernel_rfl) (fun _ _ _ h => h) (Or.inl ⟨by rfl, ?_⟩) hS ?_
      rotate_left
      · (intro W hSw; obtain ⟨q0, q1⟩ := hSw; go_simp; try with_reducible rfl)
      try simp only [List.getElem_toArray, List.getElem_cons_succ, List.getElem_cons_zero, Act.put, List.setIfInBounds_toArray, List.set_cons_zero, List.set_cons_succ]
      refine wpAnyH_take (i := 1) (v := ?_) rfl (by kernel_rfl) (by kernel_rfl) (by kernel_rfl) (fun _ _ _ h => h) (Or.inl ⟨by rfl, ?_⟩) hS ?_
      rotate_left
      · (intro W hSw; obtain ⟨q0, q1⟩ := hSw; go_simp; try with_reducible rfl)
      try simp only [List.getElem_toArray, List.getElem_cons_succ, List.getElem_cons_zero, Act.put, List.setIfInBounds_toArray, List.set_cons_zero, List.set_cons_succ]
      refine wpAnyH_take (i := 2) (v := ?_) rfl (by kernel_rfl) (by kernel_rfl) (by kernel_rfl) (fun _ _ _ h => h) (Or.inl ⟨by rfl, ?_⟩) hS ?_
      rotate_left
      · (intro W hSw; obtain ⟨q0, q1⟩ := hSw; go_simp; try with_reducible rfl)
      try simp only [List.getElem_toArray, List.getElem_cons_succ, List.getElem_cons_zero, Act.put, List.setIfInBounds_toArray, List.set_cons_zero, List.set_cons_succ]
      refine wpAnyH_take (i := 3) (v := ?_) rfl (by kernel_rfl) (by kernel_rfl) (by kernel_rfl) (fun _ _ _ h => h) (Or.inl ⟨by rfl, ?_⟩) hS ?_
      rotate_left
      · (intro W hSw; obtain ⟨q0, q1⟩ := hSw; go_simp; try with_reducible rfl)
      try simp only [List.getElem_toArray, List.getElem_cons_succ, List.getElem_cons_zero, Act.put, List.setIfInBounds_toArray, List.set_cons_zero, List.set_cons_succ]
      refine wpAnyH_take (i := 4) (v := ?_) rfl (by kernel_rfl) (by kernel_rfl) (by kernel_rfl) (fun _ _ _ h => h) (Or.inl ⟨by rfl, ?_⟩) hS ?_
      rotate_left
      · (intro W hSw; obtain ⟨q0, q1⟩ := hSw; go_simp; try with_reducible rfl)
      try simp only [List.getElem_toArray, List.getElem_cons_succ, List.getElem_cons_zero, Act.put, List.setIfInBounds_toArray, List.set_cons_zero, List.set_cons_succ]
      refine wpAnyH_take (i := 5) (v := ?_) rfl (by kernel_rfl) (by kernel_rfl) (by kernel_rfl) (fun _ _ _ h => h) (Or.inl ⟨by rfl, ?_⟩) hS ?_
      rotate_left
      · (intro W hSw; obtain ⟨q0, q1⟩ := hSw; go_simp; try with_reducible rfl)
      try simp only [List.getElem_toArray, List.getElem_cons_succ, List.getElem_cons_zero, Act.put, List.setIfInBounds_toArray, List.set_cons_zero, List.set_cons_succ]
      refine wpAnyH_take (i := 6) (v := ?_) rfl (by kernel_rfl) (by kernel_rfl) (by kernel_rfl) (fun _ _ _ h => h) (Or.inl ⟨by rfl, ?_⟩) hS ?_
      rotate_left
      · (intro W hSw; obtain ⟨q0, q1⟩ := hSw; go_simp; try with_reducible rfl)
      try simp only [List.getElem_toArray, List.getElem_cons_succ, List.getElem_cons_zero, Act.put, List.setIfInBounds_toArray, List.set_cons_zero, List.set_cons_succ]
      refine wpAnyH_take (i := 7) (v := ?_) rfl (by kernel_rfl) (by kernel_rfl) (by kernel_rfl) (fun _ _ _ h => h) (Or.inl ⟨by rfl, ?_⟩) hS ?_
      rotate_left
      · (intro W hSw; obtain ⟨q0, q1⟩ := hSw; go_simp; try with_reducible rfl)
      try simp only [List.getElem_toArray, List.getElem_cons_succ, List.getElem_cons_zero, Act.put, List.setIfInBounds_toArray, List.set_cons_zero, List.set_cons_succ]
      refine wpAnyH_take (i := 8) (v := ?_) rfl (by kernel_rfl) (by kernel_rfl) (by kernel_rfl) (fun _ _ _ h => h) (Or.inl ⟨by rfl, ?_⟩) hS ?_
      rotate_left
      · (intro W hSw; obtain ⟨q0, q1⟩ := hSw; go_simp; try with_reducible rfl)
      try simp only [List.getElem_toArray, List.getElem_cons_succ, List.getElem_cons_zero, Act.put, List.setIfInBounds_toArray, List.set_cons_zero, List.set_cons_succ]
      refine wpAnyH_take (i := 9) (v := ?_) rfl (by kernel_rfl) (by kernel_rfl) (by kernel_rfl) (fun _ _ _ h => h) (Or.inl ⟨by rfl, ?_⟩) hS ?_
      rotate_left
      · (intro W hSw; obtain ⟨q0, q1⟩ := hSw; go_simp; try with_reducible rfl)
      try simp only [List.getElem_toArray, List.getElem_cons_succ, List.getElem_cons_zero, Act.put, List.setIfInBounds_toArray, List.set_cons_zero, List.set_cons_succ]
      refine wpAnyH_take (i := 10) (v := ?_) rfl (by kernel_rfl) (by kernel_rfl) (by kernel_rfl) (fun _ _ _ h => h) (Or.inl ⟨by rfl, ?_⟩) hS ?_
      rotate_left
      · (intro W hSw; obtain ⟨q0, q1⟩ := hSw; go_simp; try with_reducible rfl)
      try simp only [List.getElem_toArray, List.getElem_cons_succ, List.getElem_cons_zero, Act.put, List.setIfInBounds_toArray, List.set_cons_zero, List.set_cons_succ]
      refine wpAnyH_take (i := 11) (v := ?_) rfl (by kernel_rfl) (by kernel_rfl) (by kernel_rfl) (fun _ _ _ h => h) (Or.inl ⟨by rfl, ?_⟩) hS ?_
      rotate_left
      · (intro W hSw; obtain ⟨q0, q1⟩ := hSw; go_simp; try with_reducible rfl)
      try simp only [List.getElem_toArray, List.getElem_cons_succ, List.getElem_cons_zero, Act.put, List.setIfInBounds_toArray, List.set_cons_zero, List.set_cons_succ]
      refine wpAnyH_take (i := 12) (v := ?_) rfl (by kernel_rfl) (by kernel_rfl) (by kernel_rfl) (fun _ _ _ h => h) (Or.inl ⟨by rfl, ?_⟩) hS ?_
      rotate_left
      · (intro W hSw; obtain ⟨q0, q1⟩ := hSw; go_simp; try with_reducible rfl)
      try simp only [List.getElem_toArray, List.getElem_cons_succ, List.getElem_cons_zero, Act.put, List.setIfInBounds_toArray, List.set_cons_zero, List.set_cons_succ]
      refine wpAnyH_take (i := 13) (v := ?_) rfl (by kernel_rfl) (by kernel_rfl) (by kernel_rfl) (fun _ _ _ h => h) (Or.inl ⟨by rfl, ?_⟩) hS ?_
      rotate_left
      · (intro W hSw; obtain ⟨q0, q1⟩ := hSw; go_simp; try with_reducible rfl)
      try simp only [List.getElem_toArray, List.getElem_cons_succ, List.getElem_cons_zero, Act.put, List.setIfInBounds_toArray, List.set_cons_zero, List.set_cons_succ]
      refine wpAnyH_take (i := 14) (v := ?_) rfl (by kernel_rfl) (by kernel_rfl) (by kernel_rfl) (fun _ _ _ h => h) (Or.inl ⟨by rfl, ?_⟩) hS ?_
      rotate_left
      · (intro W hSw; obtain ⟨q0, q1⟩ := hSw; go_simp; try with_reducible rfl)
      try simp only [List.getElem_toArray, List.getElem_cons_succ, List.getElem_cons_zero, Act.put, List.setIfInBounds_toArray, List.set_cons_zero, List.set_cons_succ]
      refine wpAnyH_ready (rs := [15]) (by kernel_rfl) (by simp) ?_
      refine AllReadyH.cons rfl (fun K hK => ?_) AllReadyH.nil
      go_simp
      obtain ⟨W4, hW4⟩ : ∃ x, x = (wo.alloc (.cells #[.int .i64 0, .int .i64 0] 24)).drew := ⟨_, rfl⟩
      have hz4 : W4.heap.size = wo.heap.size + 1 := by rw [hW4]; show (wo.alloc _).heap.size = _; simp
      have hb4 : Below wo.heap.size wo W4 := by rw [hW4]; exact ((Below.refl _ _).alloc (Nat.le_refl _) _).drew
      have hn4 : W4.heap[wo.heap.size]? = some (.cells #[.int .i64 0, .int .i64 0] 24 (0, 0)) := by rw [hW4]; exact heap_alloc_at _ _ _ rfl
      have hbtw : bt < wo.heap.size := by omega
      have hgw : g < wo.heap.size := by omega
      have hS4 := hS
      rw [show wo.drew.cell? ⟨g, 0, none⟩ = W4.cell? ⟨g, 0, none⟩ from (hb4.cell (p := ⟨g, 0, none⟩) hgw).symm, show wo.drew.cell? ⟨bt, off + b, none⟩ = W4.cell? ⟨bt, off + b, none⟩ from (hb4.cell (p := ⟨bt, off + b, none⟩) hbtw).symm] at hS4
      rw [← hW4]
      have HB4 := Lib.hid hb4
      have HN4 := Lib.hid hn4
      clear hS hb4 hn4 hW4
      refine hK.out _ _ hS4 (fun hS => ?_)
      clear hK K hS4
      try simp only [List.getElem_toArray, List.getElem_cons_succ, List.getElem_cons_zero, Act.put, List.setIfInBounds_toArray, List.set_cons_zero, List.set_cons_succ]
      refine wpAnyH_done (by kernel_rfl) ?_ _
      unfold TailQ
      simp only [List.drop_succ_cons, List.drop_zero]
      clear hS
      refine wpList_storeA rfl 24 _ _ rfl wo.heap.size #[.int .i64 x0, .int .i64 x0] rfl rfl 24 _ HN4.out rfl rfl (by simp [Value.oneCell']) ?_
      intro W5 hr5 hk5 hs5
      have HR5 := Lib.hid hr5
      have HK5 := Lib.hid hk5
      have hz5 : W5.heap.size = wo.heap.size + 1 := by omega
      clear hr5 hk5 HN4
      go_wp2_with fail
      go_loopw [9] (fun iv wr => ∃ k : Nat, k ≤ L.length ∧ iv = .int .i64 k ∧ wr.heap[wo.heap.size]? = some (.cells #[.int .i64 (loK L b k), .int .i64 (hiK L b k)] 24 (0, 0)) ∧ Keeps (fun j => j = wo.heap.size) W5 wr) (fun iv _ => L.length - (intOf iv).toNat)
      case atStart => exact ⟨0, Nat.zero_le _, rfl, by rw [← HX0.out, HX0H.out]; exact HR5.out, Keeps.refl _ _⟩
      case round =>
        obtain ⟨k, hk, rfl, hri, hki⟩ := hrel
        have HRI := Lib.hid hri
        have HKI := Lib.hid hki
        have hzi := hki.size
        have hba : Below wo.heap.size wo wr := HB4.out.trans ((Keeps.trans HK5.out hki).below (by omega) (fun j h e => by omega))
        have HBA := Lib.hid hba
        clear hri hki hba
        by_cases hlk : k < L.length
        · obtain ⟨tv, e1, _, _, ⟨aot2, capx2, htv, hl1, hel⟩⟩ := HCE.out k hlk
          have hl2 := HLEN.out _ (List.getElem_mem hlk)
          have hyb := HBD.out b _ (List.getElem_mem hlk)
          rw [List.length_map, hl2] at htv
          subst htv
          obtain ⟨bt2, off2, rfl, _, hbt2, e2⟩ := hel b (by rw [List.length_map]; omega)
          have hat : atT b (L.getD k ([], (0, 0))) = L[k].1.getD b 0 := by unfold atT; rw [List.getD_eq_getElem?_getD (l := L), List.getElem?_eq_getElem hlk]; rfl
          have ex : (L[k].1.map (Value.int .i64))[b]'(by rw [List.length_map]; omega) = .int .i64 (L[k].1.getD b 0) := by
            rw [List.getElem_map, List.getD_eq_getElem?_getD, List.getElem?_eq_getElem (by omega)]; rfl
          rw [ex] at e2
          obtain ⟨yk, hyk⟩ : ∃ y, y = L[k].1.getD b 0 := ⟨_, rfl⟩
          rw [← hyk] at e2 hat
          have hlo : loK L b (k + 1) = min (loK L b k) yk := by rw [← hat]; rfl
          have hhi : hiK L b (k + 1) = max (hiK L b k) yk := by rw [← hat]; rfl
          obtain ⟨lo, hlo2⟩ : ∃ x, x = loK L b k := ⟨_, rfl⟩
          obtain ⟨hh, hhi2⟩ : ∃ x, x = hiK L b k := ⟨_, rfl⟩
          rw [← hlo2] at hlo
          rw [← hhi2] at hhi
          have hri := HRI.out
          rw [← hlo2, ← hhi2] at hri
          have HRJ := Lib.hid hri
          have d1 : wr.cell? ⟨wo.heap.size, 0, none⟩ = some (.int .i64 lo) := by rw [cell_of_row _ _ _ _ _ _ hri]; rfl
          have d2 : wr.cell? ⟨wo.heap.size, 1, none⟩ = some (.int .i64 hh) := by rw [cell_of_row _ _ _ _ _ _ hri]; rfl
          have hgw : g < wo.heap.size := by omega
          have hbw2 : bt2 < wo.heap.size := by omega
          have d3 := (HBA.out.cell (p := ⟨g, k * 3, none⟩) hgw).trans ((HBw.out.cell (p := ⟨g, k * 3, none⟩) hgu).trans e1)
          have d4 := (HBA.out.cell (p := ⟨bt2, off2 + b, none⟩) hbw2).trans ((HBw.out.cell (p := ⟨bt2, off2 + b, none⟩) hbt2).trans e2)
          have HLO := Lib.hid hlo
          have HHI := Lib.hid hhi
          have hlki : (k : Int) < (L.length : Int) := by omega
          have hlkd : decide ((k : Int) < (L.length : Int)) = true := decide_eq_true hlki
          have hwk : IntKind.i64.wrap ((k : Int) + 1) = ((k + 1 : Nat) : Int) := by have := HCN.out; rw [IntWalk.i64_in _ (by omega)]; omega
          clear hel hl1 hl2 hyb ex hat hyk hlo hhi hlo2 hhi2 hri e1 e2
          go_wp2_with fail
          refine wp_region_tail 23 #[false, false, false, false, false, false, false, false, false, false, false, false, false, false, false, false, false, false, false, false, false, false, false, true] (fun W' => W'.cell? ⟨wo.heap.size, 0, none⟩ = some (.int .i64 lo) ∧ W'.cell? ⟨wo.heap.size, 1, none⟩ = some (.int .i64 hh) ∧ W'.cell? ⟨g, k * 3, none⟩ = some (.slice (some ⟨bt2, off2, none⟩) q.pr.bs.length capx2) ∧ W'.cell? ⟨bt2, off2 + b, none⟩ = some (.int .i64 yk)) (by kernel_rfl) (by kernel_rfl) (by rfl) ⟨d1, d2, d3, d4⟩ fun hS => ?_
          clear d1 d2 d3 d4
          refine wpAnyH_take (i := 0) (v := ?_) rfl (by kernel_rfl) (by kernel_rfl) (by kernel_rfl) (fun _ _ _ h => h) (Or.inl ⟨by rfl, ?_⟩) hS ?_
          rotate_left
          · (intro W hSw; obtain ⟨q0, q1, q2, q3⟩ := hSw; go_simp; try with_reducible rfl)
          try simp only [List.getElem_toArray, List.getElem_cons_succ, List.getElem_cons_zero, Act.put, List.setIfInBounds_toArray, List.set_cons_zero, List.set_cons_succ]
          refine wpAnyH_take (i := 1) (v := ?_) rfl (by kernel_rfl) (by kernel_rfl) (by kernel_rfl) (fun _ _ _ h => h) (Or.inl ⟨by rfl, ?_⟩) hS ?_
          rotate_left
          · (intro W hSw; obtain ⟨q0, q1, q2, q3⟩ := hSw; go_simp; try with_reducible rfl)
          try simp only [List.getElem_toArray, List.getElem_cons_succ, List.getElem_cons_zero, Act.put, List.setIfInBounds_toArray, List.set_cons_zero, List.set_cons_succ]
          refine wpAnyH_take (i := 2) (v := ?_) rfl (by kernel_rfl) (by kernel_rfl) (by kernel_rfl) (fun _ _ _ h => h) (Or.inl ⟨by rfl, ?_⟩) hS ?_
          rotate_left
          · (intro W hSw; obtain ⟨q0, q1, q2, q3⟩ := hSw; go_simp; try with_reducible rfl)
          try simp only [List.getElem_toArray, List.getElem_cons_succ, List.getElem_cons_zero, Act.put, List.setIfInBounds_toArray, List.set_cons_zero, List.set_cons_succ]
          refine wpAnyH_take (i := 3) (v := ?_) rfl (by kernel_rfl) (by kernel_rfl) (by kernel_rfl) (fun _ _ _ h => h) (Or.inl ⟨by rfl, ?_⟩) hS ?_
          rotate_left
          · (intro W hSw; obtain ⟨q0, q1, q2, q3⟩ := hSw; go_simp; try with_reducible rfl)
          try simp only [List.getElem_toArray, List.getElem_cons_succ, List.getElem_cons_zero, Act.put, List.setIfInBounds_toArray, List.set_cons_zero, List.set_cons_succ]
          refine wpAnyH_take (i := 4) (v := ?_) rfl (by kernel_rfl) (by kernel_rfl) (by kernel_rfl) (fun _ _ _ h => h) (Or.inl ⟨by rfl, ?_⟩) hS ?_
          rotate_left
          · (intro W hSw; obtain ⟨q0, q1, q2, q3⟩ := hSw; go_simp; try with_reducible rfl)
          try simp only [List.getElem_toArray, List.getElem_cons_succ, List.getElem_cons_zero, Act.put, List.setIfInBounds_toArray, List.set_cons_zero, List.set_cons_succ]
          refine wpAnyH_take (i := 5) (v := ?_) rfl (by kernel_rfl) (by kernel_rfl) (by kernel_rfl) (fun _ _ _ h => h) (Or.inl ⟨by rfl, ?_⟩) hS ?_
          rotate_left
          · (intro W hSw; obtain ⟨q0, q1, q2, q3⟩ := hSw; go_simp; try with_reducible rfl)
          try simp only [List.getElem_toArray, List.getElem_cons_succ, List.getElem_cons_zero, Act.put, List.setIfInBounds_toArray, List.set_cons_zero, List.set_cons_succ]
          refine wpAnyH_take (i := 6) (v := ?_) rfl (by kernel_rfl) (by kernel_rfl) (by kernel_rfl) (fun _ _ _ h => h) (Or.inl ⟨by rfl, ?_⟩) hS ?_
          rotate_left
          · (intro W hSw; obtain ⟨q0, q1, q2, q3⟩ := hSw; go_simp; try with_reducible rfl)
          try simp only [List.getElem_toArray, List.getElem_cons_succ, List.getElem_cons_zero, Act.put, List.setIfInBounds_toArray, List.set_cons_zero, List.set_cons_succ]
          refine wpAnyH_take (i := 7) (v := ?_) rfl (by kernel_rfl) (by kernel_rfl) (by kernel_rfl) (fun _ _ _ h => h) (Or.inl ⟨by rfl, ?_⟩) hS ?_
          rotate_left
          · (intro W hSw; obtain ⟨q0, q1, q2, q3⟩ := hSw; go_simp; try with_reducible rfl)
          try simp only [List.getElem_toArray, List.getElem_cons_succ, List.getElem_cons_zero, Act.put, List.setIfInBounds_toArray, List.set_cons_zero, List.set_cons_succ]
          refine wpAnyH_take (i := 8) (v := ?_) rfl (by kernel_rfl) (by kernel_rfl) (by kernel_rfl) (fun _ _ _ h => h) (Or.inl ⟨by rfl, ?_⟩) hS ?_
          rotate_left
          · (intro W hSw; obtain ⟨q0, q1, q2, q3⟩ := hSw; go_simp; try with_reducible rfl)
          try simp only [List.getElem_toArray, List.getElem_cons_succ, List.getElem_cons_zero, Act.put, List.setIfInBounds_toArray, List.set_cons_zero, List.set_cons_succ]
          refine wpAnyH_take (i := 9) (v := ?_) rfl (by kernel_rfl) (by kernel_rfl) (by kernel_rfl) (fun _ _ _ h => h) (Or.inl ⟨by rfl, ?_⟩) hS ?_
          rotate_left
          · (intro W hSw; obtain ⟨q0, q1, q2, q3⟩ := hSw; go_simp; try with_reducible rfl)
          try simp only [List.getElem_toArray, List.getElem_cons_succ, List.getElem_cons_zero, Act.put, List.setIfInBounds_toArray, List.set_cons_zero, List.set_cons_succ]
          refine wpAnyH_take (i := 10) (v := ?_) rfl (by kernel_rfl) (by kernel_rfl) (by kernel_rfl) (fun _ _ _ h => h) (Or.inl ⟨by rfl, ?_⟩) hS ?_
          rotate_left
          · (intro W hSw; obtain ⟨q0, q1, q2, q3⟩ := hSw; go_simp; try with_reducible rfl)
          try simp only [List.getElem_toArray, List.getElem_cons_succ, List.getElem_cons_zero, Act.put, List.setIfInBounds_toArray, List.set_cons_zero, List.set_cons_succ]
          refine wpAnyH_take (i := 11) (v := ?_) rfl (by kernel_rfl) (by kernel_rfl) (by kernel_rfl) (fun _ _ _ h => h) (Or.inl ⟨by rfl, ?_⟩) hS ?_
          rotate_left
          · (intro W hSw; obtain ⟨q0, q1, q2, q3⟩ := hSw; go_simp; try with_reducible rfl)
          try simp only [List.getElem_toArray, List.getElem_cons_succ, List.getElem_cons_zero, Act.put, List.setIfInBounds_toArray, List.set_cons_zero, List.set_cons_succ]
          refine wpAnyH_take (i := 12) (v := ?_) rfl (by kernel_rfl) (by kernel_rfl) (by kernel_rfl) (fun _ _ _ h => h) (Or.inl ⟨by rfl, ?_⟩) hS ?_
          rotate_left
          · (intro W hSw; obtain ⟨q0, q1, q2, q3⟩ := hSw; go_simp; try with_reducible rfl)
          try simp only [List.getElem_toArray, List.getElem_cons_succ, List.getElem_cons_zero, Act.put, List.setIfInBounds_toArray, List.set_cons_zero, List.set_cons_succ]
          refine wpAnyH_take (i := 13) (v := ?_) rfl (by kernel_rfl) (by kernel_rfl) (by kernel_rfl) (fun _ _ _ h => h) (Or.inl ⟨by rfl, ?_⟩) hS ?_
          rotate_left
          · (intro W hSw; obtain ⟨q0, q1, q2, q3⟩ := hSw; go_simp; try with_reducible rfl)
          try simp only [List.getElem_toArray, List.getElem_cons_succ, List.getElem_cons_zero, Act.put, List.setIfInBounds_toArray, List.set_cons_zero, List.set_cons_succ]
          refine wpAnyH_take (i := 14) (v := ?_) rfl (by kernel_rfl) (by kernel_rfl) (by kernel_rfl) (fun _ _ _ h => h) (Or.inl ⟨by rfl, ?_⟩) hS ?_
          rotate_left
          · (intro W hSw; obtain ⟨q0, q1, q2, q3⟩ := hSw; go_simp; try with_reducible rfl)
          try simp only [List.getElem_toArray, List.getElem_cons_succ, List.getElem_cons_zero, Act.put, List.setIfInBounds_toArray, List.set_cons_zero, List.set_cons_succ]
          refine wpAnyH_take (i := 15) (v := ?_) rfl (by kernel_rfl) (by kernel_rfl) (by kernel_rfl) (fun _ _ _ h => h) (Or.inl ⟨by rfl, ?_⟩) hS ?_
          rotate_left
          · (intro W hSw; obtain ⟨q0, q1, q2, q3⟩ := hSw; go_simp; try with_reducible rfl)
          try simp only [List.getElem_toArray, List.getElem_cons_succ, List.getElem_cons_zero, Act.put, List.setIfInBounds_toArray, List.set_cons_zero, List.set_cons_succ]
          refine wpAnyH_take (i := 16) (v := ?_) rfl (by kernel_rfl) (by kernel_rfl) (by kernel_rfl) (fun _ _ _ h => h) (Or.inl ⟨by rfl, ?_⟩) hS ?_
          rotate_left
          · (intro W hSw; obtain ⟨q0, q1, q2, q3⟩ := hSw; go_simp; try with_reducible rfl)
          try simp only [List.getElem_toArray, List.getElem_cons_succ, List.getElem_cons_zero, Act.put, List.setIfInBounds_toArray, List.set_cons_zero, List.set_cons_succ]
          refine wpAnyH_take (i := 17) (v := ?_) rfl (by kernel_rfl) (by kernel_rfl) (by kernel_rfl) (fun _ _ _ h => h) (Or.inl ⟨by rfl, ?_⟩) hS ?_
          rotate_left
          · (intro W hSw; obtain ⟨q0, q1, q2, q3⟩ := hSw; go_simp; try with_reducible rfl)
          try simp only [List.getElem_toArray, List.getElem_cons_succ, List.getElem_cons_zero, Act.put, List.setIfInBounds_toArray, List.set_cons_zero, List.set_cons_succ]
          refine wpAnyH_take (i := 18) (v := ?_) rfl (by kernel_rfl) (by kernel_rfl) (by kernel_rfl) (fun _ _ _ h => h) (Or.inl ⟨by rfl, ?_⟩) hS ?_
          rotate_left
          · (intro W hSw; obtain ⟨q0, q1, q2, q3⟩ := hSw; go_simp; try with_reducible rfl)
          try simp only [List.getElem_toArray, List.getElem_cons_succ, List.getElem_cons_zero, Act.put, List.setIfInBounds_toArray, List.set_cons_zero, List.set_cons_succ]
          refine wpAnyH_take (i := 19) (v := ?_) rfl (by kernel_rfl) (by kernel_rfl) (by kernel_rfl) (fun _ _ _ h => h) (Or.inl ⟨by rfl, ?_⟩) hS ?_
          rotate_left
          · (intro W hSw; obtain ⟨q0, q1, q2, q3⟩ := hSw; go_simp; try with_reducible rfl)
          try simp only [List.getElem_toArray, List.getElem_cons_succ, List.getElem_cons_zero, Act.put, List.setIfInBounds_toArray, List.set_cons_zero, List.set_cons_succ]
          refine wpAnyH_take (i := 20) (v := ?_) rfl (by kernel_rfl) (by kernel_rfl) (by kernel_rfl) (fun _ _ _ h => h) (Or.inl ⟨by rfl, ?_⟩) hS ?_
          rotate_left
          · (intro W hSw; obtain ⟨q0, q1, q2, q3⟩ := hSw; go_simp; try with_reducible rfl)
          try simp only [List.getElem_toArray, List.getElem_cons_succ, List.getElem_cons_zero, Act.put, List.setIfInBounds_toArray, List.set_cons_zero, List.set_cons_succ]
          refine wpAnyH_take (i := 21) (v := ?_) rfl (by kernel_rfl) (by kernel_rfl) (by kernel_rfl) (fun _ _ _ h => h) (Or.inl ⟨by rfl, ?_⟩) hS ?_
          rotate_left
          · (intro W hSw; obtain ⟨q0, q1, q2, q3⟩ := hSw; go_simp; try with_reducible rfl)
          try simp only [List.getElem_toArray, List.getElem_cons_succ, List.getElem_cons_zero, Act.put, List.setIfInBounds_toArray, List.set_cons_zero, List.set_cons_succ]
          refine wpAnyH_take (i := 22) (v := ?_) rfl (by kernel_rfl) (by kernel_rfl) (by kernel_rfl) (fun _ _ _ h => h) (Or.inl ⟨by rfl, ?_⟩) hS ?_
          rotate_left
          · (intro W hSw; obtain ⟨q0, q1, q2, q3⟩ := hSw; go_simp; try with_reducible rfl)
          try simp only [List.getElem_toArray, List.getElem_cons_succ, List.getElem_cons_zero, Act.put, List.setIfInBounds_toArray, List.set_cons_zero, List.set_cons_succ]
          refine wpAnyH_done (by kernel_rfl) ?_ _
          unfold TailQ
          simp only [List.drop_succ_cons, List.drop_zero]
          clear hS
          refine wpList_storeA rfl 24 _ _ rfl wo.heap.size #[.int .i64 (min lo yk), .int .i64 (max hh yk)] rfl rfl 24 _ (show wr.drew.heap[wo.heap.size]? = _ from HRJ.out) rfl rfl (by simp [Value.oneCell']) ?_
          intro W6 hr6 hk6 hs6
          have HR6 := Lib.hid hr6
          have HK6 := Lib.hid hk6
          clear hr6 hk6 HRJ
          go_wp2_with fail
          exact ⟨⟨k + 1, by omega, rfl, by rw [HLO.out, HHI.out]; exact HR6.out, (HKI.out.trans (Keeps.drew _ _)).trans HK6.out⟩, by simp [intOf]; omega⟩
        · obtain rfl : k = L.length := by omega
          have hw1 := HWS.out b hlt
          have hin := loK_in (HBD.out b) HNE.out L.length (Nat.le_refl _)
          have hri := HRI.out
          obtain ⟨lo, hlo2⟩ : ∃ x, x = loK L b L.length := ⟨_, rfl⟩
          obtain ⟨hh, hhi2⟩ : ∃ x, x = hiK L b L.length := ⟨_, rfl⟩
          rw [← hlo2, ← hhi2] at hri hw1 hin
          have d1 : wr.cell? ⟨wo.heap.size, 0, none⟩ = some (.int .i64 lo) := by rw [cell_of_row _ _ _ _ _ _ hri]; rfl
          have d2 : wr.cell? ⟨wo.heap.size, 1, none⟩ = some (.int .i64 hh) := by rw [cell_of_row _ _ _ _ _ _ hri]; rfl
          have hww : IntKind.i64.wrap (hh - lo) = hh - lo := IntWalk.i64_in _ (by omega)
          have HNX := Lib.hid (widsN_next q s b)
          rw [hw1] at HNX
          have howni : wr.ownsRow u2.heap.size 3 1 u6 b ((widsN q s b).map (Value.int .i64)) := own_block HO.out (fun k e => HBA.out.block k (HO.out.lt k e).2)
          have HOI := Lib.hid howni
          clear hri hin hlo2 hhi2 hw1 howni
          go_wp2_with (first | (refine wpList_append_here rfl (.tmp 66) (.tmp 72) 28 rfl u2.heap.size 3 1 8 (.int .i64 0) underInts infoInt rfl (by decide) _ b _ rfl (HOI.out.alloc _) wr.heap.size 1 #[.int .i64 (hh - lo)] 3 (0, 0) rfl (heap_alloc_at _ _ _ rfl) rfl (by simp [Value.oneCell']) (by omega) (by decide) (by simp; omega) ?_; intro v1 W7 hown7 hg7 hat7; have HO7 := Lib.hid hown7; have HG7 := Lib.hid hg7; clear hown7 hg7 hat7))
          have hb7 : Below u2.heap.size wr W7 := ((Below.refl _ _).alloc (by omega) (.cells #[.int .i64 (hh - lo)] 3)).trans ((Below.refl _ _).grown HG7.out (by simp; omega) (own_base (HOI.out.alloc (.cells #[.int .i64 (hh - lo)] 3))))
          exact ⟨⟨b + 1, by omega, rfl, by rw [HNX.out, List.map_append]; exact HO7.out, HBw.out.trans ((HBA.out.mono hzr).trans hb7)⟩, by simp [intOf]; omega⟩
    · obtain rfl : b = q.pr.bs.length := by omega
      have hnum := nums_of_own (by unfold widsN; rw [List.length_map, List.length_range]) HO.out
      obtain ⟨c0, c1, c2, c3, c4, c5, c6, c7⟩ := ROWS.out wo (HB2.out.trans (HBw.out.mono HB2.out.size))
      have HNUM := Lib.hid hnum
      clear hnum
      go_wp2_with fail
      go_ret
      exact ⟨_, rfl, HNUM.out.mono (fun k hk => by omega), HB0.out.trans ((HB2.out.trans (HBw.out.mono HB2.out.size)).mono HB0.out.size)⟩
end Go.Proofs.YtabbmihakoeegaaGreat

/- The reference: widest, sum, enough, check, told. -/
namespace Go.Proofs.YtabbmihakoeegaaGreat
set_option linter.unusedVariables false
set_option linter.unusedSimpArgs false
open Go.RowKit Go.Shelf
attribute [local go_sem] Oper.semAt_some

set_option maxRecDepth 100000 in
set_option maxHeartbeats 4000000 in
theorem rwidest_any {q : PlanD} (hq : OkQ q) (ht : truA q.pr ≠ []) (hl : Light q) {bs rs ps : Value} (s : Nat) (hs : s < 2 ^ q.prices.length) (w : World) (hpa : PlanAt w q bs rs ps) :
    Calls Tryz.prog 48 #[.agg (planRow q bs rs ps), .int .i64 s] w fun e w' => e = .returned (.int .i64 (widestV q.pr s)) ∧ Below w.heap.size w w' := by
  have hn5 := (OkP.of _ hq.pr).n5
  have HEND := Lib.hid (wK_end hq ht s)
  have HIN : Hid (∀ i, (0 ≤ wK q.pr s i ∧ wK q.pr s i ≤ 80) ∧ 0 ≤ widB q.pr s i ∧ widB q.pr s i ≤ 80) := Lib.hid fun i => ⟨⟨wK_pos _ _ _, wK_80 hq ht s i⟩, widB_40 hq.pr s i (truA_of_every hq ht s)⟩
  have HQ := Lib.hid hq
  have HT := Lib.hid ht
  have HL := Lib.hid hl
  clear hq ht hl
  obtain ⟨aob, capb, hbv, _⟩ := id hpa.p.b
  obtain ⟨aor, capr, hrv, _⟩ := id hpa.p.r
  obtain ⟨aop, capp, hpv, _⟩ := id hpa.n
  subst hbv hrv hpv
  obtain ⟨W0, hW0⟩ : ∃ W0, W0 = w.alloc (.cells (planRow q (.slice aob q.pr.bs.length capb) (.slice aor q.pr.rs.length capr) (.slice aop q.prices.length capp)) 30 (0, 0)) := ⟨_, rfl⟩
  have hb0 : Below w.heap.size w W0 := by rw [hW0]; exact (Below.refl _ _).alloc (Nat.le_refl _) _
  have hr1 : W0.heap[w.heap.size]? = some (.cells (planRow q (.slice aob q.pr.bs.length capb) (.slice aor q.pr.rs.length capr) (.slice aop q.prices.length capp)) 30 (0, 0)) := by rw [hW0]; exact heap_alloc_at _ _ _ rfl
  have hsw : W0.heap.size = w.heap.size + 1 := by rw [hW0]; simp
  have HB0 := Lib.hid hb0
  have HR1 := Lib.hid hr1
  have HPA := Lib.hid (hpa.later hb0)
  have rows : ∀ W', Below W0.heap.size W0 W' → (W'.cell? ⟨w.heap.size, 0, none⟩ = some (.slice aob q.pr.bs.length capb) ∧ W'.cell? ⟨w.heap.size, 1, none⟩ = some (.int .i64 q.pr.zl) ∧ W'.cell? ⟨w.heap.size, 2, none⟩ = some (.int .i64 q.pr.zh) ∧
        W'.cell? ⟨w.heap.size, 3, none⟩ = some (.int .i64 q.pr.rl) ∧ W'.cell? ⟨w.heap.size, 4, none⟩ = some (.int .i64 q.pr.rh) ∧ W'.cell? ⟨w.heap.size, 5, none⟩ = some (.slice aor q.pr.rs.length capr) ∧ W'.cell? ⟨w.heap.size, 6, none⟩ = some (.int .i64 q.wide) ∧ W'.cell? ⟨w.heap.size, 7, none⟩ = some (.slice aop q.prices.length capp)) := fun W' hb => by
    have q1 := (hb.block w.heap.size (by omega)).trans hr1
    unfold planRow at q1
    refine ⟨?_, ?_, ?_, ?_, ?_, ?_, ?_, ?_⟩ <;> (rw [cell_of_row _ _ _ _ _ _ q1]; rfl)
  have ROWS := Lib.hid rows
  clear rows hb0 hr1 hpa
  unfold planRow at hW0 ⊢
  obtain ⟨c0, c1, c2, c3, c4, c5, c6, c7⟩ := ROWS.out W0 (Below.refl _ _)
  have HB1 : Hid (Below W0.heap.size W0 W0) := Lib.hid (Below.refl _ _)
  go_enter Tryz.func48, Tryz.ntmps48
  go_wp2_with fail
  rw [← hW0]
  clear hW0
  refine (wide8_any HQ.out HT.out HL.out s hs _ (HPA.out.later HB1.out)).mono ?_
  rintro e u1 ⟨v, rfl, hn, hb⟩
  have HB2 := Lib.hid (HB1.out.trans (hb.mono HB1.out.size))
  obtain ⟨av, cv, hv', _⟩ := id hn
  rw [show (widsN q s q.pr.bs.length).length = q.pr.bs.length by unfold widsN; rw [List.length_map, List.length_range]] at hv'
  subst hv'
  have HN := Lib.hid hn.low
  clear hb hn c0 c1 c2 c3 c4 c5 c6 c7
  dsimp only
  go_wp2_with fail
  go_loopw [6, 7] (fun nv iv wr => ∃ i : Nat, i ≤ q.pr.bs.length ∧ iv = .int .i64 i ∧ nv = .int .i64 (wK q.pr s i) ∧ Below u1.heap.size u1 wr) (fun _ iv _ => q.pr.bs.length - (intOf iv).toNat)
  case atStart => exact ⟨0, Nat.zero_le _, rfl, rfl, Below.refl _ _⟩
  case round =>
    obtain ⟨i, hi, rfl, rfl, hb⟩ := hrel
    have HB := Lib.hid hb
    have hzr := hb.size
    clear hb
    by_cases hlt : i < q.pr.bs.length
    · have hlti : (i : Int) < (q.pr.bs.length : Int) := by omega
      have hwi : IntKind.i64.wrap ((i : Int) + 1) = ((i + 1 : Nat) : Int) := by rw [IntWalk.i64_in _ (by omega)]; omega
      obtain ⟨ao', cap', he, _, _, hel⟩ := HN.out
      obtain ⟨rfl, -, rfl⟩ := Value.slice.inj he
      clear he
      obtain ⟨lb, lo, rfl, _, hll, e1⟩ := hel i (by unfold widsN; rw [List.length_map, List.length_range]; exact hlt)
      rw [show (widsN q s q.pr.bs.length)[i]'(by unfold widsN; rw [List.length_map, List.length_range]; exact hlt) = widB q.pr s i by unfold widsN; rw [List.getElem_map, List.getElem_range]] at e1
      have e2 := (HB.out.cell (p := ⟨lb, lo + i, none⟩) hll).trans e1
      have hin := HIN.out i
      have hnx : wK q.pr s (i + 1) = max (wK q.pr s i) (widB q.pr s i) := rfl
      obtain ⟨wb, hwb⟩ : ∃ x, x = widB q.pr s i := ⟨_, rfl⟩
      obtain ⟨vk, hvk⟩ : ∃ x, x = wK q.pr s i := ⟨_, rfl⟩
      rw [← hwb, ← hvk] at hnx
      rw [← hwb] at e2
      rw [← hwb, ← hvk] at hin
      rw [← hvk]
      have HNX := Lib.hid hnx
      have hww : IntKind.i64.wrap (vk + wb) = vk + wb := IntWalk.i64_in _ (by omega)
      clear hel hwb hvk hnx e1 hin
      go_wp2_with fail
      exact ⟨⟨i + 1, by omega, rfl, by rw [HNX.out], HB.out⟩, by simp [intOf]; omega⟩
    · obtain rfl : i = q.pr.bs.length := by omega
      go_wp2_with fail
      go_ret
      exact ⟨by first | (rw [HEND.out]; rfl) | rw [HEND.out], HB0.out.trans ((HB2.out.trans (HB.out.mono HB2.out.size)).mono HB0.out.size)⟩
set_option maxRecDepth 100000 in
set_option maxHeartbeats 4000000 in
theorem rsum_any {q : PlanD} (hq : OkQ q) (ht : truA q.pr ≠ []) (hl : Light q) {bs rs ps : Value} (s : Nat) (hs : s < 2 ^ q.prices.length) (w : World) (hpa : PlanAt w q bs rs ps) :
    Calls Tryz.prog 65 #[.agg (planRow q bs rs ps), .int .i64 s] w fun e w' => e = .returned (.int .i64 (totalV q.pr s)) ∧ Below w.heap.size w w' := by
  have hn5 := (OkP.of _ hq.pr).n5
  have HEND := Lib.hid (tK_end (OkP.of _ hq.pr) s)
  have HIN : Hid (∀ i : Nat, (0 ≤ tK q.pr s i ∧ tK q.pr s i ≤ 80 * (i : Int)) ∧ 0 ≤ widB q.pr s i ∧ widB q.pr s i ≤ 80) := Lib.hid fun i => ⟨tK_in hq ht s i, widB_40 hq.pr s i (truA_of_every hq ht s)⟩
  have HQ := Lib.hid hq
  have HT := Lib.hid ht
  have HL := Lib.hid hl
  clear hq ht hl
  obtain ⟨aob, capb, hbv, _⟩ := id hpa.p.b
  obtain ⟨aor, capr, hrv, _⟩ := id hpa.p.r
  obtain ⟨aop, capp, hpv, _⟩ := id hpa.n
  subst hbv hrv hpv
  obtain ⟨W0, hW0⟩ : ∃ W0, W0 = w.alloc (.cells (planRow q (.slice aob q.pr.bs.length capb) (.slice aor q.pr.rs.length capr) (.slice aop q.prices.length capp)) 30 (0, 0)) := ⟨_, rfl⟩
  have hb0 : Below w.heap.size w W0 := by rw [hW0]; exact (Below.refl _ _).alloc (Nat.le_refl _) _
  have hr1 : W0.heap[w.heap.size]? = some (.cells (planRow q (.slice aob q.pr.bs.length capb) (.slice aor q.pr.rs.length capr) (.slice aop q.prices.length capp)) 30 (0, 0)) := by rw [hW0]; exact heap_alloc_at _ _ _ rfl
  have hsw : W0.heap.size = w.heap.size + 1 := by rw [hW0]; simp
  have HB0 := Lib.hid hb0
  have HR1 := Lib.hid hr1
  have HPA := Lib.hid (hpa.later hb0)
  have rows : ∀ W', Below W0.heap.size W0 W' → (W'.cell? ⟨w.heap.size, 0, none⟩ = some (.slice aob q.pr.bs.length capb) ∧ W'.cell? ⟨w.heap.size, 1, none⟩ = some (.int .i64 q.pr.zl) ∧ W'.cell? ⟨w.heap.size, 2, none⟩ = some (.int .i64 q.pr.zh) ∧
        W'.cell? ⟨w.heap.size, 3, none⟩ = some (.int .i64 q.pr.rl) ∧ W'.cell? ⟨w.heap.size, 4, none⟩ = some (.int .i64 q.pr.rh) ∧ W'.cell? ⟨w.heap.size, 5, none⟩ = some (.slice aor q.pr.rs.length capr) ∧ W'.cell? ⟨w.heap.size, 6, none⟩ = some (.int .i64 q.wide) ∧ W'.cell? ⟨w.heap.size, 7, none⟩ = some (.slice aop q.prices.length capp)) := fun W' hb => by
    have q1 := (hb.block w.heap.size (by omega)).trans hr1
    unfold planRow at q1
    refine ⟨?_, ?_, ?_, ?_, ?_, ?_, ?_, ?_⟩ <;> (rw [cell_of_row _ _ _ _ _ _ q1]; rfl)
  have ROWS := Lib.hid rows
  clear rows hb0 hr1 hpa
  unfold planRow at hW0 ⊢
  obtain ⟨c0, c1, c2, c3, c4, c5, c6, c7⟩ := ROWS.out W0 (Below.refl _ _)
  have HB1 : Hid (Below W0.heap.size W0 W0) := Lib.hid (Below.refl _ _)
  go_enter Tryz.func65, Tryz.ntmps65
  go_wp2_with fail
  rw [← hW0]
  clear hW0
  refine (wide8_any HQ.out HT.out HL.out s hs _ (HPA.out.later HB1.out)).mono ?_
  rintro e u1 ⟨v, rfl, hn, hb⟩
  have HB2 := Lib.hid (HB1.out.trans (hb.mono HB1.out.size))
  obtain ⟨av, cv, hv', _⟩ := id hn
  rw [show (widsN q s q.pr.bs.length).length = q.pr.bs.length by unfold widsN; rw [List.length_map, List.length_range]] at hv'
  subst hv'
  have HN := Lib.hid hn.low
  clear hb hn c0 c1 c2 c3 c4 c5 c6 c7
  dsimp only
  go_wp2_with fail
  go_loopw [6, 7] (fun nv iv wr => ∃ i : Nat, i ≤ q.pr.bs.length ∧ iv = .int .i64 i ∧ nv = .int .i64 (tK q.pr s i) ∧ Below u1.heap.size u1 wr) (fun _ iv _ => q.pr.bs.length - (intOf iv).toNat)
  case atStart => exact ⟨0, Nat.zero_le _, rfl, rfl, Below.refl _ _⟩
  case round =>
    obtain ⟨i, hi, rfl, rfl, hb⟩ := hrel
    have HB := Lib.hid hb
    have hzr := hb.size
    clear hb
    by_cases hlt : i < q.pr.bs.length
    · have hlti : (i : Int) < (q.pr.bs.length : Int) := by omega
      have hwi : IntKind.i64.wrap ((i : Int) + 1) = ((i + 1 : Nat) : Int) := by rw [IntWalk.i64_in _ (by omega)]; omega
      obtain ⟨ao', cap', he, _, _, hel⟩ := HN.out
      obtain ⟨rfl, -, rfl⟩ := Value.slice.inj he
      clear he
      obtain ⟨lb, lo, rfl, _, hll, e1⟩ := hel i (by unfold widsN; rw [List.length_map, List.length_range]; exact hlt)
      rw [show (widsN q s q.pr.bs.length)[i]'(by unfold widsN; rw [List.length_map, List.length_range]; exact hlt) = widB q.pr s i by unfold widsN; rw [List.getElem_map, List.getElem_range]] at e1
      have e2 := (HB.out.cell (p := ⟨lb, lo + i, none⟩) hll).trans e1
      have hin := HIN.out i
      have hnx : tK q.pr s (i + 1) = tK q.pr s i + widB q.pr s i := rfl
      obtain ⟨wb, hwb⟩ : ∃ x, x = widB q.pr s i := ⟨_, rfl⟩
      obtain ⟨vk, hvk⟩ : ∃ x, x = tK q.pr s i := ⟨_, rfl⟩
      rw [← hwb, ← hvk] at hnx
      rw [← hwb] at e2
      rw [← hwb, ← hvk] at hin
      rw [← hvk]
      have HNX := Lib.hid hnx
      have hww : IntKind.i64.wrap (vk + wb) = vk + wb := IntWalk.i64_in _ (by omega)
      clear hel hwb hvk hnx e1 hin
      go_wp2_with fail
      exact ⟨⟨i + 1, by omega, rfl, by rw [HNX.out], HB.out⟩, by simp [intOf]; omega⟩
    · obtain rfl : i = q.pr.bs.length := by omega
      go_wp2_with fail
      go_ret
      exact ⟨by first | (rw [HEND.out]; rfl) | rw [HEND.out], HB0.out.trans ((HB2.out.trans (HB.out.mono HB2.out.size)).mono HB0.out.size)⟩
set_option maxRecDepth 100000 in
set_option maxHeartbeats 4000000 in
theorem renough_any {q : PlanD} (hq : OkQ q) (ht : truA q.pr ≠ []) (hl : Light q) {bs rs ps : Value} (s : Nat) (hs : s < 2 ^ q.prices.length) (w : World) (hpa : PlanAt w q bs rs ps) :
    Calls Tryz.prog 58 #[.agg (planRow q bs rs ps), .int .i64 s] w fun e w' => e = .returned (.bool (enoughV q s)) ∧ Below w.heap.size w w' := by
  have HE : Hid (enoughV q s = decide (widestV q.pr s ≤ q.wide)) := Lib.hid rfl
  have HQ := Lib.hid hq
  have HT := Lib.hid ht
  have HL := Lib.hid hl
  clear hq ht hl
  obtain ⟨aob, capb, hbv, _⟩ := id hpa.p.b
  obtain ⟨aor, capr, hrv, _⟩ := id hpa.p.r
  obtain ⟨aop, capp, hpv, _⟩ := id hpa.n
  subst hbv hrv hpv
  obtain ⟨W0, hW0⟩ : ∃ W0, W0 = w.alloc (.cells (planRow q (.slice aob q.pr.bs.length capb) (.slice aor q.pr.rs.length capr) (.slice aop q.prices.length capp)) 30 (0, 0)) := ⟨_, rfl⟩
  have hb0 : Below w.heap.size w W0 := by rw [hW0]; exact (Below.refl _ _).alloc (Nat.le_refl _) _
  have hr1 : W0.heap[w.heap.size]? = some (.cells (planRow q (.slice aob q.pr.bs.length capb) (.slice aor q.pr.rs.length capr) (.slice aop q.prices.length capp)) 30 (0, 0)) := by rw [hW0]; exact heap_alloc_at _ _ _ rfl
  have hsw : W0.heap.size = w.heap.size + 1 := by rw [hW0]; simp
  have HB0 := Lib.hid hb0
  have HR1 := Lib.hid hr1
  have HPA := Lib.hid (hpa.later hb0)
  have rows : ∀ W', Below W0.heap.size W0 W' → (W'.cell? ⟨w.heap.size, 0, none⟩ = some (.slice aob q.pr.bs.length capb) ∧ W'.cell? ⟨w.heap.size, 1, none⟩ = some (.int .i64 q.pr.zl) ∧ W'.cell? ⟨w.heap.size, 2, none⟩ = some (.int .i64 q.pr.zh) ∧
        W'.cell? ⟨w.heap.size, 3, none⟩ = some (.int .i64 q.pr.rl) ∧ W'.cell? ⟨w.heap.size, 4, none⟩ = some (.int .i64 q.pr.rh) ∧ W'.cell? ⟨w.heap.size, 5, none⟩ = some (.slice aor q.pr.rs.length capr) ∧ W'.cell? ⟨w.heap.size, 6, none⟩ = some (.int .i64 q.wide) ∧ W'.cell? ⟨w.heap.size, 7, none⟩ = some (.slice aop q.prices.length capp)) := fun W' hb => by
    have q1 := (hb.block w.heap.size (by omega)).trans hr1
    unfold planRow at q1
    refine ⟨?_, ?_, ?_, ?_, ?_, ?_, ?_, ?_⟩ <;> (rw [cell_of_row _ _ _ _ _ _ q1]; rfl)
  have ROWS := Lib.hid rows
  clear rows hb0 hr1 hpa
  unfold planRow at hW0 ⊢
  obtain ⟨c0, c1, c2, c3, c4, c5, c6, c7⟩ := ROWS.out W0 (Below.refl _ _)
  have HB1 : Hid (Below W0.heap.size W0 W0) := Lib.hid (Below.refl _ _)
  go_enter Tryz.func58, Tryz.ntmps58
  go_wp2_with fail
  rw [← hW0]
  clear hW0
  clear c0 c1 c2 c3 c4 c5 c6 c7
  refine wp_region_held_drew (S := fun W' => W'.cell? ⟨w.heap.size, 0, none⟩ = some (.slice aob q.pr.bs.length capb) ∧ W'.cell? ⟨w.heap.size, 1, none⟩ = some (.int .i64 q.pr.zl) ∧ W'.cell? ⟨w.heap.size, 2, none⟩ = some (.int .i64 q.pr.zh) ∧ W'.cell? ⟨w.heap.size, 3, none⟩ = some (.int .i64 q.pr.rl) ∧ W'.cell? ⟨w.heap.size, 4, none⟩ = some (.int .i64 q.pr.rh) ∧ W'.cell? ⟨w.heap.size, 5, none⟩ = some (.slice aor q.pr.rs.length capr) ∧ W'.cell? ⟨w.heap.size, 6, none⟩ = some (.int .i64 q.wide) ∧ W'.cell? ⟨w.heap.size, 7, none⟩ = some (.slice aop q.prices.length capp)) (by kernel_rfl) (ROWS.out _ HB1.out.drew) fun hS => ?_
  have HBD := Lib.hid HB1.out.drew
  refine wpAnyH_take (i := 0) (v := ?_) rfl (by kernel_rfl) (by kernel_rfl) (by kernel_rfl) (fun _ _ _ h => h) (Or.inl ⟨by rfl, ?_⟩) hS ?_
  rotate_left
  · (intro W hSw; obtain ⟨q0, q1, q2, q3, q4, q5, q6, q7⟩ := hSw; go_simp; try with_reducible rfl)
  try simp only [List.getElem_toArray, List.getElem_cons_succ, List.getElem_cons_zero, Act.put, List.setIfInBounds_toArray, List.set_cons_zero, List.set_cons_succ]
  refine wpAnyH_take (i := 1) (v := ?_) rfl (by kernel_rfl) (by kernel_rfl) (by kernel_rfl) (fun _ _ _ h => h) (Or.inl ⟨by rfl, ?_⟩) hS ?_
  rotate_left
  · (intro W hSw; obtain ⟨q0, q1, q2, q3, q4, q5, q6, q7⟩ := hSw; go_simp; try with_reducible rfl)
  try simp only [List.getElem_toArray, List.getElem_cons_succ, List.getElem_cons_zero, Act.put, List.setIfInBounds_toArray, List.set_cons_zero, List.set_cons_succ]
  refine wpAnyH_take (i := 3) (v := ?_) rfl (by kernel_rfl) (by kernel_rfl) (by kernel_rfl) (fun _ _ _ h => h) (Or.inl ⟨by rfl, ?_⟩) hS ?_
  rotate_left
  · (intro W hSw; obtain ⟨q0, q1, q2, q3, q4, q5, q6, q7⟩ := hSw; go_simp; try with_reducible rfl)
  try simp only [List.getElem_toArray, List.getElem_cons_succ, List.getElem_cons_zero, Act.put, List.setIfInBounds_toArray, List.set_cons_zero, List.set_cons_succ]
  refine wpAnyH_take (i := 4) (v := ?_) rfl (by kernel_rfl) (by kernel_rfl) (by kernel_rfl) (fun _ _ _ h => h) (Or.inl ⟨by rfl, ?_⟩) hS ?_
  rotate_left
  · (intro W hSw; obtain ⟨q0, q1, q2, q3, q4, q5, q6, q7⟩ := hSw; go_simp; try with_reducible rfl)
  try simp only [List.getElem_toArray, List.getElem_cons_succ, List.getElem_cons_zero, Act.put, List.setIfInBounds_toArray, List.set_cons_zero, List.set_cons_succ]
  refine wpAnyH_ready (rs := [2]) (by kernel_rfl) (by simp) ?_
  refine AllReadyH.cons rfl (fun K hK => ?_) AllReadyH.nil
  go_simp
  refine (rwidest_any HQ.out HT.out HL.out s hs _ (HPA.out.later HBD.out)).mono ?_
  rintro e w3 ⟨rfl, hb⟩
  have HB3 := Lib.hid (HBD.out.trans (hb.mono HBD.out.size))
  clear hb
  try dsimp only
  refine hK.out _ _ (ROWS.out _ HB3.out) (fun hS => ?_)
  clear hK K
  try simp only [List.getElem_toArray, List.getElem_cons_succ, List.getElem_cons_zero, Act.put, List.setIfInBounds_toArray, List.set_cons_zero, List.set_cons_succ]
  obtain ⟨wd, hwd⟩ : ∃ x, x = widestV q.pr s := ⟨_, rfl⟩
  rw [← hwd] at HE
  rw [← hwd]
  clear hwd
  refine wpAnyH_take (i := 5) (v := ?_) rfl (by kernel_rfl) (by kernel_rfl) (by kernel_rfl) (fun _ _ _ h => h) (Or.inl ⟨by rfl, ?_⟩) hS ?_
  rotate_left
  · (intro W hSw; obtain ⟨q0, q1, q2, q3, q4, q5, q6, q7⟩ := hSw; go_simp; try with_reducible rfl)
  try simp only [List.getElem_toArray, List.getElem_cons_succ, List.getElem_cons_zero, Act.put, List.setIfInBounds_toArray, List.set_cons_zero, List.set_cons_succ]
  refine wpAnyH_take (i := 6) (v := ?_) rfl (by kernel_rfl) (by kernel_rfl) (by kernel_rfl) (fun _ _ _ h => h) (Or.inl ⟨by rfl, ?_⟩) hS ?_
  rotate_left
  · (intro W hSw; obtain ⟨q0, q1, q2, q3, q4, q5, q6, q7⟩ := hSw; go_simp; try with_reducible rfl)
  try simp only [List.getElem_toArray, List.getElem_cons_succ, List.getElem_cons_zero, Act.put, List.setIfInBounds_toArray, List.set_cons_zero, List.set_cons_succ]
  refine wpAnyH_done (by kernel_rfl) ?_ _
  clear hS
  go_wp2_with fail
  go_ret
  exact ⟨by first | (rw [HE.out]; rfl) | rw [HE.out], HB0.out.trans (HB3.out.mono HB0.out.size)⟩
set_option maxRecDepth 100000 in
set_option maxHeartbeats 4000000 in
theorem rcheck_any {q : PlanD} (hl : validP q = true → Light q) {bs rs ps : Value} (ok : Bool) (w : World) (hpa : PlanAt w q bs rs ps) :
    Calls Tryz.prog 44 #[.agg (planRow q bs rs ps), .bool ok] w fun e w' => e = .returned (.int .i64 (errP q ok)) ∧ Below w.heap.size w w' := by
  have HL := Lib.hid hl
  clear hl
  obtain ⟨aob, capb, hbv, _⟩ := id hpa.p.b
  obtain ⟨aor, capr, hrv, _⟩ := id hpa.p.r
  obtain ⟨aop, capp, hpv, _⟩ := id hpa.n
  subst hbv hrv hpv
  obtain ⟨W0, hW0⟩ : ∃ W0, W0 = w.alloc (.cells (planRow q (.slice aob q.pr.bs.length capb) (.slice aor q.pr.rs.length capr) (.slice aop q.prices.length capp)) 30 (0, 0)) := ⟨_, rfl⟩
  have hb0 : Below w.heap.size w W0 := by rw [hW0]; exact (Below.refl _ _).alloc (Nat.le_refl _) _
  have hr1 : W0.heap[w.heap.size]? = some (.cells (planRow q (.slice aob q.pr.bs.length capb) (.slice aor q.pr.rs.length capr) (.slice aop q.prices.length capp)) 30 (0, 0)) := by rw [hW0]; exact heap_alloc_at _ _ _ rfl
  have hsw : W0.heap.size = w.heap.size + 1 := by rw [hW0]; simp
  have HB0 := Lib.hid hb0
  have HR1 := Lib.hid hr1
  have HPA := Lib.hid (hpa.later hb0)
  have rows : ∀ W', Below W0.heap.size W0 W' → (W'.cell? ⟨w.heap.size, 0, none⟩ = some (.slice aob q.pr.bs.length capb) ∧ W'.cell? ⟨w.heap.size, 1, none⟩ = some (.int .i64 q.pr.zl) ∧ W'.cell? ⟨w.heap.size, 2, none⟩ = some (.int .i64 q.pr.zh) ∧
        W'.cell? ⟨w.heap.size, 3, none⟩ = some (.int .i64 q.pr.rl) ∧ W'.cell? ⟨w.heap.size, 4, none⟩ = some (.int .i64 q.pr.rh) ∧ W'.cell? ⟨w.heap.size, 5, none⟩ = some (.slice aor q.pr.rs.length capr) ∧ W'.cell? ⟨w.heap.size, 6, none⟩ = some (.int .i64 q.wide) ∧ W'.cell? ⟨w.heap.size, 7, none⟩ = some (.slice aop q.prices.length capp)) := fun W' hb => by
    have q1 := (hb.block w.heap.size (by omega)).trans hr1
    unfold planRow at q1
    refine ⟨?_, ?_, ?_, ?_, ?_, ?_, ?_, ?_⟩ <;> (rw [cell_of_row _ _ _ _ _ _ q1]; rfl)
  have ROWS := Lib.hid rows
  clear rows hb0 hr1 hpa
  unfold planRow at hW0 ⊢
  obtain ⟨c0, c1, c2, c3, c4, c5, c6, c7⟩ := ROWS.out W0 (Below.refl _ _)
  have HB1 : Hid (Below W0.heap.size W0 W0) := Lib.hid (Below.refl _ _)
  go_enter Tryz.func44, Tryz.ntmps44
  go_wp2_with fail
  rw [← hW0]
  clear hW0
  refine (plan8_any _ (HPA.out.later HB1.out)).mono ?_
  rintro e w1 ⟨rfl, hb⟩
  have HB2 := Lib.hid (HB1.out.trans (hb.mono HB1.out.size))
  clear hb
  try dsimp only
  clear c0 c1 c2 c3 c4 c5 c6 c7
  obtain ⟨c0, c1, c2, c3, c4, c5, c6, c7⟩ := ROWS.out w1 HB2.out
  cases hv : validP q with
  | false =>
    have HE := Lib.hid (errP_bad (ok := ok) hv)
    clear hv
    go_wp2
    go_ret
    exact ⟨by first | (rw [HE.out]; rfl) | rw [HE.out], HB0.out.trans (HB2.out.mono HB0.out.size)⟩
  | true =>
  cases ok with
  | false =>
    have HE := Lib.hid (errP_range (ok := false) hv rfl)
    clear hv
    go_wp2
    go_ret
    exact ⟨by first | (rw [HE.out]; rfl) | rw [HE.out], HB0.out.trans (HB2.out.mono HB0.out.size)⟩
  | true =>
  have hq := OkQ.of hv
  have HC := Lib.hid (HL.out hv).1
  have HP := Lib.hid hq.pr
  have HE1 : Hid (truA q.pr = [] → errP q true = 10) := Lib.hid (errP_no hv rfl)
  have HE2 : Hid (truA q.pr ≠ [] → errP q true = 0) := Lib.hid (errP_ok hv rfl)
  clear hv hq
  go_wp2_with fail
  refine (alltruths_any q.pr HP.out _ _ HC.out _ (HPA.out.later HB2.out).p).mono ?_
  rintro e w3 ⟨⟨vl, TL, rfl, hta⟩, hb⟩
  obtain ⟨ao3, cap3, rfl⟩ := truths_form hta
  have HB3 := Lib.hid (HB2.out.trans (hb.mono HB2.out.size))
  clear hta hb
  dsimp only
  by_cases hn : truA q.pr = []
  · have HE := Lib.hid (HE1.out hn)
    rw [hn]
    clear hn
    go_wp2
    go_ret
    exact ⟨by first | (rw [HE.out]; rfl) | rw [HE.out], HB0.out.trans (HB3.out.mono HB0.out.size)⟩
  · have HE := Lib.hid (HE2.out hn)
    have hpos := List.length_pos_iff.2 hn
    have hz : (((truA q.pr).length : Int) == 0) = false := by rw [beq_eq_false_iff_ne]; omega
    have hz2 : ¬ ((truA q.pr).length : Int) = 0 := by omega
    obtain ⟨n, hnn⟩ : ∃ n, n = (truA q.pr).length := ⟨_, rfl⟩
    rw [← hnn] at hz hz2 ⊢
    clear hn hpos hnn
    go_wp2
    go_ret
    exact ⟨by first | (rw [HE.out]; rfl) | rw [HE.out], HB0.out.trans (HB3.out.mono HB0.out.size)⟩
set_option maxRecDepth 100000 in
set_option maxHeartbeats 4000000 in
theorem rtold8_any {q : PlanD} (hl : validP q = true → Light q) {bs rs ps : Value} (w : World) (hpa : PlanAt w q bs rs ps) :
    Calls Tryz.prog 57 #[.agg (planRow q bs rs ps)] w fun e w' => e = .returned (.int .i64 (errE q)) ∧ Below w.heap.size w w' := by
  have HE : Hid (errE q = if errP q true ≠ 0 then errP q true else if enoughV q (everyV q) then 0 else 4) := Lib.hid rfl
  have HL := Lib.hid hl
  clear hl
  obtain ⟨aob, capb, hbv, _⟩ := id hpa.p.b
  obtain ⟨aor, capr, hrv, _⟩ := id hpa.p.r
  obtain ⟨aop, capp, hpv, _⟩ := id hpa.n
  subst hbv hrv hpv
  obtain ⟨W0, hW0⟩ : ∃ W0, W0 = w.alloc (.cells (planRow q (.slice aob q.pr.bs.length capb) (.slice aor q.pr.rs.length capr) (.slice aop q.prices.length capp)) 30 (0, 0)) := ⟨_, rfl⟩
  have hb0 : Below w.heap.size w W0 := by rw [hW0]; exact (Below.refl _ _).alloc (Nat.le_refl _) _
  have hr1 : W0.heap[w.heap.size]? = some (.cells (planRow q (.slice aob q.pr.bs.length capb) (.slice aor q.pr.rs.length capr) (.slice aop q.prices.length capp)) 30 (0, 0)) := by rw [hW0]; exact heap_alloc_at _ _ _ rfl
  have hsw : W0.heap.size = w.heap.size + 1 := by rw [hW0]; simp
  have HB0 := Lib.hid hb0
  have HR1 := Lib.hid hr1
  have HPA := Lib.hid (hpa.later hb0)
  have rows : ∀ W', Below W0.heap.size W0 W' → (W'.cell? ⟨w.heap.size, 0, none⟩ = some (.slice aob q.pr.bs.length capb) ∧ W'.cell? ⟨w.heap.size, 1, none⟩ = some (.int .i64 q.pr.zl) ∧ W'.cell? ⟨w.heap.size, 2, none⟩ = some (.int .i64 q.pr.zh) ∧
        W'.cell? ⟨w.heap.size, 3, none⟩ = some (.int .i64 q.pr.rl) ∧ W'.cell? ⟨w.heap.size, 4, none⟩ = some (.int .i64 q.pr.rh) ∧ W'.cell? ⟨w.heap.size, 5, none⟩ = some (.slice aor q.pr.rs.length capr) ∧ W'.cell? ⟨w.heap.size, 6, none⟩ = some (.int .i64 q.wide) ∧ W'.cell? ⟨w.heap.size, 7, none⟩ = some (.slice aop q.prices.length capp)) := fun W' hb => by
    have q1 := (hb.block w.heap.size (by omega)).trans hr1
    unfold planRow at q1
    refine ⟨?_, ?_, ?_, ?_, ?_, ?_, ?_, ?_⟩ <;> (rw [cell_of_row _ _ _ _ _ _ q1]; rfl)
  have ROWS := Lib.hid rows
  clear rows hb0 hr1 hpa
  unfold planRow at hW0 ⊢
  obtain ⟨c0, c1, c2, c3, c4, c5, c6, c7⟩ := ROWS.out W0 (Below.refl _ _)
  have HB1 : Hid (Below W0.heap.size W0 W0) := Lib.hid (Below.refl _ _)
  go_enter Tryz.func57, Tryz.ntmps57
  go_wp2_with fail
  rw [← hW0]
  clear hW0
  refine (rcheck_any HL.out true _ (HPA.out.later HB1.out)).mono ?_
  rintro e w1 ⟨rfl, hb⟩
  have HB2 := Lib.hid (HB1.out.trans (hb.mono HB1.out.size))
  clear hb
  try dsimp only
  clear c0 c1 c2 c3 c4 c5 c6 c7
  by_cases hz : errP q true = 0
  case neg =>
    obtain ⟨er, her⟩ : ∃ x, x = errP q true := ⟨_, rfl⟩
    rw [← her] at hz HE ⊢
    rw [if_pos hz] at HE
    have hz2 : (er == 0) = false := by rw [beq_eq_false_iff_ne]; exact hz
    clear her
    go_wp2_with fail
    refine wp_region_held_drew (S := fun W' => W'.cell? ⟨w.heap.size, 0, none⟩ = some (.slice aob q.pr.bs.length capb) ∧ W'.cell? ⟨w.heap.size, 1, none⟩ = some (.int .i64 q.pr.zl) ∧ W'.cell? ⟨w.heap.size, 2, none⟩ = some (.int .i64 q.pr.zh) ∧ W'.cell? ⟨w.heap.size, 3, none⟩ = some (.int .i64 q.pr.rl) ∧ W'.cell? ⟨w.heap.size, 4, none⟩ = some (.int .i64 q.pr.rh) ∧ W'.cell? ⟨w.heap.size, 5, none⟩ = some (.slice aor q.pr.rs.length capr) ∧ W'.cell? ⟨w.heap.size, 6, none⟩ = some (.int .i64 q.wide) ∧ W'.cell? ⟨w.heap.size, 7, none⟩ = some (.slice aop q.prices.length capp)) (by kernel_rfl) (ROWS.out _ HB2.out.drew) fun hS => ?_
    have HBD := Lib.hid HB2.out.drew
    refine wpAnyH_take (i := 0) (v := ?_) rfl (by kernel_rfl) (by kernel_rfl) (by kernel_rfl) (fun _ _ _ h => h) (Or.inl ⟨by rfl, ?_⟩) hS ?_
    rotate_left
    · (intro W hSw; obtain ⟨q0, q1, q2, q3, q4, q5, q6, q7⟩ := hSw; go_simp; try with_reducible rfl)
    try simp only [List.getElem_toArray, List.getElem_cons_succ, List.getElem_cons_zero, Act.put, List.setIfInBounds_toArray, List.set_cons_zero, List.set_cons_succ]
    refine wpAnyH_take (i := 1) (v := ?_) rfl (by kernel_rfl) (by kernel_rfl) (by kernel_rfl) (fun _ _ _ h => h) (Or.inl ⟨by rfl, ?_⟩) hS ?_
    rotate_left
    · (intro W hSw; obtain ⟨q0, q1, q2, q3, q4, q5, q6, q7⟩ := hSw; go_simp; try with_reducible rfl)
    try simp only [List.getElem_toArray, List.getElem_cons_succ, List.getElem_cons_zero, Act.put, List.setIfInBounds_toArray, List.set_cons_zero, List.set_cons_succ]
    refine wpAnyH_take (i := 2) (v := ?_) rfl (by kernel_rfl) (by kernel_rfl) (by kernel_rfl) (fun _ _ _ h => h) (Or.inl ⟨by rfl, ?_⟩) hS ?_
    rotate_left
    · (intro W hSw; obtain ⟨q0, q1, q2, q3, q4, q5, q6, q7⟩ := hSw; go_simp; try with_reducible rfl)
    try simp only [List.getElem_toArray, List.getElem_cons_succ, List.getElem_cons_zero, Act.put, List.setIfInBounds_toArray, List.set_cons_zero, List.set_cons_succ]
    refine wpAnyH_take (i := 3) (v := undef) rfl (by kernel_rfl) (by kernel_rfl) (by kernel_rfl) (fun _ _ _ h => h) (.inr ⟨rfl, rfl⟩) hS ?_
    try simp only [List.getElem_toArray, List.getElem_cons_succ, List.getElem_cons_zero, Act.put, List.setIfInBounds_toArray, List.set_cons_zero, List.set_cons_succ]
    refine wpAnyH_take (i := 4) (v := undef) rfl (by kernel_rfl) (by kernel_rfl) (by kernel_rfl) (fun _ _ _ h => h) (.inr ⟨rfl, rfl⟩) hS ?_
    try simp only [List.getElem_toArray, List.getElem_cons_succ, List.getElem_cons_zero, Act.put, List.setIfInBounds_toArray, List.set_cons_zero, List.set_cons_succ]
    refine wpAnyH_take (i := 5) (v := undef) rfl (by kernel_rfl) (by kernel_rfl) (by kernel_rfl) (fun _ _ _ h => h) (.inr ⟨rfl, rfl⟩) hS ?_
    try simp only [List.getElem_toArray, List.getElem_cons_succ, List.getElem_cons_zero, Act.put, List.setIfInBounds_toArray, List.set_cons_zero, List.set_cons_succ]
    refine wpAnyH_take (i := 6) (v := undef) rfl (by kernel_rfl) (by kernel_rfl) (by kernel_rfl) (fun _ _ _ h => h) (.inr ⟨rfl, rfl⟩) hS ?_
    try simp only [List.getElem_toArray, List.getElem_cons_succ, List.getElem_cons_zero, Act.put, List.setIfInBounds_toArray, List.set_cons_zero, List.set_cons_succ]
    refine wpAnyH_take (i := 7) (v := undef) rfl (by kernel_rfl) (by kernel_rfl) (by kernel_rfl) (fun _ _ _ h => h) (.inr ⟨rfl, rfl⟩) hS ?_
    try simp only [List.getElem_toArray, List.getElem_cons_succ, List.getElem_cons_zero, Act.put, List.setIfInBounds_toArray, List.set_cons_zero, List.set_cons_succ]
    refine wpAnyH_take (i := 8) (v := ?_) rfl (by kernel_rfl) (by kernel_rfl) (by kernel_rfl) (fun _ _ _ h => h) (Or.inl ⟨by rfl, ?_⟩) hS ?_
    rotate_left
    · (intro W hSw; obtain ⟨q0, q1, q2, q3, q4, q5, q6, q7⟩ := hSw; go_simp; try with_reducible rfl)
    try simp only [List.getElem_toArray, List.getElem_cons_succ, List.getElem_cons_zero, Act.put, List.setIfInBounds_toArray, List.set_cons_zero, List.set_cons_succ]
    refine wpAnyH_done (by kernel_rfl) ?_ _
    clear hS
    go_wp2
    go_ret
    exact ⟨by first | (rw [HE.out]; rfl) | rw [HE.out], HB0.out.trans (HBD.out.mono HB0.out.size)⟩
  case pos =>
    rw [if_neg (fun h => h hz)] at HE
    have hv : validP q = true := by
      cases hv : validP q with
      | true => rfl
      | false => rw [errP_bad hv] at hz; cases hz
    have ht : truA q.pr ≠ [] := fun h => by rw [errP_no hv rfl h] at hz; cases hz
    have HQ := Lib.hid (OkQ.of hv)
    have HT := Lib.hid ht
    have HLL := Lib.hid (HL.out hv)
    rw [hz]
    clear hv ht hz
    go_wp2_with fail
    refine wp_region_held_drew (S := fun W' => W'.cell? ⟨w.heap.size, 0, none⟩ = some (.slice aob q.pr.bs.length capb) ∧ W'.cell? ⟨w.heap.size, 1, none⟩ = some (.int .i64 q.pr.zl) ∧ W'.cell? ⟨w.heap.size, 2, none⟩ = some (.int .i64 q.pr.zh) ∧ W'.cell? ⟨w.heap.size, 3, none⟩ = some (.int .i64 q.pr.rl) ∧ W'.cell? ⟨w.heap.size, 4, none⟩ = some (.int .i64 q.pr.rh) ∧ W'.cell? ⟨w.heap.size, 5, none⟩ = some (.slice aor q.pr.rs.length capr) ∧ W'.cell? ⟨w.heap.size, 6, none⟩ = some (.int .i64 q.wide) ∧ W'.cell? ⟨w.heap.size, 7, none⟩ = some (.slice aop q.prices.length capp)) (by kernel_rfl) (ROWS.out _ HB2.out.drew) fun hS => ?_
    have HBD := Lib.hid HB2.out.drew
    refine wpAnyH_take (i := 0) (v := ?_) rfl (by kernel_rfl) (by kernel_rfl) (by kernel_rfl) (fun _ _ _ h => h) (Or.inl ⟨by rfl, ?_⟩) hS ?_
    rotate_left
    · (intro W hSw; obtain ⟨q0, q1, q2, q3, q4, q5, q6, q7⟩ := hSw; go_simp; try with_reducible rfl)
    try simp only [List.getElem_toArray, List.getElem_cons_succ, List.getElem_cons_zero, Act.put, List.setIfInBounds_toArray, List.set_cons_zero, List.set_cons_succ]
    refine wpAnyH_take (i := 1) (v := ?_) rfl (by kernel_rfl) (by kernel_rfl) (by kernel_rfl) (fun _ _ _ h => h) (Or.inl ⟨by rfl, ?_⟩) hS ?_
    rotate_left
    · (intro W hSw; obtain ⟨q0, q1, q2, q3, q4, q5, q6, q7⟩ := hSw; go_simp; try with_reducible rfl)
    try simp only [List.getElem_toArray, List.getElem_cons_succ, List.getElem_cons_zero, Act.put, List.setIfInBounds_toArray, List.set_cons_zero, List.set_cons_succ]
    refine wpAnyH_take (i := 2) (v := ?_) rfl (by kernel_rfl) (by kernel_rfl) (by kernel_rfl) (fun _ _ _ h => h) (Or.inl ⟨by rfl, ?_⟩) hS ?_
    rotate_left
    · (intro W hSw; obtain ⟨q0, q1, q2, q3, q4, q5, q6, q7⟩ := hSw; go_simp; try with_reducible rfl)
    try simp only [List.getElem_toArray, List.getElem_cons_succ, List.getElem_cons_zero, Act.put, List.setIfInBounds_toArray, List.set_cons_zero, List.set_cons_succ]
    refine wpAnyH_take (i := 3) (v := ?_) rfl (by kernel_rfl) (by kernel_rfl) (by kernel_rfl) (fun _ _ _ h => h) (Or.inl ⟨by rfl, ?_⟩) hS ?_
    rotate_left
    · (intro W hSw; obtain ⟨q0, q1, q2, q3, q4, q5, q6, q7⟩ := hSw; go_simp; try with_reducible rfl)
    try simp only [List.getElem_toArray, List.getElem_cons_succ, List.getElem_cons_zero, Act.put, List.setIfInBounds_toArray, List.set_cons_zero, List.set_cons_succ]
    refine wpAnyH_take (i := 4) (v := ?_) rfl (by kernel_rfl) (by kernel_rfl) (by kernel_rfl) (fun _ _ _ h => h) (Or.inl ⟨by rfl, ?_⟩) hS ?_
    rotate_left
    · (intro W hSw; obtain ⟨q0, q1, q2, q3, q4, q5, q6, q7⟩ := hSw; go_simp; try with_reducible rfl)
    try simp only [List.getElem_toArray, List.getElem_cons_succ, List.getElem_cons_zero, Act.put, List.setIfInBounds_toArray, List.set_cons_zero, List.set_cons_succ]
    refine wpAnyH_ready (rs := [5]) (by kernel_rfl) (by simp) ?_
    refine AllReadyH.cons rfl (fun K hK => ?_) AllReadyH.nil
    go_simp
    refine (every8_any HQ.out.m8 _ (HPA.out.later HBD.out)).mono ?_
    rintro e w3 ⟨rfl, hb⟩
    have HB3 := Lib.hid (HBD.out.trans (hb.mono HBD.out.size))
    clear hb
    try dsimp only
    refine hK.out _ _ (ROWS.out _ HB3.out) (fun hS => ?_)
    clear hK K
    try simp only [List.getElem_toArray, List.getElem_cons_succ, List.getElem_cons_zero, Act.put, List.setIfInBounds_toArray, List.set_cons_zero, List.set_cons_succ]
    refine wpAnyH_ready (rs := [6]) (by kernel_rfl) (by simp) ?_
    refine AllReadyH.cons rfl (fun K hK => ?_) AllReadyH.nil
    go_simp
    refine (renough_any HQ.out HT.out HLL.out (everyV q) everyV_lt _ (HPA.out.later HB3.out)).mono ?_
    rintro e w4 ⟨rfl, hb⟩
    have HB4 := Lib.hid (HB3.out.trans (hb.mono HB3.out.size))
    clear hb
    try dsimp only
    refine hK.out _ _ (ROWS.out _ HB4.out) (fun hS => ?_)
    clear hK K
    try simp only [List.getElem_toArray, List.getElem_cons_succ, List.getElem_cons_zero, Act.put, List.setIfInBounds_toArray, List.set_cons_zero, List.set_cons_succ]
    cases hen : enoughV q (everyV q) with
    | true =>
      rw [hen] at HE
      clear hen
      refine wpAnyH_take (i := 7) (v := ?_) rfl (by kernel_rfl) (by kernel_rfl) (by kernel_rfl) (fun _ _ _ h => h) (Or.inl ⟨by rfl, ?_⟩) hS ?_
      rotate_left
      · (intro W hSw; obtain ⟨q0, q1, q2, q3, q4, q5, q6, q7⟩ := hSw; go_simp; try with_reducible rfl)
      try simp only [List.getElem_toArray, List.getElem_cons_succ, List.getElem_cons_zero, Act.put, List.setIfInBounds_toArray, List.set_cons_zero, List.set_cons_succ]
      refine wpAnyH_take (i := 8) (v := ?_) rfl (by kernel_rfl) (by kernel_rfl) (by kernel_rfl) (fun _ _ _ h => h) (Or.inl ⟨by rfl, ?_⟩) hS ?_
      rotate_left
      · (intro W hSw; obtain ⟨q0, q1, q2, q3, q4, q5, q6, q7⟩ := hSw; go_simp; try with_reducible rfl)
      try simp only [List.getElem_toArray, List.getElem_cons_succ, List.getElem_cons_zero, Act.put, List.setIfInBounds_toArray, List.set_cons_zero, List.set_cons_succ]
      refine wpAnyH_done (by kernel_rfl) ?_ _
      clear hS
      go_wp2
      go_ret
      exact ⟨by first | (rw [HE.out]; rfl) | rw [HE.out], HB0.out.trans (HB4.out.mono HB0.out.size)⟩
    | false =>
      rw [hen] at HE
      clear hen
      refine wpAnyH_take (i := 7) (v := ?_) rfl (by kernel_rfl) (by kernel_rfl) (by kernel_rfl) (fun _ _ _ h => h) (Or.inl ⟨by rfl, ?_⟩) hS ?_
      rotate_left
      · (intro W hSw; obtain ⟨q0, q1, q2, q3, q4, q5, q6, q7⟩ := hSw; go_simp; try with_reducible rfl)
      try simp only [List.getElem_toArray, List.getElem_cons_succ, List.getElem_cons_zero, Act.put, List.setIfInBounds_toArray, List.set_cons_zero, List.set_cons_succ]
      refine wpAnyH_take (i := 8) (v := ?_) rfl (by kernel_rfl) (by kernel_rfl) (by kernel_rfl) (fun _ _ _ h => h) (Or.inl ⟨by rfl, ?_⟩) hS ?_
      rotate_left
      · (intro W hSw; obtain ⟨q0, q1, q2, q3, q4, q5, q6, q7⟩ := hSw; go_simp; try with_reducible rfl)
      try simp only [List.getElem_toArray, List.getElem_cons_succ, List.getElem_cons_zero, Act.put, List.setIfInBounds_toArray, List.set_cons_zero, List.set_cons_succ]
      refine wpAnyH_done (by kernel_rfl) ?_ _
      clear hS
      go_wp2
      go_ret
      exact ⟨by first | (rw [HE.out]; rfl) | rw [HE.out], HB0.out.trans (HB4.out.mono HB0.out.size)⟩
end Go.Proofs.YtabbmihakoeegaaGreat

/- The reference's searches (plain). -/
namespace Go.Proofs.YtabbmihakoeegaaGreat
set_option linter.unusedVariables false
set_option linter.unusedSimpArgs false
open Go.RowKit Stab

theorem errE_zero {q : PlanD} (h : errE q = 0) : validP q = true ∧ truA q.pr ≠ [] ∧ enoughV q (everyV q) = true := by
  cases hv : validP q with
  | false => rw [errE_bad hv] at h; cases h
  | true =>
    by_cases ht : truA q.pr = []
    · rw [errE_no hv ht] at h; cases h
    · cases he : enoughV q (everyV q) with
      | true => exact ⟨rfl, ht, rfl⟩
      | false => rw [errE_none hv ht he] at h; cases h
theorem errP_zero {q : PlanD} {ok : Bool} (h : errP q ok = 0) : validP q = true ∧ ok = true ∧ truA q.pr ≠ [] := by
  cases hv : validP q with
  | false => rw [errP_bad hv] at h; cases h
  | true =>
    cases ho : ok with
    | false => rw [errP_range hv ho] at h; cases h
    | true =>
      refine ⟨rfl, rfl, fun ht => ?_⟩
      rw [errP_no hv ho ht] at h; cases h
def scanF (q : PlanD) (pr : Bool) (is : Nat → Bool) : Nat → Nat
  | 0 => everyV q
  | k + 1 => if lessW q pr k (scanF q pr is k) && is k then k else scanF q pr is k
structure ScanOk (q : PlanD) (pr : Bool) (is : Nat → Bool) (k b : Nat) : Prop where
  is' : is b = true
  lt : b < 2 ^ q.prices.length
  old : b < k ∨ b = everyV q
  best : ∀ t, t < k ∨ t = everyV q → is t = true → t = b ∨ lessW q pr b t = true
theorem scan_inv {q : PlanD} {pr : Bool} {is : Nat → Bool} (hev : is (everyV q) = true) : ∀ k, k ≤ everyV q → ScanOk q pr is k (scanF q pr is k)
  | 0, _ => ⟨hev, everyV_lt, .inr rfl, fun t h _ => h.elim (fun h => absurd h (Nat.not_lt_zero _)) .inl⟩
  | k + 1, hk => by
    have ih := scan_inv (pr := pr) hev k (by omega)
    have hlt := @everyV_lt q
    unfold scanF
    split
    · rename_i hc
      rw [Bool.and_eq_true] at hc
      refine ⟨hc.2, by omega, .inl (by omega), fun t ht hi => ?_⟩
      by_cases e : t = k
      · exact .inl e
      · right
        rcases ih.best t (by omega) hi with h | h
        · rw [h]; exact hc.1
        · exact (lessW_sto q pr).tr hc.1 h
    · rename_i hc
      refine ⟨ih.is', ih.lt, ih.old.imp (fun h => by omega) id, fun t ht hi => ?_⟩
      by_cases e : t = k ∧ k ≠ everyV q
      · obtain ⟨rfl, _⟩ := e
        by_cases e2 : t = scanF q pr is t
        · exact .inl e2
        · rw [hi, Bool.and_true] at hc
          exact .inr ((lessW_sto q pr).not e2 (fun h => hc h))
      · exact ih.best t (by omega) hi
theorem scan_end {q : PlanD} {pr : Bool} {is : Nat → Bool} (hev : is (everyV q) = true) : scanF q pr is (everyV q) = firstV is (setsV q pr) := by
  have h1 := scan_inv (pr := pr) hev (everyV q) (Nat.le_refl _)
  obtain ⟨h2, h3⟩ := firstV_spec (q := q) pr everyV_lt hev
  have hlt := firstV_lt (q := q) is pr
  have e1 := h1.best _ (by unfold everyV at *; omega) h2
  have e2 := h3 _ h1.lt h1.is'
  rcases e1 with e1 | e1
  · exact e1.symm
  · rcases e2 with e2 | e2
    · exact e2
    · exact absurd ((lessW_sto q pr).tr e1 e2) ((lessW_sto q pr).irr _)
theorem ones_few8 : ∀ m : Fin 9, ∀ k : Fin 256, k.val < 2 ^ m.val - 1 → ones k.val < ones (2 ^ m.val - 1) := by decide +kernel
/-- With a price, or a size, that is no less the search has no tie to part by number. -/
theorem scan_tie {q : PlanD} (hq : OkQ q) {pr : Bool} {is : Nat → Bool} {k b : Nat} (h : ScanOk q pr is k b) (hk : k < everyV q) : lessW q pr k b = true ↔ muchV q pr k < muchV q pr b ∨ (muchV q pr k = muchV q pr b ∧ ones k < ones b) := by
  rw [lessW_iff]
  have hm8 := hq.m8
  have h256 := hq.p256
  have hevl := @everyV_lt q
  rcases h.old with h1 | h1
  · omega
  · have := ones_few8 ⟨q.prices.length, by omega⟩ ⟨k, by omega⟩ hk
    have e : everyV q = 2 ^ q.prices.length - 1 := rfl
    dsimp only at this
    rw [← e, ← h1] at this
    omega

/-! ### the best ones -/
def bestR (q : PlanD) (most : Int) : Nat → Nat × Int
  | 0 => (0, widestV q.pr 0)
  | k + 1 => if (ones (k + 1) : Int) ≤ most ∧ (widestV q.pr (k + 1) < (bestR q most k).2 ∨ (widestV q.pr (k + 1) = (bestR q most k).2 ∧ ones (k + 1) < ones (bestR q most k).1)) then (k + 1, widestV q.pr (k + 1)) else bestR q most k
theorem bestR_inv (q : PlanD) {most : Int} (h0 : 0 ≤ most) : ∀ k, BestI q most (fun t => t ≤ k) (bestR q most k) ∧ (bestR q most k).1 ≤ k
  | 0 => by
    refine ⟨⟨Nat.le_refl _, rfl, by show ((ones 0 : Nat) : Int) ≤ most; rw [show ones 0 = 0 by decide]; exact h0, fun t ht _ => ?_⟩, Nat.le_refl _⟩
    obtain rfl : t = 0 := by omega
    exact .inr ⟨rfl, .inl rfl⟩
  | k + 1 => by
    obtain ⟨⟨a1, a2, a3, a4⟩, a5⟩ := bestR_inv q h0 k
    unfold bestR
    split
    · rename_i hc
      refine ⟨⟨Nat.le_refl _, rfl, hc.1, fun t ht hm => ?_⟩, Nat.le_refl _⟩
      by_cases e : t = k + 1
      · rw [e]; exact .inr ⟨rfl, .inl rfl⟩
      · have h4 := a4 t (by omega) hm
        dsimp only
        rcases hc.2 with h | ⟨h, h'⟩
        · left; omega
        · by_cases h5 : widestV q.pr (k + 1) < widestV q.pr t
          · exact .inl h5
          · refine .inr ⟨by omega, .inr ?_⟩
            rcases h4 with h4 | ⟨h4, h6⟩
            · omega
            · have e0 : ∀ x y, muchV q false x = muchV q false y := fun _ _ => rfl
              rcases h6 with h6 | h6
              · rw [← h6, lessW_iff]
                have := e0 (k + 1) (bestR q most k).1
                omega
              · rw [lessW_iff] at h6 ⊢
                have e1 := e0 (k + 1) t
                have e2 := e0 (bestR q most k).1 t
                omega
    · rename_i hc
      refine ⟨⟨by omega, a2, a3, fun t ht hm => ?_⟩, by omega⟩
      by_cases e : t = k + 1
      · subst e
        have h1 : ¬ (widestV q.pr (k + 1) < (bestR q most k).2 ∨ (widestV q.pr (k + 1) = (bestR q most k).2 ∧ ones (k + 1) < ones (bestR q most k).1)) := fun h => hc ⟨hm, h⟩
        by_cases h5 : (bestR q most k).2 < widestV q.pr (k + 1)
        · exact .inl h5
        · refine .inr ⟨by omega, .inr ?_⟩
          rw [lessW_iff]
          have e0 : muchV q false (bestR q most k).1 = muchV q false (k + 1) := rfl
          omega
      · exact a4 t (by omega) hm
theorem bestR_end (q : PlanD) {most : Int} (h0 : 0 ≤ most) : bestR q most (everyV q) = bestPV q most := by
  obtain ⟨⟨a1, a2, a3, a4⟩, _⟩ := bestR_inv q h0 (everyV q)
  obtain ⟨b1, b2, b3, b4⟩ := bestPV_spec q h0
  have hlt := @everyV_lt q
  have c1 := a4 (bestPV q most).1 (by unfold everyV at *; omega) b3
  have c2 := b4 (bestR q most (everyV q)).1 (by omega) a3
  have hl : (bestR q most (everyV q)).1 = (bestPV q most).1 := by
    rcases c1 with c1 | ⟨c1, d1⟩
    · rcases c2 with c2 | ⟨c2, d2⟩ <;> omega
    · rcases c2 with c2 | ⟨c2, d2⟩
      · omega
      · rcases d1 with d1 | d1
        · exact d1
        · rcases d2 with d2 | d2
          · exact d2.symm
          · exact absurd ((lessW_sto q false).tr d1 d2) ((lessW_sto q false).irr _)
  exact Prod.ext hl (by rw [a2, b2, hl])
theorem heavy_len {q : PlanD} {ways : Int} (h : heavyQ q ways = false) : q.prices.length ≤ 60 := by
  unfold heavyQ at h
  cases hf : farQ q with
  | true => rw [hf] at h; simp at h
  | false =>
    unfold farQ at hf
    rw [decide_eq_false_iff_not] at hf
    omega
theorem setN_add (f : Nat → Bool) (i : Nat) : setN f (i + 1) = if f i then setN f i + 2 ^ i else setN f i := rfl
end Go.Proofs.YtabbmihakoeegaaGreat
