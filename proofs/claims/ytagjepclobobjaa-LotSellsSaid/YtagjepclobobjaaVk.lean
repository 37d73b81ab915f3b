/- Texts Bzv, Bzw, Hva, Bzx in one file; each begins with a word on what it proves. -/
import Derived.Laws.MakeOwn
import Derived.Test.YtagjepclobobjaaVj
import Derived.Test.YtagjepclobobjaaVa

/- Package lot: the search for a delivery: where it stands, and where it ends. -/
namespace Go.Proofs.Ytagjepclobobjaa
set_option linter.unusedVariables false
set_option linter.unusedSimpArgs false
open Go.RowKit Go.Shelf
attribute [local go_sem] Oper.semAt_some

theorem under_gone : Try.prog.underlying 62 = some (.map 3 3) := by kernel_rfl
theorem zeroIntL (w : World) : (zeroValue 3).run Try.prog w = .ok (.int .i64 0) w := by kernel_rfl
/-- The places of what the search works on. -/
structure PlcD where
  bl : Nat
  lb : Nat
  bm : Nat
  bo : Nat
  bn : Nat
  bx : Nat
  gb : Nat
  gm : Nat
  bs : Nat
  sp : Nat
  km : Nat
  kl : Nat
/-- All are apart, and below a bound. -/
structure PlcD.Ok (q : PlcD) (B N : Nat) (r : Nat → Nat) : Prop where
  bl : r q.bl = 0 ∧ q.bl < N
  lb : r q.lb = 1 ∧ q.lb < N
  bm : r q.bm = 2 ∧ q.bm < N
  bo : r q.bo = 3 ∧ q.bo < N
  bn : r q.bn = 4 ∧ q.bn < N
  bx : r q.bx = 5 ∧ q.bx < N
  gb : r q.gb = 6 ∧ q.gb < N
  gm : r q.gm = 7 ∧ q.gm < N
  bs : r q.bs = 8 ∧ q.bs < N
  sp : r q.sp = 9 ∧ q.sp < N
  km : r q.km = 10 ∧ q.km < N
  kl : r q.kl = 11 ∧ q.kl < N
  low : ∀ k, k < B → 12 ≤ r k
theorem ne_rank {r : Nat → Nat} {a b i j : Nat} (h : r a = i) (k : r b = j) (hij : i ≠ j) : a ≠ b := fun e => hij (by rw [← h, e, k])
/-- What the search changes. -/
def PlcD.Mut (q : PlcD) : Nat → Prop := fun k => k = q.lb ∨ k = q.bm ∨ k = q.bo ∨ k = q.gm ∨ k = q.km
theorem PlcD.Ok.not_mut {q : PlcD} {B N : Nat} {r : Nat → Nat} (h : q.Ok B N r) {k i : Nat} (hk : r k = i) (hi : i ≠ 1 ∧ i ≠ 2 ∧ i ≠ 3 ∧ i ≠ 7 ∧ i ≠ 10) : ¬ q.Mut k := by
  rintro (e | e | e | e | e)
  · exact ne_rank hk h.lb.1 hi.1 e
  · exact ne_rank hk h.bm.1 hi.2.1 e
  · exact ne_rank hk h.bo.1 hi.2.2.1 e
  · exact ne_rank hk h.gm.1 hi.2.2.2.1 e
  · exact ne_rank hk h.km.1 hi.2.2.2.2 e
def capsD (q : PlcD) : Array Value := #[.pointer (some ⟨q.bl, 0, none⟩), .pointer (some ⟨q.bm, 0, none⟩), .pointer (some ⟨q.bo, 0, none⟩), .pointer (some ⟨q.bn, 0, none⟩), .pointer (some ⟨q.bx, 0, none⟩), .pointer (some ⟨q.gb, 0, none⟩), .pointer (some ⟨q.bs, 0, none⟩)]
/-- Where the search stands. -/
structure DelS (l : LotD) (p : PartsL) (B N : Nat) (sv : Value) (q : PlcD) (r : Nat → Nat) (d : List Int) (st : Int × List Int) (W : World) : Prop where
  list : W.heap[q.bl]? = some (.cells #[.slice (some ⟨q.lb, 0, none⟩) l.blocks.length l.blocks.length] 29 (0, 0))
  arr : ∃ junk : List Int, (d ++ junk).length = l.blocks.length ∧ W.heap[q.lb]? = some (.cells ((d ++ junk).map (Value.int .i64)).toArray 3 (0, 0))
  most : W.heap[q.bm]? = some (.cells #[.int .i64 st.1] 3 (0, 0))
  out : ∃ ov, W.heap[q.bo]? = some (.cells #[ov] 29 (0, 0)) ∧ NumsAt W ov st.2 (fun k => N ≤ k)
  on : W.heap[q.bn]? = some (.cells #[.func (.func 71) #[] (capsD q)] 137 (0, 0))
  lotb : W.heap[q.bx]? = some (lotO l p)
  gone : W.heap[q.gb]? = some (.cells #[.map (some q.gm)] 62 (0, 0))
  gm : ∃ f, MapI q.gm f W ∧ ∀ o, o < l.orders.length → (f (o : Int)).getD (.int .i64 0) = .int .i64 (goneL d (o : Int) : Nat)
  shop : W.heap[q.bs]? = some (.cells #[.pointer (some ⟨q.sp, 0, none⟩)] 76 (0, 0))
  S : ShopS l p B q.sp q.km q.kl sv W
  sets : NumsAt W sv (setsInts l l.blocks.length) (fun k => 12 ≤ r k)
theorem DelS.later {l : LotD} {p : PartsL} {B N : Nat} {sv : Value} {q : PlcD} {r : Nat → Nat} {d : List Int} {st : Int × List Int} {w W : World} (h : DelS l p B N sv q r d st w) (hb : Below w.heap.size w W) : DelS l p B N sv q r d st W := by
  obtain ⟨junk, j1, j2⟩ := h.arr
  obtain ⟨ov, o1, o2⟩ := h.out
  obtain ⟨f, f1, f2⟩ := h.gm
  exact ⟨(hb.block _ (lt_of_block h.list)).trans h.list, ⟨junk, j1, (hb.block _ (lt_of_block j2)).trans j2⟩, (hb.block _ (lt_of_block h.most)).trans h.most, ⟨ov, (hb.block _ (lt_of_block o1)).trans o1, o2.later hb.size (fun k hk _ => hb.block k hk)⟩, (hb.block _ (lt_of_block h.on)).trans h.on, (hb.block _ (lt_of_block h.lotb)).trans h.lotb, (hb.block _ (lt_of_block h.gone)).trans h.gone,
    ⟨f, f1.of (hb.block _ f1.lt), f2⟩, (hb.block _ (lt_of_block h.shop)).trans h.shop, h.S.later hb, h.sets.later hb.size (fun k hk _ => hb.block k hk)⟩
/-- A delivery that has begun right. -/
def RightD (l : LotD) (d : List Int) : Prop := ∀ o, o < l.orders.length → (goneL d (o : Int) : Int) ≤ (l.orders.getD o (0, 0)).2
theorem PlcD.Ok.high {q : PlcD} {B N : Nat} {r : Nat → Nat} (h : q.Ok B N r) {k : Nat} (hk : 12 ≤ r k) : ¬ q.Mut k := by
  rintro (e | e | e | e | e)
  · have := h.lb.1; rw [← e] at this; omega
  · have := h.bm.1; rw [← e] at this; omega
  · have := h.bo.1; rw [← e] at this; omega
  · have := h.gm.1; rw [← e] at this; omega
  · have := h.km.1; rw [← e] at this; omega
/-- What stays where only what the search changes is changed. -/
theorem DelS.change {l : LotD} {p : PartsL} {B N : Nat} {sv : Value} {q : PlcD} {r : Nat → Nat} (hq : q.Ok B N r) {d d' : List Int} {st st' : Int × List Int} {w W : World} (h : DelS l p B N sv q r d st w) (hk : Keeps q.Mut w W)
    (hl : ∃ junk : List Int, (d' ++ junk).length = l.blocks.length ∧ W.heap[q.lb]? = some (.cells ((d' ++ junk).map (Value.int .i64)).toArray 3 (0, 0))) (hm : W.heap[q.bm]? = some (.cells #[.int .i64 st'.1] 3 (0, 0)))
    (ho : ∃ ov, W.heap[q.bo]? = some (.cells #[ov] 29 (0, 0)) ∧ NumsAt W ov st'.2 (fun k => N ≤ k)) (hg : ∃ f, MapI q.gm f W ∧ ∀ o, o < l.orders.length → (f (o : Int)).getD (.int .i64 0) = .int .i64 (goneL d' (o : Int) : Nat)) (hn : KnownL q.km (sureL l) W) : DelS l p B N sv q r d' st' W := by
  have nm : ∀ {k i : Nat}, r k = i → i ≠ 1 ∧ i ≠ 2 ∧ i ≠ 3 ∧ i ≠ 7 ∧ i ≠ 10 → ¬ q.Mut k := fun h1 h2 => hq.not_mut h1 h2
  have hs : NumsAt W sv (setsInts l l.blocks.length) (fun k => 12 ≤ r k) := h.sets.later hk.size (fun k h1 h2 => hk.block k h1 (hq.high h2))
  refine ⟨(hk.block _ (lt_of_block h.list) (nm hq.bl.1 (by decide))).trans h.list, hl, hm, ho, (hk.block _ (lt_of_block h.on) (nm hq.bn.1 (by decide))).trans h.on, (hk.block _ (lt_of_block h.lotb) (nm hq.bx.1 (by decide))).trans h.lotb, (hk.block _ (lt_of_block h.gone) (nm hq.gb.1 (by decide))).trans h.gone, hg,
    (hk.block _ (lt_of_block h.shop) (nm hq.bs.1 (by decide))).trans h.shop, ?_, hs⟩
  refine ⟨(hk.block _ (lt_of_block h.S.obj) (nm hq.sp.1 (by decide))).trans h.S.obj, h.S.lot.later hk.size (fun k h4 h5 => hk.block k h4 (hq.high (hq.low k h5))), hn, h.S.laps.of (hk.block _ h.S.laps.lt (nm hq.kl.1 (by decide))), ?_, h.S.bs, h.S.bk, h.S.bl, h.S.n1, h.S.n2, h.S.n3⟩
  obtain ⟨ao8, cap8, he8, _, _, g4⟩ := h.S.sets
  obtain ⟨ao9, cap9, e1, e2, e3, e4⟩ := hs
  refine ⟨ao9, cap9, e1, e2, e3, fun i hi => ?_⟩
  obtain ⟨b9, off9, f1, f2, f3, f4⟩ := e4 i hi
  obtain ⟨b8, off8, k1, k2, _, _⟩ := g4 i hi
  have hb89 : b8 = b9 := by
    have := he8.symm.trans e1
    injection this with this
    rw [this, f1] at k1
    injection k1 with k1
    injection k1 with k1
    exact k1.symm
  exact ⟨b9, off9, f1, hb89 ▸ k2, f3, f4⟩
theorem wpOp_skipL {P : Program} {ops : Array Oper} {Q : Exit → Act → World → Prop} {K : Act → World → Prop} {k : Nat} {o : Oper} {a : Act} {w w' : World} (ho : ops[k]? = some o) (hg : Region.wanted o (yielded ops a.tmps) = true)
    (hrun : (execOp a.eval o).run P w = .ok .skip w') (h : K (a.put o.dst undef) w') : wpOp P ops Q k K a w := by
  unfold wpOp
  rw [ho]
  simp only [hg, if_true]
  left
  unfold Oper.wp
  rw [hrun]
  exact h
theorem sent_le (d : List Int) : sentL d ≤ d.length := by unfold sentL; omega
set_option maxRecDepth 100000 in
set_option maxHeartbeats 8000000 in
/-- Where all blocks are gone through. -/
theorem del_leaf {l : LotD} {p : PartsL} {B N : Nat} {sv : Value} {q : PlcD} {r : Nat → Nat} (hq : q.Ok B N r) (hb6 : l.blocks.length ≤ 6) (d : List Int) (hd : d.length = l.blocks.length) (st : Int × List Int) (w : World) (hN : N ≤ w.heap.size) (h : DelS l p B N sv q r d st w) :
    Calls Try.prog 71 (#[.int .i64 (d.length : Int), .int .i64 (sentL d : Nat)] ++ capsD q) w fun e w' => e = .returned (.tuple #[]) ∧ DelS l p B N sv q r d (betterL st d) w' ∧ Keeps q.Mut w w' := by
  have H := Lib.hid h
  have HQ := Lib.hid hq
  obtain ⟨nb, hnb⟩ : ∃ n, n = l.blocks.length := ⟨_, rfl⟩
  obtain ⟨se, hse⟩ : ∃ n, n = sentL d := ⟨_, rfl⟩
  have hsl := sent_le d
  rw [← hse] at hsl
  have c2 : w.cell? ⟨q.bl, 0, none⟩ = some (.slice (some ⟨q.lb, 0, none⟩) nb nb) := by rw [cell_of_row _ _ _ _ _ _ h.list, hnb]; rfl
  have c3 : w.cell? ⟨q.bm, 0, none⟩ = some (.int .i64 st.1) := by rw [cell_of_row _ _ _ _ _ _ h.most]; rfl
  have hd2 : d.length = nb := by rw [hd, hnb]
  rw [hd2] at hsl ⊢
  rw [← hnb] at hb6
  rw [← hse]
  obtain ⟨mo, ou⟩ := st
  dsimp only at c3
  have HNB := Lib.hid hnb
  have HSE := Lib.hid hse
  have HD := Lib.hid hd2
  have w1 : IntKind.i64.wrap ((se : Int) + (nb : Int)) = (se : Int) + (nb : Int) := IntWalk.i64_in _ (by omega)
  have w2 : IntKind.i64.wrap ((se : Int) + (nb : Int) - (nb : Int)) = (se : Int) := by rw [IntWalk.i64_in _ (by omega)]; omega
  clear hq h hnb hse hd hd2
  unfold capsD
  go_enter Try.func71, Try.ntmps71
  refine wp_scope_straight ?_
  by_cases hm : (se : Int) ≤ mo
  · have hbt : betterL (mo, ou) d = (mo, ou) := by unfold betterL; rw [if_neg (by rw [← HSE.out]; dsimp only; omega)]
    have HBT := Lib.hid hbt
    clear hbt
    go_wp2_with fail
    simp only [Exit.noGoto]
    refine bodyPost_ret (results_none rfl _ _ _) rfl ?_
    exact ⟨rfl, by rw [HBT.out]; exact H.out, Keeps.refl _ _⟩
  · have hbt : betterL (mo, ou) d = ((se : Int), d) := by unfold betterL; rw [if_pos (by rw [← HSE.out]; dsimp only; omega), ← HSE.out]
    have HBT := Lib.hid hbt
    obtain ⟨cur0, hcur0⟩ : ∃ c, c = madeCells #[.int .i64 0] (nb * 1) := ⟨_, rfl⟩
    have hmk : ∀ W : World, (Instr.makeSlice 29 (.int .i64 nb) (.int .i64 nb)).run Try.prog W = .ok (.slice (some ⟨W.heap.size, 0, none⟩) nb nb) (W.alloc (.cells cur0 3)) := fun W => by
      obtain ⟨i0, hi0, hz0, hz1, hz2⟩ := info_parts infoInt
      have := run_makeSlice (P := Try.prog) (w := W) 29 3 i0 _ underInts hi0 hz0 .i64 .i64 nb nb (by omega) (by omega) (by rw [hz1]; simp; omega) (by rw [hz2]; omega) (by omega)
      rw [hz1] at this
      rw [hcur0]
      simpa [Value.cells] using this
    have hsz0 : cur0.size = d.length := by rw [hcur0, size_madeCells, HD.out, Nat.mul_one]
    have HMK := Lib.hid hmk
    have HSZ := Lib.hid hsz0
    clear hbt hmk hsz0 hcur0
    go_wp2_with fail
    clear c2 c3
    have r0 : w.heap[q.bl]? = some (.cells #[.slice (some ⟨q.lb, 0, none⟩) nb nb] 29 (0, 0)) := by rw [HNB.out]; exact H.out.list
    have r1 : w.heap[q.bm]? = some (.cells #[.int .i64 mo] 3 (0, 0)) := H.out.most
    have hblm : q.bl ≠ q.bm := ne_rank HQ.out.bl.1 HQ.out.bm.1 (by decide)
    refine wp_region_tail 5 #[false, false, false, false, false, true] (fun W => W.heap[q.bl]? = some (.cells #[.slice (some ⟨q.lb, 0, none⟩) nb nb] 29 (0, 0))) (by kernel_rfl) (by kernel_rfl) (by rfl) r0 fun hS0 => ?_
    refine wpAnyH_take (i := 0) (v := .int .i64 (se : Int)) rfl (by kernel_rfl) (by kernel_rfl) (by kernel_rfl) (fun _ _ _ h => h) (yields_value rfl fun W hS => by simp [execOp, go_sem, Act.eval, Act.put]) hS0 ?_
    simp only [Act.put, List.setIfInBounds_toArray, List.set_cons_zero, List.set_cons_succ]
    refine wpAnyH_take (i := 1) (v := .slice (some ⟨q.lb, 0, none⟩) nb nb) rfl (by kernel_rfl) (by kernel_rfl) (by kernel_rfl) (fun _ _ _ h => h) (yields_value rfl fun W hS => by simp [execOp, go_sem, Act.eval, Act.put, cell_of_row W _ _ _ _ _ hS]) hS0 ?_
    simp only [Act.put, List.setIfInBounds_toArray, List.set_cons_zero, List.set_cons_succ]
    refine wpAnyH_take (i := 2) (v := .int .i64 (nb : Int)) rfl (by kernel_rfl) (by kernel_rfl) (by kernel_rfl) (fun _ _ _ h => h) (yields_value rfl fun W hS => by simp [execOp, go_sem, Act.eval, Act.put]) hS0 ?_
    simp only [Act.put, List.setIfInBounds_toArray, List.set_cons_zero, List.set_cons_succ]
    have hmk0 := HMK.out
    refine wpAnyH_two (i := 3) (j := 4) (by kernel_rfl) ?_ ?_
    · refine wpOp_value (v := .slice (some ⟨w.heap.size, 0, none⟩) nb nb) (w' := w.drew.alloc (.cells cur0 3)) rfl rfl (by simp [execOp, go_sem, Act.eval, Act.put, hmk0]) ?_
      refine ⟨(hget_old _ _ _ (by have := lt_of_block r0; show q.bl ≠ w.drew.heap.size; simp; omega)).trans hS0, ?_⟩
      obtain ⟨W5, hW5⟩ : ∃ W, W = w.drew.alloc (.cells cur0 3) := ⟨_, rfl⟩
      have hn5 : W5.heap[w.heap.size]? = some (.cells cur0 3 (0, 0)) := by rw [hW5]; exact heap_alloc_at _ _ _ rfl
      have hb5 : Below w.heap.size w W5 := by rw [hW5]; exact (Below.refl w.heap.size w).drew.alloc (Nat.le_refl _) _
      have hs5 : W5.heap.size = w.heap.size + 1 := by rw [hW5]; simp
      have hm5 := (hb5.block _ (lt_of_block r1)).trans r1
      have e0 : W5.cell? ⟨q.bm, 0, none⟩ = some (.int .i64 mo) := by rw [cell_of_row _ _ _ _ _ _ hm5]; rfl
      have f0 : W5.frozen? ⟨q.bm, 0, none⟩ = false := frozen_of_row _ _ _ _ _ hm5
      rw [← hW5]
      have hl5 := (hb5.block _ (lt_of_block r0)).trans r0
      refine wpAnyH_skip (k := 4) (w' := W5.setCell ⟨q.bm, 0, none⟩ (.int .i64 (se : Int))) (by kernel_rfl) rfl rfl (by simp [execOp, go_sem, Act.eval, Act.put, e0, f0]) ((other_setG _ _ _ _ hblm).trans hl5) ?_
      have hk6 : Keeps (fun k => k = q.bm) w (W5.setCell ⟨q.bm, 0, none⟩ (.int .i64 (se : Int))) := (Keeps.of_below hb5 (fun k h1 h2 => absurd h2 (by omega))).trans (Keeps.setCell _ _ _ rfl)
      have hn6 := (other_setG W5 ⟨q.bm, 0, none⟩ (.int .i64 (se : Int)) w.heap.size (by show w.heap.size ≠ q.bm; have := lt_of_block r1; omega)).trans hn5
      have hm6 := one_setG (y := .int .i64 (se : Int)) hm5
      obtain ⟨W6, hW6⟩ : ∃ W, W = W5.setCell ⟨q.bm, 0, none⟩ (.int .i64 (se : Int)) := ⟨_, rfl⟩
      have hs6 : W6.heap.size = w.heap.size + 1 := by rw [hW6]; simp [World.setCell, hs5]
      rw [← hW6] at hk6 hn6 hm6 ⊢
      clear hW6 hW5 hn5 hb5 hs5 hm5 e0 f0 hl5 hS0
      refine wpAnyH_done (by kernel_rfl) ?_ _
      unfold TailQ
      simp only [List.drop_succ_cons, List.drop_zero]
      have hbo0 := H.out.out
      obtain ⟨ov, ho0, _⟩ := hbo0
      have hbobm : q.bo ≠ q.bm := ne_rank HQ.out.bo.1 HQ.out.bm.1 (by decide)
      have ho6 := (hk6.block _ (lt_of_block ho0) hbobm).trans ho0
      have e0 : W6.cell? ⟨q.bo, 0, none⟩ = some ov := by rw [cell_of_row _ _ _ _ _ _ ho6]; rfl
      have f0 : W6.frozen? ⟨q.bo, 0, none⟩ = false := frozen_of_row _ _ _ _ _ ho6
      have hl6 := (hk6.block _ (lt_of_block r0) hblm).trans r0
      have HO6 := Lib.hid ho6
      have HL6 := Lib.hid hl6
      have HN6 := Lib.hid hn6
      have HM6 := Lib.hid hm6
      have HK6 := Lib.hid hk6
      have HS6 := Lib.hid hs6
      clear ho6 hl6 hn6 hm6 hk6 hs6
      go_upto_region 3 with fail
      obtain ⟨W7, hW7⟩ : ∃ W, W = W6.setCell ⟨q.bo, 0, none⟩ (.slice (some ⟨w.heap.size, 0, none⟩) nb nb) := ⟨_, rfl⟩
      rw [← hW7]
      have ho7 : W7.heap[q.bo]? = some (.cells #[.slice (some ⟨w.heap.size, 0, none⟩) nb nb] 29 (0, 0)) := by rw [hW7]; exact one_setG HO6.out
      have hk7 : Keeps (fun k => k = q.bm ∨ k = q.bo) w W7 := by rw [hW7]; exact (HK6.out.mono (fun k _ h => .inl h)).trans (Keeps.setCell _ _ _ (.inr rfl))
      have hbow : q.bo < w.heap.size := by obtain ⟨_, h1, _⟩ := H.out.out; exact lt_of_block h1
      have hn7 : W7.heap[w.heap.size]? = some (.cells cur0 3 (0, 0)) := by rw [hW7]; exact (other_setG _ _ _ _ (by show w.heap.size ≠ q.bo; omega)).trans HN6.out
      have hm7 : W7.heap[q.bm]? = some (.cells #[.int .i64 (se : Int)] 3 (0, 0)) := by rw [hW7]; exact (other_setG _ _ _ _ (by show q.bm ≠ q.bo; exact ne_rank HQ.out.bm.1 HQ.out.bo.1 (by decide))).trans HM6.out
      have hs7 : W7.heap.size = w.heap.size + 1 := by rw [hW7]; simp [World.setCell, HS6.out]
      have hblo : q.bl ≠ q.bo := ne_rank HQ.out.bl.1 HQ.out.bo.1 (by decide)
      have hl7 := (hk7.block _ (lt_of_block r0) (by rintro (e | e); exact hblm e; exact hblo e)).trans r0
      obtain ⟨junk, hj1, hj2⟩ := H.out.arr
      have hj0 : junk = [] := by
        rw [List.length_append, ← HNB.out, HD.out] at hj1
        exact List.length_eq_zero_iff.1 (by omega)
      rw [hj0, List.append_nil] at hj2
      have ha7 := (hk7.block _ (lt_of_block hj2) (by rintro (e | e); exact ne_rank HQ.out.lb.1 HQ.out.bm.1 (by decide) e; exact ne_rank HQ.out.lb.1 HQ.out.bo.1 (by decide) e)).trans hj2
      have hn1 := nums_row ha7 (by rw [HD.out]; omega)
      obtain ⟨W2, hcp, hn2, hk2, hs2⟩ := copy_nums d _ d.length _ W7 hn1 w.heap.size cur0 (by rw [HD.out]; omega) hn7 HSZ.out
      rw [HD.out] at hcp hn2
      have c0 : W7.cell? ⟨q.bo, 0, none⟩ = some (.slice (some ⟨w.heap.size, 0, none⟩) nb nb) := by rw [cell_of_row _ _ _ _ _ _ ho7]; rfl
      have c1 : W7.cell? ⟨q.bl, 0, none⟩ = some (.slice (some ⟨q.lb, 0, none⟩) nb nb) := by rw [cell_of_row _ _ _ _ _ _ hl7]; rfl
      have hkf : Keeps (fun k => k = q.bm ∨ k = q.bo) w W2 := hk7.transNew hk2 (fun i h => by omega)
      have hmf2 := (hk2.block _ (by have := lt_of_block hm7; omega) (by have := lt_of_block r1; omega)).trans hm7
      have hof2 := (hk2.block q.bo (by have := lt_of_block ho7; omega) (by omega)).trans ho7
      have hdel : DelS l p B N sv q r d ((se : Int), d) W2 := by
        refine H.out.change HQ.out (hkf.mono fun k _ h => h.elim (fun h => .inr (.inl h)) (fun h => .inr (.inr (.inl h)))) ?_ hmf2 ⟨_, hof2, hn2.mono (fun k h => by omega)⟩ ?_ ?_
        · exact ⟨[], by rw [List.append_nil, HD.out, HNB.out], by rw [List.append_nil]; exact (hkf.block _ (lt_of_block hj2) (by rintro (e | e); exact ne_rank HQ.out.lb.1 HQ.out.bm.1 (by decide) e; exact ne_rank HQ.out.lb.1 HQ.out.bo.1 (by decide) e)).trans hj2⟩
        · obtain ⟨f, f1, f2⟩ := H.out.gm
          exact ⟨f, f1.of (hkf.block _ f1.lt (by rintro (e | e); exact ne_rank HQ.out.gm.1 HQ.out.bm.1 (by decide) e; exact ne_rank HQ.out.gm.1 HQ.out.bo.1 (by decide) e)), f2⟩
        · exact H.out.S.known.of (hkf.block _ H.out.S.known.lt (by rintro (e | e); exact ne_rank HQ.out.km.1 HQ.out.bm.1 (by decide) e; exact ne_rank HQ.out.km.1 HQ.out.bo.1 (by decide) e))
      have HDEL := Lib.hid hdel
      have HKF := Lib.hid hkf
      clear hW7 ho7 hk7 hn7 hm7 hl7 hj1 hj2 hj0 ha7 hn1 hn2 hk2 hkf hmf2 hof2 hdel
      go_wp2_with fail
      try simp only [Exit.noGoto]
      refine bodyPost_ret (results_none rfl _ _ _) rfl ?_
      exact ⟨rfl, by rw [HBT.out]; exact HDEL.out, HKF.out.mono fun k _ h => h.elim (fun h => .inr (.inl h)) (fun h => .inr (.inr (.inl h)))⟩
    · refine wpOp_skipL (w' := w.drew.setCell ⟨q.bm, 0, none⟩ (.int .i64 (se : Int))) rfl rfl ?_ ?_
      · have e0 : w.cell? ⟨q.bm, 0, none⟩ = some (.int .i64 mo) := by rw [cell_of_row _ _ _ _ _ _ r1]; rfl
        have f0 : w.frozen? ⟨q.bm, 0, none⟩ = false := frozen_of_row _ _ _ _ _ r1
        simp [execOp, go_sem, Act.eval, Act.put, e0, f0]
      refine ⟨(other_setG _ _ _ _ hblm).trans hS0, ?_⟩
      obtain ⟨W5, hW5⟩ : ∃ W, W = w.drew.setCell ⟨q.bm, 0, none⟩ (.int .i64 (se : Int)) := ⟨_, rfl⟩
      have hm5 : W5.heap[q.bm]? = some (.cells #[.int .i64 (se : Int)] 3 (0, 0)) := by rw [hW5]; exact one_setG (w := w.drew) r1
      have hk5 : Keeps (fun k => k = q.bm) w W5 := by rw [hW5]; exact (Keeps.drew _ w).trans (Keeps.setCell _ _ _ rfl)
      have hs5 : W5.heap.size = w.heap.size := by rw [hW5]; simp [World.setCell]
      have hl5 := (hk5.block _ (lt_of_block r0) hblm).trans r0
      have hmk5 := HMK.out W5
      rw [hs5] at hmk5
      rw [← hW5]
      clear hW5
      refine wpAnyH_value (k := 3) (v := .slice (some ⟨w.heap.size, 0, none⟩) nb nb) (w' := W5.alloc (.cells cur0 3)) (by kernel_rfl) rfl rfl (by simp [execOp, go_sem, Act.eval, Act.put, hmk5]) ((hget_old _ _ _ (by have := lt_of_block hl5; omega)).trans hl5) ?_
      obtain ⟨W6, hW6⟩ : ∃ W, W = W5.alloc (.cells cur0 3) := ⟨_, rfl⟩
      have hn6 : W6.heap[w.heap.size]? = some (.cells cur0 3 (0, 0)) := by rw [hW6]; exact heap_alloc_at _ _ _ hs5.symm
      have hk6 : Keeps (fun k => k = q.bm) w W6 := by rw [hW6]; exact hk5.trans (Keeps.alloc _ _ _)
      have hs6 : W6.heap.size = w.heap.size + 1 := by rw [hW6]; simp [hs5]
      have hm6 : W6.heap[q.bm]? = some (.cells #[.int .i64 (se : Int)] 3 (0, 0)) := by rw [hW6]; exact (hget_old _ _ _ (by have := lt_of_block hm5; omega)).trans hm5
      rw [← hW6]
      clear hW6 hm5 hk5 hs5 hl5 hmk5 hS0
      refine wpAnyH_done (by kernel_rfl) ?_ _
      unfold TailQ
      simp only [List.drop_succ_cons, List.drop_zero]
      have hbo0 := H.out.out
      obtain ⟨ov, ho0, _⟩ := hbo0
      have hbobm : q.bo ≠ q.bm := ne_rank HQ.out.bo.1 HQ.out.bm.1 (by decide)
      have ho6 := (hk6.block _ (lt_of_block ho0) hbobm).trans ho0
      have e0 : W6.cell? ⟨q.bo, 0, none⟩ = some ov := by rw [cell_of_row _ _ _ _ _ _ ho6]; rfl
      have f0 : W6.frozen? ⟨q.bo, 0, none⟩ = false := frozen_of_row _ _ _ _ _ ho6
      have hl6 := (hk6.block _ (lt_of_block r0) hblm).trans r0
      have HO6 := Lib.hid ho6
      have HL6 := Lib.hid hl6
      have HN6 := Lib.hid hn6
      have HM6 := Lib.hid hm6
      have HK6 := Lib.hid hk6
      have HS6 := Lib.hid hs6
      clear ho6 hl6 hn6 hm6 hk6 hs6
      go_upto_region 3 with fail
      obtain ⟨W7, hW7⟩ : ∃ W, W = W6.setCell ⟨q.bo, 0, none⟩ (.slice (some ⟨w.heap.size, 0, none⟩) nb nb) := ⟨_, rfl⟩
      rw [← hW7]
      have ho7 : W7.heap[q.bo]? = some (.cells #[.slice (some ⟨w.heap.size, 0, none⟩) nb nb] 29 (0, 0)) := by rw [hW7]; exact one_setG HO6.out
      have hk7 : Keeps (fun k => k = q.bm ∨ k = q.bo) w W7 := by rw [hW7]; exact (HK6.out.mono (fun k _ h => .inl h)).trans (Keeps.setCell _ _ _ (.inr rfl))
      have hbow : q.bo < w.heap.size := by obtain ⟨_, h1, _⟩ := H.out.out; exact lt_of_block h1
      have hn7 : W7.heap[w.heap.size]? = some (.cells cur0 3 (0, 0)) := by rw [hW7]; exact (other_setG _ _ _ _ (by show w.heap.size ≠ q.bo; omega)).trans HN6.out
      have hm7 : W7.heap[q.bm]? = some (.cells #[.int .i64 (se : Int)] 3 (0, 0)) := by rw [hW7]; exact (other_setG _ _ _ _ (by show q.bm ≠ q.bo; exact ne_rank HQ.out.bm.1 HQ.out.bo.1 (by decide))).trans HM6.out
      have hs7 : W7.heap.size = w.heap.size + 1 := by rw [hW7]; simp [World.setCell, HS6.out]
      have hblo : q.bl ≠ q.bo := ne_rank HQ.out.bl.1 HQ.out.bo.1 (by decide)
      have hl7 := (hk7.block _ (lt_of_block r0) (by rintro (e | e); exact hblm e; exact hblo e)).trans r0
      obtain ⟨junk, hj1, hj2⟩ := H.out.arr
      have hj0 : junk = [] := by
        rw [List.length_append, ← HNB.out, HD.out] at hj1
        exact List.length_eq_zero_iff.1 (by omega)
      rw [hj0, List.append_nil] at hj2
      have ha7 := (hk7.block _ (lt_of_block hj2) (by rintro (e | e); exact ne_rank HQ.out.lb.1 HQ.out.bm.1 (by decide) e; exact ne_rank HQ.out.lb.1 HQ.out.bo.1 (by decide) e)).trans hj2
      have hn1 := nums_row ha7 (by rw [HD.out]; omega)
      obtain ⟨W2, hcp, hn2, hk2, hs2⟩ := copy_nums d _ d.length _ W7 hn1 w.heap.size cur0 (by rw [HD.out]; omega) hn7 HSZ.out
      rw [HD.out] at hcp hn2
      have c0 : W7.cell? ⟨q.bo, 0, none⟩ = some (.slice (some ⟨w.heap.size, 0, none⟩) nb nb) := by rw [cell_of_row _ _ _ _ _ _ ho7]; rfl
      have c1 : W7.cell? ⟨q.bl, 0, none⟩ = some (.slice (some ⟨q.lb, 0, none⟩) nb nb) := by rw [cell_of_row _ _ _ _ _ _ hl7]; rfl
      have hkf : Keeps (fun k => k = q.bm ∨ k = q.bo) w W2 := hk7.transNew hk2 (fun i h => by omega)
      have hmf2 := (hk2.block _ (by have := lt_of_block hm7; omega) (by have := lt_of_block r1; omega)).trans hm7
      have hof2 := (hk2.block q.bo (by have := lt_of_block ho7; omega) (by omega)).trans ho7
      have hdel : DelS l p B N sv q r d ((se : Int), d) W2 := by
        refine H.out.change HQ.out (hkf.mono fun k _ h => h.elim (fun h => .inr (.inl h)) (fun h => .inr (.inr (.inl h)))) ?_ hmf2 ⟨_, hof2, hn2.mono (fun k h => by omega)⟩ ?_ ?_
        · exact ⟨[], by rw [List.append_nil, HD.out, HNB.out], by rw [List.append_nil]; exact (hkf.block _ (lt_of_block hj2) (by rintro (e | e); exact ne_rank HQ.out.lb.1 HQ.out.bm.1 (by decide) e; exact ne_rank HQ.out.lb.1 HQ.out.bo.1 (by decide) e)).trans hj2⟩
        · obtain ⟨f, f1, f2⟩ := H.out.gm
          exact ⟨f, f1.of (hkf.block _ f1.lt (by rintro (e | e); exact ne_rank HQ.out.gm.1 HQ.out.bm.1 (by decide) e; exact ne_rank HQ.out.gm.1 HQ.out.bo.1 (by decide) e)), f2⟩
        · exact H.out.S.known.of (hkf.block _ H.out.S.known.lt (by rintro (e | e); exact ne_rank HQ.out.km.1 HQ.out.bm.1 (by decide) e; exact ne_rank HQ.out.km.1 HQ.out.bo.1 (by decide) e))
      have HDEL := Lib.hid hdel
      have HKF := Lib.hid hkf
      clear hW7 ho7 hk7 hn7 hm7 hl7 hj1 hj2 hj0 ha7 hn1 hn2 hk2 hkf hmf2 hof2 hdel
      go_wp2_with fail
      try simp only [Exit.noGoto]
      refine bodyPost_ret (results_none rfl _ _ _) rfl ?_
      exact ⟨rfl, by rw [HBT.out]; exact HDEL.out, HKF.out.mono fun k _ h => h.elim (fun h => .inr (.inl h)) (fun h => .inr (.inr (.inl h)))⟩
end Go.Proofs.Ytagjepclobobjaa

/- Package lot: the search for a delivery. -/
namespace Go.Proofs.Ytagjepclobobjaa
set_option linter.unusedVariables false
set_option linter.unusedSimpArgs false
open Go.RowKit Go.Shelf
attribute [local go_sem] Oper.semAt_some

theorem gone_snoc (d : List Int) (o x : Int) : goneL (d ++ [o]) x = goneL d x + if o = x then 1 else 0 := by
  unfold goneL
  rw [List.count_append, List.count_singleton]
  by_cases h : o = x
  · simp [h]
  · simp [h]
theorem right_snoc {l : LotD} {d : List Int} (h : RightD l d) : RightD l (d ++ [-1]) := fun o ho => by
  rw [gone_snoc, if_neg (by omega)]
  exact h o ho
/-- Only the list, or what is gone, was changed. -/
theorem DelS.move {l : LotD} {p : PartsL} {B N : Nat} {sv : Value} {q : PlcD} {r : Nat → Nat} (hq : q.Ok B N r) {d d' : List Int} {st : Int × List Int} {w W : World} (h : DelS l p B N sv q r d st w) (hk : Keeps (fun k => k = q.lb ∨ k = q.gm) w W)
    (hl : ∃ junk : List Int, (d' ++ junk).length = l.blocks.length ∧ W.heap[q.lb]? = some (.cells ((d' ++ junk).map (Value.int .i64)).toArray 3 (0, 0)))
    (hg : ∃ f, MapI q.gm f W ∧ ∀ o, o < l.orders.length → (f (o : Int)).getD (.int .i64 0) = .int .i64 (goneL d' (o : Int) : Nat)) : DelS l p B N sv q r d' st W := by
  have nm : ∀ {k i : Nat}, r k = i → i ≠ 1 → i ≠ 7 → ¬ (k = q.lb ∨ k = q.gm) := fun hk h2 h3 e => e.elim (ne_rank hk hq.lb.1 h2) (ne_rank hk hq.gm.1 h3)
  obtain ⟨ov, o1, o2⟩ := h.out
  refine h.change hq (hk.mono fun k _ e => e.elim (fun e => .inl e) (fun e => .inr (.inr (.inr (.inl e))))) hl ((hk.block _ (lt_of_block h.most) (nm hq.bm.1 (by decide) (by decide))).trans h.most) ⟨ov, (hk.block _ (lt_of_block o1) (nm hq.bo.1 (by decide) (by decide))).trans o1, o2.later hk.size (fun k h1 h2 => hk.block k h1 (fun e => ?_))⟩ hg
    (h.S.known.of (hk.block _ h.S.known.lt (nm hq.km.1 (by decide) (by decide))))
  rcases e with e | e
  · have := hq.lb.2; omega
  · have := hq.gm.2; omega
/-- Only what is known was changed. -/
theorem DelS.ask {l : LotD} {p : PartsL} {B N : Nat} {sv : Value} {q : PlcD} {r : Nat → Nat} (hq : q.Ok B N r) {d : List Int} {st : Int × List Int} {w W : World} (h : DelS l p B N sv q r d st w) (hk : Keeps (fun k => k = q.km) w W) (hn : KnownL q.km (sureL l) W) : DelS l p B N sv q r d st W := by
  have nm : ∀ {k i : Nat}, r k = i → i ≠ 10 → ¬ (k = q.km) := fun hk h2 e => ne_rank hk hq.km.1 h2 e
  obtain ⟨ov, o1, o2⟩ := h.out
  obtain ⟨junk, j1, j2⟩ := h.arr
  obtain ⟨f, f1, f2⟩ := h.gm
  exact h.change hq (hk.mono fun k _ e => .inr (.inr (.inr (.inr e)))) ⟨junk, j1, (hk.block _ (lt_of_block j2) (nm hq.lb.1 (by decide))).trans j2⟩ ((hk.block _ (lt_of_block h.most) (nm hq.bm.1 (by decide))).trans h.most) ⟨ov, (hk.block _ (lt_of_block o1) (nm hq.bo.1 (by decide))).trans o1, o2.later hk.size (fun k h1 h2 => hk.block k h1 (fun e => by have := hq.km.2; omega))⟩
    ⟨f, f1.of (hk.block _ f1.lt (nm hq.gm.1 (by decide))), f2⟩ hn
theorem DelS.back {l : LotD} {p : PartsL} {B N : Nat} {sv : Value} {q : PlcD} {r : Nat → Nat} (hq : q.Ok B N r) {d : List Int} {x : Int} {st : Int × List Int} {w : World} (h : DelS l p B N sv q r (d ++ [x]) st w)
    (hg : ∃ f, MapI q.gm f w ∧ ∀ o, o < l.orders.length → (f (o : Int)).getD (.int .i64 0) = .int .i64 (goneL d (o : Int) : Nat)) : DelS l p B N sv q r d st w := by
  obtain ⟨junk, j1, j2⟩ := h.arr
  exact h.move hq (Keeps.refl _ _) ⟨x :: junk, by simpa using j1, by simpa using j2⟩ hg
theorem arr_set {w : World} {lb : Nat} {d junk : List Int} {n : Nat} {t : TypeId} (hlt : d.length < n) (hn : (d ++ junk).length = n) (h : w.heap[lb]? = some (.cells ((d ++ junk).map (Value.int .i64)).toArray t (0, 0))) (x : Int) :
    w.cell? ⟨lb, d.length, none⟩ = some (.int .i64 ((junk.headD 0))) ∧ ∃ junk' : List Int, ((d ++ [x]) ++ junk').length = n ∧ (w.setCell ⟨lb, d.length, none⟩ (.int .i64 x)).heap[lb]? = some (.cells (((d ++ [x]) ++ junk').map (Value.int .i64)).toArray t (0, 0)) := by
  cases junk with
  | nil => simp at hn; omega
  | cons y ys =>
    refine ⟨?_, ys, by simpa using hn, ?_⟩
    · rw [cell_of_row _ _ _ _ _ _ h]
      simp
    · have := cells_setG (k := d.length) (v := .int .i64 x) h
      rw [this]
      congr 2
      apply Array.ext'
      simp
def foldD (l : LotD) (m : Nat) (d : List Int) (st : Int × List Int) (k : Nat) : Int × List Int :=
  (List.range k).foldl (fun st o => if takesL l o d.length && decide ((goneL d o : Int) < (l.orders.getD o (0, 0)).2) then dfsL l m (d ++ [(o : Int)]) st else st) (dfsL l m (d ++ [-1]) st)
theorem foldD_succ (l : LotD) (m : Nat) (d : List Int) (st : Int × List Int) (k : Nat) : foldD l m d st (k + 1) = if takesL l k d.length && decide ((goneL d k : Int) < (l.orders.getD k (0, 0)).2) then dfsL l m (d ++ [(k : Int)]) (foldD l m d st k) else foldD l m d st k := by
  unfold foldD
  rw [List.range_succ, List.foldl_append]
  rfl
theorem dfs_succ (l : LotD) (m : Nat) (d : List Int) (st : Int × List Int) : dfsL l (m + 1) d st = if (sentL d : Int) + (m + 1 : Nat) ≤ st.1 then st else foldD l m d st l.orders.length := rfl
set_option maxRecDepth 100000 in
set_option maxHeartbeats 16000000 in
theorem del_any {l : LotD} {p : PartsL} {B N : Nat} {sv : Value} {q : PlcD} {r : Nat → Nat} (hok : OkL l) (hq : q.Ok B N r) : ∀ (m : Nat) (d : List Int) (st : Int × List Int) (w : World), d.length + m = l.blocks.length → RightD l d → N ≤ w.heap.size → DelS l p B N sv q r d st w →
    Calls Try.prog 71 (#[.int .i64 (d.length : Int), .int .i64 (sentL d : Nat)] ++ capsD q) w fun e w' => e = .returned (.tuple #[]) ∧ DelS l p B N sv q r d (dfsL l m d st) w' ∧ Keeps q.Mut w w'
  | 0, d, st, w, hd, _, hN, h => by
    have := del_leaf hq (validL_parts hok.v).1 d (by omega) st w hN h
    exact this
  | m + 1, d, st, w, hd, hr, hN, h => by
    have ih := fun d' st' w' => del_any (p := p) (sv := sv) hok hq m d' st' w'
    have HIH := Lib.hid ih
    have HOK := Lib.hid hok
    have HQ := Lib.hid hq
    have H := Lib.hid h
    have HR := Lib.hid hr
    have hb6 := (validL_parts hok.v).1
    have ho4 := (validL_parts hok.v).2.1
    have hoo := (validL_parts hok.v).2.2.2.2.2.2.2
    obtain ⟨nb, hnb⟩ : ∃ n, n = l.blocks.length := ⟨_, rfl⟩
    obtain ⟨no, hno⟩ : ∃ n, n = l.orders.length := ⟨_, rfl⟩
    obtain ⟨se, hse⟩ : ∃ n, n = sentL d := ⟨_, rfl⟩
    obtain ⟨dl, hdl⟩ : ∃ n, n = d.length := ⟨_, rfl⟩
    have hsl := sent_le d
    rw [← hse, ← hdl] at hsl
    have c2 : w.cell? ⟨q.bl, 0, none⟩ = some (.slice (some ⟨q.lb, 0, none⟩) nb nb) := by rw [cell_of_row _ _ _ _ _ _ h.list, hnb]; rfl
    have c3 : w.cell? ⟨q.bm, 0, none⟩ = some (.int .i64 st.1) := by rw [cell_of_row _ _ _ _ _ _ h.most]; rfl
    rw [← hnb, ← hdl] at hd
    rw [← hnb] at hb6
    rw [← hno] at ho4
    rw [← hse, ← hdl]
    have hds := dfs_succ l m d st
    rw [← hse] at hds
    have HDS := Lib.hid hds
    have HNB := Lib.hid hnb
    have HNO := Lib.hid hno
    have HSE := Lib.hid hse
    have HDL := Lib.hid hdl
    have HOO := Lib.hid hoo
    obtain ⟨mo, ou⟩ := st
    dsimp only at c3
    have w1 : IntKind.i64.wrap ((se : Int) + (nb : Int)) = (se : Int) + (nb : Int) := IntWalk.i64_in _ (by omega)
    have w2 : IntKind.i64.wrap ((se : Int) + (nb : Int) - (dl : Int)) = (se : Int) + ((m + 1 : Nat) : Int) := by rw [IntWalk.i64_in _ (by omega)]; omega
    have w3 : IntKind.i64.wrap ((dl : Int) + 1) = ((dl + 1 : Nat) : Int) := by rw [IntWalk.i64_in _ (by omega)]; omega
    have w4 : IntKind.i64.wrap ((se : Int) + 1) = ((se + 1 : Nat) : Int) := by rw [IntWalk.i64_in _ (by omega)]; omega
    have hdn : ¬ (dl : Int) = (nb : Int) := by omega
    have hdlt : (dl : Int) < (nb : Int) := by omega
    have hd0 : 0 ≤ (dl : Int) := by omega
    clear ih hok hq h hr hnb hno hse hdl hoo hds
    unfold capsD
    go_enter Try.func71, Try.ntmps71
    refine wp_scope_straight ?_
    by_cases hm : (se : Int) + ((m + 1 : Nat) : Int) ≤ mo
    · have hbt : dfsL l (m + 1) d (mo, ou) = (mo, ou) := by rw [HDS.out, if_pos hm]
      have HBT := Lib.hid hbt
      clear hbt
      go_wp2_with fail
      try simp only [Exit.noGoto]
      refine bodyPost_ret (results_none rfl _ _ _) rfl ?_
      exact ⟨rfl, by rw [HBT.out]; exact H.out, Keeps.refl _ _⟩
    · have hbt : dfsL l (m + 1) d (mo, ou) = foldD l m d (mo, ou) no := by rw [HDS.out, if_neg hm, HNO.out]
      have HBT := Lib.hid hbt
      clear hbt
      go_upto_region 4 with fail
      obtain ⟨junk, j1, j2⟩ := H.out.arr
      obtain ⟨a0, junk', a1, a2⟩ := arr_set (by rw [← HDL.out, ← HNB.out]; omega) j1 j2 (-1)
      have fa : w.frozen? ⟨q.lb, dl, none⟩ = false := frozen_of_row _ _ _ _ _ j2
      rw [← HDL.out] at a0 a2
      have hj2lt := lt_of_block j2
      have HA := Lib.hid (And.intro a1 a2)
      clear j1 j2 a1 a2 c3
      go_upto_region 5 with fail
      obtain ⟨W1, hW1⟩ : ∃ W, W = w.setCell ⟨q.lb, dl, none⟩ (.int .i64 (-1)) := ⟨_, rfl⟩
      rw [← hW1]
      have hk1 : Keeps (fun k => k = q.lb) w W1 := by rw [hW1]; exact Keeps.setCell _ _ _ rfl
      have hlg : q.gm ≠ q.lb := ne_rank HQ.out.gm.1 HQ.out.lb.1 (by decide)
      have hD1 : DelS l p B N sv q r (d ++ [-1]) (mo, ou) W1 := by
        refine H.out.move HQ.out (hk1.mono fun k _ h => .inl h) ⟨junk', HA.out.1, by rw [hW1]; exact HA.out.2⟩ ?_
        obtain ⟨f, f1, f2⟩ := H.out.gm
        exact ⟨f, f1.of (hk1.block _ f1.lt hlg), fun o ho => by rw [gone_snoc, if_neg (by omega)]; exact f2 o ho⟩
      have hc := HIH.out (d ++ [-1]) (mo, ou) W1 (by rw [List.length_append, ← HDL.out, ← HNB.out]; simp; omega) (right_snoc HR.out) (Nat.le_trans hN hk1.size) hD1
      rw [List.length_append, List.length_singleton, ← HDL.out, sent_snoc, if_pos rfl, ← HSE.out] at hc
      have c5 : W1.cell? ⟨q.bn, 0, none⟩ = some (.func (.func 71) #[] (capsD q)) := by rw [cell_of_row _ _ _ _ _ _ hD1.on]; rfl
      unfold capsD at c5 hc
      have HC := Lib.hid hc
      have HKM1 := Lib.hid (hk1.mono (Mut' := q.Mut) fun k _ h => .inl h)
      clear hD1 hc hk1 hW1 a0 fa
      go_wp2_with fail
      refine HC.out.mono ?_
      rintro e w2 ⟨rfl, hD2, hk2⟩
      have hgone2 : ∃ f, MapI q.gm f w2 ∧ ∀ o, o < l.orders.length → (f (o : Int)).getD (.int .i64 0) = .int .i64 (goneL d (o : Int) : Nat) := by
        obtain ⟨f, f1, f2⟩ := hD2.gm
        exact ⟨f, f1, fun o ho => by rw [f2 o ho, gone_snoc, if_neg (by omega)]; rfl⟩
      have HD2 := Lib.hid (hD2.back HQ.out hgone2)
      have HK2 := Lib.hid (HKM1.out.trans hk2)
      clear hD2 hk2 hgone2 c5 HC HKM1
      dsimp only
      obtain ⟨ao, co, hvo, _, _, hel⟩ := HD2.out.S.lot.ord
      rw [← HNO.out] at hvo
      have HEL := Lib.hid hel
      have c6 : w2.cell? ⟨q.bx, 5, none⟩ = some (.slice ao no co) := by rw [cell_of_row _ _ _ _ _ _ HD2.out.lotb, ← hvo]; rfl
      clear hel hvo
      go_wp2_with fail
      refine wp_label ?_
      go_wp2_with fail
      clear c6
      go_loopw [43] (fun iv wr => ∃ i : Nat, i ≤ no ∧ iv = .int .i64 i ∧ DelS l p B N sv q r d (foldD l m d (mo, ou) i) wr ∧ Keeps q.Mut w2 wr) (fun iv _ => no - (intOf iv).toNat)
      case atStart => exact ⟨0, Nat.zero_le _, rfl, HD2.out, Keeps.refl _ _⟩
      case round =>
        obtain ⟨i, hi, rfl, hDr, hkr⟩ := hrel
        have HDR := Lib.hid hDr
        have HKR := Lib.hid hkr
        have hszr := hkr.size
        have hsz2 := HK2.out.size
        clear hDr hkr
        by_cases hlt : i < no
        · have hw : IntKind.i64.wrap ((i : Int) + 1) = ((i + 1 : Nat) : Int) := by rw [IntWalk.i64_in _ (by omega)]; omega
          have hlti : (i : Int) < (no : Int) := by omega
          have hi0 : 0 ≤ (i : Int) := by omega
          have hil : i < l.orders.length := by rw [← HNO.out]; exact hlt
          obtain ⟨eb, off, rfl, hgw, hgl, k0, k1⟩ := HEL.out i hil
          have hoi := HOO.out l.orders[i] (List.getElem_mem hil)
          have hgi : l.orders.getD i (0, 0) = l.orders[i] := by rw [List.getD_eq_getElem?_getD, List.getElem?_eq_getElem hil]; rfl
          have hri := HR.out i hil
          have hfs := foldD_succ l m d (mo, ou) i
          rw [hgi] at hri hfs
          have htk : takesL l i d.length = sureL l d.length (l.orders.getD i (0, 0)).1.toNat := rfl
          rw [hgi, ← HDL.out] at htk
          rw [← HDL.out] at hfs
          obtain ⟨⟨xg, xm⟩, hx⟩ : ∃ x, x = l.orders[i] := ⟨_, rfl⟩
          rw [← hx] at k0 k1 hoi hri hfs htk
          dsimp only at k0 k1 hoi hri hfs htk
          obtain ⟨gn, hgn⟩ : ∃ n : Nat, xg = (n : Int) := ⟨xg.toNat, by omega⟩
          subst hgn
          rw [Int.toNat_natCast] at htk
          have hgl9 : gn < l.lim.length := by omega
          have hdl9 : dl < l.blocks.length := by rw [← HNB.out]; omega
          have hebk := HKR.out.block eb hgl (HQ.out.high (HQ.out.low eb hgw))
          replace k0 := (World.cell?_of_block (w := w2) (w' := wr) (a := ⟨eb, off + i * 2, none⟩) hebk).trans k0
          replace k1 := (World.cell?_of_block (w := w2) (w' := wr) (a := ⟨eb, off + i * 2 + 1, none⟩) hebk).trans k1
          obtain ⟨go, hgo⟩ : ∃ n, n = goneL d (i : Int) := ⟨_, rfl⟩
          rw [← hgo] at hri hfs
          obtain ⟨st1, hst1⟩ : ∃ x, x = foldD l m d (mo, ou) i := ⟨_, rfl⟩
          rw [← hst1] at hfs
          have HFS := Lib.hid hfs
          have HTK := Lib.hid htk
          have HGO := Lib.hid hgo
          have hxm : (l.orders.getD i (0, 0)).2 = xm := by rw [hgi, ← hx]
          have HXM := Lib.hid hxm
          have HST1 := Lib.hid hst1
          clear hx hgw hgl hgi hebk hfs htk hgo hst1 hxm
          go_upto_region 9 with fail
          obtain ⟨W5, hW5⟩ : ∃ W, W = wr.alloc (.cells #[.int .i64 (gn : Int), .int .i64 xm] 64) := ⟨_, rfl⟩
          rw [← hW5]
          have hrow5 : W5.heap[wr.heap.size]? = some (.cells #[.int .i64 (gn : Int), .int .i64 xm] 64 (0, 0)) := by rw [hW5]; exact heap_alloc_at _ _ _ rfl
          have hb5 : Below wr.heap.size wr W5 := by rw [hW5]; exact below_allocG _ _
          have hD5 := HDR.out.later hb5
          obtain ⟨e0, e1⟩ := two_cells hrow5
          have c7 : W5.cell? ⟨q.gb, 0, none⟩ = some (.map (some q.gm)) := by rw [cell_of_row _ _ _ _ _ _ hD5.gone]; rfl
          have c8 : W5.cell? ⟨q.bs, 0, none⟩ = some (.pointer (some ⟨q.sp, 0, none⟩)) := by rw [cell_of_row _ _ _ _ _ _ hD5.shop]; rfl
          have hlk : (Instr.lookup 62 (.map (some q.gm)) (.int .i64 (i : Int)) false).run Try.prog W5 = .ok (.int .i64 (go : Nat)) W5 := by
            obtain ⟨f, f1, f2⟩ := hD5.gm
            rw [f1.get under_gone (.int .i64 0) zeroIntL (i : Int) W5 rfl, f2 i hil, HGO.out]
          have HD5 := Lib.hid hD5
          have HB5 := Lib.hid hb5
          have hs5 := hb5.size
          clear hrow5 hb5 hD5 hW5 k0 k1
          by_cases hgx : (go : Int) = xm
          · have hst : foldD l m d (mo, ou) (i + 1) = st1 := by rw [HFS.out, if_neg]; simp; omega
            have HST := Lib.hid hst
            clear hst
            go_wp2_with fail
            go_roundw
            case measure => simp [intOf]; omega
            exact ⟨i + 1, by omega, rfl, by rw [HST.out]; rw [← HST1.out] at HD5; exact HD5.out, HKR.out.trans (Keeps.of_below HB5.out (fun k h1 h2 => absurd h2 (by omega)))⟩
          · go_wp2_with fail
            clear hlk c7 c8 e0 e1
            have hgo9 : go ≤ 6 := by have := hoi.2.2.2; omega
            refine (lsure_any HOK.out dl gn hdl9 hgl9 W5 HD5.out.S).mono ?_
            rintro e w6 ⟨rfl, hS6, hk6⟩
            have HD6 := Lib.hid (HD5.out.ask HQ.out hk6 hS6.known)
            have HK6 := Lib.hid (HKR.out.trans ((Keeps.of_below (Mut := q.Mut) HB5.out (fun k h1 h2 => absurd h2 (by omega))).trans (hk6.mono (Mut' := q.Mut) fun k _ h => .inr (.inr (.inr (.inr h))))))
            have hs6 := hk6.size
            clear hS6 hk6
            rw [← HST1.out] at HD6
            dsimp only
            cases hsu : sureL l dl gn with
            | false =>
              have hst : foldD l m d (mo, ou) (i + 1) = st1 := by rw [HFS.out, HTK.out, hsu]; rfl
              have HST := Lib.hid hst
              clear hst hsu
              go_wp2_with fail
              go_roundw
              case measure => simp [intOf]; omega
              exact ⟨i + 1, by omega, rfl, by rw [HST.out]; exact HD6.out, HK6.out⟩
            | true =>
              have hst : foldD l m d (mo, ou) (i + 1) = dfsL l m (d ++ [(i : Int)]) st1 := by rw [HFS.out, HTK.out, hsu, if_pos]; simp; omega
              have HST := Lib.hid hst
              obtain ⟨junk, j1, j2⟩ := HD6.out.arr
              obtain ⟨a0, junk', a1, a2⟩ := arr_set (by rw [← HDL.out, ← HNB.out]; omega) j1 j2 (i : Int)
              have fa : w6.frozen? ⟨q.lb, dl, none⟩ = false := frozen_of_row _ _ _ _ _ j2
              rw [← HDL.out] at a0 a2
              have HA := Lib.hid (And.intro a1 a2)
              have c2 : w6.cell? ⟨q.bl, 0, none⟩ = some (.slice (some ⟨q.lb, 0, none⟩) nb nb) := by rw [cell_of_row _ _ _ _ _ _ HD6.out.list, HNB.out]; rfl
              clear hst hsu j1 j2 a1 a2
              go_upto_region 11 with fail
              clear c2
              obtain ⟨W7, hW7⟩ : ∃ W, W = w6.setCell ⟨q.lb, dl, none⟩ (.int .i64 (i : Int)) := ⟨_, rfl⟩
              rw [← hW7]
              have hk7 : Keeps (fun k => k = q.lb) w6 W7 := by rw [hW7]; exact Keeps.setCell _ _ _ rfl
              have hlg : q.gm ≠ q.lb := ne_rank HQ.out.gm.1 HQ.out.lb.1 (by decide)
              have hm7 : ∃ f, MapI q.gm f W7 ∧ ∀ o, o < l.orders.length → (f (o : Int)).getD (.int .i64 0) = .int .i64 (goneL d (o : Int) : Nat) := by
                obtain ⟨f, f1, f2⟩ := HD6.out.gm
                exact ⟨f, f1.of (hk7.block _ f1.lt hlg), f2⟩
              obtain ⟨f, f1, f2⟩ := hm7
              have hlk : (Instr.lookup 62 (.map (some q.gm)) (.int .i64 (i : Int)) false).run Try.prog W7 = .ok (.int .i64 (go : Nat)) W7 := by
                rw [f1.get under_gone (.int .i64 0) zeroIntL (i : Int) W7 rfl, f2 i hil, HGO.out]
              obtain ⟨ob, hput, f3⟩ := f1.put under_gone (i : Int) (.int .i64 ((go : Int) + 1))
              have c7 : W7.cell? ⟨q.gb, 0, none⟩ = some (.map (some q.gm)) := by rw [cell_of_row _ _ _ _ _ _ ((hk7.block _ (lt_of_block HD6.out.gone) (ne_rank HQ.out.gb.1 HQ.out.lb.1 (by decide))).trans HD6.out.gone)]; rfl
              have wgo : IntKind.i64.wrap ((go : Int) + 1) = (go : Int) + 1 := by rw [IntWalk.i64_in _ (by omega)]
              have hk8 : Keeps (fun k => k = q.lb ∨ k = q.gm) w6 (W7.putObj q.gm ob) := (hk7.mono fun k _ h => .inl h).trans (Keeps.putObj _ _ _ (.inr rfl))
              have hD8 : DelS l p B N sv q r (d ++ [(i : Int)]) st1 (W7.putObj q.gm ob) := by
                refine HD6.out.move HQ.out hk8 ⟨junk', HA.out.1, (World.putObj_heap_other hlg.symm).trans (by rw [hW7]; exact HA.out.2)⟩ ⟨_, f3, fun o ho => ?_⟩
                rw [gone_snoc]
                by_cases ho2 : (o : Int) = (i : Int)
                · rw [if_pos ho2, if_pos ho2.symm, ho2, ← HGO.out]; rfl
                · rw [if_neg ho2, if_neg (fun e => ho2 e.symm)]; exact f2 o ho
              have hsz8 : N ≤ (W7.putObj q.gm ob).heap.size := by have := hk8.size; omega
              have hright : RightD l (d ++ [(i : Int)]) := fun o ho => by
                rw [gone_snoc]
                by_cases ho2 : (i : Int) = (o : Int)
                · have : o = i := by omega
                  subst this
                  rw [if_pos rfl, ← HGO.out]
                  rw [HXM.out]
                  push_cast
                  omega
                · rw [if_neg ho2]; exact HR.out o ho
              have hc := HIH.out (d ++ [(i : Int)]) st1 (W7.putObj q.gm ob) (by rw [List.length_append, ← HDL.out, ← HNB.out]; simp; omega) hright hsz8 hD8
              rw [List.length_append, List.length_singleton, ← HDL.out, sent_snoc, if_neg (by omega), ← HSE.out] at hc
              have c5 : (W7.putObj q.gm ob).cell? ⟨q.bn, 0, none⟩ = some (.func (.func 71) #[] (capsD q)) := by rw [cell_of_row _ _ _ _ _ _ hD8.on]; rfl
              unfold capsD at c5 hc
              have HC := Lib.hid hc
              have HK8 := Lib.hid (HK6.out.trans (hk8.mono (Mut' := q.Mut) fun k _ h => h.elim .inl (fun h => .inr (.inr (.inr (.inl h))))))
              clear hc hD8 hk8 hk7 hright hW7 f1 f2 f3 a0 fa
              go_wp2_with fail
              refine HC.out.mono ?_
              rintro e w9 ⟨rfl, hD9, hk9⟩
              dsimp only
              obtain ⟨f9, f91, f92⟩ := hD9.gm
              have hgo91 : (f9 (i : Int)).getD (.int .i64 0) = .int .i64 ((go : Int) + 1) := by
                rw [f92 i hil, gone_snoc, if_pos rfl, ← HGO.out]; rfl
              have hlk9 : (Instr.lookup 62 (.map (some q.gm)) (.int .i64 (i : Int)) false).run Try.prog w9 = .ok (.int .i64 ((go : Int) + 1)) w9 := by
                rw [f91.get under_gone (.int .i64 0) zeroIntL (i : Int) w9 rfl, hgo91]
              obtain ⟨ob9, hput9, f93⟩ := f91.put under_gone (i : Int) (.int .i64 (go : Int))
              have c9 : w9.cell? ⟨q.gb, 0, none⟩ = some (.map (some q.gm)) := by rw [cell_of_row _ _ _ _ _ _ hD9.gone]; rfl
              have wgo9 : IntKind.i64.wrap ((go : Int) + 1 - 1) = (go : Int) := by rw [IntWalk.i64_in _ (by omega)]; omega
              have hkA : Keeps (fun k => k = q.lb ∨ k = q.gm) w9 (w9.putObj q.gm ob9) := Keeps.putObj _ _ _ (.inr rfl)
              have hDA : DelS l p B N sv q r d (dfsL l m (d ++ [(i : Int)]) st1) (w9.putObj q.gm ob9) := by
                obtain ⟨jk, g1, g2⟩ := hD9.arr
                refine hD9.move HQ.out hkA ⟨(i : Int) :: jk, by simpa using g1, ?_⟩ ⟨_, f93, fun o ho => ?_⟩
                · rw [World.putObj_heap_other (ne_rank HQ.out.lb.1 HQ.out.gm.1 (by decide))]
                  simpa using g2
                · by_cases ho2 : (o : Int) = (i : Int)
                  · rw [if_pos ho2, ho2, ← HGO.out]; rfl
                  · rw [if_neg ho2, f92 o ho, gone_snoc, if_neg (fun e => ho2 e.symm)]; rfl
              have HDA := Lib.hid hDA
              have HKA := Lib.hid (HK8.out.trans (hk9.trans (hkA.mono (Mut' := q.Mut) fun k _ h => h.elim .inl (fun h => .inr (.inr (.inr (.inl h)))))))
              clear hDA hkA hD9 hk9 f91 f92 f93 hgo91 hlk hput c5 c7 HC HK8
              go_wp2_with fail
              go_roundw
              case measure => simp [intOf]; omega
              exact ⟨i + 1, by omega, rfl, by rw [HST.out]; exact HDA.out, HKA.out⟩
        · have hie : i = no := by omega
          subst hie
          have hlti : ¬ (i : Int) < (i : Int) := by omega
          rw [← HBT.out] at HDR
          go_wp2_with fail
          try simp only [Exit.noGoto]
          go_end0
          exact ⟨rfl, HDR.out, HK2.out.trans HKR.out⟩
end Go.Proofs.Ytagjepclobobjaa

/- Regions in whatever order, by an invariant. Of any program. -/
namespace Go.Proofs.Ytagjepclobobjaa
set_option linter.unusedVariables false
set_option linter.unusedSimpArgs false
section
variable {P : Program} {md : Region.Mode} {ops : Array Oper} {Q : Exit → Act → World → Prop}
/-- One that may come up: what it waits for has come up. -/
theorem ready_waitsL {i j : Nat} {listed : Array Bool} (hi : i ∈ Region.ready md ops listed) (hw : Region.waitsFor md ops i j = true) : listed.getD j false = true := by
  obtain ⟨_, o, ho, hall⟩ := mem_ready.1 hi
  obtain ⟨o', ho', e, he, hb, hon⟩ := Region.waitsFor_spec hw
  have : o' = o := Option.some.inj (ho'.symm.trans ho)
  subst this
  rw [← hon]
  exact hall e he hb
/-- By an invariant: n operations, each of which keeps it, in whatever order; then the rest. -/
theorem wpAnyH_invL {S : World → Prop} {m : Nat} (Inv : Nat → Array Bool → Act → World → Prop)
    (hstep : ∀ n listed a w, Inv (n + 1) listed a w → Region.ready md ops listed ≠ [] ∧ ∀ i ∈ Region.ready md ops listed, wpOp P ops Q i (fun a' w' => S w' ∧ Inv n (listed.setIfInBounds i true) a' w') a w)
    (hbase : ∀ listed a w, Inv 0 listed a w → wpAnyH P md ops Q S m listed a w) : ∀ n listed a w, Inv n listed a w → wpAnyH P md ops Q S (m + n) listed a w
  | 0, listed, a, w, h => hbase listed a w h
  | n + 1, listed, a, w, h => by
    obtain ⟨h1, h2⟩ := hstep n listed a w h
    exact ⟨fun h0 => absurd h0 h1, fun i hi => wpOp_mono (fun a' w' h' => ⟨h'.1, wpAnyH_invL Inv hstep hbase n _ a' w' h'.2⟩) (h2 i hi)⟩
end
end Go.Proofs.Ytagjepclobobjaa

/- Package lot: Deliver. -/
namespace Go.Proofs.Ytagjepclobobjaa
set_option linter.unusedVariables false
set_option linter.unusedSimpArgs false
open Go.RowKit Go.Shelf
attribute [local go_sem] Oper.semAt_some

def upF {α : Type} (f : Nat → α) (k : Nat) (v : α) : Nat → α := fun j => if j = k then v else f j
def rk3 : Nat → Nat
  | 3 => 1
  | 4 => 7
  | 5 => 2
  | 6 => 0
  | _ => 6
def ob3 (cur : Array Value) (nb : Nat) (g : Nat → Bool) (s : Nat → Nat) : Nat → Obj
  | 3 => .cells cur 3 (0, 0)
  | 4 => .map #[] 0
  | 5 => .cells #[.int .i64 (if g 8 then -1 else 0)] 3 (0, 0)
  | 6 => .cells #[if g 9 then .slice (some ⟨s 3, 0, none⟩) nb nb else .slice none 0 0] 29 (0, 0)
  | _ => .cells #[.map none] 62 (0, 0)
theorem ob3_5 (cur : Array Value) (nb : Nat) (g : Nat → Bool) (s : Nat → Nat) : ob3 cur nb g s 5 = .cells #[.int .i64 (if g 8 then -1 else 0)] 3 (0, 0) := rfl
theorem ob3_6 (cur : Array Value) (nb : Nat) (g : Nat → Bool) (s : Nat → Nat) : ob3 cur nb g s 6 = .cells #[if g 9 then .slice (some ⟨s 3, 0, none⟩) nb nb else .slice none 0 0] 29 (0, 0) := rfl
/-- What stands where, while they come up in whatever order. -/
structure St3 (w : World) (r0 : Nat → Nat) (nb : Nat) (cur : Array Value) (g : Nat → Bool) (s : Nat → Nat) (r : Nat → Nat) (W : World) : Prop where
  bl : Below w.heap.size w W
  old : ∀ k, k < w.heap.size → r k = r0 k
  at_ : ∀ k, 3 ≤ k → k ≤ 7 → g k = true → r (s k) = rk3 k ∧ w.heap.size ≤ s k ∧ W.heap[s k]? = some (ob3 cur nb g s k)
  w8 : g 8 = true → g 5 = true ∧ g 6 = true ∧ g 7 = true
  w9 : g 9 = true → g 3 = true ∧ g 8 = true
theorem upF_same {α : Type} (f : Nat → α) (k : Nat) (v : α) : upF f k v k = v := if_pos rfl
theorem upF_other {α : Type} (f : Nat → α) {k j : Nat} (v : α) (h : j ≠ k) : upF f k v j = f j := if_neg h
theorem St3.alloc {w : World} {r0 : Nat → Nat} {nb : Nat} {cur : Array Value} {g : Nat → Bool} {s r : Nat → Nat} {W : World} (h : St3 w r0 nb cur g s r W) (k : Nat) (h3 : 3 ≤ k) (h7 : k ≤ 7) (hg : g k = false) :
    St3 w r0 nb cur (upF g k true) (upF s k W.heap.size) (upF r W.heap.size (rk3 k)) (W.alloc (ob3 cur nb (upF g k true) (upF s k W.heap.size) k)) := by
  have g8 : upF g k true 8 = g 8 := upF_other _ _ (by omega)
  have g9 : upF g k true 9 = g 9 := upF_other _ _ (by omega)
  refine ⟨h.bl.alloc h.bl.size _, fun j hj => ?_, fun j j3 j7 hj => ?_, fun h8 => ?_, fun h9 => ?_⟩
  · rw [upF_other _ _ (by have := h.bl.size; omega)]; exact h.old j hj
  · by_cases hjk : j = k
    · subst hjk
      rw [upF_same, upF_same]
      exact ⟨rfl, h.bl.size, heap_alloc_at _ _ _ rfl⟩
    · rw [upF_other _ _ hjk] at hj
      obtain ⟨a1, a2, a3⟩ := h.at_ j j3 j7 hj
      have hlt := lt_of_block a3
      rw [upF_other _ _ hjk, upF_other _ _ (by omega)]
      refine ⟨a1, a2, (hget_old _ _ _ (by omega)).trans (a3.trans ?_)⟩
      congr 1
      rcases (show j = 3 ∨ j = 4 ∨ j = 5 ∨ j = 6 ∨ j = 7 by omega) with rfl | rfl | rfl | rfl | rfl
      · rfl
      · rfl
      · rw [ob3_5, ob3_5, g8]
      · rw [ob3_6, ob3_6, g9]
        cases h9 : g 9 with
        | false => rfl
        | true =>
          have := (h.w9 h9).1
          rw [upF_other _ _ (show 3 ≠ k from ?_)]
          intro e
          rw [← e] at hg
          rw [hg] at this
          cases this
      · rfl
  · rw [g8] at h8
    obtain ⟨a, b, c⟩ := h.w8 h8
    refine ⟨?_, ?_, ?_⟩ <;> (unfold upF; split <;> first | rfl | assumption)
  · rw [g9] at h9
    obtain ⟨a, b⟩ := h.w9 h9
    refine ⟨?_, ?_⟩ <;> (unfold upF; split <;> first | rfl | assumption)
theorem rk3_inj {j k : Nat} (h1 : 3 ≤ j) (h2 : j ≤ 7) (h3 : 3 ≤ k) (h4 : k ≤ 7) (h : rk3 j = rk3 k) : j = k := by
  rcases (show j = 3 ∨ j = 4 ∨ j = 5 ∨ j = 6 ∨ j = 7 by omega) with rfl | rfl | rfl | rfl | rfl <;> rcases (show k = 3 ∨ k = 4 ∨ k = 5 ∨ k = 6 ∨ k = 7 by omega) with rfl | rfl | rfl | rfl | rfl <;> first | rfl | cases h
theorem St3.store {w : World} {r0 : Nat → Nat} {nb : Nat} {cur : Array Value} {g : Nat → Bool} {s r : Nat → Nat} {W : World} (h : St3 w r0 nb cur g s r W) (k i : Nat) (h3 : 3 ≤ k) (h7 : k ≤ 7) (hg : g k = true) (x y : Value) (t : TypeId) (hx : ob3 cur nb g s k = .cells #[x] t (0, 0)) (hy : ob3 cur nb (upF g i true) s k = .cells #[y] t (0, 0)) (hi : 8 ≤ i)
    (ho : ∀ j, 3 ≤ j → j ≤ 7 → j ≠ k → ob3 cur nb (upF g i true) s j = ob3 cur nb g s j) (h8 : upF g i true 8 = true → g 5 = true ∧ g 6 = true ∧ g 7 = true) (h9 : upF g i true 9 = true → g 3 = true ∧ upF g i true 8 = true) :
    W.cell? ⟨s k, 0, none⟩ = some x ∧ W.frozen? ⟨s k, 0, none⟩ = false ∧ St3 w r0 nb cur (upF g i true) s r (W.setCell ⟨s k, 0, none⟩ y) := by
  have hlo : ∀ j, j ≤ 7 → upF g i true j = g j := fun j hj => upF_other _ _ (by omega)
  obtain ⟨b1, b2, b3⟩ := h.at_ k h3 h7 hg
  rw [hx] at b3
  refine ⟨by rw [cell_of_row _ _ _ _ _ _ b3]; rfl, frozen_of_row _ _ _ _ _ b3, ?_⟩
  refine ⟨h.bl.setCell b2 _, h.old, fun j j3 j7 hj => ?_, fun q => ?_, fun q => ?_⟩
  · rw [hlo j j7] at hj
    obtain ⟨a1, a2, a3⟩ := h.at_ j j3 j7 hj
    refine ⟨a1, a2, ?_⟩
    by_cases hjk : j = k
    · subst hjk
      rw [hy]
      exact one_setG b3
    · rw [ho j j3 j7 hjk, ← a3]
      refine other_setG _ _ _ _ (fun e => hjk ?_)
      have e : s j = s k := e
      refine rk3_inj j3 j7 h3 h7 ?_
      rw [← a1, ← b1, e]
  · rw [hlo 5 (by decide), hlo 6 (by decide), hlo 7 (by decide)]; exact h8 q
  · rw [hlo 3 (by decide)]; exact h9 q
theorem nums_and {w : World} {v : Value} {l : List Int} {Rd : Nat → Prop} (h : NumsAt w v l Rd) : NumsAt w v l (fun k => Rd k ∧ k < w.heap.size) := by
  obtain ⟨a, b, c, d, e, f⟩ := h
  refine ⟨a, b, c, d, e, fun i hi => ?_⟩
  obtain ⟨g1, g2, g3, g4, g5, g6⟩ := f i hi
  exact ⟨g1, g2, g3, ⟨g4, g5⟩, g5, g6⟩
def uV (b : Bool) (v : Value) : Value := if b then v else undef
def uA (b : Bool) (s : Nat) : Value := uV b (.pointer (some ⟨s, 0, none⟩))
def cL (g : Bool) : Nat := if g then 0 else 1
def fr20 (x0 x1 x4 x5 x11 x13 x14 x15 x16 v6 v7 v8 v17 v18 : Value) : Array Value := #[x0, x1, .int .i64 0, .slice none 0 0, x4, x5, v6, v7, v8, undef, undef, x11, x0, x13, x14, x15, x16, v17, v18, undef, undef, undef, undef, undef]
def Inv20 (w : World) (r0 : Nat → Nat) (nb : Nat) (cur : Array Value) (y0 y1 : Value) (T : Value → Value → Value → Value → Value → Value → Value → Value → Act) (n : Nat) (listed : Array Bool) (a : Act) (W : World) : Prop :=
  ∃ (g : Nat → Bool) (s r : Nat → Nat), cL (g 0) + cL (g 1) + cL (g 2) + cL (g 3) + cL (g 4) + cL (g 5) + cL (g 6) + cL (g 7) + cL (g 8) + cL (g 9) = n ∧ listed = #[g 0, g 1, g 2, g 3, g 4, g 5, g 6, g 7, g 8, g 9, true] ∧
    a = T (uV (g 0) y0) (uV (g 1) y1) (uV (g 2) (.int .i64 (nb : Int))) (uA (g 5) (s 5)) (uA (g 6) (s 6)) (uA (g 7) (s 7)) (uV (g 3) (.slice (some ⟨s 3, 0, none⟩) nb nb)) (uV (g 4) (.map (some (s 4)))) ∧ St3 w r0 nb cur g s r W
theorem St3.pure {w : World} {r0 : Nat → Nat} {nb : Nat} {cur : Array Value} {g : Nat → Bool} {s r : Nat → Nat} {W : World} (h : St3 w r0 nb cur g s r W) (i : Nat) (hi : i ≤ 2) : St3 w r0 nb cur (upF g i true) s r W := by
  have hup : ∀ j, 3 ≤ j → upF g i true j = g j := fun j hj => upF_other _ _ (by omega)
  refine ⟨h.bl, h.old, fun j j3 j7 hj => ?_, ?_, ?_⟩
  · rw [hup j j3] at hj
    obtain ⟨a1, a2, a3⟩ := h.at_ j j3 j7 hj
    refine ⟨a1, a2, a3.trans ?_⟩
    congr 1
    rcases (show j = 3 ∨ j = 4 ∨ j = 5 ∨ j = 6 ∨ j = 7 by omega) with rfl | rfl | rfl | rfl | rfl
    · rfl
    · rfl
    · rw [ob3_5, ob3_5, hup 8 (by decide)]
    · rw [ob3_6, ob3_6, hup 9 (by decide)]
    · rfl
  · rw [hup 8 (by decide), hup 5 (by decide), hup 6 (by decide), hup 7 (by decide)]; exact h.w8
  · rw [hup 9 (by decide), hup 3 (by decide), hup 8 (by decide)]; exact h.w9
set_option maxRecDepth 100000 in
set_option maxHeartbeats 16000000 in
theorem lDeliver_any (l : LotD) (p : PartsL) (w : World) (hlot : LotAt l p (fun k => k < w.heap.size) w) (h9 : Small9 l) :
    Calls Try.prog 28 #[lotV l p] w fun e w' => Below w.heap.size w w' ∧ ∃ v, e = .returned (.tuple #[.int .i64 (deliverD l).1, v, .int .i64 (deliverD l).2.2]) ∧ NumsAt w' v (deliverD l).2.1 (fun k => w.heap.size ≤ k) := by
  obtain ⟨al, cl, hvl, _⟩ := id hlot.lim
  obtain ⟨ab, cb, hvb, _⟩ := id hlot.blk
  obtain ⟨ap, cp, hvp, _⟩ := id hlot.pay
  obtain ⟨ao, co, hvo, _⟩ := id hlot.ord
  obtain ⟨nl, hnl⟩ : ∃ n, n = l.lim.length := ⟨_, rfl⟩
  obtain ⟨nb, hnb⟩ : ∃ n, n = l.blocks.length := ⟨_, rfl⟩
  obtain ⟨np, hnp⟩ : ∃ n, n = l.pays.length := ⟨_, rfl⟩
  obtain ⟨no, hno⟩ : ∃ n, n = l.orders.length := ⟨_, rfl⟩
  rw [← hnl] at hvl
  rw [← hnb] at hvb
  rw [← hnp] at hvp
  rw [← hno] at hvo
  have HVL := Lib.hid (And.intro hvl (And.intro hvb (And.intro hvp hvo)))
  have HNL := Lib.hid hnl
  have HNB := Lib.hid hnb
  have HNP := Lib.hid hnp
  have HNO := Lib.hid hno
  have HLOT := Lib.hid hlot
  clear hvl hvb hvp hvo hnl hnb hnp hno hlot
  have hmf : ∀ fn first cap w, (Instr.makeFunc fn first cap).run Try.prog w = .ok (.func fn first cap) w := fun _ _ _ _ => rfl
  obtain ⟨W0, hW0⟩ : ∃ W0, W0 = (w.alloc (.cells (lotC l p).toArray 32)).alloc (.cells #[.int .i64 0] 24) := ⟨_, rfl⟩
  have y0 : W0.heap[w.heap.size]? = some (lotO l p) := by rw [hW0]; unfold lotO; exact (by repeat (first | (refine heap_alloc_at _ _ _ ?_; (simp <;> omega); done) | (refine (hget_old _ _ _ ?_).trans ?_; · (simp <;> omega))))
  have y1 : W0.heap[w.heap.size + 1]? = some (.cells #[.int .i64 0] 24 (0, 0)) := by rw [hW0]; exact (by repeat (first | (refine heap_alloc_at _ _ _ ?_; (simp <;> omega); done) | (refine (hget_old _ _ _ ?_).trans ?_; · (simp <;> omega))))
  have hs0 : W0.heap.size = w.heap.size + (1 + 1) := by rw [hW0]; simp
  have H0 := Lib.hid y0
  have H1 := Lib.hid y1
  have HS0 := Lib.hid hs0
  clear y0 y1 hs0
  have HB := Lib.hid (show Below w.heap.size w W0 by rw [hW0]; exact (below_allocG _ _).alloc (by simp) _)
  unfold lotV
  go_enter_defers Try.func28, Try.ntmps28
  go_upto_region 2 with fail
  rw [← hW0]
  clear hW0
  go_wp2_with (first | (refine wpList_load_row rfl 32 _ rfl w.heap.size rfl 32 (lotC l p).toArray (0, 0) _ H0.out underLot rfl sizeLot ?_))
  refine (lopen_always l p [] (.slice none 0 0) W0 (HLOT.out.later HB.out.size (fun k h1 h2 => HB.out.block k h2)).low (EntsAt.nil _ _) (by decide) h9).mono ?_
  rintro e w3 ⟨hb3, ⟨he, sp, mk, ml, sv, rfl, hS⟩ | ⟨hne, rfl⟩⟩
  rotate_left
  · refine leaf_stop_lDeliver _ (w.heap.size + 1) 0 _ w3 ((hb3.block _ (lt_of_block H1.out)).trans H1.out) (fun W' hk he9 => ?_)
    have e0 : W'.cell? ⟨w.heap.size + 1, 0, none⟩ = some (.int .i64 (errL l [] true)) := by rw [cell_of_row _ _ _ _ _ _ he9]; rfl
    refine ⟨.tuple #[.int .i64 0, .slice none 0 0, .int .i64 (errL l [] true)], by simp [results, Try.results28, go_sem, e0], (HB.out.trans (hb3.mono HB.out.size)).trans (hk.below (by have := hb3.size; have := HB.out.size; omega) (fun k h e => by omega)), .slice none 0 0, ?_, ?_⟩
    · unfold deliverD; dsimp only; rw [if_neg hne]
    · have : (deliverD l).2.1 = [] := by unfold deliverD; dsimp only; rw [if_neg hne]
      rw [this]
      exact ⟨none, 0, rfl, Nat.le_refl _, by decide, fun i h => by simp at h⟩
  · have hoK := OkL.of he
    have hvp := validL_parts hoK.v
    have HOK := Lib.hid hoK
    have HE := Lib.hid he
    have HS := Lib.hid hS
    have HB3 := Lib.hid hb3
    have hsz0 := HS0.out
    have hsz3 := hb3.size
    clear he hoK hvp hS hb3
    dsimp only
    go_wp2_with fail
    obtain ⟨W4, hW4⟩ : ∃ W, W = w3.alloc (.cells #[.pointer (some ⟨sp, 0, none⟩)] 76) := ⟨_, rfl⟩
    rw [← hW4]
    have hb4 : Below w3.heap.size w3 W4 := by rw [hW4]; exact below_allocG _ _
    have hshop4 : W4.heap[w3.heap.size]? = some (.cells #[.pointer (some ⟨sp, 0, none⟩)] 76 (0, 0)) := by rw [hW4]; exact heap_alloc_at _ _ _ rfl
    have hs4 : W4.heap.size = w3.heap.size + 1 := by rw [hW4]; simp
    have hx4 : W4.heap[w.heap.size]? = some (lotO l p) := (hb4.block _ (by omega)).trans ((HB3.out.block _ (lt_of_block H0.out)).trans H0.out)
    have HS4 := Lib.hid (HS.out.later hb4)
    have HSH := Lib.hid hshop4
    have HB4 := Lib.hid hb4
    have HX4 := Lib.hid hx4
    have hnb6 : nb ≤ 6 := by rw [HNB.out]; exact (validL_parts HOK.out.v).1
    clear hb4 hshop4 hW4
    obtain ⟨cur0, hcur0⟩ : ∃ c, c = madeCells #[.int .i64 0] (nb * 1) := ⟨_, rfl⟩
    have hmk : ∀ W : World, (Instr.makeSlice 29 (.int .i64 nb) (.int .i64 nb)).run Try.prog W = .ok (.slice (some ⟨W.heap.size, 0, none⟩) nb nb) (W.alloc (.cells cur0 3)) := fun W => by
      obtain ⟨i0, hi0, hz0, hz1, hz2⟩ := info_parts infoInt
      have := run_makeSlice (P := Try.prog) (w := W) 29 3 i0 _ underInts hi0 hz0 .i64 .i64 nb nb (by omega) (by omega) (by rw [hz1]; simp; omega) (by rw [hz2]; omega) (by omega)
      rw [hz1] at this
      rw [hcur0]
      simpa [Value.cells] using this
    have hmm := @run_makeMap Try.prog
    have HMK := Lib.hid hmk
    have HCUR := Lib.hid hcur0
    clear hmk hcur0
    obtain ⟨r0, hr0⟩ : ∃ r : Nat → Nat, r = fun k => if k = w.heap.size then 5 else if k = w3.heap.size then 8 else if k = sp then 9 else if k = mk then 10 else if k = ml then 11 else 12 := ⟨_, rfl⟩
    have HR0 := Lib.hid hr0
    clear hr0
    refine wp_region_tail 10 #[false, false, false, false, false, false, false, false, false, false, true] (fun W => W.heap[w.heap.size]? = some (lotO l p)) (by kernel_rfl) (by kernel_rfl) (by rfl) hx4 fun hS0 => ?_
    refine wpAnyH_invL (m := 0) (Inv20 W4.drew r0 nb cur0 (.pointer (some ⟨w.heap.size, 2, none⟩)) (.slice ab nb cb) (fun v14 v15 v16 v6 v7 v8 v17 v18 => ⟨fr20 (.agg (lotC l p).toArray) (.pointer (some ⟨w.heap.size, 0, none⟩)) (.pointer (some ⟨w.heap.size + 1, 0, none⟩)) (.pointer (some ⟨w3.heap.size, 0, none⟩)) (.func (.func 70) #[] #[.pointer (some ⟨w.heap.size + 1, 0, none⟩)]) (.pointer (some ⟨sp, 0, none⟩)) v14 v15 v16 v6 v7 v8 v17 v18, [{ target := .fn (.func 70) #[.pointer (some ⟨w.heap.size + 1, 0, none⟩)], args := #[] }]⟩)) ?_ ?_ 10 _ _ _ ?_
    · rintro n listed a W' ⟨g, s, r, hn, rfl, rfl, hst⟩
      have hSS : W'.heap[w.heap.size]? = some (lotO l p) := (hst.bl.block _ (lt_of_block hx4)).trans hx4
      refine ⟨fun h0 => ?_, fun i hi => ?_⟩
      · have hal := fun j hj => all_listed (md := .any) (n := 10) (by kernel_rfl) rfl (fun j _ hm => by rw [h0] at hm; cases hm) j hj
        have e0 : g 0 = true := hal 0 (by decide)
        have e1 : g 1 = true := hal 1 (by decide)
        have e2 : g 2 = true := hal 2 (by decide)
        have e3 : g 3 = true := hal 3 (by decide)
        have e4 : g 4 = true := hal 4 (by decide)
        have e5 : g 5 = true := hal 5 (by decide)
        have e6 : g 6 = true := hal 6 (by decide)
        have e7 : g 7 = true := hal 7 (by decide)
        have e8 : g 8 = true := hal 8 (by decide)
        have e9 : g 9 = true := hal 9 (by decide)
        rw [e0, e1, e2, e3, e4, e5, e6, e7, e8, e9] at hn
        cases hn
      have c0 : W'.cell? ⟨w.heap.size, 2, none⟩ = some (.slice ab nb cb) := by rw [cell_of_row _ _ _ _ _ _ hSS]; rw [← HVL.out.2.1]; rfl
      obtain ⟨h1, o, h2, h3⟩ := mem_ready.1 hi
      have hi11 : i < 11 := (Array.getElem?_eq_some_iff.1 h2).1
      clear h2 h3 o
      rcases (show i = 0 ∨ i = 1 ∨ i = 2 ∨ i = 3 ∨ i = 4 ∨ i = 5 ∨ i = 6 ∨ i = 7 ∨ i = 8 ∨ i = 9 ∨ i = 10 by omega) with rfl | rfl | rfl | rfl | rfl | rfl | rfl | rfl | rfl | rfl | rfl
      · have hw : True := trivial
        have hg : g 0 = false := h1
        refine wpOp_value (v := .pointer (some ⟨w.heap.size, 2, none⟩)) (w' := W') rfl rfl (by simp [execOp, go_sem, Act.eval, fr20, uV, hw, c0]) ⟨hSS, upF g 0 true, s, r, ?_, rfl, rfl, hst.pure 0 (by decide)⟩
        rw [hg] at hn
        have : cL true = 0 := rfl
        have : cL false = 1 := rfl
        simp only [upF, if_true] at hn ⊢
        simp at hn ⊢
        omega
      · have hw : g 0 = true := ready_waitsL hi (j := 0) (by kernel_rfl)
        have hg : g 1 = false := h1
        refine wpOp_value (v := .slice ab nb cb) (w' := W') rfl rfl (by simp [execOp, go_sem, Act.eval, fr20, uV, hw, c0]) ⟨hSS, upF g 1 true, s, r, ?_, rfl, rfl, hst.pure 1 (by decide)⟩
        rw [hg] at hn
        have : cL true = 0 := rfl
        have : cL false = 1 := rfl
        simp only [upF, if_true] at hn ⊢
        simp at hn ⊢
        omega
      · have hw : g 1 = true := ready_waitsL hi (j := 1) (by kernel_rfl)
        have hg : g 2 = false := h1
        refine wpOp_value (v := .int .i64 (nb : Int)) (w' := W') rfl rfl (by simp [execOp, go_sem, Act.eval, fr20, uV, hw, c0]) ⟨hSS, upF g 2 true, s, r, ?_, rfl, rfl, hst.pure 2 (by decide)⟩
        rw [hg] at hn
        have : cL true = 0 := rfl
        have : cL false = 1 := rfl
        simp only [upF, if_true] at hn ⊢
        simp at hn ⊢
        omega
      · have hw : g 2 = true := ready_waitsL hi (j := 2) (by kernel_rfl)
        have hg : g 3 = false := h1
        refine wpOp_value (v := .slice (some ⟨W'.heap.size, 0, none⟩) nb nb) (w' := W'.alloc (.cells cur0 3)) rfl rfl (by simp [execOp, go_sem, Act.eval, fr20, uV, hw, HMK.out, hmm]) ⟨(hget_old _ _ _ (by have := lt_of_block hSS; omega)).trans hSS, upF g 3 true, upF s 3 W'.heap.size, upF r W'.heap.size (rk3 3), ?_, rfl, rfl, ?_⟩
        · skip
          rw [hg] at hn
          have : cL true = 0 := rfl
          have : cL false = 1 := rfl
          simp only [upF, if_true] at hn ⊢
          simp at hn ⊢
          omega
        · exact hst.alloc 3 (by decide) (by decide) hg
      · have hw : True := trivial
        have hg : g 4 = false := h1
        refine wpOp_value (v := .map (some W'.heap.size)) (w' := W'.alloc (.map #[] 0)) rfl rfl (by simp [execOp, go_sem, Act.eval, fr20, uV, hw, HMK.out, hmm]) ⟨(hget_old _ _ _ (by have := lt_of_block hSS; omega)).trans hSS, upF g 4 true, upF s 4 W'.heap.size, upF r W'.heap.size (rk3 4), ?_, rfl, rfl, ?_⟩
        · skip
          rw [hg] at hn
          have : cL true = 0 := rfl
          have : cL false = 1 := rfl
          simp only [upF, if_true] at hn ⊢
          simp at hn ⊢
          omega
        · exact hst.alloc 4 (by decide) (by decide) hg
      · have hw : True := trivial
        have h8 : g 8 = false := by
          cases h : g 8 with
          | false => rfl
          | true => have := (hst.w8 h).1; rw [show g 5 = false from h1] at this; cases this
        have hob : ob3 cur0 nb (upF g 5 true) (upF s 5 W'.heap.size) 5 = .cells #[.int .i64 0] 3 (0, 0) := by rw [ob3_5, upF_other _ _ (by decide), h8]; rfl
        have hal := hst.alloc 5 (by decide) (by decide) h1
        rw [hob] at hal
        replace hst := hal
        have hg : g 5 = false := h1
        refine wpOp_value (v := .pointer (some ⟨W'.heap.size, 0, none⟩)) (w' := W'.alloc (.cells #[.int .i64 0] 3)) rfl rfl (by simp [execOp, go_sem, Act.eval, fr20]) ⟨(hget_old _ _ _ (by have := lt_of_block hSS; omega)).trans hSS, upF g 5 true, upF s 5 W'.heap.size, upF r W'.heap.size (rk3 5), ?_, rfl, rfl, hal⟩
        rw [hg] at hn
        have : cL true = 0 := rfl
        have : cL false = 1 := rfl
        simp only [upF, if_true] at hn ⊢
        simp at hn ⊢
        omega
      · have h8 : g 9 = false := by
          cases h : g 9 with
          | false => rfl
          | true => have := (hst.w8 (hst.w9 h).2).2.1; rw [show g 6 = false from h1] at this; cases this
        have hob : ob3 cur0 nb (upF g 6 true) (upF s 6 W'.heap.size) 6 = .cells #[.slice none 0 0] 29 (0, 0) := by rw [ob3_6, upF_other _ _ (by decide), h8]; rfl
        have hal := hst.alloc 6 (by decide) (by decide) h1
        rw [hob] at hal
        have hg : g 6 = false := h1
        refine wpOp_value (v := .pointer (some ⟨W'.heap.size, 0, none⟩)) (w' := W'.alloc (.cells #[.slice none 0 0] 29)) rfl rfl (by simp [execOp, go_sem, Act.eval, fr20]) ⟨(hget_old _ _ _ (by have := lt_of_block hSS; omega)).trans hSS, upF g 6 true, upF s 6 W'.heap.size, upF r W'.heap.size (rk3 6), ?_, rfl, rfl, hal⟩
        rw [hg] at hn
        have : cL true = 0 := rfl
        have : cL false = 1 := rfl
        simp only [upF, if_true] at hn ⊢
        simp at hn ⊢
        omega
      · have hw : True := trivial
        have hg : g 7 = false := h1
        refine wpOp_value (v := .pointer (some ⟨W'.heap.size, 0, none⟩)) (w' := W'.alloc (.cells #[.map none] 62)) rfl rfl (by simp [execOp, go_sem, Act.eval, fr20, uV, hw, HMK.out, hmm]) ⟨(hget_old _ _ _ (by have := lt_of_block hSS; omega)).trans hSS, upF g 7 true, upF s 7 W'.heap.size, upF r W'.heap.size (rk3 7), ?_, rfl, rfl, ?_⟩
        · skip
          rw [hg] at hn
          have : cL true = 0 := rfl
          have : cL false = 1 := rfl
          simp only [upF, if_true] at hn ⊢
          simp at hn ⊢
          omega
        · exact hst.alloc 7 (by decide) (by decide) hg
      · have hw : g 5 = true := ready_waitsL hi (j := 5) (by kernel_rfl)
        have hw2 : g 6 = true := ready_waitsL hi (j := 6) (by kernel_rfl)
        have hw3 : g 7 = true := ready_waitsL hi (j := 7) (by kernel_rfl)
        have ho1 : ∀ j, 3 ≤ j → j ≤ 7 → j ≠ 5 → ob3 cur0 nb (upF g 8 true) s j = ob3 cur0 nb g s j := by
          intro j j3 j7 hj
          rcases (show j = 3 ∨ j = 4 ∨ j = 6 ∨ j = 7 by omega) with rfl | rfl | rfl | rfl
          · rfl
          · rfl
          · rw [ob3_6, ob3_6, upF_other _ _ (by decide)]
          · rfl
        have ho2 : upF g 8 true 8 = true → g 5 = true ∧ g 6 = true ∧ g 7 = true := fun _ => ⟨hw, hw2, hw3⟩
        have ho3 : upF g 8 true 9 = true → g 3 = true ∧ upF g 8 true 8 = true := by rw [upF_other _ _ (by decide), upF_same]; exact fun h => ⟨(hst.w9 h).1, rfl⟩
        have hg : g 8 = false := h1
        obtain ⟨e0, f0, hst2⟩ := hst.store 5 8 (by decide) (by decide) hw (.int .i64 0) (.int .i64 (-1)) 3 (by rw [ob3_5, hg]; rfl) (by rw [ob3_5, upF_same]; rfl) (by decide) ho1 ho2 ho3
        refine wpOp_skipL (w' := W'.setCell ⟨s 5, 0, none⟩ (.int .i64 (-1))) rfl rfl (by simp [execOp, go_sem, Act.eval, fr20, uA, uV, hw, hw2, e0, f0]) ⟨(other_setG _ _ _ _ (by have := (hst.at_ 5 (by decide) (by decide) hw).2.1; have := lt_of_block hx4; show w.heap.size ≠ s 5; simp at *; omega)).trans hSS, upF g 8 true, s, r, ?_, rfl, rfl, hst2⟩
        · skip
          rw [hg] at hn
          have : cL true = 0 := rfl
          have : cL false = 1 := rfl
          simp only [upF, if_true] at hn ⊢
          simp at hn ⊢
          omega
      · have hw : g 6 = true := ready_waitsL hi (j := 6) (by kernel_rfl)
        have hw2 : g 3 = true := ready_waitsL hi (j := 3) (by kernel_rfl)
        have hw3 : g 8 = true := ready_waitsL hi (j := 8) (by kernel_rfl)
        have ho1 : ∀ j, 3 ≤ j → j ≤ 7 → j ≠ 6 → ob3 cur0 nb (upF g 9 true) s j = ob3 cur0 nb g s j := by
          intro j j3 j7 hj
          rcases (show j = 3 ∨ j = 4 ∨ j = 5 ∨ j = 7 by omega) with rfl | rfl | rfl | rfl
          · rfl
          · rfl
          · rw [ob3_5, ob3_5, upF_other _ _ (by decide)]
          · rfl
        have ho2 : upF g 9 true 8 = true → g 5 = true ∧ g 6 = true ∧ g 7 = true := by rw [upF_other _ _ (by decide)]; exact hst.w8
        have ho3 : upF g 9 true 9 = true → g 3 = true ∧ upF g 9 true 8 = true := by rw [upF_other _ _ (show 8 ≠ 9 by decide)]; exact fun _ => ⟨hw2, hw3⟩
        have hg : g 9 = false := h1
        obtain ⟨e0, f0, hst2⟩ := hst.store 6 9 (by decide) (by decide) hw (.slice none 0 0) (.slice (some ⟨s 3, 0, none⟩) nb nb) 29 (by rw [ob3_6, hg]; rfl) (by rw [ob3_6, upF_same]; rfl) (by decide) ho1 ho2 ho3
        refine wpOp_skipL (w' := W'.setCell ⟨s 6, 0, none⟩ (.slice (some ⟨s 3, 0, none⟩) nb nb)) rfl rfl (by simp [execOp, go_sem, Act.eval, fr20, uA, uV, hw, hw2, e0, f0]) ⟨(other_setG _ _ _ _ (by have := (hst.at_ 6 (by decide) (by decide) hw).2.1; have := lt_of_block hx4; show w.heap.size ≠ s 6; simp at *; omega)).trans hSS, upF g 9 true, s, r, ?_, rfl, rfl, hst2⟩
        · skip
          rw [hg] at hn
          have : cL true = 0 := rfl
          have : cL false = 1 := rfl
          simp only [upF, if_true] at hn ⊢
          simp at hn ⊢
          omega
      all_goals cases h1
    · rintro listed a W' ⟨g, s, r, hn, rfl, rfl, hst⟩
      have c0 : cL false = 1 := rfl
      have e0 : g 0 = true := by cases h : g 0 <;> first | rfl | (rw [h] at hn; exfalso; omega)
      have e1 : g 1 = true := by cases h : g 1 <;> first | rfl | (rw [h] at hn; exfalso; omega)
      have e2 : g 2 = true := by cases h : g 2 <;> first | rfl | (rw [h] at hn; exfalso; omega)
      have e3 : g 3 = true := by cases h : g 3 <;> first | rfl | (rw [h] at hn; exfalso; omega)
      have e4 : g 4 = true := by cases h : g 4 <;> first | rfl | (rw [h] at hn; exfalso; omega)
      have e5 : g 5 = true := by cases h : g 5 <;> first | rfl | (rw [h] at hn; exfalso; omega)
      have e6 : g 6 = true := by cases h : g 6 <;> first | rfl | (rw [h] at hn; exfalso; omega)
      have e7 : g 7 = true := by cases h : g 7 <;> first | rfl | (rw [h] at hn; exfalso; omega)
      have e8 : g 8 = true := by cases h : g 8 <;> first | rfl | (rw [h] at hn; exfalso; omega)
      have e9 : g 9 = true := by cases h : g 9 <;> first | rfl | (rw [h] at hn; exfalso; omega)
      rw [e0, e1, e2, e3, e4, e5, e6, e7, e8, e9]
      have x3 := hst.at_ 3 (by decide) (by decide) e3
      have x4 := hst.at_ 4 (by decide) (by decide) e4
      have x5 := hst.at_ 5 (by decide) (by decide) e5
      have x6 := hst.at_ 6 (by decide) (by decide) e6
      have x7 := hst.at_ 7 (by decide) (by decide) e7
      rw [ob3_5, e8] at x5
      rw [ob3_6, e9] at x6
      have hold := hst.old
      have hbl := hst.bl
      obtain ⟨lb, hlb⟩ : ∃ k, k = s 3 := ⟨_, rfl⟩
      obtain ⟨gm, hgm⟩ : ∃ k, k = s 4 := ⟨_, rfl⟩
      obtain ⟨bm, hbm⟩ : ∃ k, k = s 5 := ⟨_, rfl⟩
      obtain ⟨bl, hbb⟩ : ∃ k, k = s 6 := ⟨_, rfl⟩
      obtain ⟨gb, hgb⟩ : ∃ k, k = s 7 := ⟨_, rfl⟩
      rw [← hlb] at x3 x6
      rw [← hgm] at x4
      rw [← hbm] at x5
      rw [← hbb] at x6
      rw [← hgb] at x7
      rw [← hlb, ← hgm, ← hbm, ← hbb, ← hgb]
      have c1 : W'.cell? ⟨gb, 0, none⟩ = some (.map none) := by rw [cell_of_row _ _ _ _ _ _ x7.2.2]; rfl
      have f1 : W'.frozen? ⟨gb, 0, none⟩ = false := frozen_of_row _ _ _ _ _ x7.2.2
      refine wpAnyH_done (by kernel_rfl) ?_ _
      unfold TailQ
      simp only [List.drop_succ_cons, List.drop_zero]
      have X := Lib.hid (And.intro x3 (And.intro x4 (And.intro x5 (And.intro x6 x7))))
      have HOLD := Lib.hid hold
      have HBL := Lib.hid hbl
      clear x3 x4 x5 x6 x7 hold hbl hst hn hlb hgm hbm hbb hgb e0 e1 e2 e3 e4 e5 e6 e7 e8 e9 hmm hx4 hS0
      unfold fr20 uA uV
      simp only [if_true]
      go_upto_region 7 with fail
      clear c1 f1
      obtain ⟨n0, hn0⟩ : ∃ n, n = W'.heap.size := ⟨_, rfl⟩
      obtain ⟨q, hq⟩ : ∃ q : PlcD, q = ⟨bl, lb, bm, n0, n0 + 1, w.heap.size, gb, gm, w3.heap.size, sp, mk, ml⟩ := ⟨_, rfl⟩
      obtain ⟨W8, hW8⟩ : ∃ W, W = ((W'.setCell ⟨gb, 0, none⟩ (.map (some gm))).alloc (.cells #[.slice none 0 0] 29)).alloc (.cells #[.func (.func 71) #[] #[.pointer (some ⟨bl, 0, none⟩), .pointer (some ⟨bm, 0, none⟩), .pointer (some ⟨n0, 0, none⟩), .pointer (some ⟨n0 + 1, 0, none⟩), .pointer (some ⟨w.heap.size, 0, none⟩), .pointer (some ⟨gb, 0, none⟩), .pointer (some ⟨w3.heap.size, 0, none⟩)]] 137) := ⟨_, rfl⟩
      rw [← hn0, ← hW8]
      obtain ⟨⟨l1, l2, l3⟩, ⟨g1, g2, g3⟩, ⟨m1, m2, m3⟩, ⟨b1, b2, b3⟩, ⟨k1, k2, k3⟩⟩ := X.out
      have t1 := lt_of_block l3
      have t2 := lt_of_block g3
      have t3 := lt_of_block m3
      have t4 := lt_of_block b3
      have t5 := lt_of_block k3
      have hd4 : W4.drew.heap.size = W4.heap.size := rfl
      rw [hd4] at l2 g2 m2 b2 k2
      rw [← hn0] at t1 t2 t3 t4 t5
      obtain ⟨r', hr'⟩ : ∃ r' : Nat → Nat, r' = upF (upF r n0 3) (n0 + 1) 4 := ⟨_, rfl⟩
      have rlow : ∀ k, k < n0 → r' k = r k := fun k hk => by rw [hr', upF_other _ _ (by omega), upF_other _ _ (by omega)]
      have r1 : r' n0 = 3 := by rw [hr', upF_other _ _ (by omega), upF_same]
      have r2 : r' (n0 + 1) = 4 := by rw [hr', upF_same]
      have hs8 : W8.heap.size = n0 + 2 := by rw [hW8, hn0]; simp [World.setCell]
      have hk8 : Keeps (fun k => k = gb) W' W8 := by rw [hW8]; exact ((Keeps.setCell (Mut := fun k => k = gb) _ _ _ rfl).trans (Keeps.alloc _ _ _)).trans (Keeps.alloc _ _ _)
      have hgb8 : W8.heap[gb]? = some (.cells #[.map (some gm)] 62 (0, 0)) := by rw [hW8]; exact (hget_old _ _ _ (by simp [World.setCell]; omega)).trans ((hget_old _ _ _ (by simp [World.setCell]; omega)).trans (one_setG k3))
      have hbo8 : W8.heap[n0]? = some (.cells #[.slice none 0 0] 29 (0, 0)) := by rw [hW8]; exact (hget_old _ _ _ (by simp [World.setCell]; omega)).trans (heap_alloc_at _ _ _ (by simp [World.setCell]; omega))
      have hbn8 : W8.heap[n0 + 1]? = some (.cells #[.func (.func 71) #[] (capsD q)] 137 (0, 0)) := by rw [hW8, hq]; exact heap_alloc_at _ _ _ (by simp [World.setCell]; omega)
      have hold := HOLD.out
      have hs4' : W4.drew.heap.size = w3.heap.size + 1 := hs4
      rw [hs4'] at hold
      have hn4 : w3.heap.size + 1 ≤ n0 := by rw [hn0, ← hs4]; exact HBL.out.size
      have hS4 := HS4.out
      have u1 := hS4.bs
      have u2 := hS4.bk
      have u3 := hS4.bl
      have u4 := hS4.n1
      have u5 := hS4.n2
      have u6 := hS4.n3
      have v1 : sp < w3.heap.size := lt_of_block HS.out.obj
      have v2 : mk < w3.heap.size := HS.out.known.lt
      have v3 : ml < w3.heap.size := HS.out.laps.lt
      have rr : ∀ k, k < w3.heap.size + 1 → r' k = r0 k := fun k hk => by rw [rlow k (by omega), hold k hk]
      have hB8 : Below W4.heap.size W4 W8 := ((Below.refl W4.heap.size W4).drew.trans (HBL.out.mono (Nat.le_refl _))).trans (hk8.below HBL.out.size (fun k h1 h2 => by omega))
      have hOK : q.Ok w.heap.size (n0 + 2) r' := by
        rw [hq]
        have p1 : w.heap.size ≠ w3.heap.size := by omega
        refine ⟨⟨(rlow _ t4).trans b1, by show bl < _; omega⟩, ⟨(rlow _ t1).trans l1, by show lb < _; omega⟩, ⟨(rlow _ t3).trans m1, by show bm < _; omega⟩, ⟨r1, by show n0 < _; omega⟩, ⟨r2, by show n0 + 1 < _; omega⟩, ⟨?_, by show w.heap.size < _; omega⟩, ⟨(rlow _ t5).trans k1, by show gb < _; omega⟩, ⟨(rlow _ t2).trans g1, by show gm < _; omega⟩, ⟨?_, by show w3.heap.size < _; omega⟩, ⟨?_, by show sp < _; omega⟩, ⟨?_, by show mk < _; omega⟩, ⟨?_, by show ml < _; omega⟩, fun k hk => ?_⟩
        · show r' w.heap.size = 5
          rw [rr _ (by omega), HR0.out]
          dsimp only
          rw [if_pos rfl]
        · show r' w3.heap.size = 8
          rw [rr _ (by omega), HR0.out]
          dsimp only
          rw [if_neg (by omega), if_pos rfl]
        · show r' sp = 9
          rw [rr _ (by omega), HR0.out]
          dsimp only
          rw [if_neg (by omega), if_neg (by omega), if_pos rfl]
        · show r' mk = 10
          rw [rr _ (by omega), HR0.out]
          dsimp only
          rw [if_neg (by omega), if_neg (by omega), if_neg (by omega), if_pos rfl]
        · show r' ml = 11
          rw [rr _ (by omega), HR0.out]
          dsimp only
          rw [if_neg (by omega), if_neg (by omega), if_neg (by omega), if_neg (by omega), if_pos rfl]
        · rw [rr _ (by omega), HR0.out]
          dsimp only
          rw [if_neg (by omega), if_neg (by omega), if_neg (by omega), if_neg (by omega), if_neg (by omega)]
          omega
      have hcur : cur0 = ((List.replicate nb (0 : Int)).map (Value.int .i64)).toArray := by
        rw [HCUR.out, Nat.mul_one, List.map_replicate]
        apply Array.ext'
        rw [toList_madeCells_one]
      have hdel : DelS l p w.heap.size (n0 + 2) sv q r' [] (-1, []) W8 := by
        rw [hq]
        refine ⟨?_, ⟨List.replicate nb 0, by rw [← HNB.out]; simp, ?_⟩, ?_, ⟨_, hbo8, none, 0, rfl, Nat.le_refl _, by decide, fun i h => by simp at h⟩, ?_, ?_, hgb8, ⟨fun _ => none, MapI.empty ((hk8.block gm (by omega) ?_).trans g3), fun o _ => rfl⟩, ?_, ?_, ?_⟩
        · rw [← HNB.out]
          exact (hk8.block bl (by omega) (fun e => by have e : bl = gb := e; rw [e, k1] at b1; cases b1)).trans b3
        · rw [List.nil_append, ← hcur]
          exact (hk8.block lb (by omega) (fun e => by have e : lb = gb := e; rw [e, k1] at l1; cases l1)).trans l3
        · exact (hk8.block bm (by omega) (fun e => by have e : bm = gb := e; rw [e, k1] at m1; cases m1)).trans m3
        · rw [hq] at hbn8; exact hbn8
        · exact (hB8.block w.heap.size (by omega)).trans HX4.out
        · intro e
          have e : gm = gb := e
          rw [e, k1] at g1
          cases g1
        · exact (hB8.block w3.heap.size (by omega)).trans HSH.out
        · exact (HS4.out.later hB8).rebase (by omega) (HLOT.out.later (by omega) (fun k h1 h2 => (hB8.block _ (by omega)).trans ((HB4.out.block _ (by omega)).trans ((HB3.out.block _ (by omega)).trans (HB.out.block _ h2)))))
        · have hse := (nums_and HS.out.sets).later HB4.out.size (fun k h1 h2 => HB4.out.block k h2.2)
          refine (hse.later hB8.size (fun k h1 h2 => hB8.block k (by omega))).mono fun k hk => ?_
          obtain ⟨⟨z1, z2, z3, z4⟩, z5⟩ := hk
          show 12 ≤ r' k
          rw [rr _ (by omega), HR0.out]
          dsimp only
          rw [if_neg (by omega), if_neg (by omega), if_neg z2, if_neg z3, if_neg z4]
          omega
      have hright : RightD l [] := fun o ho => by
        have h8 := (validL_parts HOK.out.v).2.2.2.2.2.2.2 l.orders[o] (List.getElem_mem ho)
        have hgi : l.orders.getD o (0, 0) = l.orders[o] := by rw [List.getD_eq_getElem?_getD, List.getElem?_eq_getElem ho]; rfl
        rw [hgi]
        show (0 : Int) ≤ _
        omega
      have hc := del_any HOK.out hOK l.blocks.length [] (-1, []) W8 (by simp) hright (by omega) hdel
      rw [dfs_deliver] at hc
      have c5 : W8.cell? ⟨n0 + 1, 0, none⟩ = some (.func (.func 71) #[] (capsD q)) := by rw [cell_of_row _ _ _ _ _ _ hbn8]; rfl
      have hqm : ∀ k, k < w3.heap.size → q.Mut k → k = mk := by
        intro k hk hm
        rw [hq] at hm
        rcases hm with e | e | e | e | e
        · have e : k = lb := e; omega
        · have e : k = bm := e; omega
        · have e : k = n0 := e; omega
        · have e : k = gm := e; omega
        · exact e
      have hqn : q.bm = bm ∧ q.bo = n0 := by rw [hq]; exact ⟨rfl, rfl⟩
      unfold capsD at c5 hc
      rw [hq] at c5 hc
      dsimp only at c5 hc
      rw [← hq] at hc
      have HC := Lib.hid hc
      have HQM := Lib.hid hqm
      have HQN := Lib.hid hqn
      have hsz4 := HB4.out.size
      have hB := Lib.hid hB8
      have HS8 := Lib.hid hs8
      clear hn0 hs8 hd4 hs4' hq hW8 hc hdel hright hcur hOK hB8 rr rlow r1 r2 hr' hk8 hgb8 hbo8 hbn8 hold hS4 hqm hqn l1 l2 l3 g1 g2 g3 m1 m2 m3 b1 b2 b3 k1 k2 k3 t1 t2 t3 t4 t5
      go_wp2_with fail
      refine HC.out.mono ?_
      rintro e w9 ⟨rfl, hD9, hk9⟩
      dsimp only
      obtain ⟨ov, o1, o2⟩ := hD9.out
      have hsz8 := HS8.out
      have he9 : w9.heap[w.heap.size + 1]? = some (.cells #[.int .i64 0] 24 (0, 0)) := (hk9.block _ (by omega) (fun e => by have := HQM.out _ (by omega) e; omega)).trans ((hB.out.block _ (by omega)).trans ((HB4.out.block _ (by omega)).trans ((HB3.out.block _ (by omega)).trans H1.out)))
      have hm9 := hD9.most
      rw [HQN.out.1] at hm9
      rw [HQN.out.2] at o1
      have d0 : w9.cell? ⟨bm, 0, none⟩ = some (.int .i64 (sentL (deliveryN l) : Int)) := by rw [cell_of_row _ _ _ _ _ _ hm9]; rfl
      have d1 : w9.cell? ⟨n0, 0, none⟩ = some ov := by rw [cell_of_row _ _ _ _ _ _ o1]; rfl
      have e0 : w9.cell? ⟨w.heap.size + 1, 0, none⟩ = some (.int .i64 0) := by rw [cell_of_row _ _ _ _ _ _ he9]; rfl
      have f0 : w9.frozen? ⟨w.heap.size + 1, 0, none⟩ = false := frozen_of_row _ _ _ _ _ he9
      have HE9 := Lib.hid he9
      have HO2 := Lib.hid o2
      have hbw9 : Below w.heap.size w w9 := (HB.out.trans (HB3.out.mono HB.out.size)).trans ((HB4.out.mono (by omega)).trans ((hB.out.mono (by omega)).trans (hk9.below (by omega) (fun k hk hm => by have := HQM.out k (by omega) hm; omega))))
      have HBW := Lib.hid hbw9
      have hsz9 := hk9.size
      have HSZ9 := Lib.hid hsz9
      clear he9 o1 o2 hm9 hD9 hk9 hbw9 c5 HC hsz9
      go_wp2_with fail
      refine region_fix 4 (fun X => X = w9.drew) (by kernel_rfl) (by kernel_rfl) rfl ?_
      simp only [List.take_succ_cons, List.take_zero, List.drop_succ_cons, List.drop_zero]
      iterate 4
        refine WF_step ?_ (fun W' hC => ?_) rfl ?_
        rotate_left
        · subst hC
          go_simp
          exact fix_value (P := Try.prog) rfl
        simp only [Act.put, List.setIfInBounds_toArray, List.set_cons_zero, List.set_cons_succ]
      refine WF_nil ?_
      rintro X rfl
      go_wp2
      refine leaf_ret_lDeliver (w.heap.size + 1) _ _ ?_
      have e9 : (w9.setCell ⟨w.heap.size + 1, 0, none⟩ (.int .i64 0)).cell? ⟨w.heap.size + 1, 0, none⟩ = some (.int .i64 0) := by rw [cell_of_row _ _ _ _ _ _ (one_setG HE9.out)]; rfl
      have hdd : deliverD l = ((sentL (deliveryN l) : Int), deliveryN l, 0) := by unfold deliverD; dsimp only; rw [if_pos HE.out]
      have hkf : Keeps (fun k => k = w.heap.size + 1) w9 (w9.setCell ⟨w.heap.size + 1, 0, none⟩ (.int .i64 0)).drew := (Keeps.setCell (Mut := fun k => k = w.heap.size + 1) _ _ _ rfl).trans (Keeps.drew _ _)
      have hszw := HB.out.size
      refine ⟨.tuple #[.int .i64 (sentL (deliveryN l) : Int), ov, .int .i64 0], by simp [results, Try.results28, go_sem, e9], HBW.out.trans (hkf.below HBW.out.size (fun k h e => by omega)), ov, by rw [hdd], ?_⟩
      rw [hdd]
      exact (HO2.out.later hkf.size (fun k h1 h2 => hkf.block k h1 (by omega))).mono fun k hk => by omega
    · exact ⟨fun _ => false, fun _ => 0, r0, rfl, rfl, rfl, ⟨Below.refl _ _, fun _ _ => rfl, (fun _ _ _ e => by cases e), (fun e => by cases e), (fun e => by cases e)⟩⟩
end Go.Proofs.Ytagjepclobobjaa
