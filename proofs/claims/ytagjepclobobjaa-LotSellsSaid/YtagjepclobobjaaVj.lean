/- Texts Bzs, Bzt, Bzu in one file; each begins with a word on what it proves. -/
import Derived.Laws.EntriesVeiled
import Derived.Test.YtagjepclobobjaaVi

/- Package lot: ways to sell a block. -/
namespace Go.Proofs.Ytagjepclobobjaa
set_option linter.unusedVariables false
set_option linter.unusedSimpArgs false
open Go.RowKit Go.Shelf
attribute [local go_sem] Oper.semAt_some

theorem lless_any (a b : Int) (h : -100000 ≤ a ∧ a ≤ 100000 ∧ -100000 ≤ b ∧ b ≤ 100000) (w : World) :
    Calls Try.prog 119 #[.int .i64 a, .int .i64 b] w fun e w' => e = .returned (.int .i64 (a - b)) ∧ w = w' := by
  have hw : IntKind.i64.wrap (a - b) = a - b := IntWalk.i64_in _ (by omega)
  go_enter Try.func119, Try.ntmps119
  go_wp2
  go_ret
  exact ⟨rfl, rfl⟩
theorem lmore_any (a b : Int) (w : World) :
    Calls Try.prog 38 #[.int .i64 a, .int .i64 b] w fun e w' => e = .returned (.bool (decide (b < a))) ∧ w = w' := by
  go_enter Try.func38, Try.ntmps38
  go_wp2
  go_ret
  exact ⟨rfl, rfl⟩
theorem llapped_any (f : Bool) (w : World) :
    Calls Try.prog 114 #[.agg #[.bool f]] w fun e w' => e = .returned (.bool f) ∧ Below w.heap.size w w' := by
  go_enter Try.func114, Try.ntmps114
  go_wp2
  go_ret
  exact ⟨rfl, below_allocG _ _⟩
set_option maxRecDepth 100000 in
set_option maxHeartbeats 2000000 in
theorem lplainCan_any {l : LotD} {p : PartsL} {B sp mk ml : Nat} {sv : Value} (hok : OkL l) (f : Bool) (b n : Nat) (hb : b < l.blocks.length) (hn : n < l.lim.length) (w : World) (hS : ShopS l p B sp mk ml sv w) :
    Calls Try.prog 113 #[.agg #[.bool f], .pointer (some ⟨sp, 0, none⟩), pairV (b : Int) (n : Int)] w fun e w' => e = .returned (.bool (sureL l b n)) ∧ ShopS l p B sp mk ml sv w' ∧ Keeps (fun k => k = mk) w w' := by
  have HS := Lib.hid hS
  have HOK := Lib.hid hok
  have hmk := hS.known.lt
  clear hS hok
  unfold pairV
  go_enter Try.func113, Try.ntmps113
  go_wp2_with fail
  have hb2 : ∀ o o2, Below w.heap.size w ((w.alloc o).alloc o2) := fun o o2 => (below_allocG _ _).alloc (by simp) _
  refine (lsure_any HOK.out b n hb hn _ (HS.out.later (hb2 _ _))).mono ?_
  rintro e w4 ⟨rfl, hs4, hk4⟩
  have HS4 := Lib.hid hs4
  have HK4 := Lib.hid ((Keeps.of_below (Mut := fun k => k = mk) (hb2 _ _) (fun k h1 h2 => absurd h2 (by omega))).trans hk4)
  clear hs4 hk4 hb2
  dsimp only
  go_wp2_with fail
  go_ret
  exact ⟨rfl, HS4.out, HK4.out⟩
set_option maxRecDepth 100000 in
set_option maxHeartbeats 2000000 in
theorem lplainPays_any {l : LotD} {p : PartsL} {B sp mk ml : Nat} {sv : Value} (hok : OkL l) (f : Bool) (n : Nat) (hn : n < l.lim.length) (w : World) (hS : ShopS l p B sp mk ml sv w) :
    Calls Try.prog 115 #[.agg #[.bool f], .pointer (some ⟨sp, 0, none⟩), .int .i64 (n : Int)] w fun e w' => e = .returned (.int .i64 (paidL l n)) ∧ Below w.heap.size w w' := by
  obtain ⟨_, _, _, s3, _⟩ := shop_cells hS.obj
  have hpl : n < l.pays.length := by rw [(validL_parts hok.v).2.2.2.1]; exact hn
  obtain ⟨ap', cp', hep, _, _, hpel⟩ := hS.lot.pay
  obtain ⟨pb, poff, rfl, hpw, hpgl, p0⟩ := hpel n hpl
  obtain ⟨np, hnp⟩ : ∃ k, k = l.pays.length := ⟨_, rfl⟩
  obtain ⟨pd, hpd⟩ : ∃ x, x = l.pays[n] := ⟨_, rfl⟩
  rw [← hpd] at p0
  have hpaid : paidL l n = pd := by unfold paidL; rw [List.getD_eq_getElem?_getD, List.getElem?_eq_getElem hpl, hpd]; rfl
  rw [hep, ← hnp] at s3
  rw [hpaid]
  have hg0 : 0 ≤ (n : Int) := by omega
  have hgpi : (n : Int) < (np : Int) := by omega
  have hlsp := lt_of_block hS.obj
  have t3 : ∀ o, (w.alloc o).cell? ⟨sp, 3, none⟩ = some (.slice (some ⟨pb, poff, none⟩) np cp') := fun o => (World.cell?_of_block (w := w) (hget_old _ _ _ (by show sp ≠ _; omega))).trans s3
  have t0 : ∀ o, (w.alloc o).cell? ⟨pb, poff + n, none⟩ = some (.int .i64 pd) := fun o => (World.cell?_of_block (w := w) (hget_old _ _ _ (by show pb ≠ _; omega))).trans p0
  clear hpel hpd hpaid hep hpw hS hok hnp hpl s3 p0
  go_enter Try.func115, Try.ntmps115
  go_wp2_with fail
  go_ret
  exact ⟨rfl, below_allocG _ _⟩
set_option maxRecDepth 100000 in
set_option maxHeartbeats 2000000 in
theorem lpolPays_any {l : LotD} {p : PartsL} {B sp mk ml : Nat} {sv : Value} (hok : OkL l) (n : Nat) (hn : n < l.lim.length) (w : World) (hS : ShopS l p B sp mk ml sv w) :
    Calls Try.prog 117 #[.agg #[.bool true], .pointer (some ⟨sp, 0, none⟩), .int .i64 (n : Int)] w fun e w' => e = .returned (.int .i64 (paidL l n - l.lap)) ∧ Below w.heap.size w w' := by
  have hmf : ∀ fn first cap w, (Instr.makeFunc fn first cap).run Try.prog w = .ok (.func fn first cap) w := fun _ _ _ _ => rfl
  have HS := Lib.hid hS
  have HOK := Lib.hid hok
  have hpin := paid_in hok n
  have hlap := (validL_parts hok.v).2.2.1
  obtain ⟨pd, hpd⟩ : ∃ x, x = paidL l n := ⟨_, rfl⟩
  obtain ⟨lp, hlp⟩ : ∃ x, x = l.lap := ⟨_, rfl⟩
  rw [← hlp] at hlap ⊢
  rw [← hpd] at hpin ⊢
  have HPD := Lib.hid hpd
  have HLP := Lib.hid hlp
  clear hS hok hpd hlp
  go_enter Try.func117, Try.ntmps117
  go_wp2_with fail
  refine (lplainPays_any HOK.out true n hn _ (HS.out.later (below_allocG _ _))).mono ?_
  rintro e w4 ⟨rfl, hb4⟩
  have hbw : Below w.heap.size w w4 := (below_allocG _ _).trans (hb4.mono (by simp))
  have hs4 := HS.out.later hbw
  obtain ⟨_, _, _, _, s4, _⟩ := shop_cells hs4.obj
  have HBW := Lib.hid hbw
  rw [← HLP.out] at s4
  rw [← HPD.out]
  clear hb4 hbw hs4
  dsimp only
  go_wp2_with fail
  refine (lless_any pd lp (by omega) w4).mono ?_
  rintro e w5 ⟨rfl, rfl⟩
  dsimp only
  go_wp2_with fail
  go_ret
  exact ⟨rfl, HBW.out⟩
set_option maxRecDepth 100000 in
set_option maxHeartbeats 2000000 in
theorem lpolCan_any {l : LotD} {p : PartsL} {B sp mk ml : Nat} {sv : Value} (hok : OkL l) (b n : Nat) (hb : b < l.blocks.length) (hn : n < l.lim.length) (w : World) (hS : ShopS l p B sp mk ml sv w) :
    Calls Try.prog 116 #[.agg #[.bool true], .pointer (some ⟨sp, 0, none⟩), pairV (b : Int) (n : Int)] w fun e w' => e = .returned (.bool ((List.range (n + 1)).any fun k => lapsL l b k)) ∧ ShopS l p B sp mk ml sv w' ∧ Keeps (fun k => k = ml) w w' := by
  obtain ⟨an, han⟩ : ∃ q, q = (List.range (n + 1)).any fun k => lapsL l b k := ⟨_, rfl⟩
  rw [← han]
  have HAN := Lib.hid han
  clear han
  have HS := Lib.hid hS
  have HOK := Lib.hid hok
  have hml := hS.laps.lt
  have hn4 : n < 4 := by have := lim4 (g := ⟨l.lim, zeroPts, l.step⟩) (validL_parts hok.v).2.2.2.2.1; dsimp only at this; omega
  obtain ⟨W2, hW2⟩ : ∃ W, W = (w.alloc (.cells #[.bool true] 146)).alloc (.cells #[.int .i64 (b : Int), .int .i64 (n : Int)] 80) := ⟨_, rfl⟩
  have hx2 : W2.heap[w.heap.size + 1]? = some (.cells #[.int .i64 (b : Int), .int .i64 (n : Int)] 80 (0, 0)) := by rw [hW2]; exact (by repeat (first | (refine heap_alloc_at _ _ _ ?_; (simp <;> omega); done) | (refine (hget_old _ _ _ ?_).trans ?_; · (simp <;> omega))))
  have hb2 : Below w.heap.size w W2 := by rw [hW2]; exact (below_allocG _ _).alloc (by simp) _
  have hs2 : W2.heap.size = w.heap.size + 2 := by rw [hW2]; simp
  obtain ⟨k0, k1⟩ := two_cells hx2
  have HX2 := Lib.hid hx2
  have HS2 := Lib.hid (hS.later hb2)
  have HB2 := Lib.hid hb2
  have hwn : IntKind.i64.wrap ((n : Int) + 1) = ((n + 1 : Nat) : Int) := by rw [IntWalk.i64_in _ (by omega)]; omega
  clear hS hok hx2 hb2
  unfold pairV
  go_enter Try.func116, Try.ntmps116
  go_upto_region 1 with fail
  rw [← hW2]
  clear hW2
  go_wp2_with fail
  clear k0 k1
  go_loopw [11] (fun iv wr => ∃ i : Nat, i ≤ n + 1 ∧ iv = .int .i64 i ∧ (∀ j, j < i → lapsL l b j = false) ∧ ShopS l p B sp mk ml sv wr ∧ Keeps (fun k => k = ml) W2 wr) (fun iv _ => n + 1 - (intOf iv).toNat)
  case atStart => exact ⟨0, Nat.zero_le _, rfl, fun j hj => absurd hj (by omega), HS2.out, Keeps.refl _ _⟩
  case round =>
    obtain ⟨i, hi, rfl, hno, hsr, hkr⟩ := hrel
    have HNO := Lib.hid hno
    have HSR := Lib.hid hsr
    have HKR := Lib.hid hkr
    clear hno hsr hkr
    by_cases hlt : i < n + 1
    · have hw : IntKind.i64.wrap ((i : Int) + 1) = ((i + 1 : Nat) : Int) := by rw [IntWalk.i64_in _ (by omega)]; omega
      have hlti : (i : Int) < (n : Int) + 1 := by omega
      have hxr := (HKR.out.block (w.heap.size + 1) (by omega) (by omega)).trans HX2.out
      obtain ⟨k0, k1⟩ := two_cells hxr
      clear hxr
      go_wp2_with fail
      refine (llaps_any HOK.out b i hb (by omega) wr HSR.out).mono ?_
      rintro e w4 ⟨rfl, hs4, hk4⟩
      have HS4 := Lib.hid hs4
      have HK4 := Lib.hid (HKR.out.trans hk4)
      clear hs4 hk4 k0 k1
      dsimp only
      cases hla : lapsL l b i with
      | true =>
        have hany : an = true := HAN.out.trans <| List.any_eq_true.2 ⟨i, List.mem_range.2 hlt, hla⟩
        have HANY := Lib.hid hany
        clear hla hany
        go_wp2_with fail
        go_ret
        exact ⟨by rw [HANY.out]; rfl, HS4.out, (Keeps.of_below (Mut := fun k => k = ml) HB2.out (fun k h1 h2 => absurd h2 (by omega))).trans HK4.out⟩
      | false =>
        have HLA := Lib.hid hla
        clear hla
        go_wp2_with fail
        go_roundw
        case measure => simp [intOf]; omega
        refine ⟨i + 1, by omega, rfl, fun j hj => ?_, HS4.out, HK4.out⟩
        rcases Nat.lt_succ_iff_lt_or_eq.1 hj with h | h
        · exact HNO.out j h
        · rw [h]; exact HLA.out
    · have hin : i = n + 1 := by omega
      have hlti : ¬ (i : Int) < (n : Int) + 1 := by omega
      have hany : an = false := by
        rw [HAN.out, List.any_eq_false]
        intro k hk
        rw [HNO.out k (by rw [hin]; exact List.mem_range.1 hk)]
        decide
      have HANY := Lib.hid hany
      clear hin hany
      go_wp2_with fail
      go_ret
      exact ⟨by rw [HANY.out]; rfl, HSR.out, (Keeps.of_below (Mut := fun k => k = ml) HB2.out (fun k h1 h2 => absurd h2 (by omega))).trans HKR.out⟩
def waysV : Value := .agg #[.iface 144 (.agg #[.bool false]), .iface 146 (.agg #[.bool true])]
set_option maxRecDepth 100000 in
theorem lways_any (w : World) : Calls Try.prog 37 #[] w fun e w' => e = .returned waysV ∧ Below w.heap.size w w' := by
  go_enter Try.func37, Try.ntmps37
  go_wp2
  have hr := heap_alloc_at w (.cells #[.iface 144 (.agg #[.bool false]), .iface 146 (.agg #[.bool true])] 87) _ rfl
  obtain ⟨k0, k1⟩ := two_cells hr
  exact bodyPost_ret (v := waysV) (by unfold waysV; simp [results, Try.results37, go_sem, k0, k1]) rfl ⟨rfl, below_allocG _ _⟩
end Go.Proofs.Ytagjepclobobjaa

/- Package lot: the best of some sales. -/
namespace Go.Proofs.Ytagjepclobobjaa
set_option linter.unusedVariables false
set_option linter.unusedSimpArgs false
open Go.RowKit Go.Shelf
attribute [local go_sem] Oper.semAt_some

abbrev SaleD := Nat × Bool × Int
def saleC (x : SaleD) : List Value := [.int .i64 (x.1 : Int), .bool x.2.1, .int .i64 x.2.2]
def saleV (x : SaleD) : Value := .agg #[.int .i64 (x.1 : Int), .bool x.2.1, .int .i64 x.2.2]
def saleO (x : SaleD) : Obj := .cells #[.int .i64 (x.1 : Int), .bool x.2.1, .int .i64 x.2.2] 93 (0, 0)
def SalesAt (W : World) (v : Value) (l : List SaleD) (Rd : Nat → Prop) : Prop :=
  ∃ ao cap, v = .slice ao l.length cap ∧ ∀ i (h : i < l.length), ∃ b off, ao = some ⟨b, off, none⟩ ∧ Rd b ∧ b < W.heap.size ∧
    W.cell? ⟨b, off + i * 3, none⟩ = some (.int .i64 (l[i].1 : Int)) ∧ W.cell? ⟨b, off + i * 3 + 1, none⟩ = some (.bool l[i].2.1) ∧ W.cell? ⟨b, off + i * 3 + 2, none⟩ = some (.int .i64 l[i].2.2)
theorem three_cells {W : World} {b : Nat} {x y z : Value} {t : TypeId} {fr : Nat × Nat} (h : W.heap[b]? = some (.cells #[x, y, z] t fr)) : W.cell? ⟨b, 0, none⟩ = some x ∧ W.cell? ⟨b, 1, none⟩ = some y ∧ W.cell? ⟨b, 2, none⟩ = some z := by
  refine ⟨?_, ?_, ?_⟩ <;> (rw [cell_of_row _ _ _ _ _ _ h]; rfl)
theorem three_setG {w : World} {b : Nat} {x y z x' y' z' : Value} {t : TypeId} {fr : Nat × Nat} (h : w.heap[b]? = some (.cells #[x, y, z] t fr)) : (((w.setCell ⟨b, 0, none⟩ x').setCell ⟨b, 1, none⟩ y').setCell ⟨b, 2, none⟩ z').heap[b]? = some (.cells #[x', y', z'] t fr) := by
  simp [World.setCell, Array.getElem?_modify, h]
def moreV : Value := .func (.func 38) #[] #[]
set_option maxRecDepth 100000 in
set_option maxHeartbeats 2000000 in
theorem lbest2_any (x y : SaleD) (bm : Nat) (w : World) (hbm : w.heap[bm]? = some (.cells #[moreV] 94 (0, 0))) :
    Calls Try.prog 40 #[saleV x, saleV y, .pointer (some ⟨bm, 0, none⟩)] w fun e w' => e = .returned (.bool (decide (y.2.2 < x.2.2))) ∧ Below w.heap.size w w' := by
  obtain ⟨xg, xl, xb⟩ := x
  obtain ⟨yg, yl, yb⟩ := y
  have hlt := lt_of_block hbm
  obtain ⟨W2, hW2⟩ : ∃ W, W = (w.alloc (.cells #[.int .i64 (xg : Int), .bool xl, .int .i64 xb] 93)).alloc (.cells #[.int .i64 (yg : Int), .bool yl, .int .i64 yb] 93) := ⟨_, rfl⟩
  have hx : W2.heap[w.heap.size]? = some (.cells #[.int .i64 (xg : Int), .bool xl, .int .i64 xb] 93 (0, 0)) := by rw [hW2]; exact (by repeat (first | (refine heap_alloc_at _ _ _ ?_; (simp <;> omega); done) | (refine (hget_old _ _ _ ?_).trans ?_; · (simp <;> omega))))
  have hy : W2.heap[w.heap.size + 1]? = some (.cells #[.int .i64 (yg : Int), .bool yl, .int .i64 yb] 93 (0, 0)) := by rw [hW2]; exact (by repeat (first | (refine heap_alloc_at _ _ _ ?_; (simp <;> omega); done) | (refine (hget_old _ _ _ ?_).trans ?_; · (simp <;> omega))))
  have hb2 : Below w.heap.size w W2 := by rw [hW2]; exact (below_allocG _ _).alloc (by simp) _
  obtain ⟨_, _, x2⟩ := three_cells hx
  obtain ⟨_, _, y2⟩ := three_cells hy
  have hm : W2.cell? ⟨bm, 0, none⟩ = some moreV := by rw [cell_of_row _ _ _ _ _ _ ((hb2.block _ hlt).trans hbm)]; rfl
  have HB := Lib.hid hb2
  unfold moreV at hm
  clear hx hy hb2 hbm
  unfold saleV
  go_enter Try.func40, Try.ntmps40
  go_upto_region 1 with fail
  rw [← hW2]
  clear hW2
  go_wp2_with fail
  refine (lmore_any xb yb W2).mono ?_
  rintro e w4 ⟨rfl, rfl⟩
  dsimp only
  go_wp2_with fail
  go_ret
  exact ⟨rfl, HB.out⟩
theorem best_take (own : SaleD) (L : List SaleD) (i : Nat) (h : i < L.length) : bestOf own (L.take (i + 1)) = if (bestOf own (L.take i)).2.2 < L[i].2.2 then L[i] else bestOf own (L.take i) := by
  unfold bestOf
  rw [List.take_succ_eq_append_getElem h, List.foldl_append]
  rfl
set_option maxRecDepth 100000 in
set_option maxHeartbeats 8000000 in
theorem lbest_any (own : SaleD) (L : List SaleD) (v : Value) (Rd : Nat → Prop) (bm : Nat) (w : World) (h9 : L.length ≤ 1000) (hL : SalesAt w v L Rd) (hbm : w.heap[bm]? = some (.cells #[moreV] 94 (0, 0))) :
    Calls Try.prog 39 #[saleV own, v, .agg #[.func (.func 40) #[] #[.pointer (some ⟨bm, 0, none⟩)]]] w fun e w' => e = .returned (saleV (bestOf own L)) ∧ Below w.heap.size w w' := by
  obtain ⟨av, cv, rfl, hel⟩ := hL
  obtain ⟨np, hnp⟩ : ∃ n, n = L.length := ⟨_, rfl⟩
  rw [← hnp] at h9 ⊢
  have HNP := Lib.hid hnp
  have HEL := Lib.hid hel
  have hlt := lt_of_block hbm
  obtain ⟨FV, hFV⟩ : ∃ v, v = Value.func (.func 40) #[] #[.pointer (some ⟨bm, 0, none⟩)] := ⟨_, rfl⟩
  have HFV := Lib.hid hFV
  obtain ⟨og, ol, ob⟩ := own
  obtain ⟨W3, hW3⟩ : ∃ W, W = ((w.alloc (.cells #[.int .i64 (og : Int), .bool ol, .int .i64 ob] 93)).alloc (.cells #[FV] 99)).alloc (.cells #[.int .i64 0, .bool false, .int .i64 0] 93) := ⟨_, rfl⟩
  have r0 : W3.heap[w.heap.size]? = some (saleO (og, ol, ob)) := by rw [hW3]; unfold saleO; exact (by repeat (first | (refine heap_alloc_at _ _ _ ?_; (simp <;> omega); done) | (refine (hget_old _ _ _ ?_).trans ?_; · (simp <;> omega))))
  have r1 : W3.heap[w.heap.size + 1]? = some (.cells #[FV] 99 (0, 0)) := by rw [hW3]; exact (by repeat (first | (refine heap_alloc_at _ _ _ ?_; (simp <;> omega); done) | (refine (hget_old _ _ _ ?_).trans ?_; · (simp <;> omega))))
  have r2 : W3.heap[w.heap.size + 1 + 1]? = some (saleO (0, false, 0)) := by rw [hW3]; unfold saleO; exact (by repeat (first | (refine heap_alloc_at _ _ _ ?_; (simp <;> omega); done) | (refine (hget_old _ _ _ ?_).trans ?_; · (simp <;> omega))))
  have hb3 : Below w.heap.size w W3 := by rw [hW3]; exact ((below_allocG _ _).alloc (by simp) _).alloc (by simp <;> omega) _
  have hs3 : W3.heap.size = w.heap.size + 3 := by rw [hW3]; simp
  have R0 := Lib.hid r0
  have R1 := Lib.hid r1
  have R2 := Lib.hid r2
  have HB3 := Lib.hid hb3
  have HS3 := Lib.hid hs3
  have HBM := Lib.hid hbm
  clear r0 r1 r2 hb3 hs3 hbm hnp hel
  unfold saleV
  rw [← hFV]
  clear hFV
  go_enter Try.func39, Try.ntmps39
  go_upto_region 1 with fail
  rw [← hW3]
  clear hW3
  go_wp2_with fail
  go_loopw [11] (fun iv wr => ∃ i : Nat, i ≤ np ∧ iv = .int .i64 i ∧ wr.heap[w.heap.size]? = some (saleO (bestOf (og, ol, ob) (L.take i))) ∧ Keeps (fun k => k = w.heap.size) W3 wr) (fun iv _ => np - (intOf iv).toNat)
  case atStart => exact ⟨0, Nat.zero_le _, rfl, R0.out, Keeps.refl _ _⟩
  case round =>
    obtain ⟨i, hi, rfl, hrow, hk⟩ := hrel
    have hbr : Below w.heap.size w wr := HB3.out.trans (hk.below (B := w.heap.size) HB3.out.size (fun k h e => by omega))
    have HROW := Lib.hid hrow
    have HK := Lib.hid hk
    have HBR := Lib.hid hbr
    have hszr : w.heap.size + 3 ≤ wr.heap.size := by have := hk.size; have := HS3.out; omega
    obtain ⟨⟨cg, cl, cb⟩, hcur⟩ : ∃ q, q = bestOf (og, ol, ob) (L.take i) := ⟨_, rfl⟩
    rw [← hcur] at hrow
    have HC := Lib.hid hcur
    clear hk hbr hcur
    by_cases hlt2 : i < np
    · have hw : IntKind.i64.wrap ((i : Int) + 1) = ((i + 1 : Nat) : Int) := by rw [IntWalk.i64_in _ (by omega)]; omega
      have hlti : (i : Int) < (np : Int) := by omega
      have hi0 : 0 ≤ (i : Int) := by omega
      have hil : i < L.length := by rw [← HNP.out]; exact hlt2
      obtain ⟨eb, off, rfl, _, hgl, d0, d1, d2⟩ := HEL.out i hil
      have hsuc := best_take (og, ol, ob) L i hil
      rw [← HC.out] at hsuc
      obtain ⟨⟨xg, xl, xb⟩, hx⟩ : ∃ q, q = L[i] := ⟨_, rfl⟩
      rw [← hx] at d0 d1 d2 hsuc
      dsimp only at d0 d1 d2 hsuc
      replace d0 := (World.cell?_of_block (w := w) (w' := wr) (a := ⟨eb, off + i * 3, none⟩) (HBR.out.block eb hgl)).trans d0
      replace d1 := (World.cell?_of_block (w := w) (w' := wr) (a := ⟨eb, off + i * 3 + 1, none⟩) (HBR.out.block eb hgl)).trans d1
      replace d2 := (World.cell?_of_block (w := w) (w' := wr) (a := ⟨eb, off + i * 3 + 2, none⟩) (HBR.out.block eb hgl)).trans d2
      have HSUC := Lib.hid hsuc
      clear hx hsuc
      go_upto_region 4 with fail
      obtain ⟨W5, hW5⟩ : ∃ W, W = wr.alloc (.cells #[.int .i64 (xg : Int), .bool xl, .int .i64 xb] 93) := ⟨_, rfl⟩
      rw [← hW5]
      have hx5 : W5.heap[wr.heap.size]? = some (saleO (xg, xl, xb)) := by rw [hW5]; exact heap_alloc_at _ _ _ rfl
      have hb5 : Below wr.heap.size wr W5 := by rw [hW5]; exact below_allocG _ _
      have ho5 := (hb5.block _ (by omega)).trans hrow
      have hf5 := (hb5.block (w.heap.size + 1) (by omega)).trans ((HK.out.block _ (by have := HS3.out; omega) (by omega)).trans R1.out)
      have hm5 := (hb5.block bm (by omega)).trans ((HBR.out.block bm hlt).trans HBM.out)
      have hs5 : W5.heap.size = wr.heap.size + 1 := by rw [hW5]; simp
      obtain ⟨x0, x1, x2⟩ := three_cells hx5
      obtain ⟨o0, o1, o2⟩ := three_cells ho5
      dsimp only at x0 x1 x2 o0 o1 o2
      have f0 : W5.cell? ⟨w.heap.size + 1, 0, none⟩ = some FV := by rw [cell_of_row _ _ _ _ _ _ hf5]; rfl
      rw [HFV.out] at f0
      have HX5 := Lib.hid hx5
      have HO5 := Lib.hid ho5
      have HM5 := Lib.hid hm5
      have HB5 := Lib.hid hb5
      clear hx5 hb5 ho5 hf5 hm5 hW5 d0 d1 d2 hrow
      go_wp2_with fail
      refine (lbest2_any (xg, xl, xb) (cg, cl, cb) bm W5 HM5.out).mono ?_
      rintro e w6 ⟨rfl, hb6⟩
      have hx6 := (hb6.block _ (by omega)).trans HX5.out
      have ho6 := (hb6.block _ (by omega)).trans HO5.out
      have hk6 : Keeps (fun k => k = w.heap.size) W3 w6 := HK.out.trans ((Keeps.of_below HB5.out (fun k h1 h2 => absurd h2 (by omega))).trans (Keeps.of_below hb6 (fun k h1 h2 => absurd h2 (by omega))))
      clear x0 x1 x2 o0 o1 o2 f0
      obtain ⟨x0, x1, x2⟩ := three_cells hx6
      obtain ⟨o0, o1, o2⟩ := three_cells ho6
      have fr : ∀ k, w6.frozen? ⟨w.heap.size, k, none⟩ = false := fun k => frozen_of_row _ _ _ _ _ ho6
      dsimp only at x0 x1 x2 o0 o1 o2
      have HO6 := Lib.hid ho6
      have HK6 := Lib.hid hk6
      clear hx6 ho6 hb6 hk6
      dsimp only
      by_cases hc : cb < xb
      · have hsu2 := HSUC.out
        rw [if_pos hc] at hsu2
        have HSU2 := Lib.hid hsu2
        clear hsu2
        go_wp2_with fail
        go_roundw
        case measure => simp [intOf]; omega
        exact ⟨i + 1, by omega, rfl, by rw [HSU2.out]; exact three_setG HO6.out, ((HK6.out.trans (Keeps.setCell w6 ⟨w.heap.size, 0, none⟩ _ rfl)).trans (Keeps.setCell _ ⟨w.heap.size, 1, none⟩ _ rfl)).trans (Keeps.setCell _ ⟨w.heap.size, 2, none⟩ _ rfl)⟩
      · have hsu2 := HSUC.out
        rw [if_neg hc] at hsu2
        have HSU2 := Lib.hid hsu2
        clear hsu2
        go_wp2_with fail
        go_roundw
        case measure => simp [intOf]; omega
        exact ⟨i + 1, by omega, rfl, by rw [HSU2.out]; exact HO6.out, HK6.out⟩
    · have hin : i = np := by omega
      have hlti : ¬ (i : Int) < (np : Int) := by omega
      have hfin : bestOf (og, ol, ob) L = (cg, cl, cb) := by rw [HC.out, hin, HNP.out, List.take_length]
      have hr2 := (HK.out.block (w.heap.size + 1 + 1) (by have := HS3.out; omega) (by omega)).trans R2.out
      obtain ⟨o0, o1, o2⟩ := three_cells hrow
      obtain ⟨q0, q1, q2⟩ := three_cells hr2
      have fr : ∀ k, wr.frozen? ⟨w.heap.size + 1 + 1, k, none⟩ = false := fun k => frozen_of_row _ _ _ _ _ hr2
      dsimp only at o0 o1 o2 q0 q1 q2
      have HFIN := Lib.hid hfin
      have HR2 := Lib.hid hr2
      clear hin hfin hr2 hrow
      go_wp2
      have hrow9 := three_setG (x' := .int .i64 (cg : Int)) (y' := .bool cl) (z' := .int .i64 cb) HR2.out
      obtain ⟨W9, hW9⟩ : ∃ W, W = ((wr.setCell ⟨w.heap.size + 1 + 1, 0, none⟩ (.int .i64 (cg : Int))).setCell ⟨w.heap.size + 1 + 1, 1, none⟩ (.bool cl)).setCell ⟨w.heap.size + 1 + 1, 2, none⟩ (.int .i64 cb) := ⟨_, rfl⟩
      rw [← hW9] at hrow9 ⊢
      have hb9 : Below w.heap.size w W9 := by rw [hW9]; exact ((HBR.out.setCell (by simp; omega) _).setCell (by simp; omega) _).setCell (by simp; omega) _
      obtain ⟨e0, e1, e2⟩ := three_cells hrow9
      exact bodyPost_ret (v := saleV (cg, cl, cb)) (by unfold saleV; simp [results, Try.results39, go_sem, e0, e1, e2]) rfl ⟨by rw [HFIN.out]; rfl, hb9⟩
end Go.Proofs.Ytagjepclobobjaa

/- Package lot: Best. -/
namespace Go.Proofs.Ytagjepclobobjaa
set_option linter.unusedVariables false
set_option linter.unusedSimpArgs false
open Go.RowKit Go.Shelf
attribute [local go_sem] Oper.semAt_some

theorem ShopS.keepM {l : LotD} {p : PartsL} {B sp mk ml : Nat} {sv : Value} {w W : World} (h : ShopS l p B sp mk ml sv w) (hk : Keeps (fun k => k = mk ∨ k = ml) w W) (h1 : KnownL mk (sureL l) W) (h2 : KnownL ml (lapsL l) W) : ShopS l p B sp mk ml sv W :=
  ⟨(hk.block _ (lt_of_block h.obj) (fun e => e.elim h.n1 h.n2)).trans h.obj, h.lot.later hk.size (fun k h3 h4 => hk.block k h3 (by have := h.bk; have := h.bl; omega)), h1, h2, h.sets.later hk.size (fun k h3 h4 => hk.block k h3 (fun e => e.elim h4.2.2.1 h4.2.2.2)), h.bs, h.bk, h.bl, h.n1, h.n2, h.n3⟩
def canW (l : LotD) (b : Nat) (j : Bool) (n : Nat) : Bool := if j then (List.range (n + 1)).any fun k => lapsL l b k else sureL l b n
def payW (l : LotD) (j : Bool) (n : Nat) : Int := if j then paidL l n - l.lap else paidL l n
def genW (l : LotD) (b : Nat) (j : Bool) (k : Nat) : List SaleD := ((List.range k).filter (canW l b j)).map fun n => (n, j, payW l j n)
theorem genW_succ (l : LotD) (b : Nat) (j : Bool) (k : Nat) : genW l b j (k + 1) = if canW l b j k then genW l b j k ++ [(k, j, payW l j k)] else genW l b j k := by
  unfold genW
  rw [List.range_succ, List.filter_append, List.map_append]
  by_cases h : canW l b j k = true
  · simp [h]
  · simp [h]
theorem genW_len (l : LotD) (b : Nat) (j : Bool) (k : Nat) : (genW l b j k).length ≤ k := by
  unfold genW
  rw [List.length_map]
  have := List.length_filter_le (canW l b j) (List.range k)
  simpa using this
theorem ways_gen (l : LotD) (b : Nat) : waysN l b = genW l b false l.lim.length ++ genW l b true l.lim.length := rfl
def preW (l : LotD) (b : Nat) : Nat → List SaleD
  | 0 => []
  | 1 => genW l b false l.lim.length
  | _ => waysN l b
theorem underSales : Try.prog.underlying 84 = some (.slice 93) := by kernel_rfl
theorem infoSale : (Try.prog.info? 93).map (fun i => (i.zero, i.size, i.bytes)) = some (some (.agg #[.int .i64 0, .bool false, .int .i64 0]), 3, 24) := by kernel_rfl
theorem meth_can0 (w : World) : (method 292 144 (.agg #[.bool false]) "blockworks/lot.can").run Try.prog w = .ok (113, .agg #[.bool false]) w := by kernel_rfl
theorem meth_lap0 (w : World) : (method 292 144 (.agg #[.bool false]) "blockworks/lot.lapped").run Try.prog w = .ok (114, .agg #[.bool false]) w := by kernel_rfl
theorem meth_pay0 (w : World) : (method 292 144 (.agg #[.bool false]) "blockworks/lot.pays").run Try.prog w = .ok (115, .agg #[.bool false]) w := by kernel_rfl
theorem meth_can1 (w : World) : (method 292 146 (.agg #[.bool true]) "blockworks/lot.can").run Try.prog w = .ok (116, .agg #[.bool true]) w := by kernel_rfl
theorem meth_lap1 (w : World) : (method 292 146 (.agg #[.bool true]) "blockworks/lot.lapped").run Try.prog w = .ok (114, .agg #[.bool true]) w := by kernel_rfl
theorem meth_pay1 (w : World) : (method 292 146 (.agg #[.bool true]) "blockworks/lot.pays").run Try.prog w = .ok (117, .agg #[.bool true]) w := by kernel_rfl
theorem flat_sale : ∀ (l : List SaleD) (i : Nat) (h : i < l.length) (k : Nat), k < 3 → (l.flatMap saleC)[i * 3 + k]? = (saleC l[i])[k]?
  | [], i, h, _, _ => by simp at h
  | x :: l, 0, _, k, hk => by
    rw [List.flatMap_cons, Nat.zero_mul, Nat.zero_add, List.getElem?_append_left (by simp [saleC]; omega)]
    rfl
  | x :: l, i + 1, h, k, hk => by
    rw [List.flatMap_cons, List.getElem?_append_right (by simp [saleC]; omega)]
    have hl : (saleC x).length = 3 := rfl
    rw [hl, show (i + 1) * 3 + k - 3 = i * 3 + k by omega]
    exact flat_sale l i (by simpa using h) k hk
theorem sales_of_own {w : World} {base : Nat} {e : TypeId} {v : Value} {l : List SaleD} {n : Nat} (hn : n = l.length) (h : w.ownsRow base e 3 v n (l.flatMap saleC)) : SalesAt w v l (fun k => base ≤ k) := by
  subst hn
  rcases id h.2 with ⟨h2, h3⟩ | ⟨g, cap, cur, h2, h3, h4, h5, h6, h7, h8⟩
  · refine ⟨none, 0, by rw [h2, h3], fun i hi => by omega⟩
  · subst h2
    refine ⟨_, cap, rfl, fun i hi => ⟨g, 0, rfl, h3, lt_of_block h4, ?_⟩⟩
    have hc : ∀ k, k < 3 → w.cell? ⟨g, i * 3 + k, none⟩ = (saleC l[i])[k]? := fun k hk => by
      rw [World.ownsRow.cellAt h (i * 3 + k) (by omega), flat_sale l i hi k hk]
    rw [Nat.zero_add]
    exact ⟨hc 0 (by decide), hc 1 (by decide), hc 2 (by decide)⟩
theorem idx_way0 (w : World) : (Instr.index 87 (.agg #[.iface 144 (.agg #[.bool false]), .iface 146 (.agg #[.bool true])]) (.int .i64 0)).run Try.prog w = .ok (.iface 144 (.agg #[.bool false])) w := by kernel_rfl
theorem idx_way1 (w : World) : (Instr.index 87 (.agg #[.iface 144 (.agg #[.bool false]), .iface 146 (.agg #[.bool true])]) (.int .i64 1)).run Try.prog w = .ok (.iface 146 (.agg #[.bool true])) w := by kernel_rfl
theorem own_snoc_sale (L : List SaleD) (x : SaleD) {W : World} {base : Nat} {v : Value} (h : W.ownsRow base 93 3 v (L.length + 1) (L.flatMap saleC ++ saleC x)) : W.ownsRow base 93 3 v (L ++ [x]).length ((L ++ [x]).flatMap saleC) := by
  rw [List.length_append, List.flatMap_append]
  simpa using h
theorem preW_len (l : LotD) (b j : Nat) : (preW l b j).length ≤ 2 * l.lim.length := by
  have h1 := genW_len l b false l.lim.length
  have h2 := genW_len l b true l.lim.length
  rcases (show j = 0 ∨ j = 1 ∨ 2 ≤ j by omega) with rfl | rfl | h
  · simp [preW]
  · simp only [preW]; omega
  · have : preW l b j = waysN l b := by
      match j, h with
      | j + 2, _ => rfl
    rw [this, ways_gen, List.length_append]; omega
theorem exec_maxL {o : Oper} {ev : Operand → Value} {W : World} (x y : Operand) (ho : o.op = .call { callee := .builtin .max, args := #[x, y], argTypes := #[3, 3] }) (hty : o.type = 3) (p q : Int) (hx : ev x = .int .i64 p) (hy : ev y = .int .i64 q) :
    (execOp ev o).run Try.prog W = .ok (.value (.int .i64 (max p q))) W := by
  unfold execOp
  simp only [ho, resolve, invoke, builtin, Sem.run_bind, Sem.run_pure, Result.andThen_ok, List.map_toArray, List.map_cons, List.map_nil, hx, hy, hty]
  have hr : (Builtin.max_ #[3, 3] 3 #[Value.int IntKind.i64 p, Value.int IntKind.i64 q]).run Try.prog W = .ok (.int .i64 (max p q)) W := by
    simp [Builtin.max_, Builtin.max2, go_sem]
    by_cases h : p < q
    · rw [if_pos h]; omega
    · rw [if_neg h]; omega
  rw [hr]
  rfl
set_option maxRecDepth 100000 in
set_option maxHeartbeats 16000000 in
theorem lBest_any (l : LotD) (p : PartsL) (b : Int) (w : World) (hlot : LotAt l p (fun k => k < w.heap.size) w) (h9 : Small9 l) :
    Calls Try.prog 11 #[lotV l p, .int .i64 b] w fun e w' => e = .returned (.tuple #[.int .i64 (bestD l b).1, .bool (bestD l b).2.1, .int .i64 (bestD l b).2.2.1, .int .i64 (bestD l b).2.2.2]) ∧ Below w.heap.size w w' := by
  obtain ⟨al, cl, hvl, _⟩ := id hlot.lim
  obtain ⟨ab, cb, hvb, _⟩ := id hlot.blk
  obtain ⟨ap, cp, hvp, _⟩ := id hlot.pay
  obtain ⟨ao, co, hvo, _⟩ := id hlot.ord
  obtain ⟨nl, hnl⟩ : ∃ n, n = l.lim.length := ⟨_, rfl⟩
  obtain ⟨nb, hnb⟩ : ∃ n, n = l.blocks.length := ⟨_, rfl⟩
  obtain ⟨np, hnp⟩ : ∃ n, n = l.pays.length := ⟨_, rfl⟩
  obtain ⟨no, hno⟩ : ∃ n, n = l.orders.length := ⟨_, rfl⟩
  rw [← hnl] at hvl
  rw [← hnb] at hvb
  rw [← hnp] at hvp
  rw [← hno] at hvo
  have HVL := Lib.hid (And.intro hvl (And.intro hvb (And.intro hvp hvo)))
  have HNL := Lib.hid hnl
  have HNB := Lib.hid hnb
  have HNP := Lib.hid hnp
  have HNO := Lib.hid hno
  have HLOT := Lib.hid hlot
  clear hvl hvb hvp hvo hnl hnb hnp hno hlot
  have hmf : ∀ fn first cap w, (Instr.makeFunc fn first cap).run Try.prog w = .ok (.func fn first cap) w := fun _ _ _ _ => rfl
  obtain ⟨W0, hW0⟩ : ∃ W0, W0 = (w.alloc (.cells (lotC l p).toArray 32)).alloc (.cells #[.int .i64 0] 24) := ⟨_, rfl⟩
  have y0 : W0.heap[w.heap.size]? = some (lotO l p) := by rw [hW0]; unfold lotO; exact (by repeat (first | (refine heap_alloc_at _ _ _ ?_; (simp <;> omega); done) | (refine (hget_old _ _ _ ?_).trans ?_; · (simp <;> omega))))
  have y1 : W0.heap[w.heap.size + 1]? = some (.cells #[.int .i64 0] 24 (0, 0)) := by rw [hW0]; exact (by repeat (first | (refine heap_alloc_at _ _ _ ?_; (simp <;> omega); done) | (refine (hget_old _ _ _ ?_).trans ?_; · (simp <;> omega))))
  have hs0 : W0.heap.size = w.heap.size + (1 + 1) := by rw [hW0]; simp
  have H0 := Lib.hid y0
  have H1 := Lib.hid y1
  have HS0 := Lib.hid hs0
  clear y0 y1 hs0
  have HB := Lib.hid (show Below w.heap.size w W0 by rw [hW0]; exact (below_allocG _ _).alloc (by simp) _)
  unfold lotV
  go_enter_defers Try.func11, Try.ntmps11
  go_upto_region 2 with fail
  rw [← hW0]
  clear hW0
  go_wp2_with (first | (refine wpList_load_row rfl 32 _ rfl w.heap.size rfl 32 (lotC l p).toArray (0, 0) _ H0.out underLot rfl sizeLot ?_))
  refine (lone_any l p b W0 (HLOT.out.later HB.out.size (fun k h1 h2 => HB.out.block k h2)).low h9).mono ?_
  rintro e w3 ⟨hb3, ⟨he, sp, mk, ml, sv, rfl, hS⟩ | ⟨hne, rfl⟩⟩
  rotate_left
  · refine leaf_stop_lBest _ (w.heap.size + 1) 0 _ w3 ((hb3.block _ (lt_of_block H1.out)).trans H1.out) (fun W' hk he9 => ?_)
    have e0 : W'.cell? ⟨w.heap.size + 1, 0, none⟩ = some (.int .i64 (errL l [] (isBlockL l b))) := by rw [cell_of_row _ _ _ _ _ _ he9]; rfl
    refine ⟨.tuple #[.int .i64 0, .bool false, .int .i64 0, .int .i64 (errL l [] (isBlockL l b))], by simp [results, Try.results11, go_sem, e0], ?_, (HB.out.trans (hb3.mono HB.out.size)).trans (hk.below (by have := hb3.size; have := HB.out.size; omega) (fun k h e => by omega))⟩
    unfold bestD; dsimp only; rw [if_neg hne]
  have hib := (isBlock_nat (b := b) he).1
  obtain ⟨bn, hbn, hbl⟩ : ∃ n : Nat, b = (n : Int) ∧ n < l.blocks.length := by
    unfold isBlockL at hib
    have := of_decide_eq_true hib
    exact ⟨b.toNat, by omega, by omega⟩
  subst hbn
  have hsd : bestD l (bn : Int) = (((bestN l bn).1 : Int), (bestN l bn).2.1, max 0 (bestN l bn).2.2, 0) := by unfold bestD; dsimp only; rw [if_pos he, Int.toNat_natCast]
  have hoK := OkL.of he
  have hl4 : nl ≤ 4 := by rw [HNL.out]; exact lim4 (g := ⟨l.lim, zeroPts, l.step⟩) (validL_parts hoK.v).2.2.2.2.1
  have HSD := Lib.hid hsd
  have HOK := Lib.hid hoK
  have hsz0 := HS0.out
  have HB3 := Lib.hid hb3
  have HS3 := Lib.hid hS
  clear he hib hsd hoK hS hb3
  dsimp only
  go_wp2_with fail
  refine (lways_any w3).mono ?_
  rintro e w4 ⟨rfl, hb4⟩
  have HS := Lib.hid (HS3.out.later hb4)
  have HB4 := Lib.hid (HB3.out.trans (hb4.mono HB3.out.size))
  have hsz4 : W0.heap.size ≤ w4.heap.size := by have := hb4.size; have := HB3.out.size; omega
  clear hb4
  dsimp only
  go_wp2_with fail
  go_loopw [9, 20] (fun av iv wr => ∃ j : Nat, j ≤ 2 ∧ iv = .int .i64 j ∧ wr.ownsRow w4.heap.size 93 3 av (preW l bn j).length ((preW l bn j).flatMap saleC) ∧ KnownL mk (sureL l) wr ∧ KnownL ml (lapsL l) wr ∧ Keeps (fun k => k = mk ∨ k = ml) w4 wr) (fun _ iv _ => 3 - (intOf iv).toNat)
  case atStart => exact ⟨0, by omega, rfl, World.ownsRow_nil _ _ _ _, HS.out.known, HS.out.laps, Keeps.refl _ _⟩
  case round =>
    obtain ⟨j, hj, rfl, hown, hkm, hkl, hkr⟩ := hrel
    obtain ⟨wo, hwo⟩ : ∃ W, W = wr := ⟨_, rfl⟩
    subst hwo
    have HOWN := Lib.hid hown
    have HKM := Lib.hid hkm
    have HKL := Lib.hid hkl
    have HKR := Lib.hid hkr
    have hbo : Below W0.heap.size W0 wo := HB4.out.trans (hkr.below (by omega) (fun k h e => by have := HS.out.bk; have := HS.out.bl; omega))
    have HBO := Lib.hid hbo
    have hx0 := (hbo.block _ (lt_of_block H0.out)).trans H0.out
    have c0 : wo.cell? ⟨w.heap.size, 0, none⟩ = some (.slice al nl cl) := by rw [cell_of_row _ _ _ _ _ _ hx0]; rw [← HVL.out.1]; rfl
    clear hown hkm hkl hkr hbo hx0
    rcases (show j = 0 ∨ j = 1 ∨ j = 2 by omega) with rfl | rfl | rfl
    · skip
      unfold waysV
      rw [show (((0 : Nat)) : Int) = (0 : Int) from rfl]
      have hix := idx_way0
      have hix1 := idx_way1
      go_wp2_with fail
      clear hix hix1 c0
      go_loopw [9, 26] (fun av iv wr => ∃ k : Nat, k ≤ nl ∧ iv = .int .i64 k ∧ wr.ownsRow w4.heap.size 93 3 av (preW l bn 0 ++ genW l bn false k).length ((preW l bn 0 ++ genW l bn false k).flatMap saleC) ∧ KnownL mk (sureL l) wr ∧ KnownL ml (lapsL l) wr ∧ Keeps (fun k => k = mk ∨ k = ml) w4 wr) (fun _ iv _ => nl - (intOf iv).toNat)
      case atStart => exact ⟨0, Nat.zero_le _, rfl, by have := HOWN.out; simpa [genW] using this, HKM.out, HKL.out, HKR.out⟩
      case round =>
        obtain ⟨k, hk, rfl, hown, hkm, hkl, hkr⟩ := hrel
        have hsr := HS.out.keepM hkr hkm hkl
        have hszr := hkr.size
        have HOWN1 := Lib.hid hown
        have HKR1 := Lib.hid hkr
        have HSR := Lib.hid hsr
        have hsuc := genW_succ l bn false k
        have hlenk := genW_len l bn false k
        have HSUC := Lib.hid hsuc
        clear hown hkm hkl hkr hsr hsuc
        by_cases hlt : k < nl
        · have hw : IntKind.i64.wrap ((k : Int) + 1) = ((k + 1 : Nat) : Int) := by rw [IntWalk.i64_in _ (by omega)]; omega
          have hlti : (k : Int) < (nl : Int) := by omega
          have hkl9 : k < l.lim.length := by rw [← HNL.out]; exact hlt
          have m1 := meth_can0
          have m2 := meth_can1
          go_wp2_with fail
          clear m1 m2
          have hcc := lplainCan_any HOK.out false bn k hbl hkl9 wr HSR.out
          obtain ⟨cw, hcw⟩ : ∃ q, q = canW l bn false k := ⟨_, rfl⟩
          rw [show sureL l bn k = cw from hcw.symm] at hcc
          have HCW := Lib.hid hcw
          clear hcw
          refine hcc.mono ?_
          clear hcc
          rintro e w5 ⟨rfl, hs5, hk5⟩
          have hown5 : w5.ownsRow w4.heap.size 93 3 _ (preW l bn 0 ++ genW l bn false k).length ((preW l bn 0 ++ genW l bn false k).flatMap saleC) := own_block HOWN1.out (fun q e => hk5.block q (HOWN1.out.lt q e).2 (by have := (HOWN1.out.lt q e).1; have := HS.out.known.lt; have := HS.out.laps.lt; omega))
          have hsz5 := hk5.size
          have HS5 := Lib.hid hs5
          have HK5 := Lib.hid (HKR1.out.trans (hk5.mono (Mut' := fun k => k = mk ∨ k = ml) (fun k _ h => by first | exact .inl h | exact .inr h)))
          have HOWN5 := Lib.hid hown5
          clear hs5 hk5 hown5
          dsimp only
          cases cw with
          | false =>
            have hge : genW l bn false (k + 1) = genW l bn false k := by rw [HSUC.out, if_neg (by rw [← HCW.out]; decide)]
            have HGE := Lib.hid hge
            clear hge
            go_wp2_with fail
            go_roundw
            case measure => simp [intOf]; omega
            exact ⟨k + 1, by omega, rfl, by rw [HGE.out]; exact HOWN5.out, HS5.out.known, HS5.out.laps, HK5.out⟩
          | true =>
            have hge : genW l bn false (k + 1) = genW l bn false k ++ [(k, false, payW l false k)] := by rw [HSUC.out, if_pos HCW.out.symm]
            have HGE := Lib.hid hge
            clear hge
            have m1 := meth_lap0
            have m2 := meth_lap1
            go_wp2_with fail
            refine (llapped_any false w5).mono ?_
            rintro e w6 ⟨rfl, hb6⟩
            have HS6 := Lib.hid (HS5.out.later hb6)
            have HB6 := Lib.hid hb6
            clear hb6 m1 m2
            dsimp only
            have m1 := meth_pay0
            have m2 := meth_pay1
            go_wp2_with fail
            clear m1 m2
            have hpc := lplainPays_any HOK.out false k hkl9 w6 HS6.out
            obtain ⟨pw, hpw⟩ : ∃ q, q = payW l false k := ⟨_, rfl⟩
            rw [show paidL l k = pw from hpw.symm] at hpc
            have HPW := Lib.hid hpw
            clear hpw
            refine hpc.mono ?_
            clear hpc
            rintro e w7 ⟨rfl, hb7⟩
            have hb57 : Below w5.heap.size w5 w7 := HB6.out.trans (hb7.mono HB6.out.size)
            have hown7 : w7.ownsRow w4.heap.size 93 3 _ (preW l bn 0 ++ genW l bn false k).length ((preW l bn 0 ++ genW l bn false k).flatMap saleC) := own_block HOWN5.out (fun q e => hb57.block q (HOWN5.out.lt q e).2)
            have hsz7 := hb57.size
            have HB7 := Lib.hid hb57
            have HOWN7 := Lib.hid hown7
            clear hb7 hb57 hown7
            dsimp only
            go_wp2_with (first | (refine wpList_append_here rfl (.tmp 35) (.tmp 44) 84 rfl w4.heap.size 93 3 24 _ underSales infoSale rfl (by decide) _ (preW l bn 0 ++ genW l bn false k).length _ rfl (own_block HOWN7.out (fun q e => Below.heap_alloc _ _ _ (HOWN7.out.lt q e).2)) w7.heap.size 1 #[.int .i64 (k : Int), .bool false, .int .i64 pw] 93 (0, 0) rfl (heap_alloc_at _ _ _ (by simp)) rfl (by simp [Value.oneCell']) (by rw [List.length_append]; have hq := preW_len l bn 0; rw [← HNL.out] at hq; omega) (by decide) (by simp <;> omega) ?_))
            intro v1 W8 hown8 hg8 hat8
            have hob := fun q (e : _ = some q) => (HOWN7.out.lt q e).1
            have hk8 : Keeps (fun q => w4.heap.size ≤ q) w7 W8 := (Keeps.alloc _ _ _).trans ((keeps_grown hg8).mono fun q _ e => hob q e)
            have hk48 : Keeps (fun k => k = mk ∨ k = ml) w4 W8 := (HK5.out.trans (Keeps.of_below (Mut := fun k => k = mk ∨ k = ml) HB7.out (fun k h1 h2 => absurd h2 (by omega)))).transNew hk8 (fun i h => h)
            have hkm8 : KnownL mk (sureL l) W8 := (HS5.out.known.of (HB7.out.block _ HS5.out.known.lt)).of (hk8.block _ (by have := HS.out.known.lt; omega) (by have := HS.out.known.lt; omega))
            have hkl8 : KnownL ml (lapsL l) W8 := (HS5.out.laps.of (HB7.out.block _ HS5.out.laps.lt)).of (hk8.block _ (by have := HS.out.laps.lt; omega) (by have := HS.out.laps.lt; omega))
            have HF := Lib.hid (And.intro hown8 (And.intro hkm8 (And.intro hkl8 hk48)))
            clear hown8 hg8 hat8 hob hk8 hk48 hkm8 hkl8
            go_wp2_with fail
            go_roundw
            case measure => simp [intOf]; omega
            obtain ⟨hown8, hkm8, hkl8, hk48⟩ := HF.out
            refine ⟨k + 1, by omega, rfl, ?_, hkm8, hkl8, hk48⟩
            rw [HGE.out, ← List.append_assoc]
            exact own_snoc_sale _ _ (by rw [← HPW.out, List.length_append, List.flatMap_append, List.append_assoc]; exact hown8)
        · have hin : k = nl := by omega
          have hlti : ¬ (k : Int) < (nl : Int) := by omega
          have hgn : preW l bn (0 + 1) = preW l bn 0 ++ genW l bn false k := by rw [hin, HNL.out]; rfl
          have HGN := Lib.hid hgn
          clear hin hgn
          go_wp2_with fail
          go_roundw
          case measure => simp [intOf]
          exact ⟨0 + 1, by omega, rfl, by rw [HGN.out]; exact HOWN1.out, HSR.out.known, HSR.out.laps, HKR1.out⟩
    · skip
      unfold waysV
      rw [show (((1 : Nat)) : Int) = (1 : Int) from rfl]
      have hix := idx_way0
      have hix1 := idx_way1
      go_wp2_with fail
      clear hix hix1 c0
      go_loopw [9, 26] (fun av iv wr => ∃ k : Nat, k ≤ nl ∧ iv = .int .i64 k ∧ wr.ownsRow w4.heap.size 93 3 av (preW l bn 1 ++ genW l bn true k).length ((preW l bn 1 ++ genW l bn true k).flatMap saleC) ∧ KnownL mk (sureL l) wr ∧ KnownL ml (lapsL l) wr ∧ Keeps (fun k => k = mk ∨ k = ml) w4 wr) (fun _ iv _ => nl - (intOf iv).toNat)
      case atStart => exact ⟨0, Nat.zero_le _, rfl, by have := HOWN.out; simpa [genW] using this, HKM.out, HKL.out, HKR.out⟩
      case round =>
        obtain ⟨k, hk, rfl, hown, hkm, hkl, hkr⟩ := hrel
        have hsr := HS.out.keepM hkr hkm hkl
        have hszr := hkr.size
        have HOWN1 := Lib.hid hown
        have HKR1 := Lib.hid hkr
        have HSR := Lib.hid hsr
        have hsuc := genW_succ l bn true k
        have hlenk := genW_len l bn true k
        have HSUC := Lib.hid hsuc
        clear hown hkm hkl hkr hsr hsuc
        by_cases hlt : k < nl
        · have hw : IntKind.i64.wrap ((k : Int) + 1) = ((k + 1 : Nat) : Int) := by rw [IntWalk.i64_in _ (by omega)]; omega
          have hlti : (k : Int) < (nl : Int) := by omega
          have hkl9 : k < l.lim.length := by rw [← HNL.out]; exact hlt
          have m1 := meth_can0
          have m2 := meth_can1
          go_wp2_with fail
          clear m1 m2
          have hcc := lpolCan_any HOK.out bn k hbl hkl9 wr HSR.out
          obtain ⟨cw, hcw⟩ : ∃ q, q = canW l bn true k := ⟨_, rfl⟩
          rw [show ((List.range (k + 1)).any fun k => lapsL l bn k) = cw from hcw.symm] at hcc
          have HCW := Lib.hid hcw
          clear hcw
          refine hcc.mono ?_
          clear hcc
          rintro e w5 ⟨rfl, hs5, hk5⟩
          have hown5 : w5.ownsRow w4.heap.size 93 3 _ (preW l bn 1 ++ genW l bn true k).length ((preW l bn 1 ++ genW l bn true k).flatMap saleC) := own_block HOWN1.out (fun q e => hk5.block q (HOWN1.out.lt q e).2 (by have := (HOWN1.out.lt q e).1; have := HS.out.known.lt; have := HS.out.laps.lt; omega))
          have hsz5 := hk5.size
          have HS5 := Lib.hid hs5
          have HK5 := Lib.hid (HKR1.out.trans (hk5.mono (Mut' := fun k => k = mk ∨ k = ml) (fun k _ h => by first | exact .inl h | exact .inr h)))
          have HOWN5 := Lib.hid hown5
          clear hs5 hk5 hown5
          dsimp only
          cases cw with
          | false =>
            have hge : genW l bn true (k + 1) = genW l bn true k := by rw [HSUC.out, if_neg (by rw [← HCW.out]; decide)]
            have HGE := Lib.hid hge
            clear hge
            go_wp2_with fail
            go_roundw
            case measure => simp [intOf]; omega
            exact ⟨k + 1, by omega, rfl, by rw [HGE.out]; exact HOWN5.out, HS5.out.known, HS5.out.laps, HK5.out⟩
          | true =>
            have hge : genW l bn true (k + 1) = genW l bn true k ++ [(k, true, payW l true k)] := by rw [HSUC.out, if_pos HCW.out.symm]
            have HGE := Lib.hid hge
            clear hge
            have m1 := meth_lap0
            have m2 := meth_lap1
            go_wp2_with fail
            refine (llapped_any true w5).mono ?_
            rintro e w6 ⟨rfl, hb6⟩
            have HS6 := Lib.hid (HS5.out.later hb6)
            have HB6 := Lib.hid hb6
            clear hb6 m1 m2
            dsimp only
            have m1 := meth_pay0
            have m2 := meth_pay1
            go_wp2_with fail
            clear m1 m2
            have hpc := lpolPays_any HOK.out k hkl9 w6 HS6.out
            obtain ⟨pw, hpw⟩ : ∃ q, q = payW l true k := ⟨_, rfl⟩
            rw [show (paidL l k - l.lap) = pw from hpw.symm] at hpc
            have HPW := Lib.hid hpw
            clear hpw
            refine hpc.mono ?_
            clear hpc
            rintro e w7 ⟨rfl, hb7⟩
            have hb57 : Below w5.heap.size w5 w7 := HB6.out.trans (hb7.mono HB6.out.size)
            have hown7 : w7.ownsRow w4.heap.size 93 3 _ (preW l bn 1 ++ genW l bn true k).length ((preW l bn 1 ++ genW l bn true k).flatMap saleC) := own_block HOWN5.out (fun q e => hb57.block q (HOWN5.out.lt q e).2)
            have hsz7 := hb57.size
            have HB7 := Lib.hid hb57
            have HOWN7 := Lib.hid hown7
            clear hb7 hb57 hown7
            dsimp only
            go_wp2_with (first | (refine wpList_append_here rfl (.tmp 35) (.tmp 44) 84 rfl w4.heap.size 93 3 24 _ underSales infoSale rfl (by decide) _ (preW l bn 1 ++ genW l bn true k).length _ rfl (own_block HOWN7.out (fun q e => Below.heap_alloc _ _ _ (HOWN7.out.lt q e).2)) w7.heap.size 1 #[.int .i64 (k : Int), .bool true, .int .i64 pw] 93 (0, 0) rfl (heap_alloc_at _ _ _ (by simp)) rfl (by simp [Value.oneCell']) (by rw [List.length_append]; have hq := preW_len l bn 1; rw [← HNL.out] at hq; omega) (by decide) (by simp <;> omega) ?_))
            intro v1 W8 hown8 hg8 hat8
            have hob := fun q (e : _ = some q) => (HOWN7.out.lt q e).1
            have hk8 : Keeps (fun q => w4.heap.size ≤ q) w7 W8 := (Keeps.alloc _ _ _).trans ((keeps_grown hg8).mono fun q _ e => hob q e)
            have hk48 : Keeps (fun k => k = mk ∨ k = ml) w4 W8 := (HK5.out.trans (Keeps.of_below (Mut := fun k => k = mk ∨ k = ml) HB7.out (fun k h1 h2 => absurd h2 (by omega)))).transNew hk8 (fun i h => h)
            have hkm8 : KnownL mk (sureL l) W8 := (HS5.out.known.of (HB7.out.block _ HS5.out.known.lt)).of (hk8.block _ (by have := HS.out.known.lt; omega) (by have := HS.out.known.lt; omega))
            have hkl8 : KnownL ml (lapsL l) W8 := (HS5.out.laps.of (HB7.out.block _ HS5.out.laps.lt)).of (hk8.block _ (by have := HS.out.laps.lt; omega) (by have := HS.out.laps.lt; omega))
            have HF := Lib.hid (And.intro hown8 (And.intro hkm8 (And.intro hkl8 hk48)))
            clear hown8 hg8 hat8 hob hk8 hk48 hkm8 hkl8
            go_wp2_with fail
            go_roundw
            case measure => simp [intOf]; omega
            obtain ⟨hown8, hkm8, hkl8, hk48⟩ := HF.out
            refine ⟨k + 1, by omega, rfl, ?_, hkm8, hkl8, hk48⟩
            rw [HGE.out, ← List.append_assoc]
            exact own_snoc_sale _ _ (by rw [← HPW.out, List.length_append, List.flatMap_append, List.append_assoc]; exact hown8)
        · have hin : k = nl := by omega
          have hlti : ¬ (k : Int) < (nl : Int) := by omega
          have hgn : preW l bn (1 + 1) = preW l bn 1 ++ genW l bn true k := by rw [hin, HNL.out]; rfl
          have HGN := Lib.hid hgn
          clear hin hgn
          go_wp2_with fail
          go_roundw
          case measure => simp [intOf]
          exact ⟨1 + 1, by omega, rfl, by rw [HGN.out]; exact HOWN1.out, HSR.out.known, HSR.out.laps, HKR1.out⟩
    · have hsl := (sales_of_own (l := preW l bn 2) rfl HOWN.out)
      obtain ⟨asl, csl, hav, _⟩ := id hsl
      subst hav
      have hpl := preW_len l bn 2
      rw [← HNL.out] at hpl
      have HSL := Lib.hid hsl
      have hbest : bestOf (nl, false, -1) (preW l bn 2) = bestN l bn := by unfold bestN; rw [HNL.out]; rfl
      obtain ⟨⟨rg, rl, rb⟩, hr⟩ : ∃ q, q = bestN l bn := ⟨_, rfl⟩
      rw [← hr] at hbest
      have HBEST := Lib.hid hbest
      have HR := Lib.hid hr
      obtain ⟨lsn, hlsn⟩ : ∃ q, q = (preW l bn 2).length := ⟨_, rfl⟩
      rw [← hlsn] at HSL ⊢
      rw [show (((2 : Nat)) : Int) = (2 : Int) from rfl]
      clear hsl hbest hr
      go_upto_region 15 with fail
      obtain ⟨W5, hW5⟩ : ∃ W, W = wo.alloc (.cells #[moreV] 94) := ⟨_, rfl⟩
      have hbm : W5.heap[wo.heap.size]? = some (.cells #[moreV] 94 (0, 0)) := by rw [hW5]; exact heap_alloc_at _ _ _ rfl
      have hb5 : Below wo.heap.size wo W5 := by rw [hW5]; exact below_allocG _ _
      unfold moreV at hW5
      rw [← hW5]
      have c5 : W5.cell? ⟨w.heap.size, 0, none⟩ = some (.slice al nl cl) := (World.cell?_of_block (w := wo) (hb5.block _ (by have := HBO.out.size; show w.heap.size < _; omega))).trans c0
      have hsl5 : SalesAt W5 (.slice asl lsn csl) (preW l bn 2) (fun k => k < W5.heap.size) := by
        obtain ⟨ao9, cap9, e1, e2⟩ := HSL.out
        rw [hlsn]
        rw [hlsn] at e1
        refine ⟨ao9, cap9, e1, fun i hi => ?_⟩
        obtain ⟨b9, off9, f1, f2, f3, f4, f5, f6⟩ := e2 i hi
        have hbb := hb5.block b9 f3
        exact ⟨b9, off9, f1, by have := hb5.size; omega, by have := hb5.size; omega, (World.cell?_of_block (w := wo) (a := ⟨b9, off9 + i * 3, none⟩) hbb).trans f4, (World.cell?_of_block (w := wo) (a := ⟨b9, off9 + i * 3 + 1, none⟩) hbb).trans f5, (World.cell?_of_block (w := wo) (a := ⟨b9, off9 + i * 3 + 2, none⟩) hbb).trans f6⟩
      have HBM := Lib.hid hbm
      have HB5 := Lib.hid (HBO.out.trans (hb5.mono HBO.out.size))
      have HSL5 := Lib.hid hsl5
      have HLSN := Lib.hid hlsn
      clear hbm hb5 hsl5 hW5 c0 hlsn
      go_wp2_with fail
      refine (lbest_any (nl, false, -1) (preW l bn 2) (.slice asl lsn csl) _ wo.heap.size W5 (by omega) HSL5.out HBM.out).mono ?_
      rintro e w6 ⟨rfl, hb6⟩
      rw [HBEST.out]
      have HB6 := Lib.hid (HB5.out.trans (hb6.mono HB5.out.size))
      clear hb6 c5
      unfold saleV
      dsimp only
      go_upto_region 16 with fail
      obtain ⟨W7, hW7⟩ : ∃ W, W = w6.alloc (.cells #[.int .i64 (rg : Int), .bool rl, .int .i64 rb] 93) := ⟨_, rfl⟩
      rw [← hW7]
      have hr7 : W7.heap[w6.heap.size]? = some (.cells #[.int .i64 (rg : Int), .bool rl, .int .i64 rb] 93 (0, 0)) := by rw [hW7]; exact heap_alloc_at _ _ _ rfl
      have hb7 : Below W0.heap.size W0 W7 := by rw [hW7]; exact HB6.out.alloc HB6.out.size _
      have he7 := (hb7.block _ (lt_of_block H1.out)).trans H1.out
      obtain ⟨d0, d1, d2⟩ := three_cells hr7
      have e0 : W7.cell? ⟨w.heap.size + 1, 0, none⟩ = some (.int .i64 0) := by rw [cell_of_row _ _ _ _ _ _ he7]; rfl
      have f0 : W7.frozen? ⟨w.heap.size + 1, 0, none⟩ = false := frozen_of_row _ _ _ _ _ he7
      have HE7 := Lib.hid he7
      have HB7 := Lib.hid hb7
      clear hr7 hb7 he7 hW7
      refine region_fix 10 (fun X => X = W7.drew) (by kernel_rfl) (by kernel_rfl) rfl ?_
      simp only [List.take_succ_cons, List.take_zero, List.drop_succ_cons, List.drop_zero]
      iterate 6
        refine WF_step ?_ (fun W' hC => ?_) rfl ?_
        rotate_left
        · subst hC
          go_simp
          exact fix_value (P := Try.prog) rfl
        simp only [Act.put, List.setIfInBounds_toArray, List.set_cons_zero, List.set_cons_succ]
      refine WF_step (.int .i64 (max 0 rb)) (fun W' hC => ?_) rfl ?_
      · rw [exec_maxL (.const (.int .i64 0)) (.tmp 61) rfl rfl 0 rb rfl rfl]
        exact fix_value hC
      simp only [Act.put, List.setIfInBounds_toArray, List.set_cons_zero, List.set_cons_succ]
      iterate 3
        refine WF_step ?_ (fun W' hC => ?_) rfl ?_
        rotate_left
        · subst hC
          go_simp
          exact fix_value (P := Try.prog) rfl
        simp only [Act.put, List.setIfInBounds_toArray, List.set_cons_zero, List.set_cons_succ]
      refine WF_nil ?_
      rintro X rfl
      go_wp2
      refine leaf_ret_lBest (w.heap.size + 1) _ _ ?_
      have e9 : ((W7.setCell ⟨w.heap.size + 1, 0, none⟩ (.int .i64 0)).drew).cell? ⟨w.heap.size + 1, 0, none⟩ = some (.int .i64 0) := by
        have q : ((W7.setCell ⟨w.heap.size + 1, 0, none⟩ (.int .i64 0)).drew).heap[w.heap.size + 1]? = _ := one_setG HE7.out
        rw [cell_of_row _ _ _ _ _ _ q]; rfl
      exact ⟨.tuple #[.int .i64 (rg : Int), .bool rl, .int .i64 (max 0 rb), .int .i64 0], by simp [results, Try.results11, go_sem, e9], by rw [HSD.out, ← HR.out], ((HB.out.trans (HB7.out.mono HB.out.size)).setCell (by simp) _).drew⟩
end Go.Proofs.Ytagjepclobobjaa
