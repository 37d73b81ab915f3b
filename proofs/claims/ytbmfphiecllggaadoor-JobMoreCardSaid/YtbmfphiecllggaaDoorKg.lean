/- Texts Wi, Xa, Xb, Xc, Xk, Xd in one file; each begins with a word on what it proves. -/
import Derived.Deep.Slices
import Derived.Lib.SmallJoins
import Derived.LaidMore
import Derived.Stop.Joined
import Derived.Test.YtbmfphiecllggaaDoorKf
import Derived.Test.YtbmfphiecllggaaDoorKa

/- The plan that is told. -/
namespace Go.Proofs.YtbmfphiecllggaaDoor
set_option linter.unusedVariables false
set_option linter.unusedSimpArgs false
open Go.RowKit Go.Shelf
attribute [local go_sem] Oper.semAt_some
theorem sel_tailJ {α : Type} : ∀ (L : List α) (k : Nat), k ≤ L.length → selJ L (2 ^ L.length - 2 ^ k) = L.drop k
  | [], k, h => by
    obtain rfl : k = 0 := by simpa using h
    rfl
  | b :: bs, 0, _ => by
    have h1 : (2 ^ (b :: bs).length - 2 ^ 0) % 2 = 1 := by
      have := Nat.two_pow_pos bs.length
      rw [List.length_cons, Nat.pow_succ]; omega
    have h2 : (2 ^ (b :: bs).length - 2 ^ 0) / 2 = 2 ^ bs.length - 2 ^ 0 := by
      have := Nat.two_pow_pos bs.length
      rw [List.length_cons, Nat.pow_succ]; omega
    rw [selJ, if_pos h1, h2, sel_tailJ bs 0 (Nat.zero_le _)]; rfl
  | b :: bs, k + 1, h => by
    have hp : 2 ^ k ≤ 2 ^ bs.length := Nat.pow_le_pow_right (by decide) (by simpa using h)
    have h1 : ¬ (2 ^ (b :: bs).length - 2 ^ (k + 1)) % 2 = 1 := by
      rw [List.length_cons, Nat.pow_succ, Nat.pow_succ]; omega
    have h2 : (2 ^ (b :: bs).length - 2 ^ (k + 1)) / 2 = 2 ^ bs.length - 2 ^ k := by
      rw [List.length_cons, Nat.pow_succ, Nat.pow_succ]; omega
    rw [selJ, if_neg h1, h2, sel_tailJ bs k (by simpa using h)]; rfl
theorem told_go {m : Nat} {R : List Nat} {Rs : List (List Nat)} {av : Nat} {x : Nat × Nat} (h : scoreJ m (R :: Rs) av = some x) :
    toldJ m (R :: Rs) av = x.1 :: toldJ m Rs (afterJ av x.1) ∧ x.1 ∈ R ∧ (scoreJ m Rs (afterJ av x.1)).isSome = true := by
  have ht : toldJ m (R :: Rs) av = x.1 :: toldJ m Rs (afterJ av x.1) := by rw [toldJ, h]
  obtain ⟨hp, _⟩ := (score_specJ m (R :: Rs) av).2 x h
  rw [ht] at hp
  obtain ⟨s, t, he, hs, _, hp2⟩ := hp
  cases he
  refine ⟨ht, hs, ?_⟩
  cases hz : scoreJ m Rs (afterJ av x.1) with
  | some y => rfl
  | none => exact absurd hp2 ((score_specJ m Rs _).1 hz _)
/-- The plan as far as it is told. -/
structure ToldJ (j : JobD) (k av : Nat) (pre : List Nat) : Prop where
  avl : av < 2 ^ j.st.bs.length
  told : toldJ 8 (rightsD j) (allD j) = pre ++ toldJ 8 ((rightsD j).drop k) av
  len : pre.length = k
  can : (scoreJ 8 ((rightsD j).drop k) av).isSome = true
theorem rightsD_len (j : JobD) : (rightsD j).length = j.ws.length := by unfold rightsD; simp
theorem sel_every (j : JobD) : selJ (rightsD j) (everyD j) = rightsD j := by
  have := sel_tailJ (rightsD j) 0 (Nat.zero_le _)
  rw [rightsD_len] at this
  exact this
theorem ToldJ.zero {j : JobD} (h : canD j (everyD j) = true) : ToldJ j 0 (allD j) [] := by
  refine ⟨allD_lt j, rfl, rfl, ?_⟩
  unfold canD scoreD at h
  rw [sel_every] at h
  exact h
theorem ToldJ.next {j : JobD} {k av : Nat} {pre : List Nat} (h : ToldJ j k av pre) (hk : k < j.ws.length) : ∃ x, scoreD j (2 ^ j.ws.length - 2 ^ k) av = some x ∧ x.1 < 2 ^ j.st.bs.length ∧ ToldJ j (k + 1) (afterJ av x.1) (pre ++ [x.1]) := by
  have hl : k < (rightsD j).length := by rw [rightsD_len]; exact hk
  have hd : (rightsD j).drop k = (rightsD j)[k] :: (rightsD j).drop (k + 1) := (List.getElem_cons_drop (h := hl)).symm
  have hs : scoreD j (2 ^ j.ws.length - 2 ^ k) av = scoreJ 8 ((rightsD j).drop k) av := by
    unfold scoreD
    have := sel_tailJ (rightsD j) k (Nat.le_of_lt hl)
    rw [rightsD_len] at this
    rw [this]
  have hc := h.can
  cases hz : scoreJ 8 ((rightsD j).drop k) av with
  | none => rw [hz] at hc; cases hc
  | some x =>
    have hz2 := hz
    rw [hd] at hz2
    obtain ⟨h1, h2, h3⟩ := told_go hz2
    refine ⟨x, hs.trans hz, rights_lt k x.1 (by rw [List.getD_eq_getElem?_getD, List.getElem?_eq_getElem hl]; exact h2), ⟨afterJ_lt _ _ _ h.avl, ?_, by simp [h.len], h3⟩⟩
    rw [h.told, hd, h1, List.append_assoc]; rfl
theorem ToldJ.done {j : JobD} {av : Nat} {pre : List Nat} (h : ToldJ j j.ws.length av pre) : pre = toldJ 8 (rightsD j) (allD j) := by
  rw [h.told, List.drop_of_length_le (by rw [rightsD_len]; exact Nat.le_refl _)]
  simp [toldJ]
theorem two_setCell2 {w : World} {b : Nat} {x y x' y' : Value} {t : TypeId} {fr : Nat × Nat} (h : w.heap[b]? = some (.cells #[x, y] t fr)) : ((w.setCell ⟨b, 0, none⟩ x').setCell ⟨b, 1, none⟩ y').heap[b]? = some (.cells #[x', y'] t fr) := by
  simp [World.setCell, Array.getElem?_modify, h]
/-- What Plan comes to. -/
def PlanR (j : JobD) (w : World) (e : Ending) (w' : World) : Prop :=
  ∃ v, e = .returned (.tuple #[v, .int .i64 (planD j).2]) ∧ NumsAt w' v ((planD j).1.map fun s : Nat => (s : Int)) (fun k => w.heap.size ≤ k) ∧ Below w.heap.size w w'
theorem after_wants : ∀ n < 5, ∀ k < n, afterJ (2 ^ n - 2 ^ k) (2 ^ k) = 2 ^ n - 2 ^ (k + 1) := by decide +kernel
set_option maxRecDepth 100000 in
set_option maxHeartbeats 8000000 in
theorem Plan_any (j : JobD) (bs ws : Value) (w : World) (hbs : SpansAt w bs j.st.bs (fun k => k < w.heap.size)) (hws : SpansAt w ws j.ws (fun k => k < w.heap.size)) (htz : TabZ w) :
    Calls Tryd.prog 20 #[jobV j bs ws] w (PlanR j w) := by
  have HTZ := Lib.hid htz
  have h1z := htz.lt
  clear htz
  have HBS := Lib.hid hbs
  have HWS := Lib.hid hws
  obtain ⟨ao, cap, hv1, _⟩ := id hbs
  obtain ⟨ao2, cap2, hv2, _⟩ := id hws
  subst hv1 hv2
  obtain ⟨nb, hnb⟩ : ∃ n, n = j.st.bs.length := ⟨_, rfl⟩
  obtain ⟨nw, hnw⟩ : ∃ n, n = j.ws.length := ⟨_, rfl⟩
  rw [← hnb] at HBS
  rw [← hnw] at HWS
  unfold jobV
  rw [← hnb, ← hnw]
  have HNB := Lib.hid hnb
  have HNW := Lib.hid hnw
  clear hbs hws hnb hnw
  go_enter_defers Tryd.func20, Tryd.ntmps20
  go_wp2_with fail
  refine (open_always j (.slice ao nb cap) (.slice ao2 nw cap2) _ (by rw [HNB.out] at HBS ⊢; exact (HBS.out.later (by simp <;> omega) (fun k h1 h2 => (hget_old _ _ _ (by simp; omega)).trans (hget_old _ _ _ (by omega)))).low) (by rw [HNW.out] at HWS ⊢; exact (HWS.out.later (by simp <;> omega) (fun k h1 h2 => (hget_old _ _ _ (by simp; omega)).trans (hget_old _ _ _ (by omega)))).low)).mono ?_
  rintro e w1 ⟨hb1, hres⟩
  have he1 := (hb1.block (w.heap.size + 1) (by simp <;> omega)).trans (heap_alloc_at _ (.cells #[.int .i64 0] 33) _ (by simp))
  have hx1 := (hb1.block w.heap.size (by simp <;> omega)).trans ((hget_old _ _ _ (by simp)).trans (heap_alloc_at w (.cells #[.slice ao nb cap, .int .i64 j.st.film.1, .int .i64 j.st.film.2, .slice ao2 nw cap2] 28) _ rfl))
  have hbw : Below w.heap.size w w1 := (((Below.refl _ _).alloc (Nat.le_refl _) _).alloc (by simp) _).trans (hb1.mono (by simp <;> omega))
  have HE1 := Lib.hid he1
  have HX1 := Lib.hid hx1
  have HBW := Lib.hid hbw
  clear hb1 he1 hx1 hbw
  rcases hres with ⟨hne, rfl⟩ | ⟨he, pp, mp, r, rfl, hj, hm⟩
  · obtain ⟨er, her⟩ : ∃ x, x = errD j true := ⟨_, rfl⟩
    rw [← her] at hne ⊢
    have HNE := Lib.hid (And.intro hne her)
    clear hne her
    dsimp only
    go_wp2_with fail
    refine jleaf_stop er (w.heap.size + 1) 0 _ w1 HE1.out (fun W' hkE heE => ?_)
    have e9 : W'.cell? ⟨w.heap.size + 1, 0, none⟩ = some (.int .i64 er) := by rw [cell_of_row _ _ _ _ _ _ heE]; rfl
    have hval : planD j = ([], er) := by unfold planD; rw [← HNE.out.2, if_pos HNE.out.1]
    exact ⟨_, by simp [results, Tryd.results20, go_sem, e9]; rfl, _, by rw [hval], by rw [hval]; exact NumsAt.nil _ _, HBW.out.trans (hkE.below HBW.out.size (fun k h e => by omega))⟩
  · skip
    dsimp only
    have hv := (errD_valid he).1
    have HV := Lib.hid hv
    have HERR := Lib.hid he
    obtain ⟨B, hBB⟩ : ∃ B, B = w.heap.size + 1 + 1 := ⟨_, rfl⟩
    have hsz : ((w.alloc (.cells #[.slice ao nb cap, .int .i64 j.st.film.1, .int .i64 j.st.film.2, .slice ao2 nw cap2] 28)).alloc (.cells #[.int .i64 0] 33)).heap.size = B := by rw [hBB]; simp
    rw [hsz] at hj
    have HJ := Lib.hid hj
    have HM := Lib.hid hm
    clear he hj hm hv hsz
    have hjk : JobK j B pp mp (.slice ao nb cap) (.slice ao2 nw cap2) r w1 := ⟨HJ.out, KeptJ.nil HM.out, HTZ.out.below HBW.out h1z, by omega⟩
    have HJK := Lib.hid hjk
    have hlm := hjk.r.o.lm
    clear hjk HJ HM
    have hnb8 : nb ≤ 8 := by rw [HNB.out]; exact (validSt_parts (validJb_parts HV.out).1).1
    have hnw4 : nw ≤ 4 := by rw [HNW.out]; exact (validJb_parts HV.out).2.1
    go_wp2_with fail
    refine (jevery_any (validJb_parts HV.out).2.1 _ HJK.out.r.o).mono ?_
    rintro e w2 ⟨rfl, rfl⟩
    go_wp2_with fail
    refine (can_any HV.out (everyD j) (everyD_lt j) _ HJK.out).mono ?_
    rintro e w2 ⟨rfl, hjk2, hk2⟩
    dsimp only
    have he2 := (hk2.block _ (lt_of_block HE1.out) (by omega)).trans HE1.out
    have hx2 := (hk2.block _ (lt_of_block HX1.out) (by omega)).trans HX1.out
    have hbw2 := HBW.out.trans (hk2.below HBW.out.size (fun k h e => by omega))
    have HJ2 := Lib.hid hjk2
    have HE2 := Lib.hid he2
    have HX2 := Lib.hid hx2
    have HB2 := Lib.hid hbw2
    clear hjk2 hk2 he2 hx2 hbw2
    cases hcan : canD j (everyD j) with
    | false =>
      have HCAN := Lib.hid hcan
      clear hcan
      go_wp2_with fail
      refine (jask_no 4 _).mono ?_
      rintro e w' ⟨rfl, rfl⟩
      dsimp only
      go_wp2_with fail
      refine jleaf_stop 4 (w.heap.size + 1) 0 _ w2 HE2.out (fun W' hkE heE => ?_)
      have e9 : W'.cell? ⟨w.heap.size + 1, 0, none⟩ = some (.int .i64 4) := by rw [cell_of_row _ _ _ _ _ _ heE]; rfl
      have hval : planD j = ([], (4 : Int)) := by unfold planD; rw [HERR.out, HCAN.out]; rfl
      exact ⟨_, by simp [results, Tryd.results20, go_sem, e9]; rfl, _, by rw [hval], by rw [hval]; exact NumsAt.nil _ _, HB2.out.trans (hkE.below HB2.out.size (fun k h e => by omega))⟩
    | true =>
      have hval : planD j = (toldJ 8 (rightsD j) (allD j), (0 : Int)) := by unfold planD; rw [HERR.out, hcan]; rfl
      have HVAL := Lib.hid hval
      have HT0 := Lib.hid (ToldJ.zero hcan)
      clear hval hcan
      have c3 : ∀ o, (w2.alloc o).cell? ⟨w.heap.size, 3, none⟩ = some (.slice ao2 nw cap2) := fun o => by rw [cell_of_row _ _ _ _ _ _ ((hget_old _ _ _ (by have := lt_of_block HX2.out; omega)).trans HX2.out)]; rfl
      go_wp2_with fail
      refine (jask_ok 4 _).mono ?_
      rintro e w' ⟨rfl, rfl⟩
      dsimp only
      go_wp2_with fail
      refine (jevery_any (validJb_parts HV.out).2.1 _ HJ2.out.r.o).mono ?_
      rintro e w' ⟨rfl, rfl⟩
      go_wp2_with fail
      refine (jall_any (by rw [← HNB.out]; exact hnb8) _ HJ2.out.r.o).mono ?_
      rintro e w' ⟨rfl, rfl⟩
      go_wp2_with fail
      clear c3
      obtain ⟨A, hA⟩ : ∃ A, A = w2.heap.size := ⟨_, rfl⟩
      have hsA : (w2.alloc (.cells #[.int .u64 (everyD j), .int .u64 (allD j)] 90)).heap.size = A + 1 := by rw [hA]; simp
      have hrowA : (w2.alloc (.cells #[.int .u64 (everyD j), .int .u64 (allD j)] 90)).heap[A]? = some (.cells #[.int .u64 ((2 ^ nw - 2 ^ 0 : Nat) : Int), .int .u64 (allD j)] 90 (0, 0)) := by rw [show 2 ^ nw - 2 ^ 0 = everyD j by rw [HNW.out]; rfl]; exact heap_alloc_at _ _ _ hA
      have hbA := Below.alloc' w2 (.cells #[.int .u64 (everyD j), .int .u64 (allD j)] 90)
      have hkA : Keeps (fun k => k = mp) w2 (w2.alloc (.cells #[.int .u64 (everyD j), .int .u64 (allD j)] 90)) := Keeps.alloc _ _ _
      have hmp2 := HJ2.out.kept.lt
      rw [← hA] at hmp2 ⊢
      have HA := Lib.hid hA
      clear hA
      go_loopw [6, 25] (fun sv iv wr => ∃ (i av : Nat) (pre : List Nat), i ≤ nw ∧ iv = .int .i64 i ∧ ToldJ j i av pre ∧ wr.heap[A]? = some (.cells #[.int .u64 ((2 ^ nw - 2 ^ i : Nat) : Int), .int .u64 av] 90 (0, 0)) ∧
          wr.ownsRow (A + 1) 3 1 sv i ((pre.map fun s : Nat => (s : Int)).map (Value.int .i64)) ∧ KeptJ j mp wr ∧ Keeps (fun k => k = mp) w2 wr) (fun _ iv _ => nw - (intOf iv).toNat)
      case atStart => exact ⟨0, allD j, [], Nat.zero_le _, rfl, HT0.out, hrowA, World.ownsRow_nil _ _ _ _, HJ2.out.kept.of (hbA.block _ HJ2.out.kept.lt), hkA⟩
      case round =>
        clear hrowA hbA hkA hsA
        obtain ⟨i, av, pre, hi, rfl, htold, hrow, hown, hkept, hk⟩ := hrel
        have HTL := Lib.hid htold
        have HROW := Lib.hid hrow
        have HOWN := Lib.hid hown
        have HKEPT := Lib.hid hkept
        have HKR := Lib.hid hk
        have hAlt := lt_of_block hrow
        have l0 : wr.cell? ⟨A, 0, none⟩ = some (.int .u64 ((2 ^ nw - 2 ^ i : Nat) : Int)) := by rw [cell_of_row _ _ _ _ _ _ hrow]; rfl
        have l1 : wr.cell? ⟨A, 1, none⟩ = some (.int .u64 av) := by rw [cell_of_row _ _ _ _ _ _ hrow]; rfl
        clear htold hrow hown hkept hk
        by_cases hlt : i < nw
        · have hw : IntKind.i64.wrap ((i : Int) + 1) = ((i + 1 : Nat) : Int) := by rw [IntWalk.i64_in _ (by omega)]; omega
          have hlti : (i : Int) < (nw : Int) := by omega
          obtain ⟨⟨x1, x2⟩, hsc, hx1, hnext⟩ := HTL.out.next (by rw [← HNW.out]; exact hlt)
          rw [← HNW.out] at hsc
          have HSC := Lib.hid hsc
          have HNEXT := Lib.hid hnext
          have hwl : 2 ^ nw - 2 ^ i < 2 ^ j.ws.length := by rw [← HNW.out]; have := Nat.two_pow_pos i; have := Nat.two_pow_pos nw; omega
          have haf := after_wants nw (by omega) i hlt
          have h256 : av < 256 := Nat.lt_of_lt_of_le HTL.out.avl (Nat.pow_le_pow_right (by decide : 0 < 2) (by rw [← HNB.out]; exact hnb8) : _ ≤ 2 ^ 8)
          have hx256 : x1 < 256 := Nat.lt_of_lt_of_le hx1 (Nat.pow_le_pow_right (by decide : 0 < 2) (by rw [← HNB.out]; exact hnb8) : _ ≤ 2 ^ 8)
          obtain ⟨wk, hwk⟩ : ∃ q, q = 2 ^ nw - 2 ^ i := ⟨_, rfl⟩
          have hwk16 : wk < 256 := by rw [hwk]; exact Nat.lt_of_le_of_lt (Nat.sub_le _ _) (Nat.lt_of_le_of_lt (Nat.pow_le_pow_right (by decide) hnw4) (by decide : 2 ^ 4 < 256))
          rw [← hwk] at l0 haf hwl HSC
          have HWK := Lib.hid hwk
          have HAF := Lib.hid haf
          clear hsc hnext hwk haf
          go_wp2_with fail
          refine (scoreO HV.out wk hwl av HTL.out.avl _ (HJ2.out.keeps HKR.out HKEPT.out)).mono ?_
          rintro e w5 ⟨rfl, hjk5, hk5⟩
          rw [HSC.out]
          have hsv : scoreV (some (x1, x2)) = .iface 94 (.agg #[.int .u64 x1, .int .i64 x2]) := rfl
          rw [hsv]
          clear hsv
          dsimp only
          have hta : ∀ W : World, (Instr.typeAssert (.iface 94 (.agg #[.int .u64 (x1 : Int), .int .i64 (x2 : Int)])) 96 94 false).run Tryd.prog W = .ok (.agg #[.int .u64 x1, .int .i64 x2]) W := fun W => by kernel_rfl
          have hs5 := hk5.size
          have hown5 : w5.ownsRow (A + 1) 3 1 u6 i ((pre.map fun s : Nat => (s : Int)).map (Value.int .i64)) := own_block HOWN.out (fun k e => hk5.block k (HOWN.out.lt k e).2 (fun hn => by have := (HOWN.out.lt k e).1; omega))
          have hrow5 := (hk5.block A hAlt (by omega)).trans HROW.out
          have H5 := Lib.hid (And.intro hjk5 (And.intro hk5 (And.intro hown5 hrow5)))
          have hcx : IntKind.i64.wrap (x1 : Int) = (x1 : Int) := IntWalk.i64_in _ (by omega)
          clear hjk5 hk5 hown5 hrow5 l0 l1
          go_wp2_with (first | (refine wpList_append_here rfl (.tmp 32) (.tmp 36) 32 rfl (A + 1) 3 1 8 _ underInts infoInt rfl (by decide) u6 i _ rfl (own_block (own_block H5.out.2.2.1 (fun k e => Below.heap_alloc _ _ _ (H5.out.2.2.1.lt k e).2)) (fun k e => Below.heap_alloc _ _ _ (by have := (H5.out.2.2.1.lt k e).2; simp; omega))) (w5.heap.size + 1) 1 #[.int .i64 x1] 3 (0, 0) rfl (heap_alloc_at _ _ _ (by simp)) rfl (by simp [Value.oneCell']) (by omega) (by decide) (by simp <;> omega) ?_))
          intro v1 W6 hown6 hg6 hat6
          have hk6 := keeps_grown hg6
          have hs6 : w5.heap.size + 2 ≤ W6.heap.size := by have := hk6.size; simp at this; omega
          have hob : ∀ k, u6.ownBlock = some k → A + 1 ≤ k ∧ k < w5.heap.size := fun k e => ⟨(H5.out.2.2.1.lt k e).1, (H5.out.2.2.1.lt k e).2⟩
          have hold : ∀ k, k ≤ A → W6.heap[k]? = w5.heap[k]? := fun k h => (hk6.block k (by simp; omega) (fun e => by have := hob k e; omega)).trans ((Below.heap_alloc _ _ _ (by simp; omega)).trans (Below.heap_alloc _ _ _ (by omega)))
          have hk56 : Keeps (fun k => u6.ownBlock = some k) w5 W6 := ((Keeps.alloc _ _ _).trans (Keeps.alloc _ _ _)).trans (hk6.mono (fun _ _ h => h))
          have hp6 := (hk6.block w5.heap.size (by simp; omega) (fun e => by have := hob _ e; omega)).trans ((Below.heap_alloc _ _ _ (by simp)).trans (heap_alloc_at w5 (.cells #[.int .u64 x1, .int .i64 x2] 94) _ rfl))
          have hr6 := (hold A (Nat.le_refl _)).trans H5.out.2.2.2
          have l0 : W6.cell? ⟨A, 0, none⟩ = some (.int .u64 wk) := by rw [cell_of_row _ _ _ _ _ _ hr6, HWK.out]; rfl
          have l1 : W6.cell? ⟨A, 1, none⟩ = some (.int .u64 av) := by rw [cell_of_row _ _ _ _ _ _ hr6]; rfl
          have p0 : W6.cell? ⟨w5.heap.size, 0, none⟩ = some (.int .u64 x1) := by rw [cell_of_row _ _ _ _ _ _ hp6]; rfl
          have H6 := Lib.hid (And.intro hown6 (And.intro hr6 (And.intro hold hk56)))
          have HOB := Lib.hid hob
          clear hown6 hr6 hp6 hold hg6 hat6 hk6 hk56 hob
          go_wp2_with fail
          refine (jafter_any wk av x1 i hwk16 h256 hx256 (by omega) _).mono ?_
          rintro e w7 ⟨rfl, hb7⟩
          dsimp only
          have hs7 := hb7.size
          have hr7 := (hb7.block A (by omega)).trans H6.out.2.1
          have f0 : w7.frozen? ⟨A, 0, none⟩ = false := frozen_of_row _ _ 0 _ _ hr7
          have f1 : w7.frozen? ⟨A, 1, none⟩ = false := frozen_of_row _ _ 1 _ _ hr7
          have m0 : w7.cell? ⟨A, 0, none⟩ = some (.int .u64 wk) := by rw [cell_of_row _ _ _ _ _ _ hr7, HWK.out]; rfl
          have m1 : w7.cell? ⟨A, 1, none⟩ = some (.int .u64 av) := by rw [cell_of_row _ _ _ _ _ _ hr7]; rfl
          have H7 := Lib.hid (And.intro hr7 hb7)
          clear hr7 hb7 l0 l1 p0
          go_wp2_with fail
          obtain ⟨hr7, hb7⟩ := H7.out
          obtain ⟨hown6, hr6, hold, hk56⟩ := H6.out
          have hA := HA.out
          have hkf : Keeps (fun k => k = A) w7 ((w7.setCell ⟨A, 0, none⟩ (.int .u64 (afterJ wk (2 ^ i) : Nat))).setCell ⟨A, 1, none⟩ (.int .u64 (afterJ av x1 : Nat))) := (Keeps.setCell (Mut := fun k => k = A) _ _ _ rfl).trans (Keeps.setCell (Mut := fun k => k = A) _ _ _ rfl)
          refine ⟨⟨i + 1, afterJ av x1, pre ++ [x1], hlt, by push_cast; rfl, HNEXT.out, ?_, ?_, ?_, ?_⟩, by simp [intOf]; omega⟩
          · rw [two_setCell2 hr7, HAF.out]
          · have h7 := own_block hown6 (fun k e => hb7.block k (hown6.lt k e).2)
            have := ownsRow_setCell_below (ownsRow_setCell_below h7 (a := ⟨A, 0, none⟩) (by show A < A + 1; omega) (.int .u64 (afterJ wk (2 ^ i) : Nat))) (a := ⟨A, 1, none⟩) (by show A < A + 1; omega) (.int .u64 (afterJ av x1 : Nat))
            rw [List.map_append, List.map_append, List.map_map]
            exact this
          · exact H5.out.1.kept.of ((hkf.block mp (by omega) (by omega)).trans ((hb7.block mp (by omega)).trans (hold mp (by omega))))
          · exact (((HKR.out.trans H5.out.2.1).transNew hk56 (fun k e => by have := HOB.out k e; omega)).trans (Keeps.of_below hb7 (fun k h1 h2 => absurd h2 (by omega)))).transNew hkf (fun k e => by omega)
        · obtain rfl : i = nw := by omega
          have hlti : ¬ (i : Int) < (i : Int) := by omega
          have hdone : pre = toldJ 8 (rightsD j) (allD j) := (HNW.out ▸ HTL.out).done
          have hlen : (pre.map fun s : Nat => (s : Int)).length = i := by rw [List.length_map, HTL.out.len]
          have hnum := nums_of_own hlen.symm HOWN.out
          obtain ⟨av6, cap6, hv6, _⟩ := id hnum
          subst hv6
          rw [hlen] at hnum ⊢
          have he3 := (HKR.out.block _ (lt_of_block HE2.out) (by omega)).trans HE2.out
          obtain ⟨cur0, hcur0⟩ : ∃ c, c = madeCells #[.int .i64 0] (i * 1) := ⟨_, rfl⟩
          have hmk : (Instr.makeSlice 32 (.int .i64 i) (.int .i64 i)).run Tryd.prog wr = .ok (.slice (some ⟨wr.heap.size, 0, none⟩) i i) (wr.alloc (.cells cur0 3)) := by
            obtain ⟨i0, hi0, hz0, hz1, hz2⟩ := info_parts infoInt
            have := run_makeSlice (P := Tryd.prog) (w := wr) 32 3 i0 _ underInts hi0 hz0 .i64 .i64 i i (by omega) (by omega) (by rw [hz1]; simp; omega) (by rw [hz2]; omega) (by omega)
            rw [hz1] at this
            rw [hcur0]
            simpa [Value.cells] using this
          have hsz0 : cur0.size = (pre.map fun s : Nat => (s : Int)).length := by rw [hcur0, size_madeCells, hlen, Nat.mul_one]
          obtain ⟨W1, hW1⟩ : ∃ W, W = wr.alloc (.cells cur0 3) := ⟨_, rfl⟩
          rw [← hW1] at hmk
          have hb1 : Below wr.heap.size wr W1 := by rw [hW1]; exact Below.alloc' _ _
          have hs1 : W1.heap.size = wr.heap.size + 1 := by rw [hW1]; simp
          have hob : W1.heap[wr.heap.size]? = some (.cells cur0 3 (0, 0)) := by rw [hW1]; exact heap_alloc_at _ _ _ rfl
          have hn1 : NumsAt W1 (.slice av6 (pre.map fun s : Nat => (s : Int)).length cap6) (pre.map fun s : Nat => (s : Int)) (fun k => A + 1 ≤ k) := by
            rw [hlen]
            exact hnum.later (by omega) (fun k hk _ => hb1.block k hk)
          obtain ⟨W2, hcp, hn2, hk2, hs2⟩ := copy_nums _ av6 cap6 _ W1 hn1 wr.heap.size cur0 (by omega) hob hsz0
          rw [hlen] at hcp hn2
          have hrlt := lt_of_block he3
          have he4 := (hk2.block _ (by omega) (by omega)).trans ((hb1.block _ hrlt).trans he3)
          have hc4 : W2.cell? ⟨w.heap.size + 1, 0, none⟩ = some (.int .i64 0) := by rw [cell_of_row _ _ _ _ _ _ he4]; rfl
          have hf4 : W2.frozen? ⟨w.heap.size + 1, 0, none⟩ = false := frozen_of_row _ _ 0 _ _ he4
          have hbr : Below w.heap.size w wr := HB2.out.trans (HKR.out.below HB2.out.size (fun k h e => by omega))
          have hbW : Below w.heap.size w W2 := hbr.trans ((hb1.mono hbr.size).trans (hk2.below (by have := hbr.size; omega) (fun k h1 h2 => by have := hbr.size; omega)))
          have hrs := hbr.size
          have HF := Lib.hid (And.intro he4 (And.intro hbW hn2))
          clear hW1 hb1 hob hn1 hk2 hs2 he4 hbr hbW hn2 hsz0 hcur0 hnum he3 l0 l1
          go_wp2_with fail
          have e9 := err_set (y := 0) HF.out.1
          have hkE : Keeps (fun k => k = w.heap.size + 1) W2 (W2.setCell ⟨w.heap.size + 1, 0, none⟩ (.int .i64 0)) := Keeps.setCell _ _ _ rfl
          refine jleaf_ret (w.heap.size + 1) _ _ ⟨_, by simp [results, Tryd.results20, go_sem, e9]; rfl, .slice (some ⟨wr.heap.size, 0, none⟩) i i, by rw [HVAL.out], ?_, HF.out.2.1.trans (hkE.below HF.out.2.1.size (fun k h e => by omega))⟩
          rw [HVAL.out, ← hdone]
          exact (HF.out.2.2.later hkE.size (fun k hk e => hkE.block k hk (by omega))).mono (fun k e => by omega)
end Go.Proofs.YtbmfphiecllggaaDoor

/- The reference's small functions of stacks and jobs. -/
namespace Go.Proofs.YtbmfphiecllggaaDoor
set_option linter.unusedVariables false
set_option linter.unusedSimpArgs false
open Go.RowKit Go.Shelf
attribute [local go_sem] Oper.semAt_some

set_option maxHeartbeats 4000000 in
theorem r4want_any (x : Int × Int) (w : World) :
    Calls Tryd.prog 42 #[spV x] w fun e w' => e = .returned (.bool (wantOk x)) ∧ Below w.heap.size w w' := by
  obtain ⟨lo, hi⟩ := x
  unfold spV
  have H : Hid (wantOk (lo, hi) = (decide (0 ≤ lo) && decide (lo ≤ hi) && decide (hi ≤ 5000))) := by show _ = _; rfl
  go_enter Tryd.func42, Tryd.ntmps42
  go_wp2
  all_goals go_ret
  all_goals exact ⟨by rw [H.out]; simp [*]; try omega, Below.alloc' _ _⟩
set_option maxRecDepth 100000 in
set_option maxHeartbeats 4000000 in
theorem r4stack_any (s : StackD) (bs : Value) (w : World) (hbs : SpansAt w bs s.bs (fun k => k < w.heap.size)) :
    Calls Tryd.prog 41 #[stackV s bs] w fun e w' => e = .returned (.bool (validSt s)) ∧ Below w.heap.size w w' := by
  have HBS := Lib.hid hbs
  obtain ⟨ao, cap, rfl, _⟩ := id hbs
  obtain ⟨l, ⟨fl, fh⟩⟩ := s
  obtain ⟨n, hn⟩ : ∃ n, n = l.length := ⟨_, rfl⟩
  have HN := Lib.hid hn
  unfold stackV
  dsimp only
  rw [← hn]
  clear hbs hn
  have HB1 := Lib.hid (fun o => Below.alloc' w o)
  go_enter Tryd.func41, Tryd.ntmps41
  by_cases h1 : 8 < (n : Int)
  · skip
    go_wp2
    go_ret
    exact ⟨congrArg (fun b => Ending.returned (Value.bool b)) (by symm; refine Bool.eq_false_iff.2 fun h => ?_; have h9 := validSt_parts h; have h8 := HN.out; dsimp only at h9 h8; omega), HB1.out _⟩
  by_cases h2 : fl < 0
  · skip
    go_wp2
    go_ret
    exact ⟨congrArg (fun b => Ending.returned (Value.bool b)) (by symm; refine Bool.eq_false_iff.2 fun h => ?_; have h9 := validSt_parts h; have h8 := HN.out; dsimp only at h9 h8; omega), HB1.out _⟩
  by_cases h3 : fh < fl
  · skip
    go_wp2
    go_ret
    exact ⟨congrArg (fun b => Ending.returned (Value.bool b)) (by symm; refine Bool.eq_false_iff.2 fun h => ?_; have h9 := validSt_parts h; have h8 := HN.out; dsimp only at h9 h8; omega), HB1.out _⟩
  by_cases h4 : 5 < fh
  · skip
    go_wp2
    go_ret
    exact ⟨congrArg (fun b => Ending.returned (Value.bool b)) (by symm; refine Bool.eq_false_iff.2 fun h => ?_; have h9 := validSt_parts h; have h8 := HN.out; dsimp only at h9 h8; omega), HB1.out _⟩
  go_wp2_with fail
  refine wp_name (fun W => W.heap[w.heap.size]? = some (.cells #[.slice ao n cap, .int .i64 fl, .int .i64 fh] 26 (0, 0)) ∧ Below w.heap.size w W) ⟨(by repeat (first | (refine heap_alloc_at _ _ _ ?_; (simp <;> omega); done) | (refine (hget_old _ _ _ ?_).trans ?_; · (simp <;> omega)))), HB1.out _⟩ ?_
  rintro W0 ⟨hrow, hb0⟩
  have HI0 := Lib.hid (And.intro hrow hb0)
  clear hrow hb0
  go_loopw [3] (fun iv wr => ∃ i : Nat, i ≤ n ∧ iv = .int .i64 i ∧ (∀ b ∈ l.take i, blockOk b = true) ∧ wr.heap[w.heap.size]? = some (.cells #[.slice ao n cap, .int .i64 fl, .int .i64 fh] 26 (0, 0)) ∧ Below w.heap.size w wr)
    (fun iv _ => n - (intOf iv).toNat)
  case atStart => exact ⟨0, Nat.zero_le _, rfl, (fun b hb => by cases hb), HI0.out.1, HI0.out.2⟩
  case round =>
    obtain ⟨i, hi, rfl, hpre, hrow, hb⟩ := hrel
    have HPRE := Lib.hid hpre
    have HROW := Lib.hid hrow
    have HB := Lib.hid hb
    have c0 : wr.cell? ⟨w.heap.size, 0, none⟩ = some (.slice ao n cap) := by rw [cell_of_row _ _ _ _ _ _ hrow]; rfl
    clear hpre hrow hb
    by_cases hlt : i < n
    · obtain ⟨ao', cap', hv', _, _, hel⟩ := HBS.out.later HB.out.size (fun k hk _ => HB.out.block k hk)
      injection hv' with hao hnn hcap
      subst hao hcap
      clear hnn
      obtain ⟨b, off, rfl, _, hbl, e0, e1⟩ := hel i (by rw [← HN.out]; exact hlt)
      obtain ⟨⟨bl, bh⟩, hx⟩ : ∃ x, x = l[i]'(by rw [← HN.out]; exact hlt) := ⟨_, rfl⟩
      rw [← hx] at e0 e1
      have HX := Lib.hid hx
      have HMEM := Lib.hid (show (bl, bh) ∈ l by rw [hx]; exact List.getElem_mem _)
      clear hx hel
      have hw : IntKind.i64.wrap ((i : Int) + 1) = ((i + 1 : Nat) : Int) := by rw [IntWalk.i64_in _ (by omega)]; omega
      have hlti : (i : Int) < (n : Int) := by omega
      have HBW := Lib.hid (fun o => HB.out.alloc (o := o) (by have := HB.out.size; omega))
      by_cases k1 : bl < 1
      · skip
        go_wp2
        go_ret
        refine ⟨congrArg (fun b => Ending.returned (Value.bool b)) ?_, HBW.out _⟩
        symm
        refine Bool.eq_false_iff.2 fun h => ?_
        have := (validSt_parts h).2.2 _ HMEM.out
        unfold blockOk at this
        simp only [Bool.and_eq_true, decide_eq_true_eq] at this
        omega
      by_cases k2 : bh < bl
      · skip
        go_wp2
        go_ret
        refine ⟨congrArg (fun b => Ending.returned (Value.bool b)) ?_, HBW.out _⟩
        symm
        refine Bool.eq_false_iff.2 fun h => ?_
        have := (validSt_parts h).2.2 _ HMEM.out
        unfold blockOk at this
        simp only [Bool.and_eq_true, decide_eq_true_eq] at this
        omega
      by_cases k3 : 500 < bh
      · skip
        go_wp2
        go_ret
        refine ⟨congrArg (fun b => Ending.returned (Value.bool b)) ?_, HBW.out _⟩
        symm
        refine Bool.eq_false_iff.2 fun h => ?_
        have := (validSt_parts h).2.2 _ HMEM.out
        unfold blockOk at this
        simp only [Bool.and_eq_true, decide_eq_true_eq] at this
        omega
      have hws : IntKind.i64.wrap (bh - bl) = bh - bl := IntWalk.i64_in _ (by omega)
      by_cases k4 : 6 < bh - bl
      · skip
        go_wp2
        go_ret
        refine ⟨congrArg (fun b => Ending.returned (Value.bool b)) ?_, HBW.out _⟩
        symm
        refine Bool.eq_false_iff.2 fun h => ?_
        have := (validSt_parts h).2.2 _ HMEM.out
        unfold blockOk at this
        simp only [Bool.and_eq_true, decide_eq_true_eq] at this
        omega
      go_wp2
      refine ⟨⟨i + 1, hlt, rfl, fun x hx => ?_, (hget_old _ _ _ (by have := lt_of_block HROW.out; omega)).trans HROW.out, HBW.out _⟩, by simp [intOf]; omega⟩
      rw [List.take_succ_eq_append_getElem (by rw [← HN.out]; exact hlt)] at hx
      rcases List.mem_append.1 hx with h | h
      · exact HPRE.out x h
      · rw [List.mem_singleton.1 h, ← HX.out]; unfold blockOk; simp; omega
    · obtain rfl : i = n := by omega
      have hlti : ¬ (i : Int) < (i : Int) := by omega
      have hval : validSt ⟨l, (fl, fh)⟩ = true := validSt_of (by show l.length ≤ 8; have := HN.out; omega) ⟨by dsimp only; omega, by dsimp only; omega, by dsimp only; omega⟩ (fun b hb => HPRE.out b (by rw [HN.out, List.take_length]; exact hb))
      have HVAL := Lib.hid hval
      clear hval
      go_wp2
      go_ret
      exact ⟨by rw [HVAL.out]; rfl, HB.out⟩
set_option maxRecDepth 100000 in
set_option maxHeartbeats 4000000 in
theorem r12job_any (j : JobD) (bs ws : Value) (w : World) (hbs : SpansAt w bs j.st.bs (fun k => k < w.heap.size)) (hws : SpansAt w ws j.ws (fun k => k < w.heap.size)) :
    Calls Tryd.prog 11 #[jobV j bs ws] w fun e w' => e = .returned (.bool (validJb j)) ∧ Below w.heap.size w w' := by
  have HBS := Lib.hid hbs
  have HWS := Lib.hid hws
  obtain ⟨ao, cap, rfl, _⟩ := id hbs
  obtain ⟨ao2, cap2, rfl, _⟩ := id hws
  obtain ⟨nb, hnb⟩ : ∃ n, n = j.st.bs.length := ⟨_, rfl⟩
  obtain ⟨n, hn⟩ : ∃ n, n = j.ws.length := ⟨_, rfl⟩
  have HNB := Lib.hid hnb
  have HN := Lib.hid hn
  unfold jobV
  rw [← hnb] at HBS ⊢
  rw [← hn] at HWS ⊢
  clear hbs hws hnb hn
  have HB1 := Lib.hid (fun o => Below.alloc' w o)
  go_enter Tryd.func11, Tryd.ntmps11
  go_wp2_with fail
  refine (r4stack_any j.st (.slice ao nb cap) _ (by rw [HNB.out] at HBS ⊢; exact (HBS.out.later (by simp) (fun k h1 h2 => hget_old _ _ _ (by omega))).low)).mono ?_
  rintro e w1 ⟨rfl, hb1⟩
  dsimp only
  have hr1 := (hb1.block w.heap.size (by simp)).trans (heap_alloc_at w (.cells #[.slice ao nb cap, .int .i64 j.st.film.1, .int .i64 j.st.film.2, .slice ao2 n cap2] 28) _ rfl)
  have hbw1 : Below w.heap.size w w1 := (HB1.out _).trans (hb1.mono (by simp))
  have H1 := Lib.hid (And.intro hr1 hbw1)
  have c3 : w1.cell? ⟨w.heap.size, 3, none⟩ = some (.slice ao2 n cap2) := by rw [cell_of_row _ _ _ _ _ _ hr1]; rfl
  clear hr1 hbw1 hb1
  cases hv : validSt j.st with
  | false =>
    have HV := Lib.hid (show validJb j = false by unfold validJb; rw [hv]; rfl)
    clear hv
    go_wp2
    go_ret
    exact ⟨by rw [HV.out]; rfl, H1.out.2⟩
  | true =>
    have HV := Lib.hid hv
    clear hv
    by_cases h1 : 4 < (n : Int)
    · have HF := Lib.hid (show validJb j = false by unfold validJb; rw [decide_eq_false (by rw [← HN.out]; omega)]; simp)
      go_wp2
      go_ret
      exact ⟨by rw [HF.out]; rfl, H1.out.2⟩
    go_wp2_with fail
    go_loopw [3] (fun iv wr => ∃ i : Nat, i ≤ n ∧ iv = .int .i64 i ∧ (∀ b ∈ j.ws.take i, wantOk b = true) ∧ wr.heap[w.heap.size]? = some (.cells #[.slice ao nb cap, .int .i64 j.st.film.1, .int .i64 j.st.film.2, .slice ao2 n cap2] 28 (0, 0)) ∧ Below w.heap.size w wr)
      (fun iv _ => n - (intOf iv).toNat)
    case atStart => exact ⟨0, Nat.zero_le _, rfl, (fun b hb => by cases hb), H1.out.1, H1.out.2⟩
    case round =>
      clear c3
      obtain ⟨i, hi, rfl, hpre, hrow, hb⟩ := hrel
      have HPRE := Lib.hid hpre
      have HROW := Lib.hid hrow
      have HB := Lib.hid hb
      have c0 : wr.cell? ⟨w.heap.size, 3, none⟩ = some (.slice ao2 n cap2) := by rw [cell_of_row _ _ _ _ _ _ hrow]; rfl
      clear hpre hrow hb
      by_cases hlt : i < n
      · obtain ⟨ao', cap', hv', _, _, hel⟩ := HWS.out.later HB.out.size (fun k hk _ => HB.out.block k hk)
        injection hv' with hao hnn hcap
        subst hao hcap
        clear hnn
        obtain ⟨b, off, rfl, _, hbl, e0, e1⟩ := hel i (by rw [← HN.out]; exact hlt)
        obtain ⟨⟨bl, bh⟩, hx⟩ : ∃ x, x = j.ws[i]'(by rw [← HN.out]; exact hlt) := ⟨_, rfl⟩
        rw [← hx] at e0 e1
        have HX := Lib.hid hx
        have HMEM := Lib.hid (show (bl, bh) ∈ j.ws by rw [hx]; exact List.getElem_mem _)
        clear hx hel
        have hw : IntKind.i64.wrap ((i : Int) + 1) = ((i + 1 : Nat) : Int) := by rw [IntWalk.i64_in _ (by omega)]; omega
        have hlti : (i : Int) < (n : Int) := by omega
        go_wp2_with fail
        refine (r4want_any (bl, bh) _).mono ?_
        rintro e w5 ⟨rfl, hb5⟩
        dsimp only
        have H5 := Lib.hid (And.intro ((hb5.block _ (lt_of_block HROW.out)).trans HROW.out) (HB.out.trans (hb5.mono HB.out.size)))
        clear hb5
        cases hok : wantOk (bl, bh) with
        | false =>
          have HF := Lib.hid (show validJb j = false by
            refine Bool.eq_false_iff.2 fun h => ?_
            have := (validJb_parts h).2.2 _ HMEM.out
            rw [hok] at this; cases this)
          clear hok
          go_wp2
          go_ret
          exact ⟨by rw [HF.out]; rfl, H5.out.2⟩
        | true =>
          have HOK := Lib.hid hok
          clear hok
          go_wp2
          refine ⟨⟨i + 1, hlt, rfl, fun x hx => ?_, H5.out.1, H5.out.2⟩, by simp [intOf]; omega⟩
          rw [List.take_succ_eq_append_getElem (by rw [← HN.out]; exact hlt)] at hx
          rcases List.mem_append.1 hx with h | h
          · exact HPRE.out x h
          · rw [List.mem_singleton.1 h, ← HX.out]; exact HOK.out
      · obtain rfl : i = n := by omega
        have hlti : ¬ (i : Int) < (i : Int) := by omega
        have hval : validJb j = true := by
          unfold validJb
          rw [HV.out, decide_eq_true (show j.ws.length ≤ 4 by rw [← HN.out]; omega)]
          have : j.ws.all wantOk = true := List.all_eq_true.2 fun b hb => HPRE.out b (by rw [HN.out, List.take_length]; exact hb)
          rw [this]; rfl
        have HVAL := Lib.hid hval
        clear hval
        go_wp2
        go_ret
        exact ⟨by rw [HVAL.out]; rfl, HB.out⟩
end Go.Proofs.YtbmfphiecllggaaDoor

/- The reference: numbers of rounds, jobs of some wants, and without a block. -/
namespace Go.Proofs.YtbmfphiecllggaaDoor
set_option linter.unusedVariables false
set_option linter.unusedSimpArgs false
open Go.RowKit Go.Shelf
attribute [local go_sem] Oper.semAt_some

theorem wpList_maxJ {w : World} {ops : Array Oper} {rest : List Oper} {o : Oper} {a : Act} {Q : Exit → Act → World → Prop} (hgd : o.guard = none) (x y : Operand)
    (ho : o.op = .call { callee := .builtin .max, args := #[x, y], argTypes := #[3, 3] }) (hty : o.type = 3) (p q m : Int) (hx : a.eval x = .int .i64 p) (hy : a.eval y = .int .i64 q) (hm : max p q = m)
    (h : wpList Tryd.prog ops Q rest (a.put o.dst (.int .i64 m)) w) : wpList Tryd.prog ops Q (o :: rest) a w := by
  refine wpList_plain hgd fun K hK => ?_
  unfold Oper.wp execOp
  simp only [ho, resolve, invoke, builtin, Sem.run_bind, Sem.run_pure, Result.andThen_ok, List.map_toArray, List.map_cons, List.map_nil, hx, hy, hty]
  have hr : (Builtin.max_ #[3, 3] 3 #[Value.int IntKind.i64 p, Value.int IntKind.i64 q]).run Tryd.prog w = .ok (.int .i64 m) w := by
    rw [← hm]
    simp [Builtin.max_, Builtin.max2, go_sem]
    by_cases h : p < q
    · rw [if_pos h]; omega
    · rw [if_neg h]; omega
  rw [hr]
  exact hK _ _ h
theorem numbers_take (l : List Nat) (i : Nat) (h : i < l.length) : numbersJ (l.take (i + 1)) = max (numbersJ (l.take i)) (l[i] + 1) := by
  unfold numbersJ
  rw [List.take_succ_eq_append_getElem h, List.foldl_append]; rfl
theorem numbers_bound (l : List Nat) (hx : ∀ x ∈ l, x ≤ 1000) : numbersJ l ≤ 1001 := numbers_le l 0 1001 (by omega) (fun x h => by have := hx x h; omega)
set_option maxHeartbeats 4000000 in
theorem r12numbers_any (l : List Nat) (v : Value) (Rd : Nat → Prop) (hl : l.length ≤ 40) (hx : ∀ x ∈ l, x ≤ 1000) (w : World) (h : NumsAt w v (l.map fun s : Nat => (s : Int)) Rd) :
    Calls Tryd.prog 17 #[v] w fun e w' => e = .returned (.int .i64 (numbersJ l : Nat)) ∧ w = w' := by
  obtain ⟨ao, cap, rfl, _, _, hel⟩ := h
  rw [List.length_map]
  obtain ⟨n, hn⟩ : ∃ n, n = l.length := ⟨_, rfl⟩
  rw [← hn] at hl ⊢
  have HEL := Lib.hid hel
  have HN := Lib.hid hn
  have HX := Lib.hid hx
  clear hel hn hx
  go_enter Tryd.func17, Tryd.ntmps17
  go_wp2_with fail
  go_loopw [3, 4] (fun mv iv wr => ∃ i : Nat, i ≤ n ∧ iv = .int .i64 i ∧ mv = .int .i64 (numbersJ (l.take i) : Nat) ∧ w = wr) (fun _ iv _ => n - (intOf iv).toNat)
  case atStart => exact ⟨0, by omega, rfl, rfl, rfl⟩
  case round =>
    obtain ⟨i, hi, rfl, rfl, rfl⟩ := hrel
    obtain ⟨m, hm⟩ : ∃ m, m = numbersJ (l.take i) := ⟨_, rfl⟩
    have hmb : m ≤ 1001 := by rw [hm]; exact numbers_bound _ (fun x hx => HX.out x (List.mem_of_mem_take hx))
    rw [← hm]
    by_cases hlt : i < n
    · have hw : IntKind.i64.wrap ((i : Int) + 1) = ((i + 1 : Nat) : Int) := by rw [IntWalk.i64_in _ (by omega)]; omega
      have hlti : (i : Int) < (n : Int) := by omega
      have hil : i < l.length := by rw [← HN.out]; exact hlt
      obtain ⟨b, off, rfl, _, _, e1⟩ := HEL.out i (by rw [List.length_map]; exact hil)
      rw [List.getElem_map] at e1
      obtain ⟨x, hxx⟩ : ∃ x, x = l[i] := ⟨_, rfl⟩
      have hxb : x ≤ 1000 := by rw [hxx]; exact HX.out _ (List.getElem_mem _)
      rw [← hxx] at e1
      have hmm : max (m : Int) ((x : Int) + 1) = ((max m (x + 1) : Nat) : Int) := by omega
      have hwx : IntKind.i64.wrap ((x : Int) + 1) = (x : Int) + 1 := IntWalk.i64_in _ (by omega)
      have HM := Lib.hid (show numbersJ (l.take (i + 1)) = max m (x + 1) by rw [hm, hxx]; exact numbers_take l i hil)
      clear hm hxx
      go_wp2_with (first | (refine wpList_maxJ rfl (.tmp 11) (.tmp 16) rfl rfl (m : Int) ((x : Int) + 1) _ rfl rfl hmm ?_))
      exact ⟨⟨i + 1, hlt, by go_num, by rw [HM.out], by first | rfl | trivial⟩, by simp [intOf]; omega⟩
    · obtain rfl : i = n := by omega
      have hlti : ¬ (i : Int) < (i : Int) := by omega
      have HM := Lib.hid (show m = numbersJ l by rw [hm, HN.out, List.take_length])
      clear hm
      go_wp2
      go_ret
      exact ⟨by rw [HM.out]; rfl, rfl⟩
theorem size_succ : ∀ (n s : Nat), sizeJ (n + 1) s = s % 2 + sizeJ n (s / 2)
  | 0, s => by
    rw [sizeJ, sizeJ, sizeJ, Nat.testBit_zero]
    rcases Nat.mod_two_eq_zero_or_one s with h | h <;> simp [h]
  | n + 1, s => by
    rw [sizeJ, size_succ n s, sizeJ, testBit_succJ]
    omega
theorem size_half (s : Nat) (h : s < 256) : sizeJ 8 s = s % 2 + sizeJ 8 (s / 2) := by
  rw [size_succ 7 s, show sizeJ 8 (s / 2) = sizeJ 7 (s / 2) + (if (s / 2).testBit 7 then 1 else 0) from rfl, Nat.testBit_lt_two_pow (show s / 2 < 2 ^ 7 by omega)]
  rfl
set_option maxHeartbeats 4000000 in
theorem r4size_any (s : Nat) (hs : s < 256) (w : World) :
    Calls Tryd.prog 24 #[.int .i64 s] w fun e w' => e = .returned (.int .i64 (sizeJ 8 s : Nat)) ∧ w = w' := by
  go_enter Tryd.func24, Tryd.ntmps24
  go_wp2_with fail
  go_loopw [0, 3] (fun av nv wr => ∃ a b : Nat, a < 256 ∧ av = .int .i64 a ∧ nv = .int .i64 b ∧ b + sizeJ 8 a = sizeJ 8 s ∧ w = wr) (fun av _ _ => (intOf av).toNat)
  case atStart => exact ⟨s, 0, hs, rfl, rfl, by omega, rfl⟩
  case round =>
    obtain ⟨a, b, ha, rfl, rfl, hab, rfl⟩ := hrel
    have hb8 : b ≤ 8 := by have := sizeJ_le 8 s; omega
    have HAB := Lib.hid hab
    clear hab
    by_cases h0 : a = 0
    · subst h0
      go_wp2
      go_ret
      have h1 := HAB.out
      rw [show sizeJ 8 0 = 0 by decide] at h1
      exact ⟨by rw [← h1]; rfl, rfl⟩
    · have hpos : (0 : Int) < (a : Int) := by omega
      have HH := Lib.hid (size_half a ha)
      obtain ⟨r, hr⟩ : ∃ r, r = a % 2 := ⟨_, rfl⟩
      obtain ⟨q, hq⟩ : ∃ q, q = a / 2 := ⟨_, rfl⟩
      have hqa : q < 256 ∧ q < a := by omega
      have hrm : (a : Int).tmod 2 = (r : Int) := by rw [Int.tmod_eq_emod_of_nonneg (by omega)]; omega
      have hqd : (a : Int).tdiv 2 = (q : Int) := by rw [Int.tdiv_eq_ediv_of_nonneg (by omega)]; omega
      have hqd2 : (a : Int) / 2 = (q : Int) := by omega
      have hw1 : IntKind.i64.wrap ((b : Int) + (r : Int)) = ((b + r : Nat) : Int) := by rw [IntWalk.i64_in _ (by omega)]; omega
      have hw2 : IntKind.i64.wrap (q : Int) = (q : Int) := IntWalk.i64_in _ (by omega)
      have hw3 : wrap64 (q : Int) = (q : Int) := by unfold wrap64; omega
      have HQ := Lib.hid (And.intro hr hq)
      have HQA := Lib.hid hqa
      clear hr hq hqa
      go_wp2
      refine ⟨⟨q, b + r, HQA.out.1, by rfl, by rw [Int.natCast_add], ?_, by first | rfl | trivial⟩, HQA.out.2⟩
      have h1 := HAB.out
      rw [HH.out, ← HQ.out.1, ← HQ.out.2] at h1
      omega
end Go.Proofs.YtbmfphiecllggaaDoor

/- Truths drawn: a function that returns a number of a span. -/
namespace Go.Proofs.YtbmfphiecllggaaDoor
set_option linter.unusedVariables false
set_option linter.unusedSimpArgs false
open Go.RowKit Go.Shelf
attribute [local go_sem] Oper.semAt_some

end Go.Proofs.YtbmfphiecllggaaDoor

/- Arguments that come in, and read as they did: jobs, spans, small numbers; the tables that the program lays (plain). -/
namespace Go.Proofs.YtbmfphiecllggaaDoor
set_option linter.unusedVariables false
set_option linter.unusedSimpArgs false
open Go.ChangeShapes Go.WideShapes Go.ChangeAt Go.RowKit Go.Deep

theorem choose_list {α : Type} {Q : Nat → α → Prop} : ∀ n : Nat, (∀ i, i < n → ∃ x, Q i x) → ∃ l : List α, l.length = n ∧ ∀ i (h : i < l.length), Q i l[i]
  | 0, _ => ⟨[], rfl, fun i h => absurd h (by simp)⟩
  | n + 1, h => by
    obtain ⟨l, hl, hq⟩ := choose_list n (fun i hi => h i (by omega))
    obtain ⟨x, hx⟩ := h n (by omega)
    refine ⟨l ++ [x], by simp [hl], fun i hi => ?_⟩
    by_cases hin : i < l.length
    · rw [List.getElem_append_left hin]; exact hq i hin
    · have : i = n := by simp at hi; omega
      subst this
      rw [List.getElem_append_right (by omega)]
      simpa [hl] using hx
theorem addr_of_cell {w : World} {a : Addr} {v : Value} (h : w.cell? a = some v) : a = ⟨a.block, a.off, none⟩ ∧ a.block < w.heap.size := by
  obtain ⟨b, o, s⟩ := a
  unfold World.cell? at h
  cases hh : w.heap[b]? with
  | none => rw [hh] at h; simp at h
  | some ob =>
    rw [hh] at h
    refine ⟨?_, (Array.getElem?_eq_some_iff.1 hh).1⟩
    cases s with
    | none => rfl
    | some s => cases ob <;> simp at h
theorem laid_out : laidOutB Tryd.prog = true := by kernel_rfl
theorem trodAll_stays {H : Type} {enc : TypeId × Value → H} {P : Program} (hl : laidOutB P = true) {W W' : World} {sp : Nat → Bool} : ∀ {ts : List TypeId} {vs : List Value} {ds : List (DataW H)} {ps : List MemPlace},
    (∀ t ∈ ts, P.readableRec t = true ∧ t < P.types.size) → DataW.TrodAll enc P W 0 (fun _ => true) true ts vs ds ps → Below W.heap.size W W' → (∀ x ∈ ps, x.block < W.heap.size) → (∀ x ∈ ps, sp x.block = true) → DataW.TrodAll enc P W' 0 sp true ts vs ds ps
  | [], [], [], _, _, h, _, _, _ => h
  | t :: ts, _ :: _, _ :: _, _, hT, ⟨p, q, h1, h2, e⟩, hb, hlt, hs =>
    ⟨p, q, WideElems.Trod_stays hl (hT t List.mem_cons_self).1 (hT t List.mem_cons_self).2 h1 (fun x hx => hb.same (hlt x (by rw [e]; exact List.mem_append_left _ hx))) (fun x hx => hs x (by rw [e]; exact List.mem_append_left _ hx)),
      trodAll_stays hl (fun t' ht' => hT t' (List.mem_cons_of_mem _ ht')) h2 hb (fun x hx => hlt x (by rw [e]; exact List.mem_append_right _ hx)) (fun x hx => hs x (by rw [e]; exact List.mem_append_right _ hx)), e⟩
set_option maxRecDepth 100000 in
theorem lawEnd {H : Type} {enc : TypeId × Value → H} {f : Func} {s : ChangeSpec} {W W' : World} {args : Array Value} {ds : List (DataW H)} {p : List MemPlace} {ts : List TypeId}
    (hW : DataW.Whole enc Tryd.prog f.params.toList s.vars false W args.toList ds [] p) (hvs : s.vars = []) (hA : DataW.TrodAll enc Tryd.prog W 0 (fun _ => true) true ts args.toList ds p) (hts : f.params.toList = ts)
    (hT : ∀ t ∈ ts, Tryd.prog.readableRec t = true ∧ t < Tryd.prog.types.size)
    (hfn : s.fn H (ds ++ []) = { results := [.lit (.bool true)], args := ds }) (hr : f.resultTypes = #[4]) (hb : Below W.heap.size W W') :
    s.post enc Tryd.prog f false true false false W args (.bool true) W' := by
  refine post_of_below (pa := p) (pv := []) hW (fun b sp hd => ?_) (fun sp hsp => ?_) (fun sp _ => ?_) (List.append_nil p).symm hb (ok_one hr rfl (okWide_bool_mk Tryd.underlying4 _))
  · rw [hr, hfn]
    exact trodAll_cons_mk (shut_bool Tryd.underlying4 _) trodAll_mk0
  · rw [hfn, hts]
    exact trodAll_stays laid_out hT hA hb (fun x hx => by simpa using hW.lt x hx) hsp
  · rw [hfn, hvs]
    rfl
section
variable {H : Type} {enc : TypeId × Value → H} {w : World} {base : Nat} {spare : Nat → Bool} {held : Bool}
theorem open_int2 {n : Nat} {t : TypeId} {v : Value} {x : DataW H × List MemPlace} (ht : Tryd.prog.underlying t = some (.int .i64)) (h : DataW.trod enc Tryd.prog w base spare held n t [v] = some x) : ∃ i, v = .int .i64 i := by
  obtain ⟨i, hi, _⟩ := DataW.trod_int ht h
  exact ⟨i, by simpa using hi⟩
theorem under3 : Tryd.prog.underlying 3 = some (.int .i64) := by kernel_rfl
theorem cells_int : Tryd.prog.cellsOf 3 = 1 := by kernel_rfl
theorem cells_span : Tryd.prog.cellsOf 24 = 2 := by kernel_rfl
theorem cells_spans : Tryd.prog.cellsOf 22 = 1 := by kernel_rfl
theorem cells_stack : Tryd.prog.cellsOf 26 = 3 := by kernel_rfl
theorem cells_job : Tryd.prog.cellsOf 28 = 4 := by kernel_rfl
set_option maxRecDepth 100000 in
theorem open_spanV {n : Nat} {cs : List Value} {x : DataW H × List MemPlace} (h : DataW.trod enc Tryd.prog w base spare held n 24 cs = some x) : ∃ a b, cs = [.int .i64 a, .int .i64 b] := by
  obtain ⟨xs, m, _, _, hl, hx, hf⟩ := DataW.trod_struct Tryd.underlying24 h
  rw [cells_span] at hl
  match cs, hl with
  | [c0, c1], _ =>
    have h0 := hf 0 _ rfl
    have h1 := hf 1 _ rfl
    have hxl : xs.length = 2 := hx
    match xs, hxl with
    | [y0, y1], _ =>
      have e0 : DataW.trod enc Tryd.prog w base spare held m 3 [c0] = some y0 := by
        change DataW.trod enc Tryd.prog w base spare held m 3 (List.take (Tryd.prog.cellsOf 3) (List.drop 0 [c0, c1])) = some y0 at h0
        rw [cells_int] at h0
        exact h0
      have e1 : DataW.trod enc Tryd.prog w base spare held m 3 [c1] = some y1 := by
        change DataW.trod enc Tryd.prog w base spare held m 3 (List.take (Tryd.prog.cellsOf 3) (List.drop 1 [c0, c1])) = some y1 at h1
        rw [cells_int] at h1
        exact h1
      obtain ⟨a, rfl⟩ := open_int2 under3 e0
      obtain ⟨b, rfl⟩ := open_int2 under3 e1
      exact ⟨a, b, rfl⟩
set_option maxRecDepth 100000 in
theorem open_spansV {n : Nat} {v : Value} {x : DataW H × List MemPlace} (h : DataW.trod enc Tryd.prog w base spare held n 22 [v] = some x) : ∃ l, SpansAt w v l (fun k => k < w.heap.size) := by
  rcases open_slice Tryd.underlying22 h with ⟨h1, _⟩ | ⟨a, len, cap, m, k, D, Pl, h1, _, h2, h3, h4, _, h5⟩
  · exact ⟨[], none, 0, by simpa using h1, by simp, by simp, fun i hi => absurd hi (by simp)⟩
  · have hv : v = .slice (some a) len cap := by simpa using h1
    have hlm : len ≤ m := by rw [h4]; split <;> omega
    by_cases h0 : len = 0
    · subst h0
      exact ⟨[], some a, cap, hv, by simp, h3, fun i hi => absurd hi (by simp)⟩
    have hcells : ∀ i, i < len → ∃ s : Int × Int, w.cell? (a.add (i * 2)) = some (.int .i64 s.1) ∧ w.cell? (a.add (i * 2 + 1)) = some (.int .i64 s.2) := fun i hi => by
      obtain ⟨cs', hc, ht⟩ := h5 i (by omega)
      rw [cells_span] at hc
      obtain ⟨lo, hi', rfl⟩ := open_spanV ht
      obtain ⟨_, _, hat⟩ := World.cells?_some hc
      have a0 := hat 0 (by omega)
      have a1 := hat 1 (by omega)
      rw [Go.Deep.add_add] at a0 a1
      exact ⟨(lo, hi'), a0, a1⟩
    obtain ⟨s0, hs0, _⟩ := hcells 0 (by omega)
    obtain ⟨hae, hab⟩ := addr_of_cell (a := a) hs0
    obtain ⟨l, hl, hq⟩ := choose_list (Q := fun i (s : Int × Int) => w.cell? ⟨a.block, a.off + i * 2, none⟩ = some (.int .i64 s.1) ∧ w.cell? ⟨a.block, a.off + i * 2 + 1, none⟩ = some (.int .i64 s.2)) len (fun i hi => by
      obtain ⟨s, e1, e2⟩ := hcells i hi
      rw [hae, Addr.add_mid] at e1 e2
      exact ⟨s, e1, by rw [Nat.add_assoc]; exact e2⟩)
    refine ⟨l, some a, cap, by rw [hv, hl], by omega, h3, fun i hi => ?_⟩
    obtain ⟨e3, e4⟩ := hq i hi
    exact ⟨a.block, a.off, by rw [← hae], hab, hab, e3, e4⟩
set_option maxRecDepth 100000 in
theorem open_stackV {n : Nat} {cs : List Value} {x : DataW H × List MemPlace} (h : DataW.trod enc Tryd.prog w base spare held n 26 cs = some x) : ∃ (s : StackD) (bs : Value), cs = [bs, .int .i64 s.film.1, .int .i64 s.film.2] ∧ SpansAt w bs s.bs (fun k => k < w.heap.size) := by
  obtain ⟨xs, m, _, _, hl, hx, hg⟩ := DataW.trod_struct Tryd.underlying26 h
  rw [cells_stack] at hl
  match cs, hl with
  | [c0, c1, c2], _ =>
    have h0 := hg 0 _ rfl
    have h1 := hg 1 _ rfl
    have hxl : xs.length = 2 := hx
    match xs, hxl with
    | [y0, y1], _ =>
      have e0 : DataW.trod enc Tryd.prog w base spare held m 22 [c0] = some y0 := by
        change DataW.trod enc Tryd.prog w base spare held m 22 (List.take (Tryd.prog.cellsOf 22) (List.drop 0 [c0, c1, c2])) = some y0 at h0
        rw [cells_spans] at h0
        exact h0
      have e1 : DataW.trod enc Tryd.prog w base spare held m 24 [c1, c2] = some y1 := by
        change DataW.trod enc Tryd.prog w base spare held m 24 (List.take (Tryd.prog.cellsOf 24) (List.drop 1 [c0, c1, c2])) = some y1 at h1
        rw [cells_span] at h1
        exact h1
      obtain ⟨l, hl⟩ := open_spansV e0
      obtain ⟨a, b, hab⟩ := open_spanV e1
      simp only [List.cons.injEq, and_true] at hab
      obtain ⟨rfl, rfl⟩ := hab
      exact ⟨⟨l, (a, b)⟩, c0, rfl, hl⟩
set_option maxRecDepth 100000 in
theorem open_jobV {r : Reach} {b0 : Nat} {v : Value} {d : DataW H} {ps : List MemPlace} (hv : Value.okWide Tryd.prog w r b0 28 v) (h : DataW.Trod enc Tryd.prog w base spare held 28 v d ps) :
    ∃ j bs ws, v = jobV j bs ws ∧ SpansAt w bs j.st.bs (fun k => k < w.heap.size) ∧ SpansAt w ws j.ws (fun k => k < w.heap.size) := by
  obtain ⟨cs, rfl, hsz⟩ := okWide_struct Tryd.underlying28 hv
  obtain ⟨l⟩ := cs
  obtain ⟨fuel, hf⟩ := h
  obtain ⟨xs, m, _, _, hl, hx, hg⟩ := DataW.trod_struct Tryd.underlying28 hf
  match l, hsz.trans cells_job with
  | [c0, c1, c2, c3], _ =>
    have h0 := hg 0 _ rfl
    have h1 := hg 1 _ rfl
    have hxl : xs.length = 2 := hx
    match xs, hxl with
    | [y0, y1], _ =>
      have e0 : DataW.trod enc Tryd.prog w base spare held m 26 [c0, c1, c2] = some y0 := by
        change DataW.trod enc Tryd.prog w base spare held m 26 (List.take (Tryd.prog.cellsOf 26) (List.drop 0 [c0, c1, c2, c3])) = some y0 at h0
        rw [cells_stack] at h0
        exact h0
      have e1 : DataW.trod enc Tryd.prog w base spare held m 22 [c3] = some y1 := by
        change DataW.trod enc Tryd.prog w base spare held m 22 (List.take (Tryd.prog.cellsOf 22) (List.drop 3 [c0, c1, c2, c3])) = some y1 at h1
        rw [cells_spans] at h1
        exact h1
      obtain ⟨s, bs, hs, hbs⟩ := open_stackV e0
      obtain ⟨ws, hws⟩ := open_spansV e1
      simp only [List.cons.injEq, and_true] at hs
      obtain ⟨rfl, rfl, rfl⟩ := hs
      exact ⟨⟨s, ws⟩, c0, c3, rfl, hbs, hws⟩
end
theorem u8_range {n : Int} (h : (Lit.int .u8 n).wf = true) : 0 ≤ n ∧ n < 256 := by
  have h1 : (decide (IntKind.u8.min ≤ n) && decide (n ≤ IntKind.u8.max)) = true := h
  rw [Bool.and_eq_true, decide_eq_true_eq, decide_eq_true_eq, show IntKind.u8.min = 0 by decide, show IntKind.u8.max = 255 by decide] at h1
  omega
theorem under_u8 : Tryd.prog.underlying 5 = some (.int .u8) := by kernel_rfl
/-! ### the tables that the program lays -/
def laidB : List (String × DataW Unit) := [("math/bits.deBruijn32tab", Rows.laid_math_bits_deBruijn32tab), ("math/bits.deBruijn64tab", Rows.laid_math_bits_deBruijn64tab)]
theorem g64 : Tryd.prog.globalNamed "math/bits.deBruijn64tab" = some 1 := by kernel_rfl
theorem t64 : (Tryd.prog.globals[1]?).map (·.type) = some 165 := by kernel_rfl
theorem door_met (os : Os) (args : Array Value) : laidMetH Tryd.prog laidB ((World.doorLaid Tryd.prog 400 os).forCall (fun _ _ => 0) ⟨#[], args, []⟩).memory :=
  laidMetH_of_parts3 (fuel := 8) (laidMet_of_run' 8 (by kernel_rfl) (by kernel_rfl)) (by kernel_rfl) (by kernel_rfl)
end Go.Proofs.YtbmfphiecllggaaDoor

/- The reference: a job with some wants alone, and without a block. -/
namespace Go.Proofs.YtbmfphiecllggaaDoor
set_option linter.unusedVariables false
set_option linter.unusedSimpArgs false
open Go.RowKit Go.Shelf
attribute [local go_sem] Oper.semAt_some

theorem spans_of_own {w : World} {base : Nat} {v : Value} {l : List (Int × Int)} {n : Nat} (hn : n = l.length) (h : w.ownsRow base 24 2 v n (l.flatMap spanC)) : SpansAt w v l (fun k => base ≤ k ∧ k < w.heap.size) := by
  subst hn
  rcases id h.2 with ⟨h2, h3⟩ | ⟨g, cap, cur, h2, h3, h4, h5, h6, h7, h8⟩
  · have hl : l = [] := by
      cases l with
      | nil => rfl
      | cons f l => simp [spanC] at h3
    subst hl
    exact ⟨none, 0, h2, Nat.le_refl _, by unfold maxLen; omega, fun i hi => by simp at hi⟩
  · subst h2
    refine ⟨_, cap, rfl, h5, h6, fun i hi => ⟨g, 0, rfl, ⟨h3, lt_of_block h4⟩, lt_of_block h4, ?_⟩⟩
    have hc : ∀ k, k < 2 → w.cell? ⟨g, i * 2 + k, none⟩ = (spanC l[i])[k]? := fun k hk => by
      rw [World.ownsRow.cellAt h (i * 2 + k) (by omega), flat_spanC l i hi k hk]
    rw [Nat.zero_add]
    exact ⟨hc 0 (by decide), hc 1 (by decide)⟩
theorem four_setJ {w : World} {b : Nat} {a0 a1 a2 a3 x0 x1 x2 x3 : Value} {t : TypeId} {fr : Nat × Nat} (h : w.heap[b]? = some (.cells #[a0, a1, a2, a3] t fr)) :
    ((((w.setCell ⟨b, 0, none⟩ x0).setCell ⟨b, 1, none⟩ x1).setCell ⟨b, 2, none⟩ x2).setCell ⟨b, 3, none⟩ x3).heap[b]? = some (.cells #[x0, x1, x2, x3] t fr) := by
  simp [World.setCell, Array.getElem?_modify, h]
theorem keeps_fourJ (w : World) (b : Nat) (x0 x1 x2 x3 : Value) : Keeps (fun k => k = b) w ((((w.setCell ⟨b, 0, none⟩ x0).setCell ⟨b, 1, none⟩ x1).setCell ⟨b, 2, none⟩ x2).setCell ⟨b, 3, none⟩ x3) :=
  (((Keeps.setCell (Mut := fun k => k = b) _ _ _ rfl).trans (Keeps.setCell (Mut := fun k => k = b) _ _ _ rfl)).trans (Keeps.setCell (Mut := fun k => k = b) _ _ _ rfl)).trans (Keeps.setCell (Mut := fun k => k = b) _ _ _ rfl)
theorem lt_of_cell {Y : World} {p : Addr} {v : Value} (h : Y.cell? p = some v) : p.block < Y.heap.size := by
  unfold World.cell? at h
  rcases Nat.lt_or_ge p.block Y.heap.size with h1 | h1
  · exact h1
  · rw [Array.getElem?_eq_none h1] at h; simp at h
end Go.Proofs.YtbmfphiecllggaaDoor
