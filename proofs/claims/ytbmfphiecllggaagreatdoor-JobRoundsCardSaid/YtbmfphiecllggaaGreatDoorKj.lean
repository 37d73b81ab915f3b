/- Texts Xl, Wp, Xg, Xe, Xf in one file; each begins with a word on what it proves. -/
import Derived.Laws.EntriesVeiled
import Derived.Test.YtbmfphiecllggaaGreatDoorKg
import Derived.Test.YtbmfphiecllggaaGreatDoorKi

/- What the tables hold that the program lays (plain). -/
namespace Go.Proofs.YtbmfphiecllggaaGreatDoor
set_option linter.unusedVariables false
set_option linter.unusedSimpArgs false
open Go.ChangeShapes Go.WideShapes Go.ChangeAt Go.RowKit Go.Deep

theorem under64 : Tryz.prog.underlying 149 = some (.array 64 5) := by kernel_rfl
theorem cells_u8 : Tryz.prog.cellsOf 5 = 1 := by kernel_rfl
set_option maxRecDepth 100000 in
/-- What the condition on the tables gives the walks. -/
theorem of_laid {W : World} (h : laidMetH Tryz.prog laidB W) : TabZ W := by
  rw [MakeChecks.laidMetH_plain _ _ _ (by kernel_rfl)] at h
  obtain ⟨ps, ⟨g0, t0, cs0, f0, p0, q0, hg0, ht0, hv0, hd0, ⟨g1, t1, cs1, f1, p1, q1, hg1, ht1, hv1, hd1, _, _⟩, _⟩, _, _⟩ := h
  obtain rfl := Option.some.inj (g64.symm.trans hg1)
  obtain rfl := Option.some.inj (t64.symm.trans ht1)
  obtain ⟨xs, m1, rfl, hx1, hlen, hn3, hel⟩ := DataW.trod_array under64 hd1
  have hx := (Prod.mk.inj hx1).1
  unfold Rows.laid_math_bits_deBruijn64tab at hx
  rw [DataW.agg.injEq] at hx
  have hcell : ∀ i (hi : i < 64) (k : Int), (xs.map Prod.fst)[i]? = some (DataW.lit (.int .u8 k)) → W.cell? ⟨1, i, none⟩ = some (.int .u8 k) := by
    intro i hi k hk
    have h0 := hel i hi
    rw [List.getElem?_map] at hk
    cases hxi : xs[i]? with
    | none => rw [hxi] at hk; cases hk
    | some y =>
      rw [hxi] at hk h0
      simp only [Option.map_some, Option.some.injEq] at hk
      obtain ⟨n, e1, e2, _⟩ := DataW.trod_int under_u8 h0
      have hkn : n = k := by
        rw [e2] at hk
        simpa using hk
      subst hkn
      rw [cells_u8, Nat.mul_one] at e1
      have h2 := World.var?_cell hg1 hv1 i
      obtain ⟨l1⟩ := cs1
      have h3 : l1[i]? = some (.int .u8 n) := by
        have h4 := congrArg List.head? e1
        rw [← List.head?_drop]
        cases hd : l1.drop i with
        | nil => simp [hd] at h4
        | cons a l9 => simpa [hd] using h4
      rw [h2]
      simpa using h3
  refine ⟨hcell 0 (by decide) 0 ?_, hcell 1 (by decide) 1 ?_, hcell 3 (by decide) 2 ?_, hcell 7 (by decide) 3 ?_⟩ <;> (rw [← hx]; rfl)
end Go.Proofs.YtbmfphiecllggaaGreatDoor

/- In which rounds wants can be met, walked. -/
namespace Go.Proofs.YtbmfphiecllggaaGreatDoor
set_option linter.unusedVariables false
set_option linter.unusedSimpArgs false
open Go.RowKit Go.Shelf
attribute [local go_sem] Oper.semAt_some
/-- What Rounds comes to. -/
def RoundsR (j : JobD) (w : World) (e : Ending) (w' : World) : Prop :=
  ∃ v, e = .returned (.tuple #[v, .int .i64 (roundsD j).2]) ∧ NumsAt w' v ((roundsD j).1.map fun s : Nat => (s : Int)) (fun _ => True) ∧ Below w.heap.size w w'
theorem rounds_results (t1 t2 : Array Value) (h2 : t1.getD 2 undef = t2.getD 2 undef) (h3 : t1.getD 3 undef = t2.getD 3 undef) : results Tryz.f19 t1 = results Tryz.f19 t2 := by
  have : Tryz.f19.results = #[.tmp 2, .cell 3 32] := rfl
  unfold results
  rw [this]
  have h2' : t1[2]?.getD undef = t2[2]?.getD undef := by simpa [Array.getD_eq_getD_getElem?] using h2
  have h3' : t1[3]?.getD undef = t2[3]?.getD undef := by simpa [Array.getD_eq_getD_getElem?] using h3
  simp [h2', h3']
theorem rounds_put {R : Ending → World → Prop} {c : List PanicEntry} {d : Nat} {v : Value} {a : Act} {w : World} (h2 : d ≠ 2) (h3 : d ≠ 3)
    (h : bodyPostD Tryz.prog Tryz.f19 R (.panic c) (a.put (some d) v) w) : bodyPostD Tryz.prog Tryz.f19 R (.panic c) a w := by
  refine Leaves.congr (fun w v hh => ?_) _ _ _ h
  rw [rounds_results _ a.tmps] at hh
  · exact hh
  · simp [Act.put, Array.getD_eq_getD_getElem?, Array.getElem?_setIfInBounds, h2]
  · simp [Act.put, Array.getD_eq_getD_getElem?, Array.getElem?_setIfInBounds, h3]
theorem set_sameJ {W : World} {E : Nat} {x : Value} {t : TypeId} {fr : Nat × Nat} (h : W.heap[E]? = some (.cells #[x] t fr)) (k : Nat) : (W.setCell ⟨E, 0, none⟩ x).heap[k]? = W.heap[k]? := by
  by_cases hk : k = E
  · subst hk
    simp [World.setCell, Array.getElem?_modify, h]
  · exact Below.heap_setCell _ _ _ _ hk
set_option maxRecDepth 100000 in
set_option maxHeartbeats 8000000 in
theorem Rounds_any (j : JobD) (bs ws : Value) (w : World) (hbs : SpansAt w bs j.st.bs (fun k => k < w.heap.size)) (hws : SpansAt w ws j.ws (fun k => k < w.heap.size)) (htz : TabZ w) :
    Calls Tryz.prog 19 #[jobV j bs ws] w (RoundsR j w) := by
  have HTZ := Lib.hid htz
  have h1z := htz.lt
  clear htz
  have HBS := Lib.hid hbs
  have HWS := Lib.hid hws
  obtain ⟨ao, cap, hv1, _⟩ := id hbs
  obtain ⟨ao2, cap2, hv2, _⟩ := id hws
  subst hv1 hv2
  obtain ⟨nb, hnb⟩ : ∃ n, n = j.st.bs.length := ⟨_, rfl⟩
  obtain ⟨nw, hnw⟩ : ∃ n, n = j.ws.length := ⟨_, rfl⟩
  rw [← hnb] at HBS
  rw [← hnw] at HWS
  unfold jobV
  rw [← hnb, ← hnw]
  have HNB := Lib.hid hnb
  have HNW := Lib.hid hnw
  clear hbs hws hnb hnw
  go_enter_defers Tryz.func19, Tryz.ntmps19
  go_wp2_with fail
  refine (open_always j (.slice ao nb cap) (.slice ao2 nw cap2) _ (by rw [HNB.out] at HBS ⊢; exact (HBS.out.later (by simp <;> omega) (fun k h1 h2 => (hget_old _ _ _ (by simp; omega)).trans (hget_old _ _ _ (by omega)))).low) (by rw [HNW.out] at HWS ⊢; exact (HWS.out.later (by simp <;> omega) (fun k h1 h2 => (hget_old _ _ _ (by simp; omega)).trans (hget_old _ _ _ (by omega)))).low)).mono ?_
  rintro e w1 ⟨hb1, hres⟩
  have he1 := (hb1.block (w.heap.size + 1) (by simp <;> omega)).trans (heap_alloc_at _ (.cells #[.int .i64 0] 32) _ (by simp))
  have hx1 := (hb1.block w.heap.size (by simp <;> omega)).trans ((hget_old _ _ _ (by simp)).trans (heap_alloc_at w (.cells #[.slice ao nb cap, .int .i64 j.st.film.1, .int .i64 j.st.film.2, .slice ao2 nw cap2] 28) _ rfl))
  have hbw : Below w.heap.size w w1 := (((Below.refl _ _).alloc (Nat.le_refl _) _).alloc (by simp) _).trans (hb1.mono (by simp <;> omega))
  have HE1 := Lib.hid he1
  have HX1 := Lib.hid hx1
  have HBW := Lib.hid hbw
  clear hb1 he1 hx1 hbw
  rcases hres with ⟨hne, rfl⟩ | ⟨he, pp, mp, r, rfl, hj, hm⟩
  · obtain ⟨er, her⟩ : ∃ x, x = errD j true := ⟨_, rfl⟩
    rw [← her] at hne ⊢
    have HNE := Lib.hid (And.intro hne her)
    clear hne her
    dsimp only
    go_wp2_with fail
    refine jleaf_stop er (w.heap.size + 1) 0 _ w1 HE1.out (fun W' hkE heE => ?_)
    have e9 : W'.cell? ⟨w.heap.size + 1, 0, none⟩ = some (.int .i64 er) := by rw [cell_of_row _ _ _ _ _ _ heE]; rfl
    have hval : roundsD j = ([], er) := by unfold roundsD; rw [← HNE.out.2, if_pos HNE.out.1]
    exact ⟨_, by simp [results, Tryz.results19, go_sem, e9]; rfl, _, by rw [hval], by rw [hval]; exact NumsAt.nil _ _, HBW.out.trans (hkE.below HBW.out.size (fun k h e => by omega))⟩
  · skip
    dsimp only
    have hv := (errD_valid he).1
    have HV := Lib.hid hv
    have HERR := Lib.hid he
    obtain ⟨B, hBB⟩ : ∃ B, B = w.heap.size + 1 + 1 := ⟨_, rfl⟩
    have hsz : ((w.alloc (.cells #[.slice ao nb cap, .int .i64 j.st.film.1, .int .i64 j.st.film.2, .slice ao2 nw cap2] 28)).alloc (.cells #[.int .i64 0] 32)).heap.size = B := by rw [hBB]; simp
    rw [hsz] at hj
    have HJ := Lib.hid hj
    have HM := Lib.hid hm
    clear he hj hm hv hsz
    have hjk : JobK j B pp mp (.slice ao nb cap) (.slice ao2 nw cap2) r w1 := ⟨HJ.out, KeptJ.nil HM.out, HTZ.out.below HBW.out h1z, by omega⟩
    have HJK := Lib.hid hjk
    have hlm := hjk.r.o.lm
    have hmps := hjk.kept.lt
    clear hjk HJ HM
    have hnw4 : nw ≤ 4 := by rw [HNW.out]; exact (validJb_parts HV.out).2.1
    have hmf : ∀ (fn : Fn) (first cap : Array Value) (w : World), (Instr.makeFunc fn first cap).run Tryz.prog w = .ok (.func fn first cap) w := fun _ _ _ _ => rfl
    go_wp2_with fail
    obtain ⟨W1, hW1⟩ : ∃ W, W = w1.alloc (.cells #[.pointer (some ⟨pp, 0, none⟩)] 46 (0, 0)) := ⟨_, rfl⟩
    have hb11 : Below w1.heap.size w1 W1 := by rw [hW1]; exact Below.alloc' _ _
    have hjb1 : W1.heap[w1.heap.size]? = some (.cells #[.pointer (some ⟨pp, 0, none⟩)] 46 (0, 0)) := by rw [hW1]; exact heap_alloc_at _ _ _ rfl
    rw [← hW1]
    clear hW1
    obtain ⟨jb, hjbe⟩ : ∃ x, x = w1.heap.size := ⟨_, rfl⟩
    rw [← hjbe] at hjb1
    try rw [← hjbe]
    have hj8 : w.heap.size + 1 < jb := by rw [hjbe]; exact lt_of_block HE1.out
    have hjp : jb ≠ mp := by omega
    have hbw1 : Below w.heap.size w W1 := HBW.out.trans (hb11.mono HBW.out.size)
    have he1 := (hb11.block _ (lt_of_block HE1.out)).trans HE1.out
    have hx1 := (hb11.block _ (lt_of_block HX1.out)).trans HX1.out
    have hjk1 := HJK.out.later hb11
    have H1 := Lib.hid (And.intro hjk1 (And.intro hbw1 (And.intro he1 (And.intro hx1 hjb1))))
    have hmps1 : mp < W1.heap.size := hjk1.kept.lt
    clear hbw1 he1 hx1 hjk1 hb11 hmps
    have hs0 : W1.cell? ⟨jb, 0, none⟩ = some (.pointer (some ⟨pp, 0, none⟩)) := by rw [cell_of_row _ _ _ _ _ _ hjb1]; rfl
    clear hjb1 hjbe
    refine wp_region_held_drew (S := fun W => W.cell? ⟨jb, 0, none⟩ = some (.pointer (some ⟨pp, 0, none⟩))) (by kernel_rfl) hs0 fun hS => ?_
    clear hs0
    refine wpAnyH_take (i := 0) (v := ?_) rfl (by kernel_rfl) (by kernel_rfl) (by kernel_rfl) (fun c a w h => rounds_put (by decide) (by decide) h) (Or.inl ⟨by rfl, ?_⟩) hS ?_
    rotate_left
    · (intro W hSw; have hq1 := hSw; go_simp; try with_reducible rfl)
    try simp only [List.getElem_toArray, List.getElem_cons_succ, List.getElem_cons_zero, Act.put, List.setIfInBounds_toArray, List.set_cons_zero, List.set_cons_succ]
    refine wpAnyH_take (i := 2) (v := ?_) rfl (by kernel_rfl) (by kernel_rfl) (by kernel_rfl) (fun c a w h => rounds_put (by decide) (by decide) h) (Or.inl ⟨by rfl, ?_⟩) hS ?_
    rotate_left
    · (intro W hSw; have hq1 := hSw; go_simp; try with_reducible rfl)
    try simp only [List.getElem_toArray, List.getElem_cons_succ, List.getElem_cons_zero, Act.put, List.setIfInBounds_toArray, List.set_cons_zero, List.set_cons_succ]
    refine wpAnyH_call (k := 1) (by kernel_rfl) rfl rfl (f := 45) (args := #[.pointer (some ⟨pp, 0, none⟩)]) (by simp [execOp, go_sem, Act.eval, Act.put]) ?_
    refine (alone_any HV.out _ (H1.out.1.later (Below.refl _ _).drew).r.o).mono ?_
    rintro e w2 ⟨rfl, hb2⟩
    dsimp only
    have hb12 : Below W1.heap.size W1 w2 := (Below.refl _ _).drew.trans hb2
    have hjk2 := H1.out.1.later hb12
    have hbw2 := H1.out.2.1.trans (hb12.mono H1.out.2.1.size)
    have he2 := (hb12.block _ (lt_of_block H1.out.2.2.1)).trans H1.out.2.2.1
    have hx2 := (hb12.block _ (lt_of_block H1.out.2.2.2.1)).trans H1.out.2.2.2.1
    have hj2 := (hb12.block _ (lt_of_block H1.out.2.2.2.2)).trans H1.out.2.2.2.2
    have hS2 : w2.cell? ⟨jb, 0, none⟩ = some (.pointer (some ⟨pp, 0, none⟩)) := by rw [cell_of_row _ _ _ _ _ _ hj2]; rfl
    have H2 := Lib.hid (And.intro hjk2 (And.intro hbw2 (And.intro he2 (And.intro hx2 hj2))))
    have hmps2 : mp < w2.heap.size := hjk2.kept.lt
    have hjbs2 : jb < w2.heap.size := lt_of_block hj2
    clear hb12 hjk2 hbw2 he2 hx2 hj2 hS hb2 H1
    refine ⟨hS2, ?_⟩
    have hS := hS2
    clear hS2
    try simp only [List.getElem_toArray, List.getElem_cons_succ, List.getElem_cons_zero, Act.put, List.setIfInBounds_toArray, List.set_cons_zero, List.set_cons_succ]
    refine wpAnyH_call (k := 3) (by kernel_rfl) rfl rfl (f := 39) (args := #[.pointer (some ⟨pp, 0, none⟩)]) (by simp [execOp, go_sem, Act.eval, Act.put]) ?_
    refine (jevery_any (validJb_parts HV.out).2.1 _ H2.out.1.r.o).mono ?_
    rintro e w' ⟨rfl, rfl⟩
    dsimp only
    refine ⟨hS, ?_⟩
    try simp only [List.getElem_toArray, List.getElem_cons_succ, List.getElem_cons_zero, Act.put, List.setIfInBounds_toArray, List.set_cons_zero, List.set_cons_succ]
    obtain ⟨al, hal⟩ : ∃ x, x = aloneN j := ⟨_, rfl⟩
    obtain ⟨ev, hev⟩ : ∃ x, x = everyD j := ⟨_, rfl⟩
    rw [← hal, ← hev]
    have HAL := Lib.hid (And.intro hal hev)
    clear hal hev
    by_cases hae : al = ev
    · subst hae
      refine wpAnyH_take (i := 4) (v := ?_) rfl (by kernel_rfl) (by kernel_rfl) (by kernel_rfl) (fun c a w h => rounds_put (by decide) (by decide) h) (Or.inl ⟨by rfl, ?_⟩) hS ?_
      rotate_left
      · (intro W hSw; have hq1 := hSw; go_simp; try with_reducible rfl)
      try simp only [List.getElem_toArray, List.getElem_cons_succ, List.getElem_cons_zero, Act.put, List.setIfInBounds_toArray, List.set_cons_zero, List.set_cons_succ]
      refine wpAnyH_call (k := 5) (by kernel_rfl) rfl rfl (f := 37) (args := #[.bool true, .int .i64 4]) (by simp [execOp, go_sem, Act.eval, Act.put]) ?_
      refine (jask_ok 4 _).mono ?_
      rintro e w' ⟨rfl, rfl⟩
      dsimp only
      refine ⟨hS, ?_⟩
      try simp only [List.getElem_toArray, List.getElem_cons_succ, List.getElem_cons_zero, Act.put, List.setIfInBounds_toArray, List.set_cons_zero, List.set_cons_succ]
      refine wpAnyH_done (by kernel_rfl) ?_ _
      try simp only [List.getElem_toArray, List.getElem_cons_succ, List.getElem_cons_zero, Act.put, List.setIfInBounds_toArray, List.set_cons_zero, List.set_cons_succ]
      have c3 : ∀ o o', ((w2.alloc o).alloc o').cell? ⟨w.heap.size, 3, none⟩ = some (.slice ao2 nw cap2) := fun o o' => by rw [cell_of_row _ _ _ _ _ _ ((hget_old _ _ _ (by have := lt_of_block H2.out.2.2.2.1; simp; omega)).trans ((hget_old _ _ _ (by have := lt_of_block H2.out.2.2.2.1; omega)).trans H2.out.2.2.2.1))]; rfl
      go_wp2_with fail
      refine wp_name (fun W => W.heap[w2.heap.size]? = some (.cells #[.slice none 0 0] 29 (0, 0)) ∧ W.heap[w2.heap.size + 1]? = some (.cells #[onV w.heap.size w2.heap.size jb (w2.heap.size + 1)] 86 (0, 0)) ∧ Below w2.heap.size w2 W) ⟨(hget_old _ _ _ (by simp)).trans (heap_alloc_at _ _ _ rfl), heap_alloc_at _ _ _ (by simp), (Below.alloc' _ _).alloc (by simp) _⟩ ?_
      rintro W4 ⟨hf4, ho4, hb4⟩
      clear c3
      obtain ⟨fb, hfb⟩ : ∃ x, x = w2.heap.size := ⟨_, rfl⟩
      rw [← hfb] at hf4 ho4 ⊢
      have hfbj : jb < fb := by omega
      have hfbm : mp < fb := by omega
      have hfbw : w.heap.size < fb := by rw [hfb]; exact lt_of_block H2.out.2.2.2.1
      have hbw4 : Below w.heap.size w W4 := H2.out.2.1.trans (hb4.mono H2.out.2.1.size)
      have hjk4 := H2.out.1.later hb4
      have he4 := (hb4.block _ (lt_of_block H2.out.2.2.1)).trans H2.out.2.2.1
      have hx4 := (hb4.block _ (lt_of_block H2.out.2.2.2.1)).trans H2.out.2.2.2.1
      have hj4 := (hb4.block _ (lt_of_block H2.out.2.2.2.2)).trans H2.out.2.2.2.2
      have how : OnW j B pp mp (.slice ao nb cap) (.slice ao2 nw cap2) r w.heap.size fb jb (fb + 1) W4 := ⟨hjk4, hx4, ⟨_, hf4⟩, hj4, ho4, by omega, by omega, hjp, by omega⟩
      have HO := Lib.hid how
      have HF4 := Lib.hid hf4
      have HE4 := Lib.hid he4
      have HB4 := Lib.hid hbw4
      have hmp4 := hjk4.kept.lt
      clear hf4 ho4 hb4 hbw4 hjk4 he4 hx4 hj4 how hfb H2 hS hmps2 hjbs2
      obtain ⟨res, hres⟩ : ∃ x, x = roundsN j := ⟨_, rfl⟩
      have HRES := Lib.hid hres
      have hval : roundsD j = ((res.getD []), 0) := by unfold roundsD; rw [HERR.out, if_neg (by decide), if_pos (by rw [← HAL.out.1, ← HAL.out.2]), hres]
      have HVAL := Lib.hid hval
      clear hval hres
      go_loopw [21] (fun iv wr => ∃ i : Nat, i ≤ nw + 1 ∧ iv = .int .i64 i ∧ (List.range i).findSome? (fun most => onJ (canD j) most j.ws.length [] []) = none ∧ KeptJ j mp wr ∧ Keeps (fun k => k = mp) W4 wr) (fun iv _ => nw + 1 - (intOf iv).toNat)
      case atStart => exact ⟨0, Nat.zero_le _, rfl, rfl, HO.out.jk.kept, Keeps.refl _ _⟩
      case round =>
        obtain ⟨i, hi, rfl, hnone, hkp, hkk⟩ := hrel
        have HNO := Lib.hid hnone
        have HOR := Lib.hid (HO.out.keeps hkk hkp)
        have HKK := Lib.hid hkk
        have HKP := Lib.hid hkp
        have hkks := hkk.size
        have ho := HOR.out.ho
        have c5 : wr.cell? ⟨fb + 1, 0, none⟩ = some (onV w.heap.size fb jb (fb + 1)) := by rw [cell_of_row _ _ _ _ _ _ ho]; rfl
        unfold onV at c5
        clear hnone hkp hkk ho
        by_cases hlt : i < nw + 1
        · have hw : IntKind.i64.wrap ((i : Int) + 1) = ((i + 1 : Nat) : Int) := by rw [IntWalk.i64_in _ (by omega)]; omega
          have hlti : (i : Int) < (nw : Int) + 1 := by omega
          have eg := enters_of (P := Tryz.prog) Tryz.func54 (by kernel_rfl) rfl
          go_wp2_with fail
          refine (on_any HV.out i (by omega) nw [] [] _ _ _ (by rw [← HNW.out]; simp) (by simp) (by simp) (fun _ => rfl) (fun _ => rfl) (SetsAt.nil _ _) (NumsAt.nil _ _) HOR.out).mono ?_
          rintro e w5 hres
          cases hz : onJ (canD j) i nw [] [] with
          | none =>
            rw [hz] at hres
            obtain ⟨rfl, hkp5, hk5⟩ := hres
            have HZ := Lib.hid (show (List.range (i + 1)).findSome? (fun most => onJ (canD j) most j.ws.length [] []) = none by exact range_none _ _ HNO.out (by rw [← HNW.out]; exact hz))
            have H5 := Lib.hid (And.intro hkp5 (HKK.out.trans hk5))
            clear hkp5 hk5 hz eg c5
            dsimp only
            go_wp2_with fail
            exact ⟨⟨i + 1, hlt, by push_cast; rfl, HZ.out, H5.out.1, H5.out.2⟩, by simp [intOf]; omega⟩
          | some l8 =>
            rw [hz] at hres
            obtain ⟨rfl, hk5, v8, hf8, hn8⟩ := hres
            have hv8 : res = some l8 := by
              rw [HRES.out]
              exact range_some _ _ _ (by rw [← HNW.out]; exact hlt) HNO.out _ (by rw [← HNW.out]; exact hz)
            have hk45 := (HKK.out.mono (Mut' := fun k => k = mp ∨ k = fb) (fun _ _ h => .inl h)).trans hk5
            have he5 := (hk45.block _ (lt_of_block HE4.out) (by omega)).trans HE4.out
            have hbw5 : Below w.heap.size w w5 := HB4.out.trans (hk45.below HB4.out.size (fun k h e => by omega))
            obtain ⟨a8, c8, hve, _⟩ := id hn8
            subst hve
            obtain ⟨n8, hn8e⟩ : ∃ n, n = (l8.map fun s : Nat => (s : Int)).length := ⟨_, rfl⟩
            have HN8 := Lib.hid hn8
            rw [← hn8e] at hf8
            have HN8E := Lib.hid hn8e
            have x0 : w5.cell? ⟨fb, 0, none⟩ = some (.slice a8 n8 c8) := by rw [cell_of_row _ _ _ _ _ _ hf8]; rfl
            have xe : w5.cell? ⟨w.heap.size + 1, 0, none⟩ = some (.int .i64 0) := by rw [cell_of_row _ _ _ _ _ _ he5]; rfl
            have xf : w5.frozen? ⟨w.heap.size + 1, 0, none⟩ = false := frozen_of_row _ _ 0 _ _ he5
            have H5 := Lib.hid (And.intro he5 hbw5)
            have HV8 := Lib.hid hv8
            clear hk5 hk45 he5 hbw5 hf8 hn8 hn8e hz eg c5 hv8
            dsimp only
            go_wp2_with fail
            have e9 := err_set (y := 0) H5.out.1
            have hkE : Keeps (fun k => k = w.heap.size + 1) w5 (w5.setCell ⟨w.heap.size + 1, 0, none⟩ (.int .i64 0)) := Keeps.setCell _ _ _ rfl
            refine jleaf_ret (w.heap.size + 1) _ _ ⟨_, by simp [results, Tryz.results19, go_sem, e9]; rfl, .slice a8 n8 c8, by rw [HVAL.out], ?_, H5.out.2.trans (hkE.below H5.out.2.size (fun k h e => by omega))⟩
            rw [HVAL.out, HV8.out, HN8E.out]
            exact (HN8.out.mono (Rd' := fun _ => True) (fun _ _ => trivial)).later hkE.size (fun k _ _ => set_sameJ H5.out.1 k)
        · obtain rfl : i = nw + 1 := by omega
          have hlti : ¬ ((nw + 1 : Nat) : Int) < (nw : Int) + 1 := by omega
          have hlti2 : ¬ (nw : Int) + 1 < (nw : Int) + 1 := by omega
          have hv8 : res = none := by rw [HRES.out]; unfold roundsN; rw [← HNW.out, ← HNO.out, ← HNW.out]
          have HV8 := Lib.hid hv8
          have hf5 := (HKK.out.block _ (lt_of_block HF4.out) (by omega)).trans HF4.out
          have he5 := (HKK.out.block _ (lt_of_block HE4.out) (by omega)).trans HE4.out
          have hbw5 : Below w.heap.size w wr := HB4.out.trans (HKK.out.below HB4.out.size (fun k h e => by omega))
          have x0 : wr.cell? ⟨fb, 0, none⟩ = some (.slice none 0 0) := by rw [cell_of_row _ _ _ _ _ _ hf5]; rfl
          have xe : wr.cell? ⟨w.heap.size + 1, 0, none⟩ = some (.int .i64 0) := by rw [cell_of_row _ _ _ _ _ _ he5]; rfl
          have xf : wr.frozen? ⟨w.heap.size + 1, 0, none⟩ = false := frozen_of_row _ _ 0 _ _ he5
          have H5 := Lib.hid (And.intro he5 hbw5)
          clear hf5 he5 hbw5 hv8 c5
          go_wp2_with fail
          have e9 := err_set (y := 0) H5.out.1
          have hkE : Keeps (fun k => k = w.heap.size + 1) wr (wr.setCell ⟨w.heap.size + 1, 0, none⟩ (.int .i64 0)) := Keeps.setCell _ _ _ rfl
          refine jleaf_ret (w.heap.size + 1) _ _ ⟨_, by simp [results, Tryz.results19, go_sem, e9]; rfl, .slice none 0 0, by rw [HVAL.out], ?_, H5.out.2.trans (hkE.below H5.out.2.size (fun k h e => by omega))⟩
          rw [HVAL.out, HV8.out]
          exact NumsAt.nil _ _
    · have haei : ¬ (al : Int) = (ev : Int) := by omega
      refine wpAnyH_take (i := 4) (v := ?_) rfl (by kernel_rfl) (by kernel_rfl) (by kernel_rfl) (fun c a w h => rounds_put (by decide) (by decide) h) (Or.inl ⟨by rfl, ?_⟩) hS ?_
      rotate_left
      · (intro W hSw; have hq1 := hSw; go_simp; try with_reducible rfl)
      try simp only [List.getElem_toArray, List.getElem_cons_succ, List.getElem_cons_zero, Act.put, List.setIfInBounds_toArray, List.set_cons_zero, List.set_cons_succ]
      refine wpAnyH_call (k := 5) (by kernel_rfl) rfl rfl (f := 37) (args := #[.bool false, .int .i64 4]) (by simp [execOp, go_sem, Act.eval, Act.put, haei]) ?_
      refine (jask_no 4 _).mono ?_
      rintro e w' ⟨rfl, rfl⟩
      dsimp only
      refine jleaf_stop 4 (w.heap.size + 1) 0 _ w2 H2.out.2.2.1 (fun W' hkE heE => ?_)
      have e9 : W'.cell? ⟨w.heap.size + 1, 0, none⟩ = some (.int .i64 4) := by rw [cell_of_row _ _ _ _ _ _ heE]; rfl
      have hval : roundsD j = ([], 4) := by unfold roundsD; rw [HERR.out, if_neg (by decide), if_neg (by rw [← HAL.out.1, ← HAL.out.2]; exact hae)]
      exact ⟨_, by simp [results, Tryz.results19, go_sem, e9, Act.put]; rfl, _, by rw [hval], by rw [hval]; exact NumsAt.nil _ _, H2.out.2.1.trans (hkE.below H2.out.2.1.size (fun k h e => by omega))⟩
end Go.Proofs.YtbmfphiecllggaaGreatDoor

/- What TopServed asks of plans, rounds and truths, in plain words. -/
namespace Go.Proofs.YtbmfphiecllggaaGreatDoor
set_option linter.unusedVariables false
set_option linter.unusedSimpArgs false

def unionJ (l : List Nat) : Nat := l.foldl (· ||| ·) 0
theorem free_at : ∀ (l : List Nat) (used : Nat), FreeJ used l → ∀ k (h : k < l.length), (l.take k).foldl (· ||| ·) used &&& l[k] = 0
  | [], _, _, k, h => by simp at h
  | s :: l, used, hf, 0, _ => by simpa using hf.1
  | s :: l, used, hf, k + 1, h => by
    have := free_at l (used ||| s) hf.2 k (by simpa using h)
    simpa using this
theorem union_lt (n : Nat) : ∀ (l : List Nat) (u : Nat), u < 2 ^ n → (∀ s ∈ l, s < 2 ^ n) → l.foldl (· ||| ·) u < 2 ^ n
  | [], _, h, _ => h
  | s :: l, u, h, hl => union_lt n l (u ||| s) (Nat.or_lt_two_pow h (hl s List.mem_cons_self)) (fun x hx => hl x (List.mem_cons_of_mem _ hx))
theorem union_take (l : List Nat) (k : Nat) (h : k < l.length) : unionJ (l.take (k + 1)) = unionJ (l.take k) ||| l[k] := by
  unfold unionJ
  rw [List.take_succ_eq_append_getElem h, List.foldl_append]; rfl
/-- What is known of a plan that is told. -/
structure PlanFacts (x : JobD) (p : List Nat) : Prop where
  len : p.length = x.ws.length
  lt : ∀ s ∈ p, s < 2 ^ x.st.bs.length
  right : ∀ k (h : k < p.length) (h' : k < x.ws.length), p[k] ∈ rightsS x.st x.ws[k]
  free : ∀ k (h : k < p.length), unionJ (p.take k) &&& p[k] = 0
theorem plan_facts {x : JobD} {p : List Nat} (hp : PlanJ (rightsD x) (allD x) p) : PlanFacts x p := by
  have hl : p.length = x.ws.length := by rw [hp.length]; unfold rightsD; simp
  have hr : ∀ k (h : k < p.length) (h' : k < x.ws.length), p[k] ∈ rightsS x.st x.ws[k] := fun k h h' => by
    have := hp.get k h (by unfold rightsD; simpa using h')
    simpa [rightsD] using this
  refine ⟨hl, fun s hs => ?_, hr, fun k h => free_at p 0 (hp.free 0 (fun i hi => by simp at hi)) k h⟩
  obtain ⟨k, hk, rfl⟩ := List.getElem_of_mem hs
  exact (mem_rightsJ.1 (hr k hk (by omega))).1
theorem can_told {x : JobD} (hc : canD x (everyD x) = true) : PlanJ (rightsD x) (allD x) (toldJ 8 (rightsD x) (allD x)) := by
  rw [can_every] at hc
  obtain ⟨y, hy⟩ := Option.isSome_iff_exists.1 hc
  exact ((score_specJ 8 (rightsD x) (allD x)).2 y hy).1
theorem can_of_plan {x : JobD} {p : List Nat} (hp : PlanJ (rightsD x) (allD x) p) : canD x (everyD x) = true := by
  rw [can_every]
  cases h : scoreJ 8 (rightsD x) (allD x) with
  | some _ => rfl
  | none => exact absurd hp ((score_specJ 8 (rightsD x) (allD x)).1 h p)
theorem errD_ok {x : JobD} (hv : validJb x = true) : errD x true = 0 := by unfold errD; rw [hv]; rfl
theorem planD_can {x : JobD} (hv : validJb x = true) (hc : canD x (everyD x) = true) : planD x = (toldJ 8 (rightsD x) (allD x), 0) := by
  unfold planD; rw [errD_ok hv, if_neg (by decide), hc]; rfl
theorem planD_cannot {x : JobD} (hv : validJb x = true) (hc : canD x (everyD x) = false) : planD x = ([], 4) := by
  unfold planD; rw [errD_ok hv, if_neg (by decide), hc]; rfl
theorem isPlan_facts {x : JobD} {p : List Nat} (h : PlanFacts x p) : isPlanD x (p.map fun n : Nat => (n : Int)) = true := by
  unfold isPlanD
  rw [List.length_map, h.len, decide_eq_true rfl, Bool.true_and, List.all_eq_true]
  intro n hn
  obtain ⟨s, hs, rfl⟩ := List.mem_map.1 hn
  obtain ⟨k, hk, rfl⟩ := List.getElem_of_mem hs
  have h1 := mem_rightsJ.1 (h.right k hk (by rw [← h.len]; exact hk))
  have h2 : p[k] < 2 ^ x.st.bs.length := h1.1
  have h3 : p[k] ≠ 0 := h1.2.1
  have h4 : ((2 ^ x.st.bs.length : Nat) : Int) = (2 : Int) ^ x.st.bs.length := by simp
  unfold isSetS
  simp only [Bool.and_eq_true, decide_eq_true_eq]
  omega
theorem check_plan {x : JobD} (hv : validJb x = true) {p : List Nat} (hp : PlanJ (rightsD x) (allD x) p) : checkD x (p.map fun n : Nat => (n : Int)) = ((0, 0), 4) := by
  unfold checkD
  have he : errD x (isPlanD x (p.map fun n : Nat => (n : Int))) = 0 := by rw [isPlan_facts (plan_facts hp)]; exact errD_ok hv
  rw [he, if_neg (by decide), wrong_none (rightsD x) 0 0 hp (by simp) (fun k hk => by simp at hk)]
theorem lendD_can {x : JobD} (hv : validJb x = true) (hc : canD x (everyD x) = true) : lendD x = (((lendN x : Nat) : Int), 0) := by
  unfold lendD; rw [errD_ok hv, if_neg (by decide), hc]; rfl
theorem valid_without {x : JobD} (hv : validJb x = true) (b : Nat) : validJb (withoutD x b) = true := by
  obtain ⟨h1, h2, h3⟩ := validJb_parts hv
  obtain ⟨k1, k2, k3⟩ := validSt_parts h1
  refine validJb_of (validSt_of ?_ k2 (fun y hy => k3 y (List.mem_of_mem_eraseIdx hy))) h2 h3
  have := List.length_eraseIdx_le x.st.bs b
  show (x.st.bs.eraseIdx b).length ≤ 8
  omega
/-- A block is lent just if there is a plan without it. -/
theorem lend_bit {x : JobD} (hv : validJb x = true) (b : Nat) (hb : b < x.st.bs.length) : decide ((planD (withoutD x b)).2 = 0) = (lendN x).testBit b := by
  unfold lendN
  rw [setJ_bit, decide_eq_true hb, Bool.true_and, ← can_without x b hb]
  cases hc : canD (withoutD x b) (everyD (withoutD x b)) with
  | true => rw [planD_can (valid_without hv b) hc]; rfl
  | false => rw [planD_cannot (valid_without hv b) hc]; rfl
/-- The fewest blocks for a want that is met. -/
theorem fewest_met {s : StackD} (hs : validSt s = true) {want : Int × Int} (hw : wantOk want = true) {r : Nat} (hr : r ∈ rightsS s want) : ∃ t : Nat, fewestS s want = ((t : Int), 0) ∧ t < 2 ^ s.bs.length ∧ t ∈ rightsS s want ∧ sizeJ 8 t ≤ sizeJ 8 r := by
  cases h : leastJ (rightsS s want) with
  | none => rw [least_none] at h; rw [h] at hr; cases hr
  | some t =>
    have h1 := least_some h
    refine ⟨t, fewest_someS (by unfold errS; rw [hs, hw]; rfl) h, (mem_rightsJ.1 h1.is).1, h1.is, ?_⟩
    rcases h1.le r hr with e | e
    · rw [e]; exact Nat.le_refl _
    · unfold LessJ at e; omega
/-- How long a stack truly is, as far as blocks are gone through. -/
structure LongR (s : StackD) (set i : Nat) (long : Int) (first : Bool) : Prop where
  lo : (lenJ s.film (selJ (s.bs.take i) set)).lo ≤ long
  hi : long ≤ (lenJ s.film (selJ (s.bs.take i) set)).hi
  fst : first = decide ((lenJ s.film (selJ (s.bs.take i) set)).many = 0)
theorem LongR.zero (s : StackD) (set : Nat) : LongR s set 0 0 true := ⟨by simp [selJ, lenJ, LenJ.zero], by simp [selJ, lenJ, LenJ.zero], by simp [selJ, lenJ, LenJ.zero]⟩
theorem LongR.skip {s : StackD} {set i : Nat} {long : Int} {first : Bool} (h : LongR s set i long first) (hi : i < s.bs.length) (hb : set.testBit i = false) : LongR s set (i + 1) long first := by
  have : selJ (s.bs.take (i + 1)) set = selJ (s.bs.take i) set := by rw [sel_take _ _ _ hi, hb]; simp
  exact ⟨by rw [this]; exact h.lo, by rw [this]; exact h.hi, by rw [this]; exact h.fst⟩
theorem LongR.next {s : StackD} {set i : Nat} {long : Int} {first : Bool} (h : LongR s set i long first) (hi : i < s.bs.length) (hb : set.testBit i = true) {m f : Int} (hm : s.bs[i].1 ≤ m ∧ m ≤ s.bs[i].2) (hf : s.film.1 ≤ f ∧ f ≤ s.film.2) :
    LongR s set (i + 1) (if first then long + m else long + f + m) false := by
  have h1 : selJ (s.bs.take (i + 1)) set = selJ (s.bs.take i) set ++ [s.bs[i]] := by rw [sel_take _ _ _ hi, hb]; simp
  have h2 := lenJ_snoc s.film (selJ (s.bs.take i) set) s.bs[i]
  have hmy := lenJ_many s.film (selJ (s.bs.take i) set)
  obtain ⟨h3, h4, h5⟩ := h
  rw [← h1] at h2
  generalize lenJ s.film (selJ (s.bs.take i) set) = a at *
  generalize selJ (s.bs.take i) set = q at *
  subst h5
  by_cases h0 : a.many = 0
  · have hw : a.with s.bs[i] s.film = ⟨a.lo + s.bs[i].1, a.hi + s.bs[i].2, a.many + 1⟩ := by unfold LenJ.with; rw [if_neg (by omega)]
    rw [decide_eq_true h0, if_pos rfl]
    refine ⟨by rw [h2, hw]; dsimp only; omega, by rw [h2, hw]; dsimp only; omega, ?_⟩
    rw [h2, hw]
    symm
    rw [decide_eq_false_iff_not]
    dsimp only; omega
  · have hw : a.with s.bs[i] s.film = ⟨a.lo + s.film.1 + s.bs[i].1, a.hi + s.film.2 + s.bs[i].2, a.many + 1⟩ := by unfold LenJ.with; rw [if_pos (by omega)]
    rw [decide_eq_false h0, if_neg (by decide)]
    refine ⟨by rw [h2, hw]; dsimp only; omega, by rw [h2, hw]; dsimp only; omega, ?_⟩
    rw [h2, hw]
    symm
    rw [decide_eq_false_iff_not]
    dsimp only; omega
theorem LongR.bound {s : StackD} (hv : validSt s = true) {set i : Nat} {long : Int} {first : Bool} (h : LongR s set i long first) : -1000000 ≤ long ∧ long ≤ 1000000 := by
  have := lenOk_sel hv i set
  obtain ⟨⟨h1, h2⟩, ⟨h3, h4⟩, _⟩ := this
  have := h.lo
  have := h.hi
  omega
theorem LongR.done {s : StackD} {set : Nat} {long : Int} {first : Bool} {want : Int × Int} (h : LongR s set s.bs.length long first) (hr : set ∈ rightsS s want) : want.1 ≤ long ∧ long ≤ want.2 := by
  have h1 := (mem_rightsJ.1 hr).2.2
  unfold insideJ at h1
  simp only [Bool.and_eq_true, decide_eq_true_eq] at h1
  have h2 := h.lo
  have h3 := h.hi
  rw [List.take_length] at h2 h3
  omega
/-- How many wants are met in the first rounds. -/
def metJ (ws : List (Int × Int)) (l : List Nat) (r : Nat) : Nat := ((List.range r).map fun n => (selJ ws (withJ l 0 n)).length).sum
theorem met_succ (ws : List (Int × Int)) (l : List Nat) (r : Nat) : metJ ws l (r + 1) = metJ ws l r + (selJ ws (withJ l 0 r)).length := by
  unfold metJ
  rw [List.range_succ, List.map_append, List.sum_append]
  simp
theorem met_end (ws : List (Int × Int)) (l : List Nat) (h : l.length = ws.length) : metJ ws l (numbersJ l) = ws.length :=
  met_allJ ws l (numbersJ l) h (numbers_ge l 0).2
theorem met_le (ws : List (Int × Int)) (l : List Nat) (r : Nat) (hr : r ≤ 4) (h4 : ws.length ≤ 4) : metJ ws l r ≤ 4 * r := by
  clear hr
  induction r with
  | zero => simp [metJ]
  | succ r ih => rw [met_succ]; have := sel_lenJ ws (withJ l 0 r); omega
theorem on_ltJ (can : Nat → Bool) (most : Nat) : ∀ (k : Nat) (rs l l' : List Nat), (∀ x ∈ l, x < most) → onJ can most k rs l = some l' → ∀ x ∈ l', x < most
  | 0, rs, l, l', h, e => by
    have : l = l' := Option.some.inj e
    subst this; exact h
  | k + 1, rs, l, l', h, e => by
    rw [onJ] at e
    obtain ⟨i, hi, h1⟩ := List.exists_of_findSome?_eq_some e
    rw [List.mem_range] at hi
    split at h1
    · refine on_ltJ can most k _ _ l' (fun x hx => ?_) h1
      rcases List.mem_append.1 hx with hx | hx
      · exact h x hx
      · rw [List.mem_singleton.1 hx]; omega
    · cases h1
theorem rounds_facts {j : JobD} (hv : validJb j = true) (h : aloneN j = everyD j) : ∃ l rs, roundsD j = (l, 0) ∧ l.length = j.ws.length ∧ GoodJ (canD j) rs l ∧ (∀ x ∈ l, x < j.ws.length) ∧ numbersJ l ≤ j.ws.length := by
  obtain ⟨l, rs, h1, h2, h3⟩ := rounds_some j h
  have h4 : ∀ x ∈ l, x < j.ws.length := by
    have h5 := h1
    unfold roundsN at h5
    obtain ⟨most, hm, h6⟩ := List.exists_of_findSome?_eq_some h5
    rw [List.mem_range] at hm
    intro x hx
    have := on_ltJ (canD j) most j.ws.length [] [] l (by simp) h6 x hx
    omega
  refine ⟨l, rs, ?_, h2, h3, h4, numbers_le l 0 _ (Nat.zero_le _) h4⟩
  unfold roundsD
  rw [errD_ok hv, if_neg (by decide), if_pos h, h1]; rfl
end Go.Proofs.YtbmfphiecllggaaGreatDoor

/- The document's examples, as TopServed makes them; lists that are the same. -/
namespace Go.Proofs.YtbmfphiecllggaaGreatDoor
set_option linter.unusedVariables false
set_option linter.unusedSimpArgs false
open Go.RowKit Go.Shelf
attribute [local go_sem] Oper.semAt_some

set_option maxHeartbeats 4000000 in
theorem r12ints_any (a b : List Int) (va vb : Value) (Rd Rd' : Nat → Prop) (hla : a.length ≤ 1000) (hlb : b.length ≤ 1000) (w : World) (ha : NumsAt w va a Rd) (hb : NumsAt w vb b Rd') :
    Calls Tryz.prog 12 #[va, vb] w fun e w' => e = .returned (.bool (decide (a = b))) ∧ Below w.heap.size w w' := by
  have HA := Lib.hid ha
  have HB := Lib.hid hb
  obtain ⟨ao, cap, rfl, _⟩ := id ha
  obtain ⟨bo, cap', rfl, _⟩ := id hb
  obtain ⟨n, hn⟩ : ∃ n, n = a.length := ⟨_, rfl⟩
  obtain ⟨m, hm⟩ : ∃ n, n = b.length := ⟨_, rfl⟩
  rw [← hn] at hla ⊢
  rw [← hm] at hlb ⊢
  have HN := Lib.hid hn
  have HM := Lib.hid hm
  clear ha hb hn hm
  go_enter Tryz.func12, Tryz.ntmps12
  by_cases hnm : n = m
  · subst hnm
    go_wp2_with fail
    go_loopw [5] (fun iv wr => ∃ i : Nat, i ≤ n ∧ iv = .int .i64 i ∧ a.take i = b.take i ∧ Below w.heap.size w wr) (fun iv _ => n - (intOf iv).toNat)
    case atStart => exact ⟨0, by omega, rfl, by simp, Below.refl _ _⟩
    case round =>
      obtain ⟨i, hi, rfl, htk, hbr⟩ := hrel
      have HT := Lib.hid htk
      have HBR := Lib.hid hbr
      clear htk hbr
      by_cases hlt : i < n
      · have hw : IntKind.i64.wrap ((i : Int) + 1) = ((i + 1 : Nat) : Int) := by rw [IntWalk.i64_in _ (by omega)]; omega
        have hlti : (i : Int) < (n : Int) := by omega
        have hia : i < a.length := by rw [← HN.out]; exact hlt
        have hib : i < b.length := by rw [← HM.out]; exact hlt
        obtain ⟨ao', c1, e1, _, _, h1⟩ := HA.out
        obtain ⟨bo', c2, e2, _, _, h2⟩ := HB.out
        injection e1 with e1 _ e3
        injection e2 with e2 _ e4
        subst e1 e2 e3 e4
        obtain ⟨b1, o1, rfl, _, hb1, x1⟩ := h1 i hia
        obtain ⟨b2, o2, rfl, _, hb2, x2⟩ := h2 i hib
        obtain ⟨x, hx⟩ : ∃ x, x = a[i] := ⟨_, rfl⟩
        obtain ⟨y, hy⟩ : ∃ x, x = b[i] := ⟨_, rfl⟩
        rw [← hx] at x1
        rw [← hy] at x2
        have x1 := (World.cell?_of_block (w := w) (w' := wr) (a := ⟨b1, o1 + i, none⟩) (HBR.out.block b1 hb1)).trans x1
        have x2 := (World.cell?_of_block (w := w) (w' := wr) (a := ⟨b2, o2 + i, none⟩) (HBR.out.block b2 hb2)).trans x2
        have HX := Lib.hid (And.intro hx hy)
        clear hx hy h1 h2
        have HBD : Hid (∀ n, Below w.heap.size w (wr.drewN n)) := fun n => ⟨HBR.out.os, HBR.out.tape, HBR.out.output, HBR.out.size, HBR.out.block⟩
        go_wp2_with fail
        go_quiet (fail)
        by_cases hxy : x = y
        · have HXY := Lib.hid hxy
          have hxy2 : (x != y) = false := by simp [hxy]
          clear hxy
          go_wp2
          refine ⟨⟨i + 1, hlt, by rfl, ?_, HBD.out nq⟩, by simp [intOf]; omega⟩
          rw [List.take_succ_eq_append_getElem hia, List.take_succ_eq_append_getElem hib, HT.out, ← HX.out.1, ← HX.out.2, HXY.out]
        · have hxy2 : (x != y) = true := by simp [hxy]
          have HXY := Lib.hid hxy
          clear hxy
          go_wp2
          go_ret
          refine ⟨?_, HBD.out nq⟩
          have : ¬ a = b := fun h => HXY.out (by rw [HX.out.1, HX.out.2]; simp [h])
          rw [decide_eq_false this]; rfl
      · obtain rfl : i = n := by omega
        have hlti : ¬ (i : Int) < (i : Int) := by omega
        have hab : a = b := by
          have h := HT.out
          rw [List.take_of_length_le (by rw [← HN.out]; exact Nat.le_refl _), List.take_of_length_le (by rw [← HM.out]; exact Nat.le_refl _)] at h
          exact h
        have HAB := Lib.hid hab
        clear hab
        go_wp2
        go_ret
        exact ⟨by rw [decide_eq_true HAB.out]; rfl, HBR.out⟩
  · have hnm2 : ¬ (n : Int) = (m : Int) := by omega
    have hab : ¬ a = b := fun h => hnm (by rw [HN.out, HM.out, h])
    have HAB := Lib.hid hab
    clear hab
    go_wp2
    go_ret
    exact ⟨by rw [decide_eq_false HAB.out]; rfl, Below.refl _ _⟩
theorem three_setJ {w : World} {b : Nat} {a0 a1 a2 x0 x1 x2 : Value} {t : TypeId} {fr : Nat × Nat} (h : w.heap[b]? = some (.cells #[a0, a1, a2] t fr)) :
    (((w.setCell ⟨b, 0, none⟩ x0).setCell ⟨b, 1, none⟩ x1).setCell ⟨b, 2, none⟩ x2).heap[b]? = some (.cells #[x0, x1, x2] t fr) := by
  simp [World.setCell, Array.getElem?_modify, h]
theorem keeps_threeJ (w : World) (b : Nat) (x0 x1 x2 : Value) : Keeps (fun k => k = b) w (((w.setCell ⟨b, 0, none⟩ x0).setCell ⟨b, 1, none⟩ x1).setCell ⟨b, 2, none⟩ x2) :=
  ((Keeps.setCell (Mut := fun k => k = b) _ _ _ rfl).trans (Keeps.setCell (Mut := fun k => k = b) _ _ _ rfl)).trans (Keeps.setCell (Mut := fun k => k = b) _ _ _ rfl)
end Go.Proofs.YtbmfphiecllggaaGreatDoor

/- What the document fixes of chapter 12: awake12 is true. -/
namespace Go.Proofs.YtbmfphiecllggaaGreatDoor
set_option linter.unusedVariables false
set_option linter.unusedSimpArgs false
open Go.RowKit Go.Shelf
attribute [local go_sem] Oper.semAt_some

theorem SpansAt.low9 {W : World} {v : Value} {l : List (Int × Int)} {Rd : Nat → Prop} (h : SpansAt W v l Rd) : SpansAt W v l (fun k => k < W.heap.size) := by
  obtain ⟨a, c, g1, g2, g3, g4⟩ := h
  exact ⟨a, c, g1, g2, g3, fun q hq => by obtain ⟨b, off, f1, f2, f3, f4⟩ := g4 q hq; exact ⟨b, off, f1, f3, f3, f4⟩⟩
end Go.Proofs.YtbmfphiecllggaaGreatDoor
