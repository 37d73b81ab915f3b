/- Texts Wp, Xg, Xe, Xf, Hi, Hs, Hl in one file; each begins with a word on what it proves. -/
import Derived.Laws.EntriesVeiled
import Derived.Test.YtbmfphiecllggaaDoorKi
import Derived.Test.YtbmfphiecllggaaDoorKg
import Derived.Test.YtbmfphiecllggaaDoorKh

/- In which rounds wants can be met, walked. -/
namespace Go.Proofs.YtbmfphiecllggaaDoor
set_option linter.unusedVariables false
set_option linter.unusedSimpArgs false
open Go.RowKit Go.Shelf
attribute [local go_sem] Oper.semAt_some
/-- What Rounds comes to. -/
def RoundsR (j : JobD) (w : World) (e : Ending) (w' : World) : Prop :=
  ∃ v, e = .returned (.tuple #[v, .int .i64 (roundsD j).2]) ∧ NumsAt w' v ((roundsD j).1.map fun s : Nat => (s : Int)) (fun _ => True) ∧ Below w.heap.size w w'
theorem rounds_results (t1 t2 : Array Value) (h2 : t1.getD 2 undef = t2.getD 2 undef) (h3 : t1.getD 3 undef = t2.getD 3 undef) : results Tryd.f13 t1 = results Tryd.f13 t2 := by
  have : Tryd.f13.results = #[.tmp 2, .cell 3 33] := rfl
  unfold results
  rw [this]
  have h2' : t1[2]?.getD undef = t2[2]?.getD undef := by simpa [Array.getD_eq_getD_getElem?] using h2
  have h3' : t1[3]?.getD undef = t2[3]?.getD undef := by simpa [Array.getD_eq_getD_getElem?] using h3
  simp [h2', h3']
theorem rounds_put {R : Ending → World → Prop} {c : List PanicEntry} {d : Nat} {v : Value} {a : Act} {w : World} (h2 : d ≠ 2) (h3 : d ≠ 3)
    (h : bodyPostD Tryd.prog Tryd.f13 R (.panic c) (a.put (some d) v) w) : bodyPostD Tryd.prog Tryd.f13 R (.panic c) a w := by
  refine Leaves.congr (fun w v hh => ?_) _ _ _ h
  rw [rounds_results _ a.tmps] at hh
  · exact hh
  · simp [Act.put, Array.getD_eq_getD_getElem?, Array.getElem?_setIfInBounds, h2]
  · simp [Act.put, Array.getD_eq_getD_getElem?, Array.getElem?_setIfInBounds, h3]
theorem set_sameJ {W : World} {E : Nat} {x : Value} {t : TypeId} {fr : Nat × Nat} (h : W.heap[E]? = some (.cells #[x] t fr)) (k : Nat) : (W.setCell ⟨E, 0, none⟩ x).heap[k]? = W.heap[k]? := by
  by_cases hk : k = E
  · subst hk
    simp [World.setCell, Array.getElem?_modify, h]
  · exact Below.heap_setCell _ _ _ _ hk
set_option maxRecDepth 100000 in
set_option maxHeartbeats 8000000 in
theorem Rounds_any (j : JobD) (bs ws : Value) (w : World) (hbs : SpansAt w bs j.st.bs (fun k => k < w.heap.size)) (hws : SpansAt w ws j.ws (fun k => k < w.heap.size)) (htz : TabZ w) :
    Calls Tryd.prog 13 #[jobV j bs ws] w (RoundsR j w) := by
  have HTZ := Lib.hid htz
  have h1z := htz.lt
  clear htz
  have HBS := Lib.hid hbs
  have HWS := Lib.hid hws
  obtain ⟨ao, cap, hv1, _⟩ := id hbs
  obtain ⟨ao2, cap2, hv2, _⟩ := id hws
  subst hv1 hv2
  obtain ⟨nb, hnb⟩ : ∃ n, n = j.st.bs.length := ⟨_, rfl⟩
  obtain ⟨nw, hnw⟩ : ∃ n, n = j.ws.length := ⟨_, rfl⟩
  rw [← hnb] at HBS
  rw [← hnw] at HWS
  unfold jobV
  rw [← hnb, ← hnw]
  have HNB := Lib.hid hnb
  have HNW := Lib.hid hnw
  clear hbs hws hnb hnw
  go_enter_defers Tryd.func13, Tryd.ntmps13
  go_wp2_with fail
  refine (open_always j (.slice ao nb cap) (.slice ao2 nw cap2) _ (by rw [HNB.out] at HBS ⊢; exact (HBS.out.later (by simp <;> omega) (fun k h1 h2 => (hget_old _ _ _ (by simp; omega)).trans (hget_old _ _ _ (by omega)))).low) (by rw [HNW.out] at HWS ⊢; exact (HWS.out.later (by simp <;> omega) (fun k h1 h2 => (hget_old _ _ _ (by simp; omega)).trans (hget_old _ _ _ (by omega)))).low)).mono ?_
  rintro e w1 ⟨hb1, hres⟩
  have he1 := (hb1.block (w.heap.size + 1) (by simp <;> omega)).trans (heap_alloc_at _ (.cells #[.int .i64 0] 33) _ (by simp))
  have hx1 := (hb1.block w.heap.size (by simp <;> omega)).trans ((hget_old _ _ _ (by simp)).trans (heap_alloc_at w (.cells #[.slice ao nb cap, .int .i64 j.st.film.1, .int .i64 j.st.film.2, .slice ao2 nw cap2] 28) _ rfl))
  have hbw : Below w.heap.size w w1 := (((Below.refl _ _).alloc (Nat.le_refl _) _).alloc (by simp) _).trans (hb1.mono (by simp <;> omega))
  have HE1 := Lib.hid he1
  have HX1 := Lib.hid hx1
  have HBW := Lib.hid hbw
  clear hb1 he1 hx1 hbw
  rcases hres with ⟨hne, rfl⟩ | ⟨he, pp, mp, r, rfl, hj, hm⟩
  · obtain ⟨er, her⟩ : ∃ x, x = errD j true := ⟨_, rfl⟩
    rw [← her] at hne ⊢
    have HNE := Lib.hid (And.intro hne her)
    clear hne her
    dsimp only
    go_wp2_with fail
    refine jleaf_stop er (w.heap.size + 1) 0 _ w1 HE1.out (fun W' hkE heE => ?_)
    have e9 : W'.cell? ⟨w.heap.size + 1, 0, none⟩ = some (.int .i64 er) := by rw [cell_of_row _ _ _ _ _ _ heE]; rfl
    have hval : roundsD j = ([], er) := by unfold roundsD; rw [← HNE.out.2, if_pos HNE.out.1]
    exact ⟨_, by simp [results, Tryd.results13, go_sem, e9]; rfl, _, by rw [hval], by rw [hval]; exact NumsAt.nil _ _, HBW.out.trans (hkE.below HBW.out.size (fun k h e => by omega))⟩
  · skip
    dsimp only
    have hv := (errD_valid he).1
    have HV := Lib.hid hv
    have HERR := Lib.hid he
    obtain ⟨B, hBB⟩ : ∃ B, B = w.heap.size + 1 + 1 := ⟨_, rfl⟩
    have hsz : ((w.alloc (.cells #[.slice ao nb cap, .int .i64 j.st.film.1, .int .i64 j.st.film.2, .slice ao2 nw cap2] 28)).alloc (.cells #[.int .i64 0] 33)).heap.size = B := by rw [hBB]; simp
    rw [hsz] at hj
    have HJ := Lib.hid hj
    have HM := Lib.hid hm
    clear he hj hm hv hsz
    have hjk : JobK j B pp mp (.slice ao nb cap) (.slice ao2 nw cap2) r w1 := ⟨HJ.out, KeptJ.nil HM.out, HTZ.out.below HBW.out h1z, by omega⟩
    have HJK := Lib.hid hjk
    have hlm := hjk.r.o.lm
    have hmps := hjk.kept.lt
    clear hjk HJ HM
    have hnw4 : nw ≤ 4 := by rw [HNW.out]; exact (validJb_parts HV.out).2.1
    have hmf : ∀ (fn : Fn) (first cap : Array Value) (w : World), (Instr.makeFunc fn first cap).run Tryd.prog w = .ok (.func fn first cap) w := fun _ _ _ _ => rfl
    go_wp2_with fail
    obtain ⟨W1, hW1⟩ : ∃ W, W = w1.alloc (.cells #[.pointer (some ⟨pp, 0, none⟩)] 74 (0, 0)) := ⟨_, rfl⟩
    have hb11 : Below w1.heap.size w1 W1 := by rw [hW1]; exact Below.alloc' _ _
    have hjb1 : W1.heap[w1.heap.size]? = some (.cells #[.pointer (some ⟨pp, 0, none⟩)] 74 (0, 0)) := by rw [hW1]; exact heap_alloc_at _ _ _ rfl
    rw [← hW1]
    clear hW1
    obtain ⟨jb, hjbe⟩ : ∃ x, x = w1.heap.size := ⟨_, rfl⟩
    rw [← hjbe] at hjb1
    try rw [← hjbe]
    have hj8 : w.heap.size + 1 < jb := by rw [hjbe]; exact lt_of_block HE1.out
    have hjp : jb ≠ mp := by omega
    have hbw1 : Below w.heap.size w W1 := HBW.out.trans (hb11.mono HBW.out.size)
    have he1 := (hb11.block _ (lt_of_block HE1.out)).trans HE1.out
    have hx1 := (hb11.block _ (lt_of_block HX1.out)).trans HX1.out
    have hjk1 := HJK.out.later hb11
    have H1 := Lib.hid (And.intro hjk1 (And.intro hbw1 (And.intro he1 (And.intro hx1 hjb1))))
    have hmps1 : mp < W1.heap.size := hjk1.kept.lt
    clear hbw1 he1 hx1 hjk1 hb11 hmps
    have hs0 : W1.cell? ⟨jb, 0, none⟩ = some (.pointer (some ⟨pp, 0, none⟩)) := by rw [cell_of_row _ _ _ _ _ _ hjb1]; rfl
    clear hjb1 hjbe
    refine wp_region_held_drew (S := fun W => W.cell? ⟨jb, 0, none⟩ = some (.pointer (some ⟨pp, 0, none⟩))) (by kernel_rfl) hs0 fun hS => ?_
    clear hs0
    refine wpAnyH_take (i := 0) (v := ?_) rfl (by kernel_rfl) (by kernel_rfl) (by kernel_rfl) (fun c a w h => rounds_put (by decide) (by decide) h) (Or.inl ⟨by rfl, ?_⟩) hS ?_
    rotate_left
    · (intro W hSw; have hq1 := hSw; go_simp; try with_reducible rfl)
    try simp only [List.getElem_toArray, List.getElem_cons_succ, List.getElem_cons_zero, Act.put, List.setIfInBounds_toArray, List.set_cons_zero, List.set_cons_succ]
    refine wpAnyH_take (i := 2) (v := ?_) rfl (by kernel_rfl) (by kernel_rfl) (by kernel_rfl) (fun c a w h => rounds_put (by decide) (by decide) h) (Or.inl ⟨by rfl, ?_⟩) hS ?_
    rotate_left
    · (intro W hSw; have hq1 := hSw; go_simp; try with_reducible rfl)
    try simp only [List.getElem_toArray, List.getElem_cons_succ, List.getElem_cons_zero, Act.put, List.setIfInBounds_toArray, List.set_cons_zero, List.set_cons_succ]
    refine wpAnyH_call (k := 1) (by kernel_rfl) rfl rfl (f := 50) (args := #[.pointer (some ⟨pp, 0, none⟩)]) (by simp [execOp, go_sem, Act.eval, Act.put]) ?_
    refine (alone_any HV.out _ (H1.out.1.later (Below.refl _ _).drew).r.o).mono ?_
    rintro e w2 ⟨rfl, hb2⟩
    dsimp only
    have hb12 : Below W1.heap.size W1 w2 := (Below.refl _ _).drew.trans hb2
    have hjk2 := H1.out.1.later hb12
    have hbw2 := H1.out.2.1.trans (hb12.mono H1.out.2.1.size)
    have he2 := (hb12.block _ (lt_of_block H1.out.2.2.1)).trans H1.out.2.2.1
    have hx2 := (hb12.block _ (lt_of_block H1.out.2.2.2.1)).trans H1.out.2.2.2.1
    have hj2 := (hb12.block _ (lt_of_block H1.out.2.2.2.2)).trans H1.out.2.2.2.2
    have hS2 : w2.cell? ⟨jb, 0, none⟩ = some (.pointer (some ⟨pp, 0, none⟩)) := by rw [cell_of_row _ _ _ _ _ _ hj2]; rfl
    have H2 := Lib.hid (And.intro hjk2 (And.intro hbw2 (And.intro he2 (And.intro hx2 hj2))))
    have hmps2 : mp < w2.heap.size := hjk2.kept.lt
    have hjbs2 : jb < w2.heap.size := lt_of_block hj2
    clear hb12 hjk2 hbw2 he2 hx2 hj2 hS hb2 H1
    refine ⟨hS2, ?_⟩
    have hS := hS2
    clear hS2
    try simp only [List.getElem_toArray, List.getElem_cons_succ, List.getElem_cons_zero, Act.put, List.setIfInBounds_toArray, List.set_cons_zero, List.set_cons_succ]
    refine wpAnyH_call (k := 3) (by kernel_rfl) rfl rfl (f := 51) (args := #[.pointer (some ⟨pp, 0, none⟩)]) (by simp [execOp, go_sem, Act.eval, Act.put]) ?_
    refine (jevery_any (validJb_parts HV.out).2.1 _ H2.out.1.r.o).mono ?_
    rintro e w' ⟨rfl, rfl⟩
    dsimp only
    refine ⟨hS, ?_⟩
    try simp only [List.getElem_toArray, List.getElem_cons_succ, List.getElem_cons_zero, Act.put, List.setIfInBounds_toArray, List.set_cons_zero, List.set_cons_succ]
    obtain ⟨al, hal⟩ : ∃ x, x = aloneN j := ⟨_, rfl⟩
    obtain ⟨ev, hev⟩ : ∃ x, x = everyD j := ⟨_, rfl⟩
    rw [← hal, ← hev]
    have HAL := Lib.hid (And.intro hal hev)
    clear hal hev
    by_cases hae : al = ev
    · subst hae
      refine wpAnyH_take (i := 4) (v := ?_) rfl (by kernel_rfl) (by kernel_rfl) (by kernel_rfl) (fun c a w h => rounds_put (by decide) (by decide) h) (Or.inl ⟨by rfl, ?_⟩) hS ?_
      rotate_left
      · (intro W hSw; have hq1 := hSw; go_simp; try with_reducible rfl)
      try simp only [List.getElem_toArray, List.getElem_cons_succ, List.getElem_cons_zero, Act.put, List.setIfInBounds_toArray, List.set_cons_zero, List.set_cons_succ]
      refine wpAnyH_call (k := 5) (by kernel_rfl) rfl rfl (f := 49) (args := #[.bool true, .int .i64 4]) (by simp [execOp, go_sem, Act.eval, Act.put]) ?_
      refine (jask_ok 4 _).mono ?_
      rintro e w' ⟨rfl, rfl⟩
      dsimp only
      refine ⟨hS, ?_⟩
      try simp only [List.getElem_toArray, List.getElem_cons_succ, List.getElem_cons_zero, Act.put, List.setIfInBounds_toArray, List.set_cons_zero, List.set_cons_succ]
      refine wpAnyH_done (by kernel_rfl) ?_ _
      try simp only [List.getElem_toArray, List.getElem_cons_succ, List.getElem_cons_zero, Act.put, List.setIfInBounds_toArray, List.set_cons_zero, List.set_cons_succ]
      have c3 : ∀ o o', ((w2.alloc o).alloc o').cell? ⟨w.heap.size, 3, none⟩ = some (.slice ao2 nw cap2) := fun o o' => by rw [cell_of_row _ _ _ _ _ _ ((hget_old _ _ _ (by have := lt_of_block H2.out.2.2.2.1; simp; omega)).trans ((hget_old _ _ _ (by have := lt_of_block H2.out.2.2.2.1; omega)).trans H2.out.2.2.2.1))]; rfl
      go_wp2_with fail
      refine wp_name (fun W => W.heap[w2.heap.size]? = some (.cells #[.slice none 0 0] 32 (0, 0)) ∧ W.heap[w2.heap.size + 1]? = some (.cells #[onV w.heap.size w2.heap.size jb (w2.heap.size + 1)] 81 (0, 0)) ∧ Below w2.heap.size w2 W) ⟨(hget_old _ _ _ (by simp)).trans (heap_alloc_at _ _ _ rfl), heap_alloc_at _ _ _ (by simp), (Below.alloc' _ _).alloc (by simp) _⟩ ?_
      rintro W4 ⟨hf4, ho4, hb4⟩
      clear c3
      obtain ⟨fb, hfb⟩ : ∃ x, x = w2.heap.size := ⟨_, rfl⟩
      rw [← hfb] at hf4 ho4 ⊢
      have hfbj : jb < fb := by omega
      have hfbm : mp < fb := by omega
      have hfbw : w.heap.size < fb := by rw [hfb]; exact lt_of_block H2.out.2.2.2.1
      have hbw4 : Below w.heap.size w W4 := H2.out.2.1.trans (hb4.mono H2.out.2.1.size)
      have hjk4 := H2.out.1.later hb4
      have he4 := (hb4.block _ (lt_of_block H2.out.2.2.1)).trans H2.out.2.2.1
      have hx4 := (hb4.block _ (lt_of_block H2.out.2.2.2.1)).trans H2.out.2.2.2.1
      have hj4 := (hb4.block _ (lt_of_block H2.out.2.2.2.2)).trans H2.out.2.2.2.2
      have how : OnW j B pp mp (.slice ao nb cap) (.slice ao2 nw cap2) r w.heap.size fb jb (fb + 1) W4 := ⟨hjk4, hx4, ⟨_, hf4⟩, hj4, ho4, by omega, by omega, hjp, by omega⟩
      have HO := Lib.hid how
      have HF4 := Lib.hid hf4
      have HE4 := Lib.hid he4
      have HB4 := Lib.hid hbw4
      have hmp4 := hjk4.kept.lt
      clear hf4 ho4 hb4 hbw4 hjk4 he4 hx4 hj4 how hfb H2 hS hmps2 hjbs2
      obtain ⟨res, hres⟩ : ∃ x, x = roundsN j := ⟨_, rfl⟩
      have HRES := Lib.hid hres
      have hval : roundsD j = ((res.getD []), 0) := by unfold roundsD; rw [HERR.out, if_neg (by decide), if_pos (by rw [← HAL.out.1, ← HAL.out.2]), hres]
      have HVAL := Lib.hid hval
      clear hval hres
      go_loopw [21] (fun iv wr => ∃ i : Nat, i ≤ nw + 1 ∧ iv = .int .i64 i ∧ (List.range i).findSome? (fun most => onJ (canD j) most j.ws.length [] []) = none ∧ KeptJ j mp wr ∧ Keeps (fun k => k = mp) W4 wr) (fun iv _ => nw + 1 - (intOf iv).toNat)
      case atStart => exact ⟨0, Nat.zero_le _, rfl, rfl, HO.out.jk.kept, Keeps.refl _ _⟩
      case round =>
        obtain ⟨i, hi, rfl, hnone, hkp, hkk⟩ := hrel
        have HNO := Lib.hid hnone
        have HOR := Lib.hid (HO.out.keeps hkk hkp)
        have HKK := Lib.hid hkk
        have HKP := Lib.hid hkp
        have hkks := hkk.size
        have ho := HOR.out.ho
        have c5 : wr.cell? ⟨fb + 1, 0, none⟩ = some (onV w.heap.size fb jb (fb + 1)) := by rw [cell_of_row _ _ _ _ _ _ ho]; rfl
        unfold onV at c5
        clear hnone hkp hkk ho
        by_cases hlt : i < nw + 1
        · have hw : IntKind.i64.wrap ((i : Int) + 1) = ((i + 1 : Nat) : Int) := by rw [IntWalk.i64_in _ (by omega)]; omega
          have hlti : (i : Int) < (nw : Int) + 1 := by omega
          have eg := enters_of (P := Tryd.prog) Tryd.func52 (by kernel_rfl) rfl
          go_wp2_with fail
          refine (on_any HV.out i (by omega) nw [] [] _ _ _ (by rw [← HNW.out]; simp) (by simp) (by simp) (fun _ => rfl) (fun _ => rfl) (SetsAt.nil _ _) (NumsAt.nil _ _) HOR.out).mono ?_
          rintro e w5 hres
          cases hz : onJ (canD j) i nw [] [] with
          | none =>
            rw [hz] at hres
            obtain ⟨rfl, hkp5, hk5⟩ := hres
            have HZ := Lib.hid (show (List.range (i + 1)).findSome? (fun most => onJ (canD j) most j.ws.length [] []) = none by exact range_none _ _ HNO.out (by rw [← HNW.out]; exact hz))
            have H5 := Lib.hid (And.intro hkp5 (HKK.out.trans hk5))
            clear hkp5 hk5 hz eg c5
            dsimp only
            go_wp2_with fail
            exact ⟨⟨i + 1, hlt, by push_cast; rfl, HZ.out, H5.out.1, H5.out.2⟩, by simp [intOf]; omega⟩
          | some l8 =>
            rw [hz] at hres
            obtain ⟨rfl, hk5, v8, hf8, hn8⟩ := hres
            have hv8 : res = some l8 := by
              rw [HRES.out]
              exact range_some _ _ _ (by rw [← HNW.out]; exact hlt) HNO.out _ (by rw [← HNW.out]; exact hz)
            have hk45 := (HKK.out.mono (Mut' := fun k => k = mp ∨ k = fb) (fun _ _ h => .inl h)).trans hk5
            have he5 := (hk45.block _ (lt_of_block HE4.out) (by omega)).trans HE4.out
            have hbw5 : Below w.heap.size w w5 := HB4.out.trans (hk45.below HB4.out.size (fun k h e => by omega))
            obtain ⟨a8, c8, hve, _⟩ := id hn8
            subst hve
            obtain ⟨n8, hn8e⟩ : ∃ n, n = (l8.map fun s : Nat => (s : Int)).length := ⟨_, rfl⟩
            have HN8 := Lib.hid hn8
            rw [← hn8e] at hf8
            have HN8E := Lib.hid hn8e
            have x0 : w5.cell? ⟨fb, 0, none⟩ = some (.slice a8 n8 c8) := by rw [cell_of_row _ _ _ _ _ _ hf8]; rfl
            have xe : w5.cell? ⟨w.heap.size + 1, 0, none⟩ = some (.int .i64 0) := by rw [cell_of_row _ _ _ _ _ _ he5]; rfl
            have xf : w5.frozen? ⟨w.heap.size + 1, 0, none⟩ = false := frozen_of_row _ _ 0 _ _ he5
            have H5 := Lib.hid (And.intro he5 hbw5)
            have HV8 := Lib.hid hv8
            clear hk5 hk45 he5 hbw5 hf8 hn8 hn8e hz eg c5 hv8
            dsimp only
            go_wp2_with fail
            have e9 := err_set (y := 0) H5.out.1
            have hkE : Keeps (fun k => k = w.heap.size + 1) w5 (w5.setCell ⟨w.heap.size + 1, 0, none⟩ (.int .i64 0)) := Keeps.setCell _ _ _ rfl
            refine jleaf_ret (w.heap.size + 1) _ _ ⟨_, by simp [results, Tryd.results13, go_sem, e9]; rfl, .slice a8 n8 c8, by rw [HVAL.out], ?_, H5.out.2.trans (hkE.below H5.out.2.size (fun k h e => by omega))⟩
            rw [HVAL.out, HV8.out, HN8E.out]
            exact (HN8.out.mono (Rd' := fun _ => True) (fun _ _ => trivial)).later hkE.size (fun k _ _ => set_sameJ H5.out.1 k)
        · obtain rfl : i = nw + 1 := by omega
          have hlti : ¬ ((nw + 1 : Nat) : Int) < (nw : Int) + 1 := by omega
          have hlti2 : ¬ (nw : Int) + 1 < (nw : Int) + 1 := by omega
          have hv8 : res = none := by rw [HRES.out]; unfold roundsN; rw [← HNW.out, ← HNO.out, ← HNW.out]
          have HV8 := Lib.hid hv8
          have hf5 := (HKK.out.block _ (lt_of_block HF4.out) (by omega)).trans HF4.out
          have he5 := (HKK.out.block _ (lt_of_block HE4.out) (by omega)).trans HE4.out
          have hbw5 : Below w.heap.size w wr := HB4.out.trans (HKK.out.below HB4.out.size (fun k h e => by omega))
          have x0 : wr.cell? ⟨fb, 0, none⟩ = some (.slice none 0 0) := by rw [cell_of_row _ _ _ _ _ _ hf5]; rfl
          have xe : wr.cell? ⟨w.heap.size + 1, 0, none⟩ = some (.int .i64 0) := by rw [cell_of_row _ _ _ _ _ _ he5]; rfl
          have xf : wr.frozen? ⟨w.heap.size + 1, 0, none⟩ = false := frozen_of_row _ _ 0 _ _ he5
          have H5 := Lib.hid (And.intro he5 hbw5)
          clear hf5 he5 hbw5 hv8 c5
          go_wp2_with fail
          have e9 := err_set (y := 0) H5.out.1
          have hkE : Keeps (fun k => k = w.heap.size + 1) wr (wr.setCell ⟨w.heap.size + 1, 0, none⟩ (.int .i64 0)) := Keeps.setCell _ _ _ rfl
          refine jleaf_ret (w.heap.size + 1) _ _ ⟨_, by simp [results, Tryd.results13, go_sem, e9]; rfl, .slice none 0 0, by rw [HVAL.out], ?_, H5.out.2.trans (hkE.below H5.out.2.size (fun k h e => by omega))⟩
          rw [HVAL.out, HV8.out]
          exact NumsAt.nil _ _
    · have haei : ¬ (al : Int) = (ev : Int) := by omega
      refine wpAnyH_take (i := 4) (v := ?_) rfl (by kernel_rfl) (by kernel_rfl) (by kernel_rfl) (fun c a w h => rounds_put (by decide) (by decide) h) (Or.inl ⟨by rfl, ?_⟩) hS ?_
      rotate_left
      · (intro W hSw; have hq1 := hSw; go_simp; try with_reducible rfl)
      try simp only [List.getElem_toArray, List.getElem_cons_succ, List.getElem_cons_zero, Act.put, List.setIfInBounds_toArray, List.set_cons_zero, List.set_cons_succ]
      refine wpAnyH_call (k := 5) (by kernel_rfl) rfl rfl (f := 49) (args := #[.bool false, .int .i64 4]) (by simp [execOp, go_sem, Act.eval, Act.put, haei]) ?_
      refine (jask_no 4 _).mono ?_
      rintro e w' ⟨rfl, rfl⟩
      dsimp only
      refine jleaf_stop 4 (w.heap.size + 1) 0 _ w2 H2.out.2.2.1 (fun W' hkE heE => ?_)
      have e9 : W'.cell? ⟨w.heap.size + 1, 0, none⟩ = some (.int .i64 4) := by rw [cell_of_row _ _ _ _ _ _ heE]; rfl
      have hval : roundsD j = ([], 4) := by unfold roundsD; rw [HERR.out, if_neg (by decide), if_neg (by rw [← HAL.out.1, ← HAL.out.2]; exact hae)]
      exact ⟨_, by simp [results, Tryd.results13, go_sem, e9, Act.put]; rfl, _, by rw [hval], by rw [hval]; exact NumsAt.nil _ _, H2.out.2.1.trans (hkE.below H2.out.2.1.size (fun k h e => by omega))⟩
end Go.Proofs.YtbmfphiecllggaaDoor

/- What TopServed asks of plans, rounds and truths, in plain words. -/
namespace Go.Proofs.YtbmfphiecllggaaDoor
set_option linter.unusedVariables false
set_option linter.unusedSimpArgs false

def unionJ (l : List Nat) : Nat := l.foldl (· ||| ·) 0
theorem free_at : ∀ (l : List Nat) (used : Nat), FreeJ used l → ∀ k (h : k < l.length), (l.take k).foldl (· ||| ·) used &&& l[k] = 0
  | [], _, _, k, h => by simp at h
  | s :: l, used, hf, 0, _ => by simpa using hf.1
  | s :: l, used, hf, k + 1, h => by
    have := free_at l (used ||| s) hf.2 k (by simpa using h)
    simpa using this
/-- What is known of a plan that is told. -/
structure PlanFacts (x : JobD) (p : List Nat) : Prop where
  len : p.length = x.ws.length
  lt : ∀ s ∈ p, s < 2 ^ x.st.bs.length
  right : ∀ k (h : k < p.length) (h' : k < x.ws.length), p[k] ∈ rightsS x.st x.ws[k]
  free : ∀ k (h : k < p.length), unionJ (p.take k) &&& p[k] = 0
theorem plan_facts {x : JobD} {p : List Nat} (hp : PlanJ (rightsD x) (allD x) p) : PlanFacts x p := by
  have hl : p.length = x.ws.length := by rw [hp.length]; unfold rightsD; simp
  have hr : ∀ k (h : k < p.length) (h' : k < x.ws.length), p[k] ∈ rightsS x.st x.ws[k] := fun k h h' => by
    have := hp.get k h (by unfold rightsD; simpa using h')
    simpa [rightsD] using this
  refine ⟨hl, fun s hs => ?_, hr, fun k h => free_at p 0 (hp.free 0 (fun i hi => by simp at hi)) k h⟩
  obtain ⟨k, hk, rfl⟩ := List.getElem_of_mem hs
  exact (mem_rightsJ.1 (hr k hk (by omega))).1
theorem can_told {x : JobD} (hc : canD x (everyD x) = true) : PlanJ (rightsD x) (allD x) (toldJ 8 (rightsD x) (allD x)) := by
  rw [can_every] at hc
  obtain ⟨y, hy⟩ := Option.isSome_iff_exists.1 hc
  exact ((score_specJ 8 (rightsD x) (allD x)).2 y hy).1
theorem can_of_plan {x : JobD} {p : List Nat} (hp : PlanJ (rightsD x) (allD x) p) : canD x (everyD x) = true := by
  rw [can_every]
  cases h : scoreJ 8 (rightsD x) (allD x) with
  | some _ => rfl
  | none => exact absurd hp ((score_specJ 8 (rightsD x) (allD x)).1 h p)
theorem errD_ok {x : JobD} (hv : validJb x = true) : errD x true = 0 := by unfold errD; rw [hv]; rfl
theorem planD_can {x : JobD} (hv : validJb x = true) (hc : canD x (everyD x) = true) : planD x = (toldJ 8 (rightsD x) (allD x), 0) := by
  unfold planD; rw [errD_ok hv, if_neg (by decide), hc]; rfl
theorem planD_cannot {x : JobD} (hv : validJb x = true) (hc : canD x (everyD x) = false) : planD x = ([], 4) := by
  unfold planD; rw [errD_ok hv, if_neg (by decide), hc]; rfl
end Go.Proofs.YtbmfphiecllggaaDoor

/- The document's examples, as TopServed makes them; lists that are the same. -/
namespace Go.Proofs.YtbmfphiecllggaaDoor
set_option linter.unusedVariables false
set_option linter.unusedSimpArgs false
open Go.RowKit Go.Shelf
attribute [local go_sem] Oper.semAt_some

set_option maxHeartbeats 4000000 in
theorem r12ints_any (a b : List Int) (va vb : Value) (Rd Rd' : Nat → Prop) (hla : a.length ≤ 1000) (hlb : b.length ≤ 1000) (w : World) (ha : NumsAt w va a Rd) (hb : NumsAt w vb b Rd') :
    Calls Tryd.prog 40 #[va, vb] w fun e w' => e = .returned (.bool (decide (a = b))) ∧ Below w.heap.size w w' := by
  have HA := Lib.hid ha
  have HB := Lib.hid hb
  obtain ⟨ao, cap, rfl, _⟩ := id ha
  obtain ⟨bo, cap', rfl, _⟩ := id hb
  obtain ⟨n, hn⟩ : ∃ n, n = a.length := ⟨_, rfl⟩
  obtain ⟨m, hm⟩ : ∃ n, n = b.length := ⟨_, rfl⟩
  rw [← hn] at hla ⊢
  rw [← hm] at hlb ⊢
  have HN := Lib.hid hn
  have HM := Lib.hid hm
  clear ha hb hn hm
  go_enter Tryd.func40, Tryd.ntmps40
  by_cases hnm : n = m
  · subst hnm
    go_wp2_with fail
    go_loopw [5] (fun iv wr => ∃ i : Nat, i ≤ n ∧ iv = .int .i64 i ∧ a.take i = b.take i ∧ Below w.heap.size w wr) (fun iv _ => n - (intOf iv).toNat)
    case atStart => exact ⟨0, by omega, rfl, by simp, Below.refl _ _⟩
    case round =>
      obtain ⟨i, hi, rfl, htk, hbr⟩ := hrel
      have HT := Lib.hid htk
      have HBR := Lib.hid hbr
      clear htk hbr
      by_cases hlt : i < n
      · have hw : IntKind.i64.wrap ((i : Int) + 1) = ((i + 1 : Nat) : Int) := by rw [IntWalk.i64_in _ (by omega)]; omega
        have hlti : (i : Int) < (n : Int) := by omega
        have hia : i < a.length := by rw [← HN.out]; exact hlt
        have hib : i < b.length := by rw [← HM.out]; exact hlt
        obtain ⟨ao', c1, e1, _, _, h1⟩ := HA.out
        obtain ⟨bo', c2, e2, _, _, h2⟩ := HB.out
        injection e1 with e1 _ e3
        injection e2 with e2 _ e4
        subst e1 e2 e3 e4
        obtain ⟨b1, o1, rfl, _, hb1, x1⟩ := h1 i hia
        obtain ⟨b2, o2, rfl, _, hb2, x2⟩ := h2 i hib
        obtain ⟨x, hx⟩ : ∃ x, x = a[i] := ⟨_, rfl⟩
        obtain ⟨y, hy⟩ : ∃ x, x = b[i] := ⟨_, rfl⟩
        rw [← hx] at x1
        rw [← hy] at x2
        have x1 := (World.cell?_of_block (w := w) (w' := wr) (a := ⟨b1, o1 + i, none⟩) (HBR.out.block b1 hb1)).trans x1
        have x2 := (World.cell?_of_block (w := w) (w' := wr) (a := ⟨b2, o2 + i, none⟩) (HBR.out.block b2 hb2)).trans x2
        have HX := Lib.hid (And.intro hx hy)
        clear hx hy h1 h2
        have HBD : Hid (∀ n, Below w.heap.size w (wr.drewN n)) := fun n => ⟨HBR.out.os, HBR.out.tape, HBR.out.output, HBR.out.size, HBR.out.block⟩
        go_wp2_with fail
        go_quiet (fail)
        by_cases hxy : x = y
        · have HXY := Lib.hid hxy
          have hxy2 : (x != y) = false := by simp [hxy]
          clear hxy
          go_wp2
          refine ⟨⟨i + 1, hlt, by rfl, ?_, HBD.out nq⟩, by simp [intOf]; omega⟩
          rw [List.take_succ_eq_append_getElem hia, List.take_succ_eq_append_getElem hib, HT.out, ← HX.out.1, ← HX.out.2, HXY.out]
        · have hxy2 : (x != y) = true := by simp [hxy]
          have HXY := Lib.hid hxy
          clear hxy
          go_wp2
          go_ret
          refine ⟨?_, HBD.out nq⟩
          have : ¬ a = b := fun h => HXY.out (by rw [HX.out.1, HX.out.2]; simp [h])
          rw [decide_eq_false this]; rfl
      · obtain rfl : i = n := by omega
        have hlti : ¬ (i : Int) < (i : Int) := by omega
        have hab : a = b := by
          have h := HT.out
          rw [List.take_of_length_le (by rw [← HN.out]; exact Nat.le_refl _), List.take_of_length_le (by rw [← HM.out]; exact Nat.le_refl _)] at h
          exact h
        have HAB := Lib.hid hab
        clear hab
        go_wp2
        go_ret
        exact ⟨by rw [decide_eq_true HAB.out]; rfl, HBR.out⟩
  · have hnm2 : ¬ (n : Int) = (m : Int) := by omega
    have hab : ¬ a = b := fun h => hnm (by rw [HN.out, HM.out, h])
    have HAB := Lib.hid hab
    clear hab
    go_wp2
    go_ret
    exact ⟨by rw [decide_eq_false HAB.out]; rfl, Below.refl _ _⟩
end Go.Proofs.YtbmfphiecllggaaDoor

/- What the document fixes of chapter 12: awake12 is true. -/
namespace Go.Proofs.YtbmfphiecllggaaDoor
set_option linter.unusedVariables false
set_option linter.unusedSimpArgs false
open Go.RowKit Go.Shelf
attribute [local go_sem] Oper.semAt_some

theorem SpansAt.low9 {W : World} {v : Value} {l : List (Int × Int)} {Rd : Nat → Prop} (h : SpansAt W v l Rd) : SpansAt W v l (fun k => k < W.heap.size) := by
  obtain ⟨a, c, g1, g2, g3, g4⟩ := h
  exact ⟨a, c, g1, g2, g3, fun q hq => by obtain ⟨b, off, f1, f2, f3, f4⟩ := g4 q hq; exact ⟨b, off, f1, f3, f3, f4⟩⟩
end Go.Proofs.YtbmfphiecllggaaDoor

/- Most and Why, in plain words. -/
namespace Go.Proofs.YtbmfphiecllggaaDoor
set_option linter.unusedVariables false
set_option linter.unusedSimpArgs false
open Stab

theorem can_iff (j : JobD) (s : Nat) : canD j s = true ↔ ∃ l, PlanJ (selJ (rightsD j) s) (allD j) l := by
  unfold canD scoreD
  cases h : scoreJ 8 (selJ (rightsD j) s) (allD j) with
  | none => exact ⟨fun h => (by cases h), fun ⟨l, hl⟩ => absurd hl ((score_specJ 8 _ _).1 h l)⟩
  | some x => exact ⟨fun _ => ⟨_, ((score_specJ 8 _ _).2 x h).1⟩, fun _ => rfl⟩
theorem bit0_odd (s : Nat) : s.testBit 0 = decide (s % 2 = 1) := by
  rw [Nat.testBit_zero]
theorem bit_half (s i : Nat) : (s / 2).testBit i = s.testBit (i + 1) := by rw [Nat.testBit_succ]
theorem plan_sub : ∀ (Rs : List (List Nat)) (s t av : Nat) (l : List Nat), PlanJ (selJ Rs t) av l → (∀ i, s.testBit i = true → t.testBit i = true) → ∃ l', PlanJ (selJ Rs s) av l'
  | [], _, _, _, _, _, _ => ⟨[], rfl⟩
  | R :: Rs, s, t, av, l, h, hs => by
    have h0 := hs 0
    rw [bit0_odd, bit0_odd, decide_eq_true_eq, decide_eq_true_eq] at h0
    have h2 : ∀ i, (s / 2).testBit i = true → (t / 2).testBit i = true := fun i hi => by rw [bit_half] at hi ⊢; exact hs _ hi
    rw [selJ] at h
    rw [selJ]
    by_cases ht : t % 2 = 1
    · rw [if_pos ht] at h
      obtain ⟨x, l1, rfl, h3, h4, h5⟩ := h
      obtain ⟨l', hl'⟩ := plan_sub Rs (s / 2) (t / 2) _ l1 h5 h2
      by_cases hs1 : s % 2 = 1
      · rw [if_pos hs1]; exact ⟨x :: l', x, l', rfl, h3, h4, hl'⟩
      · rw [if_neg hs1]
        refine ⟨l', hl'.more rfl (fun i h h' x hx => hx) ((subJ_iff _ _).2 fun i hi => ?_)⟩
        rw [afterJ_bit, Bool.and_eq_true] at hi
        exact hi.1
    · rw [if_neg ht] at h
      rw [if_neg (fun e => ht (h0 e))]
      exact plan_sub Rs (s / 2) (t / 2) av l h h2
theorem can_sub {j : JobD} {s t : Nat} (h : canD j t = true) (hs : ∀ i, s.testBit i = true → t.testBit i = true) : canD j s = true := by
  rw [can_iff] at h ⊢
  obtain ⟨l, hl⟩ := h
  exact plan_sub _ s t _ l hl hs
theorem can_zero (j : JobD) : canD j 0 = true := by
  rw [can_iff]
  have : ∀ Rs : List (List Nat), selJ Rs 0 = [] := fun Rs => by
    induction Rs with
    | nil => rfl
    | cons R Rs ih => rw [selJ]; simpa using ih
  rw [this]
  exact ⟨[], rfl⟩
theorem fold_most (j : JobD) : ∀ (l : List Nat) (b : Nat), Srt ltM l → (∀ s ∈ l, sizeJ 4 b ≤ sizeJ 4 s ∧ (sizeJ 4 b = sizeJ 4 s → b ≤ s)) → canD j b = true →
    canD j (l.foldl (stepM j) b) = true ∧ (∀ s ∈ l, canD j s = true → sizeJ 4 s ≤ sizeJ 4 (l.foldl (stepM j) b) ∧ (sizeJ 4 s = sizeJ 4 (l.foldl (stepM j) b) → l.foldl (stepM j) b ≤ s)) ∧ sizeJ 4 b ≤ sizeJ 4 (l.foldl (stepM j) b) ∧ (sizeJ 4 b = sizeJ 4 (l.foldl (stepM j) b) → l.foldl (stepM j) b ≤ b)
  | [], b, _, _, hb => ⟨hb, fun s hs => (by cases hs), Nat.le_refl _, fun _ => Nat.le_refl _⟩
  | s :: l, b, hsr, hbl, hb => by
    obtain ⟨h1, h2⟩ := List.pairwise_cons.1 hsr
    have hbs := hbl s List.mem_cons_self
    rw [List.foldl_cons]
    by_cases hc : sizeJ 4 b < sizeJ 4 s ∧ canD j s = true
    · have hst : stepM j b s = s := by unfold stepM; rw [if_pos (by rw [Bool.and_eq_true, decide_eq_true_eq]; exact hc)]
      rw [hst]
      obtain ⟨g1, g2, g3, g4⟩ := fold_most j l s h2 (fun t ht => by have := (ltM_iff _ _).1 (h1 t ht); omega) hc.2
      refine ⟨g1, fun t ht hct => ?_, by omega, fun e => by omega⟩
      rcases List.mem_cons.1 ht with rfl | ht
      · exact ⟨g3, g4⟩
      · exact g2 t ht hct
    · have hst : stepM j b s = b := by unfold stepM; rw [if_neg (by rw [Bool.and_eq_true, decide_eq_true_eq]; exact hc)]
      rw [hst]
      obtain ⟨g1, g2, g3, g4⟩ := fold_most j l b h2 (fun t ht => hbl t (List.mem_cons_of_mem _ ht)) hb
      refine ⟨g1, fun t ht hct => ?_, g3, g4⟩
      rcases List.mem_cons.1 ht with rfl | ht
      · have h3 : ¬ sizeJ 4 b < sizeJ 4 t := fun h => hc ⟨h, hct⟩
        refine ⟨by omega, fun e => ?_⟩
        have h5 := g4 (by omega)
        have h6 := hbs.2 (by omega)
        omega
      · exact g2 t ht hct
theorem sizeJ_zero : ∀ n, sizeJ n 0 = 0
  | 0 => rfl
  | n + 1 => by rw [sizeJ, sizeJ_zero n]; simp
theorem setsM_srt (j : JobD) : Srt ltM (setsM j) := sort_srt _ List.nodup_range
theorem mem_setsM {j : JobD} {s : Nat} (h : s < 2 ^ j.ws.length) : s ∈ setsM j := (sort_perm lessM _).mem_iff.2 (List.mem_range.2 h)
/-- The most: one that can, and of all that can none is more, or as many and less. -/
theorem most_facts {j : JobD} (hv : validJb j = true) : ∃ b : Nat, mostD j = ((((sizeJ 4 b : Nat) : Int), ((b : Nat) : Int)), 0) ∧ b < 2 ^ j.ws.length ∧ canD j b = true ∧ ∀ s, s < 2 ^ j.ws.length → canD j s = true → sizeJ 4 s ≤ sizeJ 4 b ∧ (sizeJ 4 s = sizeJ 4 b → b ≤ s) := by
  obtain ⟨h1, h2, _⟩ := fold_most j (setsM j) 0 (setsM_srt j) (fun s _ => by rw [sizeJ_zero]; omega) (can_zero j)
  refine ⟨(setsM j).foldl (stepM j) 0, ?_, foldM_lt _ _ (Nat.two_pow_pos _) (fun s hs => setsM_lt s hs), h1, fun s hs hc => h2 s (mem_setsM hs) hc⟩
  unfold mostD
  rw [errD_ok hv, if_neg (by decide)]
  rfl
end Go.Proofs.YtbmfphiecllggaaDoor

/- Rounds: the list that is told is the first, in order, of those with the fewest rounds. -/
namespace Go.Proofs.YtbmfphiecllggaaDoor
set_option linter.unusedVariables false
set_option linter.unusedSimpArgs false

/-- Numbers that first come in order. -/
def GrowJ : Nat → List Nat → Prop
  | _, [] => True
  | n, x :: l => x ≤ n ∧ GrowJ (max n (x + 1)) l
/-- Not behind in order. -/
def LexJ : List Nat → List Nat → Prop
  | [], [] => True
  | a :: s, b :: t => a < b ∨ (a = b ∧ LexJ s t)
  | _, _ => False
theorem find_least9 {α : Type} (f : Nat → Option α) (b : α) : ∀ n, (List.range n).findSome? f = some b → ∃ i, i < n ∧ f i = some b ∧ ∀ k, k < i → f k = none
  | 0, h => by simp at h
  | n + 1, h => by
    rw [List.range_succ, List.findSome?_append] at h
    cases hn : (List.range n).findSome? f with
    | some c =>
      rw [hn, Option.some_or] at h
      obtain rfl : c = b := Option.some.inj h
      obtain ⟨i, h1, h2, h3⟩ := find_least9 f c n hn
      exact ⟨i, by omega, h2, h3⟩
    | none =>
      rw [hn, Option.none_or] at h
      refine ⟨n, by omega, ?_, fun k hk => ?_⟩
      · simpa using h
      · rw [List.findSome?_eq_none_iff] at hn
        exact hn k (List.mem_range.2 hk)
theorem with_bit : ∀ (l : List Nat) (n q : Nat), (withJ l 0 n).testBit q = decide (l[q]? = some n)
  | [], n, q => by simp [withJ]
  | x :: l, n, 0 => by
    rw [withJ, with_upJ, Nat.testBit_zero]
    split
    · rename_i h; subst h; simp
    · rename_i h; simp [h]
  | x :: l, n, q + 1 => by
    rw [withJ, with_upJ, Nat.testBit_succ, List.getElem?_cons_succ, ← with_bit l n q]
    congr 1
    split <;> omega
theorem on_more (can : Nat → Bool) (most : Nat) : ∀ (k : Nat) (rs l l' : List Nat), onJ can most k rs l = some l' → ∃ t, l' = l ++ t ∧ t.length = k ∧ GrowJ rs.length t ∧ ∀ x ∈ t, x < most
  | 0, rs, l, l', e => by
    have : l = l' := Option.some.inj e
    subst this; exact ⟨[], by simp, rfl, trivial, by simp⟩
  | k + 1, rs, l, l', e => by
    rw [onJ] at e
    obtain ⟨i, hi, h1⟩ := List.exists_of_findSome?_eq_some e
    rw [List.mem_range] at hi
    split at h1
    · obtain ⟨t, h2, h3, h4, h5⟩ := on_more can most k _ _ l' h1
      refine ⟨i :: t, by rw [h2]; simp, by simp [h3], ⟨by omega, ?_⟩, fun x hx => ?_⟩
      · rw [put_lenJ] at h4
        have : max rs.length (i + 1) = if i = rs.length then rs.length + 1 else rs.length := by split <;> omega
        rw [this]; exact h4
      · rcases List.mem_cons.1 hx with rfl | hx
        · omega
        · exact h5 x hx
    · cases h1
theorem GoodJ.get {can : Nat → Bool} {rs l : List Nat} (h : GoodJ can rs l) (i : Nat) (hi : i < rs.length) : rs.getD i 0 = withJ l 0 i := by
  have := congrArg (fun r => r[i]?) h.eq
  try dsimp only at this
  rw [List.getD_eq_getElem?_getD, this]
  simp [hi]
theorem put_get (can : Nat → Bool) {rs l : List Nat} (h : GoodJ can rs l) (i : Nat) (hi : i ≤ rs.length) : (putJ rs i l.length).getD i 0 = withJ (l ++ [i]) 0 i := by
  have hw : GoodJ (fun _ => true) rs l := ⟨fun _ _ => rfl, h.eq, h.lt⟩
  exact (hw.put hi rfl).get i (by rw [put_lenJ]; split <;> omega)
/-- Of all rounds that are right what is found is the first. -/
theorem on_first (can : Nat → Bool) (hsub : ∀ s t, can t = true → (∀ i, s.testBit i = true → t.testBit i = true) → can s = true) (most : Nat) : ∀ (t rs l : List Nat), GoodJ can rs l → GrowJ rs.length t → (∀ x ∈ t, x < most) → (∀ n, can (withJ (l ++ t) 0 n) = true) → ∃ t', onJ can most t.length rs l = some (l ++ t') ∧ LexJ t' t
  | [], rs, l, _, _, _, _ => ⟨[], by simp [onJ], trivial⟩
  | i :: t, rs, l, hg, hgr, hm, hc => by
    obtain ⟨hi, hgr⟩ := hgr
    have hci : can ((putJ rs i l.length).getD i 0) = true := by
      rw [put_get can hg i hi]
      refine hsub _ _ (hc i) fun q hq => ?_
      rw [with_bit] at hq ⊢
      rw [decide_eq_true_eq] at hq ⊢
      rw [show l ++ i :: t = (l ++ [i]) ++ t by simp, List.getElem?_append_left]
      · exact hq
      · exact (List.getElem?_eq_some_iff.1 hq).1
    have hgr2 : GrowJ (putJ rs i l.length).length t := by
      rw [put_lenJ]
      have : max rs.length (i + 1) = if i = rs.length then rs.length + 1 else rs.length := by split <;> omega
      rw [← this]; exact hgr
    obtain ⟨t', h1, h2⟩ := on_first can hsub most t _ _ (hg.put hi hci) hgr2 (fun x hx => hm x (List.mem_cons_of_mem _ hx)) (by simpa using hc)
    have hi2 := hm i List.mem_cons_self
    rw [List.length_cons, onJ]
    have hsome : ((List.range (min most (rs.length + 1))).findSome? fun i => if can ((putJ rs i l.length).getD i 0) then onJ can most t.length (putJ rs i l.length) (l ++ [i]) else none).isSome = true := by
      rw [List.isSome_findSome?, List.any_eq_true]
      refine ⟨i, List.mem_range.2 (by omega), ?_⟩
      rw [if_pos hci, h1]; rfl
    obtain ⟨l', hl'⟩ := Option.isSome_iff_exists.1 hsome
    obtain ⟨i0, hi0, h3, h4⟩ := find_least9 _ _ _ hl'
    rw [hl']
    try dsimp only at h3
    split at h3
    · obtain ⟨u, hu, _⟩ := on_more can most _ _ _ _ h3
      refine ⟨i0 :: u, by rw [hu]; simp, ?_⟩
      rcases Nat.lt_trichotomy i0 i with h | h | h
      · exact .inl h
      · subst h
        rw [h1] at h3
        rw [hu] at h3
        refine .inr ⟨rfl, ?_⟩
        have := List.append_cancel_left (Option.some.inj h3)
        rw [← this]; exact h2
      · have := h4 i h
        rw [if_pos hci, h1] at this
        cases this
    · cases h3
theorem grow_get : ∀ (l : List Nat) (n i : Nat) (h : i < l.length), GrowJ n l → l[i] ≤ (l.take i).foldl (fun n x => max n (x + 1)) n
  | [], _, _, h, _ => by simp at h
  | x :: l, n, 0, _, hg => by simpa using hg.1
  | x :: l, n, i + 1, h, hg => by
    have := grow_get l (max n (x + 1)) i (by simpa using h) hg.2
    simpa using this
theorem grow_of : ∀ (l : List Nat) (n : Nat), (∀ i (h : i < l.length), l[i] ≤ (l.take i).foldl (fun n x => max n (x + 1)) n) → GrowJ n l
  | [], _, _ => trivial
  | x :: l, n, h => by
    exact ⟨h 0 (Nat.zero_lt_succ _), grow_of l _ fun i hi => h (i + 1) (Nat.succ_lt_succ hi)⟩
/-- What is told of rounds. -/
theorem rounds_told {j : JobD} (hv : validJb j = true) (h : aloneN j = everyD j) : ∃ l, roundsD j = (l, 0) ∧ l.length = j.ws.length ∧ (∀ i (h : i < l.length), l[i] ≤ numbersJ (l.take i)) ∧ numbersJ l ≤ j.ws.length ∧ (∀ k, canD j (withJ l 0 k) = true) ∧
    ∀ own : List Nat, own.length = j.ws.length → GrowJ 0 own → (∀ k, k < numbersJ own → canD j (withJ own 0 k) = true) → numbersJ l ≤ numbersJ own ∧ (numbersJ own = numbersJ l → LexJ l own) := by
  obtain ⟨l, rs, h1, h2, h3⟩ := rounds_some j h
  have hM := h1
  unfold roundsN at hM
  obtain ⟨M, hM1, hM2, hM3⟩ := find_least9 _ _ _ hM
  obtain ⟨t, ht, ht1, ht2, ht3⟩ := on_more (canD j) M j.ws.length [] [] l hM2
  rw [List.nil_append] at ht
  subst ht
  have hnM : numbersJ l ≤ M := numbers_le l 0 M (Nat.zero_le _) ht3
  have hn2 : numbersJ l ≤ j.ws.length := by omega
  have hall : ∀ (own : List Nat), (∀ k, k < numbersJ own → canD j (withJ own 0 k) = true) → ∀ k, canD j (withJ own 0 k) = true := fun own ho k => by
    by_cases hk : k < numbersJ own
    · exact ho k hk
    · rw [with_noneJ own 0 k fun x hx => Nat.lt_of_lt_of_le ((numbers_ge own 0).2 x hx) (by unfold numbersJ at hk; omega)]
      exact can_zero j
  refine ⟨l, ?_, h2, fun i hi => grow_get l 0 i hi ht2, hn2, hall l fun k hk => rounds_can h3 k hk, fun own ho1 ho2 ho3 => ?_⟩
  · unfold roundsD
    rw [errD_ok hv, if_neg (by decide), if_pos h, h1]; rfl
  obtain ⟨t', h5, h6⟩ := on_first (canD j) (fun s t => can_sub) (numbersJ own) own [] [] (GoodJ.nil _) ho2 (numbers_ge own 0).2 (by simpa using hall own ho3)
  rw [List.nil_append, ho1] at h5
  have hMN : M ≤ numbersJ own := by
    apply Classical.byContradiction
    intro hn
    have := hM3 (numbersJ own) (by omega)
    rw [h5] at this
    cases this
  refine ⟨by omega, fun he => ?_⟩
  have : M = numbersJ own := by omega
  rw [this, h5] at hM2
  rw [← Option.some.inj hM2]
  exact h6
end Go.Proofs.YtbmfphiecllggaaDoor

/- The plan told is the first of the cheapest, in order of the numbers. -/
namespace Go.Proofs.YtbmfphiecllggaaDoor
set_option linter.unusedVariables false
set_option linter.unusedSimpArgs false

end Go.Proofs.YtbmfphiecllggaaDoor
