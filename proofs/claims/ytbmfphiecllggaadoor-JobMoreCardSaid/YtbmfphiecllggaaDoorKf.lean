/- Texts Wd, Wf, Wg, Wh, Nu in one file; each begins with a word on what it proves. -/
import Derived.Maps.OwnIn
import Derived.Scope
import Derived.Test.YtbmfphiecllggaaDoorKe
import Derived.Test.YtbmfphiecllggaaDoorKa

/- A job is looked at: the walk of open. -/
namespace Go.Proofs.YtbmfphiecllggaaDoor
set_option linter.unusedVariables false
set_option linter.unusedSimpArgs false
open Go.RowKit Go.Shelf
attribute [local go_sem] Oper.semAt_some

def jobV (j : JobD) (bs ws : Value) : Value := .agg #[bs, .int .i64 j.st.film.1, .int .i64 j.st.film.2, ws]
/-- A job that is looked at: its right stacks too. -/
structure JobR (j : JobD) (B pp mp : Nat) (bs ws : Value) (r : Nat → Value) (W : World) : Prop where
  o : JobO j B pp mp bs ws r W
  right : ∀ i, i < 4 → SetsAt W (r i) ((rightsD j).getD i []) (fun k => k ≠ mp)
def updR (r : Nat → Value) (k : Nat) (v : Value) : Nat → Value := fun q => if q = k then v else r q
theorem updR_self (r : Nat → Value) (k : Nat) (v : Value) (h : r k = v) : updR r k v = r := by
  funext q; unfold updR; split
  · rename_i e; rw [e, h]
  · rfl
def rowJ (j : JobD) (bs ws : Value) (r : Nat → Value) (mp : Nat) : Array Value := #[bs, .int .i64 j.st.film.1, .int .i64 j.st.film.2, ws, r 0, r 1, r 2, r 3, .map (some mp)]
theorem underSets : Tryd.prog.underlying 82 = some (.slice 79) := by kernel_rfl
theorem infoSet : (Tryd.prog.info? 79).map (fun i => (i.zero, i.size, i.bytes)) = some (some (Value.int .u64 0), 1, 8) := by kernel_rfl
theorem rowJ_set (j : JobD) (bs ws : Value) (r : Nat → Value) (k : Nat) (v v' : Value) (mp : Nat) (h : k < 4) : (rowJ j bs ws (updR r k v) mp).setIfInBounds (4 + k) v' = rowJ j bs ws (updR r k v') mp := by
  have hc : k = 0 ∨ k = 1 ∨ k = 2 ∨ k = 3 := by omega
  rcases hc with rfl | rfl | rfl | rfl <;> rfl
/-- What open comes to. -/
def OpenJ (j : JobD) (ok : Bool) (bs ws : Value) (w : World) (e : Ending) (w' : World) : Prop :=
  Below w.heap.size w w' ∧ ((errD j ok ≠ 0 ∧ e = .panicked [{ v := jrefV (errD j ok), recovered := false }]) ∨
    (errD j ok = 0 ∧ ∃ pp mp r, e = .returned (.pointer (some ⟨pp, 0, none⟩)) ∧ JobR j w.heap.size pp mp bs ws r w' ∧ w'.heap[mp]? = some (.map #[] 0)))
theorem fewest_bad (s : StackD) : (fewestS s (1, 0)).2 = if validSt s = true then 2 else 1 := by
  have hw : wantOk (1, 0) = false := by decide
  have he : errS s (wantOk (1, 0)) = if validSt s = true then 2 else 1 := by
    unfold errS; rw [hw]
    cases validSt s <;> rfl
  rw [fewest_errS (by rw [he]; split <;> decide), he]
set_option maxRecDepth 100000 in
set_option maxHeartbeats 8000000 in
theorem jopen_any (j : JobD) (bs ws : Value) (f : Nat) (caps : Array Value) (ok : Bool) (w : World) (hbs : SpansAt w bs j.st.bs (fun k => k < w.heap.size)) (hws : SpansAt w ws j.ws (fun k => k < w.heap.size))
    (eg : ∀ args w, (callFunc f args).run Tryd.prog w = .ok (.enter f args) w)
    (hf : validJb j = true → ∀ W pp mp, JobO j w.heap.size pp mp bs ws (fun _ => .slice none 0 0) W → Below w.heap.size w W → Calls Tryd.prog f (#[.pointer (some ⟨pp, 0, none⟩)] ++ caps) W fun e W' => e = .returned (.bool ok) ∧ Below W.heap.size W W') :
    Calls Tryd.prog 47 #[jobV j bs ws, .func (.func f) #[] caps] w (OpenJ j ok bs ws w) := by
  have HBS := Lib.hid hbs
  have HWS := Lib.hid hws
  have HFN := Lib.hid hf
  have EG := Lib.hid eg
  obtain ⟨ao, cap, hv1, _⟩ := id hbs
  obtain ⟨ao2, cap2, hv2, _⟩ := id hws
  subst hv1 hv2
  clear hbs hws hf eg
  have hbad : ∀ W, validJb j = false → Below w.heap.size w W → OpenJ j ok (.slice ao j.st.bs.length cap) (.slice ao2 j.ws.length cap2) w (.panicked [{ v := jrefV 1, recovered := false }]) W := fun W hv hb => by
    have : errD j ok = 1 := by unfold errD; rw [if_pos hv]
    exact ⟨hb, .inl ⟨by rw [this]; decide, by rw [this]⟩⟩
  have HBAD := Lib.hid hbad
  obtain ⟨nb, hnb⟩ : ∃ n, n = j.st.bs.length := ⟨_, rfl⟩
  obtain ⟨nw, hnw⟩ : ∃ n, n = j.ws.length := ⟨_, rfl⟩
  have HNB := Lib.hid hnb
  have HNW := Lib.hid hnw
  unfold jobV
  rw [← hnb, ← hnw] at HBAD HFN ⊢
  clear hbad hnb hnw
  refine calls_of_wp_marks Tryd.func47 rfl ?_
  simp only [Tryd.ntmps47, List.size_toArray, List.length_cons, List.length_nil, Nat.reduceAdd, Nat.reduceSub, Array.replicate_succ, Array.replicate_zero, List.push_toArray, List.append_toArray, List.nil_append, List.cons_append]
  go_wp2_with fail
  refine (fewestS_any j.st (.slice ao nb cap) (1, 0) _ (by rw [HNB.out]; exact (HBS.out.later (by simp) (fun k h1 h2 => Below.heap_alloc _ _ _ h1)).low)).mono ?_
  rintro e w1 ⟨rfl, hb1⟩
  dsimp only
  obtain ⟨f1, hf1⟩ : ∃ x, x = (fewestS j.st (1, 0)).1 := ⟨_, rfl⟩
  rw [fewest_bad, ← hf1]
  have hrow1 := (hb1.block w.heap.size (by simp)).trans (heap_alloc_at w (.cells #[.slice ao nb cap, .int .i64 j.st.film.1, .int .i64 j.st.film.2, .slice ao2 nw cap2] 28) _ rfl)
  have hbw1 : Below w.heap.size w w1 := ((Below.refl _ _).alloc (Nat.le_refl _) _).trans (hb1.mono (by simp))
  have HR1 := Lib.hid hrow1
  have HB1 := Lib.hid hbw1
  have c3 : w1.cell? ⟨w.heap.size, 3, none⟩ = some (.slice ao2 nw cap2) := by rw [cell_of_row _ _ _ _ _ _ hrow1]; rfl
  clear hf1 hb1 hrow1 hbw1
  cases hvs : validSt j.st with
  | false =>
    have HVS := Lib.hid hvs
    clear hvs
    simp only [Bool.false_eq_true, if_false]
    go_wp2_with fail
    refine (jask_no 1 _).mono ?_
    rintro e w' ⟨rfl, rfl⟩
    dsimp only
    go_wp2_with fail
    exact HBAD.out _ (Bool.eq_false_iff.2 fun h => by have := (validJb_parts h).1; rw [HVS.out] at this; cases this) HB1.out
  | true =>
    have HVS := Lib.hid hvs
    clear hvs
    simp only [if_true]
    by_cases h4 : nw ≤ 4
    · have h4i : (nw : Int) ≤ 4 := by omega
      go_wp2_with fail
      refine (jask_ok 1 _).mono ?_
      rintro e w' ⟨rfl, rfl⟩
      dsimp only
      go_wp2_with fail
      go_loopw [34] (fun iv wr => ∃ i : Nat, i ≤ nw ∧ iv = .int .i64 i ∧ (∀ b ∈ j.ws.take i, wantOk b = true) ∧ wr.heap[w.heap.size]? = some (.cells #[.slice ao nb cap, .int .i64 j.st.film.1, .int .i64 j.st.film.2, .slice ao2 nw cap2] 28 (0, 0)) ∧ Below w.heap.size w wr)
        (fun iv _ => nw - (intOf iv).toNat)
      case atStart => exact ⟨0, Nat.zero_le _, rfl, (fun b hb => by cases hb), HR1.out, HB1.out⟩
      case round =>
        obtain ⟨i, hi, rfl, hpre, hrow, hb⟩ := hrel
        have HPRE := Lib.hid hpre
        have HROW := Lib.hid hrow
        have HB := Lib.hid hb
        clear hpre hrow hb c3
        by_cases hlt : i < nw
        · obtain ⟨ao', cap', hv', _, _, hel⟩ := HWS.out.later HB.out.size (fun k hk _ => HB.out.block k hk)
          injection hv' with hao hnn hcap
          subst hao hcap
          clear hnn
          obtain ⟨b, off, rfl, _, hbl, e0, e1⟩ := hel i (by rw [← HNW.out]; exact hlt)
          obtain ⟨⟨wl, wh⟩, hx⟩ : ∃ x, x = j.ws[i]'(by rw [← HNW.out]; exact hlt) := ⟨_, rfl⟩
          rw [← hx] at e0 e1
          have HX := Lib.hid hx
          have HMEM := Lib.hid (show (wl, wh) ∈ j.ws by rw [hx]; exact List.getElem_mem _)
          clear hx hel
          have hw : IntKind.i64.wrap ((i : Int) + 1) = ((i + 1 : Nat) : Int) := by rw [IntWalk.i64_in _ (by omega)]; omega
          have hlti : (i : Int) < (nw : Int) := by omega
          have hbw : ∀ o, Below w.heap.size w (wr.alloc o) := fun o => HB.out.alloc (by have := HB.out.size; omega) o
          have HBW := Lib.hid hbw
          clear hbw
          by_cases k1 : 0 ≤ wl
          · by_cases k2 : wl ≤ wh
            · by_cases k3 : wh ≤ 5000
              · go_wp2_with fail
                refine (jask_ok 1 _).mono ?_
                rintro e w' ⟨rfl, rfl⟩
                dsimp only
                go_wp2
                refine ⟨⟨i + 1, hlt, rfl, fun x hx => ?_, (hget_old _ _ _ (by have := lt_of_block HROW.out; omega)).trans HROW.out, HBW.out _⟩, by simp [intOf]; omega⟩
                rw [List.take_succ_eq_append_getElem (by rw [← HNW.out]; exact hlt)] at hx
                rcases List.mem_append.1 hx with h | h
                · exact HPRE.out x h
                · rw [List.mem_singleton.1 h, ← HX.out]; unfold wantOk; simp [k1, k2, k3]
              · skip
                go_wp2_with fail
                refine (jask_no 1 _).mono ?_
                rintro e w' ⟨rfl, rfl⟩
                dsimp only
                go_wp2_with fail
                exact HBAD.out _ (Bool.eq_false_iff.2 fun h => by have := (validJb_parts h).2.2 _ HMEM.out; unfold wantOk at this; simp only [Bool.and_eq_true, decide_eq_true_eq] at this; omega) (HBW.out _)
            · skip
              go_wp2_with fail
              refine (jask_no 1 _).mono ?_
              rintro e w' ⟨rfl, rfl⟩
              dsimp only
              go_wp2_with fail
              exact HBAD.out _ (Bool.eq_false_iff.2 fun h => by have := (validJb_parts h).2.2 _ HMEM.out; unfold wantOk at this; simp only [Bool.and_eq_true, decide_eq_true_eq] at this; omega) (HBW.out _)
          · skip
            go_wp2_with fail
            refine (jask_no 1 _).mono ?_
            rintro e w' ⟨rfl, rfl⟩
            dsimp only
            go_wp2_with fail
            exact HBAD.out _ (Bool.eq_false_iff.2 fun h => by have := (validJb_parts h).2.2 _ HMEM.out; unfold wantOk at this; simp only [Bool.and_eq_true, decide_eq_true_eq] at this; omega) (HBW.out _)
        · obtain rfl : i = nw := by omega
          have hval : validJb j = true := validJb_of HVS.out (by rw [← HNW.out]; exact h4) (fun b hb => HPRE.out b (by rw [HNW.out, List.take_length]; exact hb))
          have HVAL := Lib.hid hval
          clear hval
          have c0 : wr.cell? ⟨w.heap.size, 0, none⟩ = some (.slice ao nb cap) := by rw [cell_of_row _ _ _ _ _ _ HROW.out]; rfl
          have c1 : wr.cell? ⟨w.heap.size, 1, none⟩ = some (.int .i64 j.st.film.1) := by rw [cell_of_row _ _ _ _ _ _ HROW.out]; rfl
          have c2 : wr.cell? ⟨w.heap.size, 2, none⟩ = some (.int .i64 j.st.film.2) := by rw [cell_of_row _ _ _ _ _ _ HROW.out]; rfl
          have c3 : wr.cell? ⟨w.heap.size, 3, none⟩ = some (.slice ao2 i cap2) := by rw [cell_of_row _ _ _ _ _ _ HROW.out]; rfl
          have hmm := @run_makeMap Tryd.prog
          have eg := EG.out
          go_wp2_with fail
          obtain ⟨W2, hW2⟩ : ∃ W, W = ((wr.alloc (.map #[] 0)).alloc (.cells #[.slice ao nb cap, .int .i64 j.st.film.1, .int .i64 j.st.film.2, .slice ao2 i cap2, .slice none 0 0, .slice none 0 0, .slice none 0 0, .slice none 0 0, .map (some wr.heap.size)] 104)).alloc (.cells #[.pointer (some ⟨wr.heap.size + 1, 0, none⟩)] 74) := ⟨_, rfl⟩
          have hmp : W2.heap[wr.heap.size]? = some (.map #[] 0) := by rw [hW2]; exact (by repeat (first | (refine heap_alloc_at _ _ _ ?_; (simp <;> omega); done) | (refine (hget_old _ _ _ ?_).trans ?_; · (simp <;> omega))))
          have hpp : W2.heap[wr.heap.size + 1]? = some (.cells #[.slice ao nb cap, .int .i64 j.st.film.1, .int .i64 j.st.film.2, .slice ao2 i cap2, .slice none 0 0, .slice none 0 0, .slice none 0 0, .slice none 0 0, .map (some wr.heap.size)] 104 (0, 0)) := by rw [hW2]; exact (by repeat (first | (refine heap_alloc_at _ _ _ ?_; (simp <;> omega); done) | (refine (hget_old _ _ _ ?_).trans ?_; · (simp <;> omega))))
          have hjb : W2.heap[wr.heap.size + 1 + 1]? = some (.cells #[.pointer (some ⟨wr.heap.size + 1, 0, none⟩)] 74 (0, 0)) := by rw [hW2]; exact (by repeat (first | (refine heap_alloc_at _ _ _ ?_; (simp <;> omega); done) | (refine (hget_old _ _ _ ?_).trans ?_; · (simp <;> omega))))
          have hbr : Below wr.heap.size wr W2 := by rw [hW2]; exact (((Below.refl _ _).alloc (Nat.le_refl _) _).alloc (by simp) _).alloc (by simp <;> omega) _
          have hs2 : W2.heap.size = wr.heap.size + 3 := by rw [hW2]; simp
          rw [← hW2]
          have hws := HB.out.size
          have hb2 : Below w.heap.size w W2 := HB.out.trans (hbr.mono hws)
          have hjo : JobO j w.heap.size (wr.heap.size + 1) wr.heap.size (.slice ao nb cap) (.slice ao2 i cap2) (fun _ => .slice none 0 0) W2 :=
            { obj := hpp, bs := by rw [HNB.out]; exact HBS.out.later hb2.size (fun k h1 _ => hb2.block k h1), ws := by rw [HNW.out]; exact HWS.out.later hb2.size (fun k h1 _ => hb2.block k h1), lp := by omega, lm := by omega, ne := by omega }
          have HMP := Lib.hid hmp
          have HJB := Lib.hid hjb
          have HB2 := Lib.hid hb2
          have HJO := Lib.hid hjo
          have hrw2 := (hbr.block w.heap.size (lt_of_block HROW.out)).trans HROW.out
          have HRW2 := Lib.hid hrw2
          clear hW2 hmp hpp hjb hbr hb2 hjo hrw2 c0 c1 c2 c3
          refine (HFN.out HVAL.out W2 (wr.heap.size + 1) wr.heap.size HJO.out HB2.out).mono ?_
          rintro e w5 ⟨rfl, hb5⟩
          dsimp only
          clear eg
          cases ok with
          | false =>
            go_wp2_with fail
            refine (jask_no 2 _).mono ?_
            rintro e w' ⟨rfl, rfl⟩
            dsimp only
            go_wp2_with fail
            have : errD j false = 2 := by unfold errD; rw [HVAL.out]; rfl
            exact ⟨HB2.out.trans (hb5.mono HB2.out.size), .inl ⟨by rw [this]; decide, by rw [this]⟩⟩
          | true =>
            have hjb5 := (hb5.block _ (lt_of_block HJB.out)).trans HJB.out
            have hrw5 := (hb5.block _ (lt_of_block HRW2.out)).trans HRW2.out
            have hmp5 := (hb5.block _ (lt_of_block HMP.out)).trans HMP.out
            have c3 : w5.cell? ⟨w.heap.size, 3, none⟩ = some (.slice ao2 i cap2) := by rw [cell_of_row _ _ _ _ _ _ hrw5]; rfl
            have H5 := Lib.hid (And.intro hjb5 (And.intro hrw5 (And.intro hmp5 (And.intro (HJO.out.later hb5) (HB2.out.trans (hb5.mono HB2.out.size))))))
            clear hjb5 hrw5 hmp5 hb5
            go_wp2_with fail
            refine (jask_ok 2 _).mono ?_
            rintro e w' ⟨rfl, rfl⟩
            dsimp only
            go_wp2_with fail
            obtain ⟨hjb5, hrw5, hmp5, hjo5, hbw5⟩ := H5.out
            refine wp_loopT [10, 11, 66, 67, 68, 69, 70, 71, 72, 103] (fun u ds W => ∃ (k : Nat) (r : Nat → Value), k ≤ i ∧ u 66 = .int .i64 k ∧ JobO j w.heap.size (wr.heap.size + 1) wr.heap.size (.slice ao nb cap) (.slice ao2 i cap2) r W ∧ (∀ q, q < k → SetsAt W (r q) ((rightsD j).getD q []) (fun b => b ≠ wr.heap.size + 1 ∧ b ≠ wr.heap.size)) ∧ (∀ q, k ≤ q → r q = .slice none 0 0) ∧ MarksW w.heap.size ds W ∧ Keeps (fun b => b = wr.heap.size + 1) w5 W) (fun u W => i - (intOf (u 66)).toNat) (by kernel_rfl) ⟨0, fun _ => .slice none 0 0, Nat.zero_le _, (by kernel_rfl), hjo5, fun q h => by omega, fun _ _ => rfl, MarksW.nil _ _, Keeps.refl _ _⟩ ?_
            clear hjb5 hrw5 hmp5 hjo5 hbw5 c3
            rintro u ds W ⟨k, r, hk, hu, hjo, hse, hem, hmk, hkp⟩
            have HJ := Lib.hid hjo
            have HSE := Lib.hid hse
            have HEM := Lib.hid hem
            have HMK := Lib.hid hmk
            have HKP := Lib.hid hkp
            clear hjo hse hem hmk hkp
            simp only [putT, List.foldl_cons, List.foldl_nil, List.setIfInBounds_toArray, List.set_cons_succ, List.set_cons_zero]
            rw [hu]
            by_cases hlt : k < i
            · obtain ⟨ao', cap', hv', _, _, hel⟩ := id HJ.out.ws
              injection hv' with hao hnn hcap
              subst hao hcap
              clear hnn
              obtain ⟨b, off, rfl, hbB, hbl, e0, e1⟩ := hel k (by rw [← HNW.out]; exact hlt)
              obtain ⟨⟨wl, wh⟩, hx⟩ : ∃ x, x = j.ws[k]'(by rw [← HNW.out]; exact hlt) := ⟨_, rfl⟩
              rw [← hx] at e0 e1
              have HX := Lib.hid hx
              have hlti : (k : Int) < (i : Int) := by omega
              have hw : IntKind.i64.wrap ((k : Int) + 1) = ((k + 1 : Nat) : Int) := by rw [IntWalk.i64_in _ (by omega)]; omega
              have hsw := HKP.out.size
              have hjbW := (HKP.out.block _ (lt_of_block H5.out.1) (by omega)).trans H5.out.1
              have hlw : wr.heap.size + 1 + 1 < W.heap.size := lt_of_block hjbW
              have cjb : ∀ o o', ((W.alloc o).alloc o').cell? ⟨wr.heap.size + 1 + 1, 0, none⟩ = some (.pointer (some ⟨wr.heap.size + 1, 0, none⟩)) := fun o o' => by rw [cell_of_row _ _ _ _ _ _ ((hget_old _ _ _ (by simp <;> omega)).trans ((hget_old _ _ _ (by omega)).trans hjbW))]; rfl
              have HJB5 := Lib.hid hjbW
              clear hx hel hjbW
              go_wp2_with fail
              refine (stacks_any (wr.heap.size + 1) (W.heap.size + 2) _ (by simp)).mono ?_
              rintro e w8 ⟨rfl, hw8⟩
              dsimp only
              have hb8 : Below W.heap.size W w8 := by rw [hw8]; exact (((Below.refl _ _).alloc (Nat.le_refl _) _).alloc (by simp) _).alloc (by simp <;> omega) _
              have hs8 : w8.heap.size = W.heap.size + 3 := by rw [hw8]; simp
              have r0 : w8.heap[W.heap.size]? = some (.cells #[.int .i64 k] 3 (0, 0)) := by rw [hw8]; exact (by repeat (first | (refine heap_alloc_at _ _ _ ?_; (simp <;> omega); done) | (refine (hget_old _ _ _ ?_).trans ?_; · (simp <;> omega))))
              have r1 : w8.heap[W.heap.size + 1]? = some (.cells #[.int .i64 wl, .int .i64 wh] 24 (0, 0)) := by rw [hw8]; exact (by repeat (first | (refine heap_alloc_at _ _ _ ?_; (simp <;> omega); done) | (refine (hget_old _ _ _ ?_).trans ?_; · (simp <;> omega))))
              have r2 : w8.heap[W.heap.size + 2]? = some (.cells #[.pointer (some ⟨wr.heap.size + 1, 0, none⟩)] 74 (0, 0)) := by rw [hw8]; exact (by repeat (first | (refine heap_alloc_at _ _ _ ?_; (simp <;> omega); done) | (refine (hget_old _ _ _ ?_).trans ?_; · (simp <;> omega))))
              have R0 := Lib.hid r0
              have R1 := Lib.hid r1
              have R2 := Lib.hid r2
              have HB8 := Lib.hid hb8
              have hpl := lt_of_block HJ.out.obj
              have hpm := HJ.out.ne
              have hlp := HJ.out.lp
              have hlm := HJ.out.lm
              clear hw8 hb8 r0 r1 r2 cjb e0 e1
              go_wp2_with fail
              refine wp_rangeF (gf := 94) (lb := #[.pointer (some ⟨W.heap.size + 2, 0, none⟩)]) rfl (enters_of Tryd.func94 (by kernel_rfl) rfl) (encs := fun s : Nat => #[.int .u64 s]) (fun _ => rfl)
                (fun q => q = W.heap.size + 2) (fun q => q = wr.heap.size + 1) ?hRd ?hM (fun W1 => W1.cell? ⟨wr.heap.size + 1, 0, none⟩ = some (.slice ao nb cap)) (stacksL nb) ?hseq
                (fun pre G Wr => ∃ v, Wr.heap[wr.heap.size + 1]? = some (.cells (rowJ j (.slice ao nb cap) (.slice (some ⟨b, off, none⟩) i cap2) (updR r k v) wr.heap.size) 104 (0, 0)) ∧ Wr.ownsRow w8.heap.size 79 1 v (pre.filter fun t => insideJ (wl, wh) (lenS j.st t)).length ((pre.filter fun t => insideJ (wl, wh) (lenS j.st t)).map fun s : Nat => .int .u64 s) ∧ (∀ q, v.ownBlock = some q → G q) ∧ Keeps (fun q => q = wr.heap.size + 1) w8 Wr)
                (fun _ _ _ _ => False)
                ?hΦ ?hI ?hIx ?h0 ?hround ?hdone ?hstop
              case hRd => intro q hq; omega
              case hM => intro q hq; exact ⟨by omega, fun h => by omega⟩
              case hseq =>
                intro W' hb
                exact stacks_seq (wr.heap.size + 1) (W.heap.size + 2) nb cap ao (by rw [HNB.out]; exact (validSt_parts HVS.out).1) W' ((hb.block _ (by omega)).trans R2.out)
              case hΦ =>
                rintro s G W' ⟨v, h1, _⟩
                rw [cell_of_row _ _ _ _ _ _ h1]; rfl
              case hI =>
                rintro s' G A B' ⟨v, h1, h2, h3, h4⟩ hk
                exact ⟨v, (hk.block _ (lt_of_block h1) (by omega)).trans h1, own_block h2 (fun k e => hk.block k (h2.lt k e).2 (fun hn => hn.2 (h3 k e))), h3, h4.transNew hk (fun i h => h.1)⟩
              case hIx => rintro c s' G A B' h hk; exact h
              case h0 =>
                refine ⟨.slice none 0 0, ?_, World.ownsRow_nil _ _ _ _, (fun k e => by simp [Value.ownBlock] at e), Keeps.refl _ _⟩
                rw [updR_self r k _ (HEM.out k (Nat.le_refl k))]
                exact (HB8.out.block _ hpl).trans HJ.out.obj
              case hstop => rintro D c pre x rest G W' hxs h; exact h.elim
              case hround =>
                rintro l pre x rest G Wr hxs ⟨v, h1, h2, h3, h4⟩ hl1 hl2 hGl
                have hx1 : 1 ≤ x ∧ x < 2 ^ nb ∧ pre.length < 256 := by
                  have hx : x ∈ stacksL nb := by rw [hxs]; simp
                  have h8 : nb ≤ 8 := by rw [HNB.out]; exact (validSt_parts HVS.out).1
                  have hp2 : 2 ^ nb ≤ 256 := Nat.pow_le_pow_right (by decide) h8
                  have hll := stacksL_len nb
                  rw [hxs, List.length_append, List.length_cons] at hll
                  unfold stacksL at hx
                  obtain ⟨y, hy, rfl⟩ := List.mem_map.1 hx
                  have := List.mem_range.1 hy
                  exact ⟨by omega, by omega, by omega⟩
                have HX1 := Lib.hid hx1
                have H1 := Lib.hid h1
                have H2 := Lib.hid h2
                have H3 := Lib.hid h3
                have H4 := Lib.hid h4
                have HGL := Lib.hid hGl
                clear h1 h2 h3 h4 hxs hGl hx1
                gi_wp2
                refine ⟨Keeps.refl _ _, ?_⟩
                intro W3 hk3 hs3
                have hs4 := H4.out.size
                have hW3 : ∀ q, q < w8.heap.size → W3.heap[q]? = Wr.heap[q]? := fun q hq => hk3.block q (by omega) (by omega)
                have hW8 : ∀ q, q < w8.heap.size → q ≠ wr.heap.size + 1 → W3.heap[q]? = w8.heap[q]? := fun q h1 h2 => (hW3 q h1).trans (H4.out.block q h1 h2)
                have hW5 : ∀ q, q < w5.heap.size → q ≠ wr.heap.size + 1 → W3.heap[q]? = w5.heap[q]? := fun q h1 h2 => (hW8 q (by omega) h2).trans ((HB8.out.block q (by omega)).trans (HKP.out.block q h1 h2))
                have zJ := (hW5 _ (lt_of_block H5.out.2.1) (by omega)).trans H5.out.2.1
                have zj := (hW5 _ (lt_of_block H5.out.1) (by omega)).trans H5.out.1
                have z0 := (hW8 _ (by omega) (by omega)).trans R0.out
                have z1 := (hW8 _ (by omega) (by omega)).trans R1.out
                have zp := (hW3 (wr.heap.size + 1) (by omega)).trans H1.out
                have d0 : W3.cell? ⟨W.heap.size, 0, none⟩ = some (.int .i64 k) := by rw [cell_of_row W3 _ _ _ _ _ z0]; rfl
                have d1 : W3.cell? ⟨W.heap.size + 1, 0, none⟩ = some (.int .i64 wl) := by rw [cell_of_row W3 _ _ _ _ _ z1]; rfl
                have d2 : W3.cell? ⟨W.heap.size + 1, 1, none⟩ = some (.int .i64 wh) := by rw [cell_of_row W3 _ _ _ _ _ z1]; rfl
                have d3 : W3.cell? ⟨w.heap.size, 0, none⟩ = some (.slice ao nb cap) := by rw [cell_of_row W3 _ _ _ _ _ zJ]; rfl
                have d4 : W3.cell? ⟨w.heap.size, 1, none⟩ = some (.int .i64 j.st.film.1) := by rw [cell_of_row W3 _ _ _ _ _ zJ]; rfl
                have d5 : W3.cell? ⟨w.heap.size, 2, none⟩ = some (.int .i64 j.st.film.2) := by rw [cell_of_row W3 _ _ _ _ _ zJ]; rfl
                have ZP := Lib.hid zp
                have ZJ := Lib.hid zj
                have Z0 := Lib.hid z0
                have HK3 := Lib.hid hk3
                have hown3 : W3.ownsRow w8.heap.size 79 1 v (pre.filter fun t => insideJ (wl, wh) (lenS j.st t)).length ((pre.filter fun t => insideJ (wl, wh) (lenS j.st t)).map fun s : Nat => .int .u64 s) := own_block H2.out (fun k e => hk3.block k (H2.out.lt k e).2 (fun hn => by have := HGL.out k (H3.out k e); omega))
                have HO3 := Lib.hid hown3
                have hbs3 : SpansAt W3 (.slice ao j.st.bs.length cap) j.st.bs (fun k => k < W3.heap.size) := by
                  have hww := H5.out.2.2.2.2
                  have := hww.size
                  have := HKP.out.size
                  exact (HBS.out.later (W := W3) (by omega) (fun q h1 _ => (hW5 q (by omega) (by omega)).trans (hww.block q h1))).low
                have HBS3 := Lib.hid hbs3
                have hxi : IntKind.i64.wrap (x : Int) = (x : Int) := by
                  have h8 : nb ≤ 8 := by rw [HNB.out]; exact (validSt_parts HVS.out).1
                  have hp2 : 2 ^ nb ≤ 256 := Nat.pow_le_pow_right (by decide) h8
                  exact IntWalk.i64_in _ (by have := HX1.out; omega)
                clear zJ zj z0 z1 zp hk3 hW3 hW8 hW5 hown3 hbs3
                gi_wp2_with fail
                refine ⟨trivial, rfl, CallsIn.inRound l (callsIn_wide.2 ((rightS_any j.st (.slice ao nb cap) x (wl, wh) _ HVS.out HX1.out.1 (by rw [← HNB.out]; exact HX1.out.2.1) (by rw [HX.out]; exact (validJb_parts HVAL.out).2.2 _ (List.getElem_mem _)) (by rw [HNB.out]; exact HBS3.out)).mono ?_))⟩
                rintro e w9 ⟨rfl, hb9⟩
                dsimp only
                obtain ⟨gr, hgr⟩ : ∃ gr, gr = gradeS j.st x (wl, wh) := ⟨_, rfl⟩
                rw [← hgr]
                have hs9 := hb9.size
                have zp := (hb9.block (wr.heap.size + 1) (lt_of_block ZP.out)).trans ZP.out
                have zj := (hb9.block (wr.heap.size + 1 + 1) (lt_of_block ZJ.out)).trans ZJ.out
                have z0 := (hb9.block W.heap.size (lt_of_block Z0.out)).trans Z0.out
                have hown9 : w9.ownsRow w8.heap.size 79 1 v (pre.filter fun t => insideJ (wl, wh) (lenS j.st t)).length ((pre.filter fun t => insideJ (wl, wh) (lenS j.st t)).map fun s : Nat => .int .u64 s) := own_block HO3.out (fun k e => hb9.block k (HO3.out.lt k e).2)
                have hk9 : Keeps (fun q => q = wr.heap.size + 1) w8 w9 := (H4.out.transNew HK3.out (fun i hi => by omega)).trans (Keeps.of_below hb9 (fun q h1 h2 => by omega))
                have hkr9 : Keeps (fun _ => False) W3 w9 := Keeps.of_below hb9 (fun q h1 h2 => by omega)
                by_cases hg2 : gr = 2
                · have hin : insideJ (wl, wh) (lenS j.st x) = true := (grade_two HVS.out x (wl, wh)).1 (by rw [← hgr]; exact hg2)
                  have d0 : w9.cell? ⟨W.heap.size, 0, none⟩ = some (.int .i64 k) := by rw [cell_of_row _ _ _ _ _ _ z0]; rfl
                  have dj : w9.cell? ⟨wr.heap.size + 1 + 1, 0, none⟩ = some (.pointer (some ⟨wr.heap.size + 1, 0, none⟩)) := by rw [cell_of_row _ _ _ _ _ _ zj]; rfl
                  have dk : w9.cell? ⟨wr.heap.size + 1, 4 + k, none⟩ = some v := by
                    rw [cell_of_row _ _ _ _ _ _ zp]
                    have hc : k = 0 ∨ k = 1 ∨ k = 2 ∨ k = 3 := by omega
                    rcases hc with rfl | rfl | rfl | rfl <;> rfl
                  have HH := Lib.hid (And.intro zp (And.intro zj (And.intro z0 (And.intro hown9 (And.intro hk9 hkr9)))))
                  have HIN := Lib.hid hin
                  have hk4 : (k : Int) < 4 := by omega
                  clear zp zj z0 hown9 hk9 hkr9 hb9 hin hgr
                  subst hg2
                  gi_wp2
                  refine region_tailIn (S := fun W' => W'.cell? ⟨W.heap.size, 0, none⟩ = some (.int .i64 k) ∧ W'.cell? ⟨wr.heap.size + 1 + 1, 0, none⟩ = some (.pointer (some ⟨wr.heap.size + 1, 0, none⟩)) ∧ W'.cell? ⟨wr.heap.size + 1, 4 + k, none⟩ = some v)
                    13 #[false, false, false, false, false, false, false, false, false, false, false, false, false, true, true] (by kernel_rfl) (by kernel_rfl) (by kernel_rfl) (fun ⟨a, w, h⟩ => h) rfl ⟨d0, dj, dk⟩ fun hS => ?_
                  refine wpAnyH_take (i := 0) (v := ?_) rfl (by kernel_rfl) (by kernel_rfl) (by kernel_rfl) (fun _ _ _ h => h) (Or.inl ⟨by rfl, ?_⟩) hS ?_
                  rotate_left
                  · (intro W hSw; obtain ⟨hq1, hq2, hq3⟩ := hSw; go_simp; try with_reducible rfl)
                  try simp only [List.getElem_toArray, List.getElem_cons_succ, List.getElem_cons_zero, Act.put, List.setIfInBounds_toArray, List.set_cons_zero, List.set_cons_succ]
                  refine wpAnyH_take (i := 1) (v := ?_) rfl (by kernel_rfl) (by kernel_rfl) (by kernel_rfl) (fun _ _ _ h => h) (Or.inl ⟨by rfl, ?_⟩) hS ?_
                  rotate_left
                  · (intro W hSw; obtain ⟨hq1, hq2, hq3⟩ := hSw; go_simp; try with_reducible rfl)
                  try simp only [List.getElem_toArray, List.getElem_cons_succ, List.getElem_cons_zero, Act.put, List.setIfInBounds_toArray, List.set_cons_zero, List.set_cons_succ]
                  refine wpAnyH_take (i := 2) (v := ?_) rfl (by kernel_rfl) (by kernel_rfl) (by kernel_rfl) (fun _ _ _ h => h) (Or.inl ⟨by rfl, ?_⟩) hS ?_
                  rotate_left
                  · (intro W hSw; obtain ⟨hq1, hq2, hq3⟩ := hSw; go_simp; try with_reducible rfl)
                  try simp only [List.getElem_toArray, List.getElem_cons_succ, List.getElem_cons_zero, Act.put, List.setIfInBounds_toArray, List.set_cons_zero, List.set_cons_succ]
                  refine wpAnyH_take (i := 3) (v := ?_) rfl (by kernel_rfl) (by kernel_rfl) (by kernel_rfl) (fun _ _ _ h => h) (Or.inl ⟨by rfl, ?_⟩) hS ?_
                  rotate_left
                  · (intro W hSw; obtain ⟨hq1, hq2, hq3⟩ := hSw; go_simp; try with_reducible rfl)
                  try simp only [List.getElem_toArray, List.getElem_cons_succ, List.getElem_cons_zero, Act.put, List.setIfInBounds_toArray, List.set_cons_zero, List.set_cons_succ]
                  refine wpAnyH_take (i := 4) (v := ?_) rfl (by kernel_rfl) (by kernel_rfl) (by kernel_rfl) (fun _ _ _ h => h) (Or.inl ⟨by rfl, ?_⟩) hS ?_
                  rotate_left
                  · (intro W hSw; obtain ⟨hq1, hq2, hq3⟩ := hSw; go_simp; try with_reducible rfl)
                  try simp only [List.getElem_toArray, List.getElem_cons_succ, List.getElem_cons_zero, Act.put, List.setIfInBounds_toArray, List.set_cons_zero, List.set_cons_succ]
                  refine wpAnyH_take (i := 5) (v := ?_) rfl (by kernel_rfl) (by kernel_rfl) (by kernel_rfl) (fun _ _ _ h => h) (Or.inl ⟨by rfl, ?_⟩) hS ?_
                  rotate_left
                  · (intro W hSw; obtain ⟨hq1, hq2, hq3⟩ := hSw; go_simp; try with_reducible rfl)
                  try simp only [List.getElem_toArray, List.getElem_cons_succ, List.getElem_cons_zero, Act.put, List.setIfInBounds_toArray, List.set_cons_zero, List.set_cons_succ]
                  refine wpAnyH_take (i := 6) (v := ?_) rfl (by kernel_rfl) (by kernel_rfl) (by kernel_rfl) (fun _ _ _ h => h) (Or.inl ⟨by rfl, ?_⟩) hS ?_
                  rotate_left
                  · (intro W hSw; obtain ⟨hq1, hq2, hq3⟩ := hSw; go_simp; try with_reducible rfl)
                  try simp only [List.getElem_toArray, List.getElem_cons_succ, List.getElem_cons_zero, Act.put, List.setIfInBounds_toArray, List.set_cons_zero, List.set_cons_succ]
                  refine wpAnyH_take (i := 7) (v := ?_) rfl (by kernel_rfl) (by kernel_rfl) (by kernel_rfl) (fun _ _ _ h => h) (Or.inl ⟨by rfl, ?_⟩) hS ?_
                  rotate_left
                  · (intro W hSw; obtain ⟨hq1, hq2, hq3⟩ := hSw; go_simp; try with_reducible rfl)
                  try simp only [List.getElem_toArray, List.getElem_cons_succ, List.getElem_cons_zero, Act.put, List.setIfInBounds_toArray, List.set_cons_zero, List.set_cons_succ]
                  refine wpAnyH_take (i := 8) (v := ?_) rfl (by kernel_rfl) (by kernel_rfl) (by kernel_rfl) (fun _ _ _ h => h) (Or.inl ⟨by rfl, ?_⟩) hS ?_
                  rotate_left
                  · (intro W hSw; obtain ⟨hq1, hq2, hq3⟩ := hSw; go_simp; try with_reducible rfl)
                  try simp only [List.getElem_toArray, List.getElem_cons_succ, List.getElem_cons_zero, Act.put, List.setIfInBounds_toArray, List.set_cons_zero, List.set_cons_succ]
                  refine wpAnyH_take (i := 11) (v := ?_) rfl (by kernel_rfl) (by kernel_rfl) (by kernel_rfl) (fun _ _ _ h => h) (Or.inl ⟨by rfl, ?_⟩) hS ?_
                  rotate_left
                  · (intro W hSw; obtain ⟨hq1, hq2, hq3⟩ := hSw; go_simp; try with_reducible rfl)
                  try simp only [List.getElem_toArray, List.getElem_cons_succ, List.getElem_cons_zero, Act.put, List.setIfInBounds_toArray, List.set_cons_zero, List.set_cons_succ]
                  refine wpAnyH_take (i := 12) (v := ?_) rfl (by kernel_rfl) (by kernel_rfl) (by kernel_rfl) (fun _ _ _ h => h) (Or.inl ⟨by rfl, ?_⟩) hS ?_
                  rotate_left
                  · (intro W hSw; obtain ⟨hq1, hq2, hq3⟩ := hSw; go_simp; try with_reducible rfl)
                  try simp only [List.getElem_toArray, List.getElem_cons_succ, List.getElem_cons_zero, Act.put, List.setIfInBounds_toArray, List.set_cons_zero, List.set_cons_succ]
                  refine wpAnyH_ready (rs := [9]) (by kernel_rfl) (by simp) ?_
                  refine AllReadyH.cons rfl (fun K hK => ?_) AllReadyH.nil
                  go_simp
                  obtain ⟨W4, hW4⟩ : ∃ Y, Y = (w9.alloc (.cells #[.int .u64 x] 79)).drew := ⟨_, rfl⟩
                  have hz4 : W4.heap.size = w9.heap.size + 1 := by rw [hW4]; show (w9.alloc _).heap.size = _; simp
                  have hb4 : Below w9.heap.size w9 W4 := by rw [hW4]; exact ((Below.refl _ _).alloc (Nat.le_refl _) _).drew
                  have hn4 : W4.heap[w9.heap.size]? = some (.cells #[.int .u64 x] 79 (0, 0)) := by rw [hW4]; exact heap_alloc_at _ _ _ rfl
                  obtain ⟨gp, gj, g0, gown, gk9, gr9⟩ := HH.out
                  have hlw9 := lt_of_block gp
                  have hcel : ∀ (k o : Nat), k < w9.heap.size → W4.cell? ⟨k, o, none⟩ = w9.drew.cell? ⟨k, o, none⟩ := fun k o h1 => hb4.cell (p := ⟨k, o, none⟩) h1
                  have hS4 : W4.cell? ⟨W.heap.size, 0, none⟩ = some (.int .i64 k) ∧ W4.cell? ⟨wr.heap.size + 1 + 1, 0, none⟩ = some (.pointer (some ⟨wr.heap.size + 1, 0, none⟩)) ∧ W4.cell? ⟨wr.heap.size + 1, 4 + k, none⟩ = some v := ⟨(hcel _ _ (lt_of_block g0)).trans hS.1, (hcel _ _ (lt_of_block gj)).trans hS.2.1, (hcel _ _ (lt_of_block gp)).trans hS.2.2⟩
                  rw [← hW4]
                  have hown4 : W4.ownsRow w8.heap.size 79 1 v (pre.filter fun t => insideJ (wl, wh) (lenS j.st t)).length ((pre.filter fun t => insideJ (wl, wh) (lenS j.st t)).map fun s : Nat => .int .u64 s) := own_block gown (fun k e => hb4.block k (gown.lt k e).2)
                  have zp4 := (hb4.block _ (lt_of_block gp)).trans gp
                  have zj4 := (hb4.block _ (lt_of_block gj)).trans gj
                  have z04 := (hb4.block _ (lt_of_block g0)).trans g0
                  have HZ4 := Lib.hid (And.intro zp4 (And.intro zj4 z04))
                  have HB4 := Lib.hid hb4
                  have HO4 := Lib.hid hown4
                  have HN4 := Lib.hid hn4
                  clear hS hcel hb4 hW4 zp4 zj4 z04 d0 dj dk gp gj g0 gown gk9 gr9 hown4 hn4
                  refine hK.out _ _ hS4 (fun hS => ?_)
                  clear hK K
                  try simp only [List.getElem_toArray, List.getElem_cons_succ, List.getElem_cons_zero, Act.put, List.setIfInBounds_toArray, List.set_cons_zero, List.set_cons_succ]
                  clear hS4
                  obtain ⟨gp, gj, g0, gown, gk9, gr9⟩ := HH.out
                  obtain ⟨zp4, zj4, z04⟩ := HZ4.out
                  refine wpAnyH_oper (k := 10) (by kernel_rfl) rfl rfl ?_
                  refine wp_append_here (.tmp 96) (.tmp 98) 82 rfl w8.heap.size 79 1 8 (.int .u64 0) underSets infoSet rfl (by decide) v _ _ rfl HO4.out ⟨w9.heap.size, 0, none⟩ 1 1 [.int .u64 x] rfl rfl (news_block HN4.out) (by simp [Value.oneCell']) (by have := List.length_filter_le (fun t => insideJ (wl, wh) (lenS j.st t)) pre; have := HX1.out.2.2; omega) (by decide) (by omega) ?_
                  intro v1 W5 hown5 hg5 hat5
                  have hb5 : Below w8.heap.size W4 W5 := (Below.refl _ _).grown hg5 (by omega) (own_base HO4.out)
                  have hk5 : Keeps (fun q => G q) W4 W5 := (keeps_grown hg5).mono (fun k _ e => H3.out k e)
                  have hat : ∀ k, v1.ownBlock = some k → Grow G Wr W5 k := fun k e => by
                    rcases hat5 with h | h
                    · exact .inl (H3.out k (h.symm.trans e))
                    · rw [h] at e; obtain rfl := Option.some.inj e; exact .inr ⟨by omega, (hown5.lt _ h).2⟩
                  have zp5 := (hb5.block _ (by omega)).trans zp4
                  have zj5 := (hb5.block _ (by omega)).trans zj4
                  have z05 := (hb5.block _ (by omega)).trans z04
                  have c0 : W5.cell? ⟨W.heap.size, 0, none⟩ = some (.int .i64 k) := by rw [cell_of_row _ _ _ _ _ _ z05]; rfl
                  have cj : W5.cell? ⟨wr.heap.size + 1 + 1, 0, none⟩ = some (.pointer (some ⟨wr.heap.size + 1, 0, none⟩)) := by rw [cell_of_row _ _ _ _ _ _ zj5]; rfl
                  have ck : W5.cell? ⟨wr.heap.size + 1, 4 + k, none⟩ = some v := by
                    rw [cell_of_row _ _ _ _ _ _ zp5]
                    have hc : k = 0 ∨ k = 1 ∨ k = 2 ∨ k = 3 := by omega
                    rcases hc with rfl | rfl | rfl | rfl <;> rfl
                  have fk : W5.frozen? ⟨wr.heap.size + 1, 4 + k, none⟩ = false := frozen_of_row _ _ (4 + k) _ _ zp5
                  refine ⟨⟨c0, cj, ck⟩, ?_⟩
                  obtain ⟨av, ac, nv, rfl⟩ : ∃ a n c, v1 = .slice a n c := by
                    rcases hown5.2 with ⟨h2, _⟩ | ⟨g, cap, cur, h2, _⟩ <;> exact ⟨_, _, _, h2⟩
                  have HF := Lib.hid (And.intro zp5 (And.intro hown5 (And.intro hk5 hat)))
                  clear zp5 zj5 z05 zp4 zj4 z04 gp gj g0 gown gk9 gr9 hg5 hown5 hat5 hk5 hat hS c0 cj
                  refine wpAnyH_done (by kernel_rfl) ?_ _
                  unfold TailQ
                  simp only [List.drop_succ_cons, List.drop_zero]
                  go_wp2_with fail
                  obtain ⟨gp, gj, g0, gown, gk9, gr9⟩ := HH.out
                  obtain ⟨zp5, hown5, hk5, hat⟩ := HF.out
                  have hb4s := HB4.out.size
                  have hk5s := hk5.size
                  refine ⟨(gr9.mono (fun _ _ h => h.elim)).trans ((Keeps.of_below HB4.out (fun k h1 h2 => by omega)).trans ((hk5.mono (fun k _ h => .inr h)).trans (Keeps.setCell _ _ _ (.inl rfl)))), .slice av ac nv, ?_, ?_, ?_, ?_⟩
                  · rw [← rowJ_set j (.slice ao nb cap) (.slice (some ⟨b, off, none⟩) i cap2) r k v (.slice av ac nv) wr.heap.size (by omega)]
                    simp [World.setCell, Array.getElem?_modify, zp5]
                  · rw [List.filter_append]
                    simp only [List.filter_cons, HIN.out, if_true, List.filter_nil, List.length_append, List.map_append]
                    exact ownsRow_setCell_below hown5 (by show wr.heap.size + 1 < w8.heap.size; omega) _
                  · intro q e
                    rcases hat q e with h | h
                    · exact .inl h
                    · exact .inr ⟨h.1, by simpa [World.setCell] using h.2⟩
                  · exact ((gk9.trans (Keeps.of_below HB4.out (fun k h1 h2 => by omega))).transNew hk5 (fun i h => by have := HGL.out i h; omega)).trans (Keeps.setCell _ _ _ rfl)
                · clear d0 d1 d2 d3 d4 d5
                  have hin : insideJ (wl, wh) (lenS j.st x) = false := Bool.eq_false_iff.2 fun h => hg2 (by rw [hgr]; exact (grade_two HVS.out x (wl, wh)).2 h)
                  gi_wp2
                  refine ⟨hkr9.mono (fun _ _ h => h.elim), v, zp, ?_, fun q e => .inl (H3.out q e), hk9⟩
                  rw [List.filter_append]
                  simp only [List.filter_cons, hin, Bool.false_eq_true, if_false, List.filter_nil, List.append_nil]
                  exact hown9
              case hdone =>
                rintro D G W' ⟨v, h1, h2, h3, h4⟩ hGD hkk hD hDs
                have HH := Lib.hid (And.intro h1 (And.intro h2 (And.intro h4 (And.intro hD hDs))))
                clear h1 h2 h3 h4 hGD hkk hD hDs
                go_wp2_with fail
                obtain ⟨h1, h2, h4, hD, hDs⟩ := HH.out
                have hkW : Keeps (fun q => q = wr.heap.size + 1) W W' := (Keeps.of_below HB8.out (fun q h1 h2 => by omega)).trans h4
                refine ⟨⟨k + 1, updR r k v, hlt, by kernel_rfl, ⟨h1, ?_, ?_, hlp, hlm, hpm⟩, fun q hq => ?_, fun q hq => ?_, ?_, HKP.out.trans hkW⟩, ?_, by kernel_rfl⟩
                · exact HJ.out.bs.later hkW.size (fun q h1 h2 => hkW.block q h1 (by omega))
                · exact HJ.out.ws.later hkW.size (fun q h1 h2 => hkW.block q h1 (by omega))
                · by_cases hqk : q = k
                  · subst hqk
                    have e1 : updR r q v q = v := if_pos rfl
                    have e2 : (rightsD j).getD q [] = (stacksL nb).filter fun t => insideJ (wl, wh) (lenS j.st t) := by
                      have hq' : q < j.ws.length := by rw [← HNW.out]; exact hlt
                      unfold rightsD
                      rw [List.getD_eq_getElem?_getD, List.getElem?_map, List.getElem?_eq_getElem hq', Option.map_some, Option.getD_some, ← HX.out, rights_stacks, HNB.out]
                    rw [e1, e2]
                    exact sets_of_own h2 (fun b hb => by omega)
                  · have e1 : updR r k v q = r q := if_neg hqk
                    rw [e1]
                    exact (HSE.out q (by omega)).later hkW.size (fun b hb hr => hkW.block b hb hr.1)
                · have e1 : updR r k v q = r q := if_neg (by omega)
                  rw [e1]
                  exact HEM.out q (by omega)
                · exact (HMK.out.later hkW (fun q hq e => by subst e; rw [HJ.out.obj] at hq; cases hq)).cons (by omega) hD (HMK.out.lt (by omega))
                · show i - (intOf (.int .i64 ((k + 1 : Nat) : Int))).toNat < i - (intOf (.int .i64 (k : Int))).toNat
                  simp only [intOf]
                  omega
            · obtain rfl : k = i := by omega
              have hlti : ¬ (k : Int) < (k : Int) := by omega
              have hjbW := (HKP.out.block _ (lt_of_block H5.out.1) (by omega)).trans H5.out.1
              have cjb : W.cell? ⟨wr.heap.size + 1 + 1, 0, none⟩ = some (.pointer (some ⟨wr.heap.size + 1, 0, none⟩)) := by rw [cell_of_row _ _ _ _ _ _ hjbW]; rfl
              clear hjbW
              go_wp2_with fail
              obtain ⟨Ds, rfl, hnd, hDs⟩ := HMK.out
              refine leaves_marks Ds W hnd (fun D h => (hDs D h).2) fun W' hkD => ?_
              refine ⟨.pointer (some ⟨wr.heap.size + 1, 0, none⟩), by simp [results, Tryd.results47, go_sem], ?_⟩
              have hmW := (HKP.out.block _ (lt_of_block H5.out.2.2.1) (by omega)).trans H5.out.2.2.1
              have hno : ∀ q, q ∈ Ds → w.heap.size ≤ q := fun q hq => (hDs q hq).1
              have hlm := HJ.out.lm
              have hlp := HJ.out.lp
              have hnp : wr.heap.size + 1 ∉ Ds := fun h => by have := (hDs _ h).2; rw [HJ.out.obj] at this; cases this
              have hnm : wr.heap.size ∉ Ds := fun h => by have := (hDs _ h).2; rw [hmW] at this; cases this
              have hbb := H5.out.2.2.2.2
              refine ⟨(hbb.trans (HKP.out.below hbb.size (fun q h1 h2 => by omega))).trans (hkD.below (Nat.le_trans hbb.size HKP.out.size) (fun q h1 h2 => by have := hno q h2; omega)), .inr ⟨by unfold errD; rw [HVAL.out]; rfl, wr.heap.size + 1, wr.heap.size, r, rfl, ⟨⟨(hkD.block _ (lt_of_block HJ.out.obj) hnp).trans HJ.out.obj, ?_, ?_, hlp, hlm, HJ.out.ne⟩, fun q hq => ?_⟩, (hkD.block _ (lt_of_block hmW) hnm).trans hmW⟩⟩
              · exact HJ.out.bs.later hkD.size (fun q h1 h2 => hkD.block q h1 (fun h => by have := hno q h; omega))
              · exact HJ.out.ws.later hkD.size (fun q h1 h2 => hkD.block q h1 (fun h => by have := hno q h; omega))
              · by_cases hqk : q < k
                · exact (HSE.out q hqk).passes hkD (fun x hx => (hDs x hx).2) (fun x hx => hx.2)
                · rw [HEM.out q (by omega)]
                  have : (rightsD j).getD q [] = [] := by
                    unfold rightsD
                    rw [List.getD_eq_getElem?_getD, List.getElem?_eq_none (by rw [List.length_map, ← HNW.out]; omega)]; rfl
                  rw [this]
                  exact SetsAt.nil _ _
    · have h4i : ¬ (nw : Int) ≤ 4 := by omega
      go_wp2_with fail
      refine (jask_no 1 _).mono ?_
      rintro e w' ⟨rfl, rfl⟩
      dsimp only
      go_wp2_with fail
      exact HBAD.out _ (Bool.eq_false_iff.2 fun h => by have := (validJb_parts h).2.1; have := HNW.out; omega) HB1.out
end Go.Proofs.YtbmfphiecllggaaDoor

/- What can be done with what is left of a job: the search with a memory. -/
namespace Go.Proofs.YtbmfphiecllggaaDoor
set_option linter.unusedVariables false
set_option linter.unusedSimpArgs false
open Go.RowKit Go.Shelf
attribute [local go_sem] Oper.semAt_some

def encLeft (k : Nat × Nat) : Value := .agg #[.int .u64 k.1, .int .u64 k.2]
theorem under_left : Tryd.prog.underlying 90 = some (.struct (Tryd.prog.fieldsOf 90)) := by kernel_rfl
theorem under_kept : Tryd.prog.underlying 102 = some (.map 90 96) := by kernel_rfl
theorem zeroScore (w : World) : (zeroValue 96).run Tryd.prog w = .ok .nilIface w := by kernel_rfl
theorem eqLeft (c d : Nat × Nat) (w : World) : (Op.equal 90 (encLeft c) (encLeft d)).run Tryd.prog w = .ok (decide (c = d)) w := by
  unfold encLeft Op.equal Op.maxDepth
  rw [run_equalIn_agg w 9999 90 _ _ under_left (by kernel_rfl)]
  simp [go_sem, Op.eqFields]
  obtain ⟨a, b⟩ := c
  obtain ⟨a', b'⟩ := d
  by_cases h1 : a = a' <;> by_cases h2 : b = b' <;> simp [h1, h2, Int.ofNat_inj]
theorem keyLeft : KeyK Tryd.prog 90 encLeft where
  under := ⟨_, under_left⟩
  eq := eqLeft
  chk c e w := by kernel_rfl
  same c := by simp [encLeft, Instr.sameBits]
/-- What is kept is right. -/
def KeptJ (j : JobD) (mp : Nat) (W : World) : Prop :=
  ∃ L clock f, W.heap[mp]? = some (mapK encLeft L clock) ∧ TabK L clock f ∧ ∀ k v, f k = some v → v = scoreV (scoreD j k.1 k.2)
theorem KeptJ.lt {j : JobD} {mp : Nat} {W : World} (h : KeptJ j mp W) : mp < W.heap.size := by
  obtain ⟨L, clock, f, h1, _⟩ := h
  exact (Array.getElem?_eq_some_iff.1 h1).1
theorem KeptJ.of {j : JobD} {mp : Nat} {W W' : World} (h : KeptJ j mp W) (he : W'.heap[mp]? = W.heap[mp]?) : KeptJ j mp W' := by
  obtain ⟨L, clock, f, h1, h2⟩ := h
  exact ⟨L, clock, f, he.trans h1, h2⟩
theorem KeptJ.nil {j : JobD} {mp : Nat} {W : World} (h : W.heap[mp]? = some (.map #[] 0)) : KeptJ j mp W :=
  ⟨[], 0, _, h, TabK.nil, fun _ _ h => by cases h⟩
theorem KeptJ.look {j : JobD} {mp : Nat} {W : World} (h : KeptJ j mp W) (k : Nat × Nat) : ∃ x b, (b = true → x = scoreV (scoreD j k.1 k.2)) ∧ ∀ W', W'.heap[mp]? = W.heap[mp]? →
    (Instr.lookup 102 (.map (some mp)) (encLeft k) true).run Tryd.prog W' = .ok (.tuple #[x, .bool b]) W' := by
  obtain ⟨L, clock, f, h1, h2, h3⟩ := h
  refine ⟨(f k).getD .nilIface, (f k).isSome, fun hb => ?_, fun W' he => run_getK keyLeft under_kept mp L clock f h2 k W' (he.trans h1) _ (zeroScore W')⟩
  obtain ⟨v, hv⟩ := Option.isSome_iff_exists.1 hb
  rw [hv]; exact h3 k v hv
theorem KeptJ.put {j : JobD} {mp : Nat} {W : World} (h : KeptJ j mp W) (k : Nat × Nat) :
    ∃ o, (Instr.mapUpdate 102 (.map (some mp)) (encLeft k) (scoreV (scoreD j k.1 k.2))).run Tryd.prog W = .ok () (W.putObj mp o) ∧ KeptJ j mp (W.putObj mp o) := by
  obtain ⟨L, clock, f, h1, h2, h3⟩ := h
  refine ⟨_, run_updK keyLeft under_kept mp L clock k _ W h1, (updK k (scoreV (scoreD j k.1 k.2)) L clock).1, (updK k (scoreV (scoreD j k.1 k.2)) L clock).2, _, ?_, h2.upd k _, ?_⟩
  · have := (Array.getElem?_eq_some_iff.1 h1).1
    simp [World.putObj, this]
  · intro x v hv
    split at hv
    · rename_i e; subst e; cases hv; rfl
    · exact h3 x v hv
theorem JobR.keeps {j : JobD} {B pp mp : Nat} {bs ws : Value} {r : Nat → Value} {W W' : World} (h : JobR j B pp mp bs ws r W) (hk : Keeps (fun k => k = mp) W W') : JobR j B pp mp bs ws r W' :=
  ⟨h.o.keeps hk, fun i hi => (h.right i hi).later hk.size (fun k h1 h2 => hk.block k h1 h2)⟩
theorem TabZ.keeps {mp : Nat} {W W' : World} (h : TabZ W) (hk : Keeps (fun k => k = mp) W W') (hm : 1 < mp) : TabZ W' := by
  have hlt : 1 < W.heap.size := by
    have := h.c0
    unfold World.cell? at this
    rcases Nat.lt_or_ge 1 W.heap.size with h1 | h1
    · exact h1
    · rw [Array.getElem?_eq_none h1] at this; simp at this
  have he : ∀ i, W'.cell? ⟨1, i, none⟩ = W.cell? ⟨1, i, none⟩ := fun i => World.cell?_of_block (w := W) (w' := W') (a := ⟨1, i, none⟩) (hk.block 1 hlt (by omega))
  exact ⟨(he 0).trans h.c0, (he 1).trans h.c1, (he 3).trans h.c3, (he 7).trans h.c7⟩
/-- The best step among the first ones. -/
def bestF (Rs : List (List Nat)) (av : Nat) (R : List Nat) : Option (Nat × Nat) := R.foldl (fun best s => if subJ s av then (match scoreJ 8 Rs (afterJ av s) with
      | none => best
      | some x => if (match best with | none => true | some y => decide (sizeJ 8 s + x.2 < y.2)) then some (s, sizeJ 8 s + x.2) else best) else best) none
theorem bestF_snoc (Rs : List (List Nat)) (av : Nat) (R : List Nat) (s : Nat) : bestF Rs av (R ++ [s]) = if subJ s av then (match scoreJ 8 Rs (afterJ av s) with
      | none => bestF Rs av R
      | some x => if (match bestF Rs av R with | none => true | some y => decide (sizeJ 8 s + x.2 < y.2)) then some (s, sizeJ 8 s + x.2) else bestF Rs av R) else bestF Rs av R := by
  unfold bestF
  rw [List.foldl_append, List.foldl_cons, List.foldl_nil]
theorem size_splitJ : ∀ (m s av : Nat), subJ s av = true → sizeJ m av = sizeJ m s + sizeJ m (afterJ av s)
  | 0, _, _, _ => rfl
  | m + 1, s, av, h => by
    have hi := size_splitJ m s av h
    have hb := (subJ_iff s av).1 h m
    simp only [sizeJ, afterJ_bit]
    cases hs : s.testBit m with
    | true => rw [hb hs]; simp; omega
    | false => cases av.testBit m <;> simp <;> omega
theorem size_le : ∀ (m s : Nat), sizeJ m s ≤ m
  | 0, _ => Nat.le_refl _
  | m + 1, s => by have := size_le m s; rw [sizeJ]; split <;> omega
theorem step_le {Rs : List (List Nat)} {av s : Nat} {x : Nat × Nat} (h : subJ s av = true) (hx : scoreJ 8 Rs (afterJ av s) = some x) : sizeJ 8 s + x.2 ≤ 8 := by
  have h1 := score_leJ 8 Rs _ x hx
  have h2 := size_splitJ 8 s av h
  have h3 := size_le 8 av
  omega
theorem bestF_le (Rs : List (List Nat)) (av : Nat) : ∀ (R : List Nat) (n : Nat), n = R.length → ∀ y, bestF Rs av R = some y → y.2 ≤ 8
  | R, 0, hn, y, h => by
    obtain rfl : R = [] := List.length_eq_zero_iff.1 hn.symm
    cases h
  | R, n + 1, hn, y, h => by
    have hne : R ≠ [] := by rintro rfl; simp at hn
    obtain ⟨R', s, rfl⟩ : ∃ R' s, R = R' ++ [s] := ⟨R.dropLast, R.getLast hne, (List.dropLast_concat_getLast hne).symm⟩
    rw [bestF_snoc] at h
    have ih := bestF_le Rs av R' n (by simp at hn; omega)
    by_cases hs : subJ s av = true
    · rw [if_pos hs] at h
      cases hx : scoreJ 8 Rs (afterJ av s) with
      | none => rw [hx] at h; dsimp only at h; exact ih y h
      | some x =>
        rw [hx] at h
        dsimp only at h
        generalize (match bestF Rs av R' with | none => true | some y => decide (sizeJ 8 s + x.2 < y.2)) = c at h
        cases c with
        | true => cases h; exact step_le hs hx
        | false => exact ih y h
    · rw [if_neg hs] at h
      exact ih y h
theorem tz_facts : ∀ x < 16, 1 ≤ x → x.testBit (tzJ x) = true ∧ (∀ k < 4, k < tzJ x → x.testBit k = false) ∧ tzJ x < 4 ∧ afterJ x (2 ^ tzJ x) < x := by decide +kernel
theorem afterJ_lt (n av s : Nat) (h : av < 2 ^ n) : afterJ av s < 2 ^ n := by
  refine Nat.lt_pow_two_of_testBit _ fun i hi => ?_
  rw [afterJ_bit, Nat.testBit_lt_two_pow (Nat.lt_of_lt_of_le h (Nat.pow_le_pow_right (by decide) hi))]
  rfl
theorem score_step {j : JobD} (hv : validJb j = true) (wants blocks : Nat) (h0 : wants ≠ 0) (hw : wants < 2 ^ j.ws.length) :
    tzJ wants < j.ws.length ∧ tzJ wants < 4 ∧ wants < 16 ∧ afterJ wants (2 ^ tzJ wants) < wants ∧ scoreD j wants blocks = bestF (selJ (rightsD j) (afterJ wants (2 ^ tzJ wants))) blocks ((rightsD j).getD (tzJ wants) []) := by
  have h16 : wants < 16 := Nat.lt_of_lt_of_le hw (Nat.pow_le_pow_right (by decide : 0 < 2) (validJb_parts hv).2.1 : 2 ^ j.ws.length ≤ 2 ^ 4)
  obtain ⟨h1, h2, h3, h4⟩ := tz_facts wants h16 (by omega)
  have hq : tzJ wants < j.ws.length := by
    rcases Nat.lt_or_ge (tzJ wants) j.ws.length with h | h
    · exact h
    · rw [Nat.testBit_lt_two_pow (Nat.lt_of_lt_of_le hw (Nat.pow_le_pow_right (by decide) h))] at h1; cases h1
  refine ⟨hq, h3, h16, h4, ?_⟩
  have hl : tzJ wants < (rightsD j).length := by unfold rightsD; rw [List.length_map]; exact hq
  unfold scoreD
  rw [sel_firstJ (rightsD j) wants (tzJ wants) hl h1 (fun k hk => h2 k (by omega) hk), List.getD_eq_getElem?_getD, List.getElem?_eq_getElem hl]
  rfl
theorem rights_lt {j : JobD} (i : Nat) : ∀ s ∈ (rightsD j).getD i [], s < 2 ^ j.st.bs.length := by
  intro s hs
  unfold rightsD at hs
  rw [List.getD_eq_getElem?_getD, List.getElem?_map] at hs
  cases hw : j.ws[i]? with
  | none => rw [hw] at hs; cases hs
  | some w => rw [hw] at hs; exact (mem_rightsJ.1 hs).1
theorem rights_len {j : JobD} (hv : validJb j = true) (i : Nat) : ((rightsD j).getD i []).length ≤ 256 := by
  unfold rightsD
  rw [List.getD_eq_getElem?_getD, List.getElem?_map]
  cases hw : j.ws[i]? with
  | none => simp
  | some w =>
    show (rightsS j.st w).length ≤ 256
    rw [rights_stacks]
    have h1 := List.length_filter_le (fun t => insideJ w (lenS j.st t)) (stacksL j.st.bs.length)
    have h2 := stacksL_len j.st.bs.length
    have h3 : 2 ^ j.st.bs.length ≤ 2 ^ 8 := Nat.pow_le_pow_right (by decide : 0 < 2) (validSt_parts (validJb_parts hv).1).1
    omega
theorem not_u64 : ∀ b < 256, bits BinOp.xor IntKind.u64 IntKind.u64.max ((b : Nat) : Int) = ((18446744073709551615 - b : Nat) : Int) := by decide +kernel
set_option maxRecDepth 100000 in
set_option maxHeartbeats 8000000 in
theorem score_any {j : JobD} (hv : validJb j = true) {B pp mp : Nat} {bs ws : Value} {r : Nat → Value} (hB : 1 < B) : ∀ (wants : Nat), wants < 2 ^ j.ws.length → ∀ (blocks : Nat), blocks < 2 ^ j.st.bs.length → ∀ (w : World), JobR j B pp mp bs ws r w → KeptJ j mp w → TabZ w →
    Calls Tryd.prog 61 #[.pointer (some ⟨pp, 0, none⟩), .agg #[.int .u64 wants, .int .u64 blocks]] w fun e w' => e = .returned (scoreV (scoreD j wants blocks)) ∧ KeptJ j mp w' ∧ Keeps (fun k => k = mp) w w' := by
  intro wants
  induction wants using Nat.strongRecOn with
  | _ wants ih =>
  intro hwl blocks hbl w hjr hkp htz
  have HIH := Lib.hid ih
  have HJ := Lib.hid hjr
  have HK := Lib.hid hkp
  have HT := Lib.hid htz
  have HV := Lib.hid hv
  obtain ⟨x, b, hxb, hlook⟩ := hkp.look (wants, blocks)
  have hlp := hjr.o.lp
  have hlm := hjr.o.lm
  have hne := hjr.o.ne
  have hpl := lt_of_block hjr.o.obj
  have hml := hkp.lt
  have hb0 : ∀ o, Below w.heap.size w (w.alloc o) := fun o => (Below.refl _ _).alloc (Nat.le_refl _) _
  have HB0 := Lib.hid hb0
  have HXB := Lib.hid hxb
  have HLK := Lib.hid hlook
  clear ih hjr hkp htz hv hxb hlook hb0
  by_cases h0 : wants = 0
  · subst h0
    have hs : scoreD j 0 blocks = some (0, 0) := by
      unfold scoreD
      have : ∀ l : List (List Nat), selJ l 0 = [] := by
        intro l
        induction l with
        | nil => rfl
        | cons a l ih => rw [selJ]; simpa using ih
      rw [this]; rfl
    rw [hs]
    go_enter Tryd.func61, Tryd.ntmps61
    go_wp2
    refine wp_scope_straight ?_
    go_wp2
    dsimp only [Exit.noGoto]
    go_ret
    exact ⟨rfl, HK.out.of (Below.heap_alloc _ _ _ hml), Keeps.alloc _ _ _⟩
  · have h0i : ¬ (wants : Int) = 0 := by omega
    obtain ⟨sv, hsv⟩ : ∃ x, x = scoreV (scoreD j wants blocks) := ⟨_, rfl⟩
    rw [← hsv]
    have HSV := Lib.hid hsv
    clear hsv
    go_enter Tryd.func61, Tryd.ntmps61
    go_wp2_with fail
    refine wp_scope_straight ?_
    go_wp2_with fail
    refine wp_name (fun W => W.heap[w.heap.size]? = some (.cells #[.int .u64 wants, .int .u64 blocks] 90 (0, 0)) ∧ Below w.heap.size w W) ⟨heap_alloc_at _ _ _ rfl, HB0.out _⟩ ?_
    rintro W ⟨hx, hb⟩
    have zp := (hb.block pp hpl).trans HJ.out.o.obj
    have hbz := hb.size
    have hxl := lt_of_block hx
    have HX := Lib.hid hx
    have HB := Lib.hid hb
    have HZP := Lib.hid zp
    clear hx hb zp
    refine region_fix 10 (fun W' => Below W.heap.size W W') (by kernel_rfl) (by kernel_rfl) (Below.refl _ _).drew ?_
    simp only [List.take_succ_cons, List.take_zero, List.drop_succ_cons, List.drop_zero]
    refine WF_step ?_ (fun W' hC => ?_) rfl ?_
    rotate_left
    · have hp' := (hC.block pp (by omega)).trans HZP.out
      have hx' := (hC.block w.heap.size hxl).trans HX.out
      have d8 : W'.cell? ⟨pp, 8, none⟩ = some (.map (some mp)) := by rw [cell_of_row _ _ _ _ _ _ hp']; rfl
      have l0 : W'.cell? ⟨w.heap.size, 0, none⟩ = some (.int .u64 wants) := by rw [cell_of_row _ _ _ _ _ _ hx']; rfl
      have l1 : W'.cell? ⟨w.heap.size, 1, none⟩ = some (.int .u64 blocks) := by rw [cell_of_row _ _ _ _ _ _ hx']; rfl
      have hlk := HLK.out W' ((hC.block mp (by omega)).trans (HB.out.block mp hml))
      unfold encLeft at hlk
      dsimp only at hlk
      go_simp
      exact fix_value hC
    simp only [Act.put, List.setIfInBounds_toArray, List.set_cons_zero, List.set_cons_succ]
    refine WF_step ?_ (fun W' hC => ?_) rfl ?_
    rotate_left
    · have hp' := (hC.block pp (by omega)).trans HZP.out
      have hx' := (hC.block w.heap.size hxl).trans HX.out
      have d8 : W'.cell? ⟨pp, 8, none⟩ = some (.map (some mp)) := by rw [cell_of_row _ _ _ _ _ _ hp']; rfl
      have l0 : W'.cell? ⟨w.heap.size, 0, none⟩ = some (.int .u64 wants) := by rw [cell_of_row _ _ _ _ _ _ hx']; rfl
      have l1 : W'.cell? ⟨w.heap.size, 1, none⟩ = some (.int .u64 blocks) := by rw [cell_of_row _ _ _ _ _ _ hx']; rfl
      have hlk := HLK.out W' ((hC.block mp (by omega)).trans (HB.out.block mp hml))
      unfold encLeft at hlk
      dsimp only at hlk
      go_simp
      exact fix_value hC
    simp only [Act.put, List.setIfInBounds_toArray, List.set_cons_zero, List.set_cons_succ]
    refine WF_step ?_ (fun W' hC => ?_) rfl ?_
    rotate_left
    · have hp' := (hC.block pp (by omega)).trans HZP.out
      have hx' := (hC.block w.heap.size hxl).trans HX.out
      have d8 : W'.cell? ⟨pp, 8, none⟩ = some (.map (some mp)) := by rw [cell_of_row _ _ _ _ _ _ hp']; rfl
      have l0 : W'.cell? ⟨w.heap.size, 0, none⟩ = some (.int .u64 wants) := by rw [cell_of_row _ _ _ _ _ _ hx']; rfl
      have l1 : W'.cell? ⟨w.heap.size, 1, none⟩ = some (.int .u64 blocks) := by rw [cell_of_row _ _ _ _ _ _ hx']; rfl
      have hlk := HLK.out W' ((hC.block mp (by omega)).trans (HB.out.block mp hml))
      unfold encLeft at hlk
      dsimp only at hlk
      go_simp
      exact fix_value hC
    simp only [Act.put, List.setIfInBounds_toArray, List.set_cons_zero, List.set_cons_succ]
    refine WF_step ?_ (fun W' hC => ?_) rfl ?_
    rotate_left
    · have hp' := (hC.block pp (by omega)).trans HZP.out
      have hx' := (hC.block w.heap.size hxl).trans HX.out
      have d8 : W'.cell? ⟨pp, 8, none⟩ = some (.map (some mp)) := by rw [cell_of_row _ _ _ _ _ _ hp']; rfl
      have l0 : W'.cell? ⟨w.heap.size, 0, none⟩ = some (.int .u64 wants) := by rw [cell_of_row _ _ _ _ _ _ hx']; rfl
      have l1 : W'.cell? ⟨w.heap.size, 1, none⟩ = some (.int .u64 blocks) := by rw [cell_of_row _ _ _ _ _ _ hx']; rfl
      have hlk := HLK.out W' ((hC.block mp (by omega)).trans (HB.out.block mp hml))
      unfold encLeft at hlk
      dsimp only at hlk
      go_simp
      exact fix_value hC
    simp only [Act.put, List.setIfInBounds_toArray, List.set_cons_zero, List.set_cons_succ]
    refine WF_step ?_ (fun W' hC => ?_) rfl ?_
    rotate_left
    · have hp' := (hC.block pp (by omega)).trans HZP.out
      have hx' := (hC.block w.heap.size hxl).trans HX.out
      have d8 : W'.cell? ⟨pp, 8, none⟩ = some (.map (some mp)) := by rw [cell_of_row _ _ _ _ _ _ hp']; rfl
      have l0 : W'.cell? ⟨w.heap.size, 0, none⟩ = some (.int .u64 wants) := by rw [cell_of_row _ _ _ _ _ _ hx']; rfl
      have l1 : W'.cell? ⟨w.heap.size, 1, none⟩ = some (.int .u64 blocks) := by rw [cell_of_row _ _ _ _ _ _ hx']; rfl
      have hlk := HLK.out W' ((hC.block mp (by omega)).trans (HB.out.block mp hml))
      unfold encLeft at hlk
      dsimp only at hlk
      go_simp
      exact fix_value hC
    simp only [Act.put, List.setIfInBounds_toArray, List.set_cons_zero, List.set_cons_succ]
    refine WF_step ?_ (fun W' hC => ?_) rfl ?_
    rotate_left
    · have hp' := (hC.block pp (by omega)).trans HZP.out
      have hx' := (hC.block w.heap.size hxl).trans HX.out
      have d8 : W'.cell? ⟨pp, 8, none⟩ = some (.map (some mp)) := by rw [cell_of_row _ _ _ _ _ _ hp']; rfl
      have l0 : W'.cell? ⟨w.heap.size, 0, none⟩ = some (.int .u64 wants) := by rw [cell_of_row _ _ _ _ _ _ hx']; rfl
      have l1 : W'.cell? ⟨w.heap.size, 1, none⟩ = some (.int .u64 blocks) := by rw [cell_of_row _ _ _ _ _ _ hx']; rfl
      have hlk := HLK.out W' ((hC.block mp (by omega)).trans (HB.out.block mp hml))
      unfold encLeft at hlk
      dsimp only at hlk
      go_simp
      exact fix_value hC
    simp only [Act.put, List.setIfInBounds_toArray, List.set_cons_zero, List.set_cons_succ]
    refine WF_step ?_ (fun W' hC => ?_) rfl ?_
    rotate_left
    · have hp' := (hC.block pp (by omega)).trans HZP.out
      have hx' := (hC.block w.heap.size hxl).trans HX.out
      have d8 : W'.cell? ⟨pp, 8, none⟩ = some (.map (some mp)) := by rw [cell_of_row _ _ _ _ _ _ hp']; rfl
      have l0 : W'.cell? ⟨w.heap.size, 0, none⟩ = some (.int .u64 wants) := by rw [cell_of_row _ _ _ _ _ _ hx']; rfl
      have l1 : W'.cell? ⟨w.heap.size, 1, none⟩ = some (.int .u64 blocks) := by rw [cell_of_row _ _ _ _ _ _ hx']; rfl
      have hlk := HLK.out W' ((hC.block mp (by omega)).trans (HB.out.block mp hml))
      unfold encLeft at hlk
      dsimp only at hlk
      go_simp
      exact fix_value hC
    simp only [Act.put, List.setIfInBounds_toArray, List.set_cons_zero, List.set_cons_succ]
    refine WF_step ?_ (fun W' hC => ?_) rfl ?_
    rotate_left
    · have hp' := (hC.block pp (by omega)).trans HZP.out
      have hx' := (hC.block w.heap.size hxl).trans HX.out
      have d8 : W'.cell? ⟨pp, 8, none⟩ = some (.map (some mp)) := by rw [cell_of_row _ _ _ _ _ _ hp']; rfl
      have l0 : W'.cell? ⟨w.heap.size, 0, none⟩ = some (.int .u64 wants) := by rw [cell_of_row _ _ _ _ _ _ hx']; rfl
      have l1 : W'.cell? ⟨w.heap.size, 1, none⟩ = some (.int .u64 blocks) := by rw [cell_of_row _ _ _ _ _ _ hx']; rfl
      have hlk := HLK.out W' ((hC.block mp (by omega)).trans (HB.out.block mp hml))
      unfold encLeft at hlk
      dsimp only at hlk
      go_simp
      exact fix_value hC
    simp only [Act.put, List.setIfInBounds_toArray, List.set_cons_zero, List.set_cons_succ]
    refine WF_step ?_ (fun W' hC => ?_) rfl ?_
    rotate_left
    · have hp' := (hC.block pp (by omega)).trans HZP.out
      have hx' := (hC.block w.heap.size hxl).trans HX.out
      have d8 : W'.cell? ⟨pp, 8, none⟩ = some (.map (some mp)) := by rw [cell_of_row _ _ _ _ _ _ hp']; rfl
      have l0 : W'.cell? ⟨w.heap.size, 0, none⟩ = some (.int .u64 wants) := by rw [cell_of_row _ _ _ _ _ _ hx']; rfl
      have l1 : W'.cell? ⟨w.heap.size, 1, none⟩ = some (.int .u64 blocks) := by rw [cell_of_row _ _ _ _ _ _ hx']; rfl
      have hlk := HLK.out W' ((hC.block mp (by omega)).trans (HB.out.block mp hml))
      unfold encLeft at hlk
      dsimp only at hlk
      go_simp
      exact fix_value hC
    simp only [Act.put, List.setIfInBounds_toArray, List.set_cons_zero, List.set_cons_succ]
    refine WF_step ?_ (fun W' hC => ?_) rfl ?_
    rotate_left
    · have hp' := (hC.block pp (by omega)).trans HZP.out
      have hx' := (hC.block w.heap.size hxl).trans HX.out
      have d8 : W'.cell? ⟨pp, 8, none⟩ = some (.map (some mp)) := by rw [cell_of_row _ _ _ _ _ _ hp']; rfl
      have l0 : W'.cell? ⟨w.heap.size, 0, none⟩ = some (.int .u64 wants) := by rw [cell_of_row _ _ _ _ _ _ hx']; rfl
      have l1 : W'.cell? ⟨w.heap.size, 1, none⟩ = some (.int .u64 blocks) := by rw [cell_of_row _ _ _ _ _ _ hx']; rfl
      have hlk := HLK.out W' ((hC.block mp (by omega)).trans (HB.out.block mp hml))
      unfold encLeft at hlk
      dsimp only at hlk
      go_simp
      exact fix_value hC
    simp only [Act.put, List.setIfInBounds_toArray, List.set_cons_zero, List.set_cons_succ]
    refine WF_nil ?_
    intro W3 hC
    obtain ⟨hqn, hq4, h16, hqw, hsc⟩ := score_step HV.out wants blocks h0 hwl
    have h256 : blocks < 256 := Nat.lt_of_lt_of_le hbl (Nat.pow_le_pow_right (by decide : 0 < 2) (validSt_parts (validJb_parts HV.out).1).1 : _ ≤ 2 ^ 8)
    have hkw3 : Below w.heap.size w W3 := HB.out.trans (hC.mono hbz)
    have hcs := hC.size
    have hx3 := (hC.block w.heap.size hxl).trans HX.out
    have hjr3 : JobR j B pp mp bs ws r W3 := HJ.out.keeps (Keeps.of_below hkw3 (fun k h1 h2 => absurd h2 (by omega)))
    have hkp3 : KeptJ j mp W3 := HK.out.of (hkw3.block mp hml)
    have htz3 : TabZ W3 := HT.out.keeps (Keeps.of_below (Mut := fun k => k = mp) hkw3 (fun k h1 h2 => absurd h2 (by omega))) (by omega)
    have l0 : W3.cell? ⟨w.heap.size, 0, none⟩ = some (.int .u64 wants) := by rw [cell_of_row _ _ _ _ _ _ hx3]; rfl
    have HX3 := Lib.hid hx3
    have HJR3 := Lib.hid hjr3
    have HKP3 := Lib.hid hkp3
    have HTZ3 := Lib.hid htz3
    have HKW3 := Lib.hid hkw3
    clear hx3 hjr3 hkp3 htz3 hkw3
    cases b with
    | true =>
      have hxv := HXB.out rfl
      rw [← HSV.out] at hxv
      subst hxv
      go_wp2
      try dsimp only [Exit.noGoto]
      go_ret
      exact ⟨rfl, HKP3.out, Keeps.of_below HKW3.out (fun k h1 h2 => absurd h2 (by omega))⟩
    | false =>
      obtain ⟨q, hq⟩ : ∃ q, q = tzJ wants := ⟨_, rfl⟩
      go_wp2_with fail
      refine (tz_any wants (by omega) h16 _ HTZ3.out).mono ?_
      rintro e w4 ⟨rfl, rfl⟩
      rw [← hq] at hqn hq4 hqw hsc ⊢
      clear l0
      have hq4i : (q : Int) < 4 := by omega
      obtain ⟨L, hL⟩ : ∃ L, L = (rightsD j).getD q [] := ⟨_, rfl⟩
      obtain ⟨Rs, hRs⟩ : ∃ Rs, Rs = selJ (rightsD j) (afterJ wants (2 ^ q)) := ⟨_, rfl⟩
      rw [← hL, ← hRs] at hsc
      have hset := HJR3.out.right q hq4
      rw [← hL] at hset
      obtain ⟨ao, cap, hrv, _⟩ := id hset
      have d4 : W3.cell? ⟨pp, 4 + q, none⟩ = some (.slice ao L.length cap) := by
        rw [cell_of_row _ _ _ _ _ _ HJR3.out.o.obj, ← hrv]
        have hc : q = 0 ∨ q = 1 ∨ q = 2 ∨ q = 3 := by omega
        rcases hc with rfl | rfl | rfl | rfl <;> rfl
      rw [hrv] at hset
      have HSET := Lib.hid hset
      have HSC := Lib.hid hsc
      have HQ := Lib.hid hq
      have HL := Lib.hid hL
      have HRS := Lib.hid hRs
      obtain ⟨n, hn⟩ : ∃ n, n = L.length := ⟨_, rfl⟩
      rw [← hn] at d4
      have HN := Lib.hid hn
      clear hset hsc hq hL hRs hn hrv
      go_wp2_with fail
      refine wp_label ?_
      go_wp2_with fail
      go_loopw [7, 42] (fun bv iv wr => ∃ i : Nat, i ≤ n ∧ iv = .int .i64 i ∧ bv = scoreV (bestF Rs blocks (L.take i)) ∧ KeptJ j mp wr ∧ Keeps (fun k => k = mp) W3 wr)
        (fun _ iv _ => n - (intOf iv).toNat)
      case atStart => exact ⟨0, Nat.zero_le _, rfl, rfl, HKP3.out, Keeps.refl _ _⟩
      case round =>
        obtain ⟨i, hi, rfl, rfl, hkp, hkk⟩ := hrel
        have HKP := Lib.hid hkp
        have HKK := Lib.hid hkk
        have hxr := (hkk.block w.heap.size (lt_of_block HX3.out) (by omega)).trans HX3.out
        have c1 : wr.cell? ⟨w.heap.size, 1, none⟩ = some (.int .u64 blocks) := by rw [cell_of_row _ _ _ _ _ _ hxr]; rfl
        have c0 : wr.cell? ⟨w.heap.size, 0, none⟩ = some (.int .u64 wants) := by rw [cell_of_row _ _ _ _ _ _ hxr]; rfl
        have HXR := Lib.hid hxr
        clear hkp hkk hxr d4
        have hn256 : n ≤ 256 := by rw [HN.out, HL.out]; exact rights_len HV.out q
        by_cases hlt : i < n
        · have hlti : (i : Int) < (n : Int) := by omega
          obtain ⟨ao', cap', he, hel⟩ := HSET.out.later HKK.out.size (fun k h1 h2 => HKK.out.block k h1 h2)
          injection he with he1 he2 he3
          subst he1 he3
          clear he2
          obtain ⟨sb, so, rfl, hsm, hsl, e1⟩ := hel i (by rw [← HN.out]; exact hlt)
          obtain ⟨s, hs⟩ : ∃ s, s = L[i]'(by rw [← HN.out]; exact hlt) := ⟨_, rfl⟩
          rw [← hs] at e1
          have hs2 : s < 2 ^ j.st.bs.length := rights_lt q s (by rw [hs, ← HL.out]; exact List.getElem_mem _)
          have hs256 : s < 256 := Nat.lt_of_lt_of_le hs2 (Nat.pow_le_pow_right (by decide : 0 < 2) (validSt_parts (validJb_parts HV.out).1).1 : _ ≤ 2 ^ 8)
          have hw1 : IntKind.i64.wrap ((i : Int) + 1) = ((i + 1 : Nat) : Int) := by rw [IntWalk.i64_in _ (by omega)]; omega
          have HS := Lib.hid hs
          have hxor := not_u64 blocks h256
          have htk : L.take (i + 1) = L.take i ++ [s] := by rw [List.take_succ_eq_append_getElem (by rw [← HN.out]; exact hlt), HS.out]
          have hbs := bestF_snoc Rs blocks (L.take i) s
          rw [← htk] at hbs
          have HBS := Lib.hid hbs
          clear hel hs htk hbs
          go_wp2_with fail
          refine (japart_any s blocks hs256 h256 _).mono ?_
          rintro e w5 ⟨rfl, rfl⟩
          cases hsub : subJ s blocks with
          | false =>
            have HSUB := Lib.hid hsub
            clear hsub
            go_wp2_with fail
            exact ⟨⟨i + 1, hlt, by push_cast; rfl, by rw [HBS.out, HSUB.out]; rfl, HKP.out, HKK.out⟩, by simp [intOf]; omega⟩
          | true =>
            have HSUB := Lib.hid hsub
            clear hsub
            go_wp2_with fail
            refine (jafter_any wants blocks s q (by omega) h256 hs256 (by omega) _).mono ?_
            rintro e w6 ⟨rfl, hb6⟩
            dsimp only
            have hk6 : Keeps (fun k => k = mp) W3 w6 := HKK.out.trans (Keeps.of_below hb6 (fun k h1 h2 => absurd h2 (by omega)))
            have hkp6 := HKP.out.of (hb6.block mp HKP.out.lt)
            have HK6 := Lib.hid hk6
            have HKP6 := Lib.hid hkp6
            clear hb6 hk6 hkp6
            go_wp2_with fail
            refine (HIH.out (afterJ wants (2 ^ q)) hqw (by omega) (afterJ blocks s) (afterJ_lt _ _ _ hbl) _ (HJR3.out.keeps HK6.out) HKP6.out (HTZ3.out.keeps HK6.out (by omega))).mono ?_
            rintro e w7 ⟨rfl, hkp7, hk7⟩
            dsimp only
            have hk37 := HK6.out.trans hk7
            have HKP7 := Lib.hid hkp7
            have HK37 := Lib.hid hk37
            clear hkp7 hk7 hk37
            have hdef : scoreD j (afterJ wants (2 ^ q)) (afterJ blocks s) = scoreJ 8 Rs (afterJ blocks s) := by rw [HRS.out]; rfl
            rw [hdef]
            clear hdef
            have hbz : ∀ y, bestF Rs blocks (L.take i) = some y → y.2 ≤ 8 := fun y hy => bestF_le Rs blocks _ _ rfl y hy
            have hsz := size_le 8 s
            obtain ⟨sz, hszd⟩ : ∃ n, n = sizeJ 8 s := ⟨_, rfl⟩
            have HSZ := Lib.hid hszd
            obtain ⟨best, hbest⟩ : ∃ x, x = bestF Rs blocks (L.take i) := ⟨_, rfl⟩
            rw [← hbest] at hbz ⊢
            have HBEST := Lib.hid hbest
            have m1 := method_ncan
            have m2 := method_nleast
            have m3 := method_pcan
            have m4 := method_pleast
            have sv0 : scoreV none = .iface 92 (.agg #[]) := rfl
            have sv1 : ∀ y : Nat × Nat, scoreV (some y) = .iface 94 (.agg #[.int .u64 y.1, .int .i64 y.2]) := fun _ => rfl
            have SV := Lib.hid (And.intro sv0 sv1)
            clear sv0 sv1
            cases hz : scoreJ 8 Rs (afterJ blocks s) with
            | none =>
              have HZ := Lib.hid hz
              clear hz hbest hszd
              rw [SV.out.1]
              go_wp2_with fail
              refine (jmany_any s hs256 _).mono ?_
              rintro e w8 ⟨rfl, rfl⟩
              rw [← HSZ.out]
              go_wp2_with fail
              refine (never_least _).mono ?_
              rintro e w8 ⟨rfl, hb8⟩
              dsimp only
              have hk8 := HK37.out.trans (Keeps.of_below hb8 (fun k h1 h2 => absurd h2 (by omega)))
              have hkp8 := HKP7.out.of (hb8.block mp HKP7.out.lt)
              have H8 := Lib.hid (And.intro hk8 hkp8)
              clear hb8 hk8 hkp8
              go_wp2_with fail
              refine (never_can _).mono ?_
              rintro e w9 ⟨rfl, hb9⟩
              dsimp only
              have hk9 := H8.out.1.trans (Keeps.of_below hb9 (fun k h1 h2 => absurd h2 (by omega)))
              have hkp9 := H8.out.2.of (hb9.block mp H8.out.2.lt)
              have H9 := Lib.hid (And.intro hk9 hkp9)
              clear hb9 hk9 hkp9
              go_wp2_with fail
              exact ⟨⟨i + 1, hlt, by push_cast; rfl, by rw [HBS.out, HSUB.out, HZ.out, HBEST.out]; rfl, H9.out.2, H9.out.1⟩, by simp [intOf]; omega⟩
            | some z =>
              obtain ⟨z1, z2⟩ := z
              have hstep : sz + z2 ≤ 8 := by rw [HSZ.out]; exact step_le HSUB.out hz
              have HZ := Lib.hid hz
              clear hz hbest hszd
              rw [SV.out.2]
              go_wp2_with fail
              refine (jmany_any s hs256 _).mono ?_
              rintro e w8 ⟨rfl, rfl⟩
              rw [← HSZ.out]
              go_wp2_with fail
              refine (plan_least z1 z2 (by omega) _).mono ?_
              rintro e w8 ⟨rfl, hb8⟩
              dsimp only
              have hk8 := HK37.out.trans (Keeps.of_below hb8 (fun k h1 h2 => absurd h2 (by omega)))
              have hkp8 := HKP7.out.of (hb8.block mp HKP7.out.lt)
              have H8 := Lib.hid (And.intro hk8 hkp8)
              have hwz : IntKind.i64.wrap ((sz : Int) + (z2 : Int)) = ((sz + z2 : Nat) : Int) := by rw [IntWalk.i64_in _ (by omega)]; omega
              clear hb8 hk8 hkp8
              go_wp2_with fail
              refine (plan_can z1 z2 _).mono ?_
              rintro e w9 ⟨rfl, hb9⟩
              dsimp only
              have hk9 := H8.out.1.trans (Keeps.of_below hb9 (fun k h1 h2 => absurd h2 (by omega)))
              have hkp9 := H8.out.2.of (hb9.block mp H8.out.2.lt)
              have H9 := Lib.hid (And.intro hk9 hkp9)
              clear hb9 hk9 hkp9
              cases best with
              | none =>
                rw [SV.out.1]
                go_wp2_with fail
                refine (never_least _).mono ?_
                rintro e w10 ⟨rfl, hb10⟩
                dsimp only
                have hk10 := H9.out.1.trans (Keeps.of_below hb10 (fun k h1 h2 => absurd h2 (by omega)))
                have hkp10 := H9.out.2.of (hb10.block mp H9.out.2.lt)
                have H10 := Lib.hid (And.intro hk10 hkp10)
                clear hb10 hk10 hkp10
                have hc9 : (sz : Int) + (z2 : Int) < 9 := by omega
                go_wp2_with fail
                exact ⟨⟨i + 1, hlt, by push_cast; rfl, by rw [HBS.out, HSUB.out, HZ.out, ← HBEST.out, ← HSZ.out]; simp [scoreV], H10.out.2, H10.out.1⟩, by simp [intOf]; omega⟩
              | some y =>
                obtain ⟨y1, y2⟩ := y
                have hy8 : y2 ≤ 8 := hbz _ rfl
                rw [SV.out.2]
                go_wp2_with fail
                refine (plan_least y1 y2 hy8 _).mono ?_
                rintro e w10 ⟨rfl, hb10⟩
                dsimp only
                have hk10 := H9.out.1.trans (Keeps.of_below hb10 (fun k h1 h2 => absurd h2 (by omega)))
                have hkp10 := H9.out.2.of (hb10.block mp H9.out.2.lt)
                have H10 := Lib.hid (And.intro hk10 hkp10)
                clear hb10 hk10 hkp10
                by_cases hc9 : (sz : Int) + (z2 : Int) < (y2 : Int)
                · go_wp2_with fail
                  exact ⟨⟨i + 1, hlt, by push_cast; rfl, by rw [HBS.out, HSUB.out, HZ.out, ← HBEST.out, ← HSZ.out]; simp only [if_true]; rw [if_pos (by rw [decide_eq_true_eq]; omega)]; simp [scoreV], H10.out.2, H10.out.1⟩, by simp [intOf]; omega⟩
                · go_wp2_with fail
                  exact ⟨⟨i + 1, hlt, by push_cast; rfl, by rw [HBS.out, HSUB.out, HZ.out, ← HBEST.out, ← HSZ.out]; simp only [if_true]; rw [if_neg (by rw [decide_eq_true_eq]; omega)]; simp [scoreV], H10.out.2, H10.out.1⟩, by simp [intOf]; omega⟩
        · obtain rfl : i = n := by omega
          have hlti : ¬ (i : Int) < (i : Int) := by omega
          have hall : bestF Rs blocks (L.take i) = scoreD j wants blocks := by rw [HN.out, List.take_length, HSC.out]
          rw [hall, ← HSV.out]
          have hzs := HKK.out.size
          have hzm := HKP.out.lt
          have hml3 := lt_of_block HXR.out
          have hpo := (HKK.out.block pp (lt_of_block HJR3.out.o.obj) (by omega)).trans HJR3.out.o.obj
          have HPO := Lib.hid hpo
          clear hall hpo c0 c1
          go_wp2_with fail
          refine region_fix 6 (fun W' => Below wr.heap.size wr W') (by kernel_rfl) (by kernel_rfl) (Below.refl _ _).drew ?_
          simp only [List.take_succ_cons, List.take_zero, List.drop_succ_cons, List.drop_zero]
          refine WF_step ?_ (fun W' hC => ?_) rfl ?_
          rotate_left
          · have hp' := (hC.block pp (lt_of_block HPO.out)).trans HPO.out
            have hx' := (hC.block w.heap.size (lt_of_block HXR.out)).trans HXR.out
            have d8 : W'.cell? ⟨pp, 8, none⟩ = some (.map (some mp)) := by rw [cell_of_row _ _ _ _ _ _ hp']; rfl
            have l0 : W'.cell? ⟨w.heap.size, 0, none⟩ = some (.int .u64 wants) := by rw [cell_of_row _ _ _ _ _ _ hx']; rfl
            have l1 : W'.cell? ⟨w.heap.size, 1, none⟩ = some (.int .u64 blocks) := by rw [cell_of_row _ _ _ _ _ _ hx']; rfl
            go_simp
            exact fix_value hC
          simp only [Act.put, List.setIfInBounds_toArray, List.set_cons_zero, List.set_cons_succ]
          refine WF_step ?_ (fun W' hC => ?_) rfl ?_
          rotate_left
          · have hp' := (hC.block pp (lt_of_block HPO.out)).trans HPO.out
            have hx' := (hC.block w.heap.size (lt_of_block HXR.out)).trans HXR.out
            have d8 : W'.cell? ⟨pp, 8, none⟩ = some (.map (some mp)) := by rw [cell_of_row _ _ _ _ _ _ hp']; rfl
            have l0 : W'.cell? ⟨w.heap.size, 0, none⟩ = some (.int .u64 wants) := by rw [cell_of_row _ _ _ _ _ _ hx']; rfl
            have l1 : W'.cell? ⟨w.heap.size, 1, none⟩ = some (.int .u64 blocks) := by rw [cell_of_row _ _ _ _ _ _ hx']; rfl
            go_simp
            exact fix_value hC
          simp only [Act.put, List.setIfInBounds_toArray, List.set_cons_zero, List.set_cons_succ]
          refine WF_step ?_ (fun W' hC => ?_) rfl ?_
          rotate_left
          · have hp' := (hC.block pp (lt_of_block HPO.out)).trans HPO.out
            have hx' := (hC.block w.heap.size (lt_of_block HXR.out)).trans HXR.out
            have d8 : W'.cell? ⟨pp, 8, none⟩ = some (.map (some mp)) := by rw [cell_of_row _ _ _ _ _ _ hp']; rfl
            have l0 : W'.cell? ⟨w.heap.size, 0, none⟩ = some (.int .u64 wants) := by rw [cell_of_row _ _ _ _ _ _ hx']; rfl
            have l1 : W'.cell? ⟨w.heap.size, 1, none⟩ = some (.int .u64 blocks) := by rw [cell_of_row _ _ _ _ _ _ hx']; rfl
            go_simp
            exact fix_value hC
          simp only [Act.put, List.setIfInBounds_toArray, List.set_cons_zero, List.set_cons_succ]
          refine WF_step ?_ (fun W' hC => ?_) rfl ?_
          rotate_left
          · have hp' := (hC.block pp (lt_of_block HPO.out)).trans HPO.out
            have hx' := (hC.block w.heap.size (lt_of_block HXR.out)).trans HXR.out
            have d8 : W'.cell? ⟨pp, 8, none⟩ = some (.map (some mp)) := by rw [cell_of_row _ _ _ _ _ _ hp']; rfl
            have l0 : W'.cell? ⟨w.heap.size, 0, none⟩ = some (.int .u64 wants) := by rw [cell_of_row _ _ _ _ _ _ hx']; rfl
            have l1 : W'.cell? ⟨w.heap.size, 1, none⟩ = some (.int .u64 blocks) := by rw [cell_of_row _ _ _ _ _ _ hx']; rfl
            go_simp
            exact fix_value hC
          simp only [Act.put, List.setIfInBounds_toArray, List.set_cons_zero, List.set_cons_succ]
          refine WF_step ?_ (fun W' hC => ?_) rfl ?_
          rotate_left
          · have hp' := (hC.block pp (lt_of_block HPO.out)).trans HPO.out
            have hx' := (hC.block w.heap.size (lt_of_block HXR.out)).trans HXR.out
            have d8 : W'.cell? ⟨pp, 8, none⟩ = some (.map (some mp)) := by rw [cell_of_row _ _ _ _ _ _ hp']; rfl
            have l0 : W'.cell? ⟨w.heap.size, 0, none⟩ = some (.int .u64 wants) := by rw [cell_of_row _ _ _ _ _ _ hx']; rfl
            have l1 : W'.cell? ⟨w.heap.size, 1, none⟩ = some (.int .u64 blocks) := by rw [cell_of_row _ _ _ _ _ _ hx']; rfl
            go_simp
            exact fix_value hC
          simp only [Act.put, List.setIfInBounds_toArray, List.set_cons_zero, List.set_cons_succ]
          refine WF_step ?_ (fun W' hC => ?_) rfl ?_
          rotate_left
          · have hp' := (hC.block pp (lt_of_block HPO.out)).trans HPO.out
            have hx' := (hC.block w.heap.size (lt_of_block HXR.out)).trans HXR.out
            have d8 : W'.cell? ⟨pp, 8, none⟩ = some (.map (some mp)) := by rw [cell_of_row _ _ _ _ _ _ hp']; rfl
            have l0 : W'.cell? ⟨w.heap.size, 0, none⟩ = some (.int .u64 wants) := by rw [cell_of_row _ _ _ _ _ _ hx']; rfl
            have l1 : W'.cell? ⟨w.heap.size, 1, none⟩ = some (.int .u64 blocks) := by rw [cell_of_row _ _ _ _ _ _ hx']; rfl
            go_simp
            exact fix_value hC
          simp only [Act.put, List.setIfInBounds_toArray, List.set_cons_zero, List.set_cons_succ]
          refine WF_nil ?_
          intro W5 hC5
          obtain ⟨ob, hput, hkput⟩ := (HKP.out.of (hC5.block mp hzm)).put (wants, blocks)
          unfold encLeft at hput
          dsimp only at hput
          rw [← HSV.out] at hput
          have hkW5 : Keeps (fun k => k = mp) W3 (W5.putObj mp ob) := HKK.out.trans (Keeps.of_put hC5 ob)
          have HPUT := Lib.hid (And.intro hkput hkW5)
          clear hkput hkW5 hC5
          go_wp2_with fail
          try dsimp only [Exit.noGoto]
          go_ret
          exact ⟨rfl, HPUT.out.1, (Keeps.of_below HKW3.out (fun k h1 h2 => absurd h2 (by omega))).trans HPUT.out.2⟩
end Go.Proofs.YtbmfphiecllggaaDoor

/- Open for all jobs; whether wants can be met at once; which wants can be met alone. -/
namespace Go.Proofs.YtbmfphiecllggaaDoor
set_option linter.unusedVariables false
set_option linter.unusedSimpArgs false
open Go.RowKit Go.Shelf
attribute [local go_sem] Oper.semAt_some

/-- A job that is looked at, with its memory. -/
structure JobK (j : JobD) (B pp mp : Nat) (bs ws : Value) (r : Nat → Value) (W : World) : Prop where
  r : JobR j B pp mp bs ws r W
  kept : KeptJ j mp W
  tz : TabZ W
  hB : 1 < B
theorem JobK.keeps {j : JobD} {B pp mp : Nat} {bs ws : Value} {r : Nat → Value} {W W' : World} (h : JobK j B pp mp bs ws r W) (hk : Keeps (fun k => k = mp) W W') (hkp : KeptJ j mp W') : JobK j B pp mp bs ws r W' :=
  ⟨h.r.keeps hk, hkp, h.tz.keeps hk (by have := h.hB; have := h.r.o.lm; omega), h.hB⟩
theorem JobK.later {j : JobD} {B pp mp : Nat} {bs ws : Value} {r : Nat → Value} {W W' : World} (h : JobK j B pp mp bs ws r W) (hb : Below W.heap.size W W') : JobK j B pp mp bs ws r W' :=
  h.keeps (Keeps.of_below hb (fun k h1 h2 => absurd h2 (by omega))) (h.kept.of (hb.block mp h.kept.lt))
theorem TabZ.lt {w : World} (h : TabZ w) : 1 < w.heap.size := by
  have := h.c0
  unfold World.cell? at this
  rcases Nat.lt_or_ge 1 w.heap.size with h1 | h1
  · exact h1
  · rw [Array.getElem?_eq_none h1] at this; simp at this
theorem TabZ.below {B : Nat} {w w' : World} (h : TabZ w) (hb : Below B w w') (hB : 1 < B) : TabZ w' := by
  have he : ∀ i, w'.cell? ⟨1, i, none⟩ = w.cell? ⟨1, i, none⟩ := fun i => World.cell?_of_block (w := w) (w' := w') (a := ⟨1, i, none⟩) (hb.block 1 hB)
  exact ⟨(he 0).trans h.c0, (he 1).trans h.c1, (he 3).trans h.c3, (he 7).trans h.c7⟩
theorem scoreO {j : JobD} (hv : validJb j = true) {B pp mp : Nat} {bs ws : Value} {r : Nat → Value} (wants : Nat) (hw : wants < 2 ^ j.ws.length) (blocks : Nat) (hb : blocks < 2 ^ j.st.bs.length) (w : World) (h : JobK j B pp mp bs ws r w) :
    Calls Tryd.prog 61 #[.pointer (some ⟨pp, 0, none⟩), .agg #[.int .u64 wants, .int .u64 blocks]] w fun e w' => e = .returned (scoreV (scoreD j wants blocks)) ∧ JobK j B pp mp bs ws r w' ∧ Keeps (fun k => k = mp) w w' :=
  (score_any hv h.hB wants hw blocks hb w h.r h.kept h.tz).mono fun _ _ ⟨h1, h2, h3⟩ => ⟨h1, h.keeps h3 h2, h3⟩
theorem allD_lt (j : JobD) : allD j < 2 ^ j.st.bs.length := by have := Nat.two_pow_pos j.st.bs.length; unfold allD; omega
theorem everyD_lt (j : JobD) : everyD j < 2 ^ j.ws.length := by have := Nat.two_pow_pos j.ws.length; unfold everyD; omega
set_option maxHeartbeats 4000000 in
theorem can_any {j : JobD} (hv : validJb j = true) {B pp mp : Nat} {bs ws : Value} {r : Nat → Value} (wants : Nat) (hw : wants < 2 ^ j.ws.length) (w : World) (h : JobK j B pp mp bs ws r w) :
    Calls Tryd.prog 55 #[.pointer (some ⟨pp, 0, none⟩), .int .u64 wants] w fun e w' => e = .returned (.bool (canD j wants)) ∧ JobK j B pp mp bs ws r w' ∧ Keeps (fun k => k = mp) w w' := by
  have H := Lib.hid h
  have HV := Lib.hid hv
  have hlm := h.r.o.lm
  clear h hv
  unfold canD
  obtain ⟨z, hz⟩ : ∃ z, z = scoreD j wants (allD j) := ⟨_, rfl⟩
  rw [← hz]
  have HZ := Lib.hid hz
  clear hz
  go_enter Tryd.func55, Tryd.ntmps55
  go_wp2_with fail
  refine (jall_any (validSt_parts (validJb_parts HV.out).1).1 _ H.out.r.o).mono ?_
  rintro e w1 ⟨rfl, rfl⟩
  go_wp2_with fail
  refine (scoreO HV.out wants hw (allD j) (allD_lt j) _ H.out).mono ?_
  rintro e w2 ⟨rfl, hj2, hk2⟩
  dsimp only
  rw [← HZ.out]
  clear HZ
  have H2 := Lib.hid (And.intro hj2 hk2)
  clear hj2 hk2
  have m1 := method_ncan
  have m3 := method_pcan
  have sv0 : scoreV none = .iface 92 (.agg #[]) := rfl
  have sv1 : ∀ y : Nat × Nat, scoreV (some y) = .iface 94 (.agg #[.int .u64 y.1, .int .i64 y.2]) := fun _ => rfl
  cases z with
  | none =>
    rw [sv0]
    clear sv0 sv1
    go_wp2_with fail
    refine (never_can _).mono ?_
    rintro e w3 ⟨rfl, hb3⟩
    dsimp only
    have H3 := Lib.hid (And.intro (H2.out.1.later hb3) (H2.out.2.trans (Keeps.of_below hb3 (fun k h1 h2 => absurd h2 (by omega)))))
    clear hb3
    go_wp2
    go_ret
    exact ⟨rfl, H3.out.1, H3.out.2⟩
  | some x =>
    rw [sv1]
    clear sv0 sv1
    go_wp2_with fail
    refine (plan_can x.1 x.2 _).mono ?_
    rintro e w3 ⟨rfl, hb3⟩
    dsimp only
    have H3 := Lib.hid (And.intro (H2.out.1.later hb3) (H2.out.2.trans (Keeps.of_below hb3 (fun k h1 h2 => absurd h2 (by omega)))))
    clear hb3
    go_wp2
    go_ret
    exact ⟨rfl, H3.out.1, H3.out.2⟩
/-- Open for whatever job. -/
theorem open_always (j : JobD) (bs ws : Value) (w : World) (hbs : SpansAt w bs j.st.bs (fun k => k < w.heap.size)) (hws : SpansAt w ws j.ws (fun k => k < w.heap.size)) :
    Calls Tryd.prog 47 #[jobV j bs ws, .func (.func 48) #[] #[]] w (OpenJ j true bs ws w) :=
  jopen_any j bs ws 48 #[] true w hbs hws (enters_of Tryd.func48 (by kernel_rfl) rfl) (fun _ W pp mp _ _ => (jalways_any _ W).mono fun e W' ⟨h1, h2⟩ => ⟨h1, h2 ▸ Below.refl _ _⟩)
theorem errD_valid {j : JobD} {ok : Bool} (h : errD j ok = 0) : validJb j = true ∧ ok = true := by
  unfold errD at h
  split at h
  · cases h
  · rename_i hv
    split at h
    · cases h
    · rename_i ho
      exact ⟨by simpa using hv, by simpa using ho⟩
theorem err_set {W : World} {E : Nat} {x y : Int} (h : W.heap[E]? = some (.cells #[.int .i64 x] 33 (0, 0))) : (W.setCell ⟨E, 0, none⟩ (.int .i64 y)).cell? ⟨E, 0, none⟩ = some (.int .i64 y) := by
  have : (W.setCell ⟨E, 0, none⟩ (.int .i64 y)).heap[E]? = some (.cells #[.int .i64 y] 33 (0, 0)) := by simp [World.setCell, Array.getElem?_modify, h]
  rw [cell_of_row _ _ _ _ _ _ this]; rfl
set_option maxHeartbeats 4000000 in
theorem Alone_any (j : JobD) (bs ws : Value) (w : World) (hbs : SpansAt w bs j.st.bs (fun k => k < w.heap.size)) (hws : SpansAt w ws j.ws (fun k => k < w.heap.size)) :
    Calls Tryd.prog 14 #[jobV j bs ws] w fun e w' => e = .returned (.tuple #[.int .i64 (aloneD j).1, .int .i64 (aloneD j).2]) ∧ Below w.heap.size w w' := by
  have HBS := Lib.hid hbs
  have HWS := Lib.hid hws
  obtain ⟨ao, cap, hv1, _⟩ := id hbs
  obtain ⟨ao2, cap2, hv2, _⟩ := id hws
  subst hv1 hv2
  obtain ⟨nb, hnb⟩ : ∃ n, n = j.st.bs.length := ⟨_, rfl⟩
  obtain ⟨nw, hnw⟩ : ∃ n, n = j.ws.length := ⟨_, rfl⟩
  rw [← hnb] at HBS
  rw [← hnw] at HWS
  unfold jobV
  rw [← hnb, ← hnw]
  have HNB := Lib.hid hnb
  have HNW := Lib.hid hnw
  clear hbs hws hnb hnw
  go_enter_defers Tryd.func14, Tryd.ntmps14
  go_wp2_with fail
  refine (open_always j (.slice ao nb cap) (.slice ao2 nw cap2) _ (by rw [HNB.out] at HBS ⊢; exact (HBS.out.later (by simp <;> omega) (fun k h1 h2 => (hget_old _ _ _ (by simp; omega)).trans (hget_old _ _ _ (by omega)))).low) (by rw [HNW.out] at HWS ⊢; exact (HWS.out.later (by simp <;> omega) (fun k h1 h2 => (hget_old _ _ _ (by simp; omega)).trans (hget_old _ _ _ (by omega)))).low)).mono ?_
  rintro e w1 ⟨hb1, hres⟩
  have he1 := (hb1.block (w.heap.size + 1) (by simp <;> omega)).trans (heap_alloc_at _ (.cells #[.int .i64 0] 33) _ (by simp))
  have hx1 := (hb1.block w.heap.size (by simp <;> omega)).trans ((hget_old _ _ _ (by simp)).trans (heap_alloc_at w (.cells #[.slice ao nb cap, .int .i64 j.st.film.1, .int .i64 j.st.film.2, .slice ao2 nw cap2] 28) _ rfl))
  have hbw : Below w.heap.size w w1 := (((Below.refl _ _).alloc (Nat.le_refl _) _).alloc (by simp) _).trans (hb1.mono (by simp <;> omega))
  have HE1 := Lib.hid he1
  have HX1 := Lib.hid hx1
  have HBW := Lib.hid hbw
  clear hb1 he1 hx1 hbw
  rcases hres with ⟨hne, rfl⟩ | ⟨he, pp, mp, r, rfl, hj, hm⟩
  · skip
    obtain ⟨er, her⟩ : ∃ x, x = errD j true := ⟨_, rfl⟩
    rw [← her] at hne ⊢
    have HNE := Lib.hid (And.intro hne her)
    clear hne her
    dsimp only
    go_wp2_with fail
    refine jleaf_stop er (w.heap.size + 1) 0 _ w1 HE1.out (fun W' hkE heE => ?_)
    have e9 : W'.cell? ⟨w.heap.size + 1, 0, none⟩ = some (.int .i64 er) := by rw [cell_of_row _ _ _ _ _ _ heE]; rfl
    have hval : aloneD j = ((0 : Int), er) := by unfold aloneD; rw [← HNE.out.2, if_pos HNE.out.1]
    exact ⟨_, by simp [results, Tryd.results14, go_sem, e9]; rfl, by rw [hval], HBW.out.trans (hkE.below HBW.out.size (fun k h e => by omega))⟩
  · skip
    dsimp only
    have hv := (errD_valid he).1
    have HV := Lib.hid hv
    have HERR := Lib.hid he
    obtain ⟨B, hBB⟩ : ∃ B, B = w.heap.size + 1 + 1 := ⟨_, rfl⟩
    have hsz : ((w.alloc (.cells #[.slice ao nb cap, .int .i64 j.st.film.1, .int .i64 j.st.film.2, .slice ao2 nw cap2] 28)).alloc (.cells #[.int .i64 0] 33)).heap.size = B := by rw [hBB]; simp
    rw [hsz] at hj
    have HJ := Lib.hid hj
    have HM := Lib.hid hm
    clear he hj hm hv hsz
    go_wp2_with fail
    refine (alone_any HV.out _ HJ.out.o).mono ?_
    rintro e w2 ⟨rfl, hb2⟩
    dsimp only
    have he2 := (hb2.block _ (lt_of_block HE1.out)).trans HE1.out
    have hbw2 := HBW.out.trans (hb2.mono HBW.out.size)
    have hc2 : w2.cell? ⟨w.heap.size + 1, 0, none⟩ = some (.int .i64 0) := by rw [cell_of_row _ _ _ _ _ _ he2]; rfl
    have hf2 : w2.frozen? ⟨w.heap.size + 1, 0, none⟩ = false := frozen_of_row _ _ 0 _ _ he2
    have hal : aloneN j < 2 ^ 4 := Nat.lt_of_lt_of_le (setJ_lt _ _) (Nat.pow_le_pow_right (by decide) (validJb_parts HV.out).2.1)
    have hw1 : IntKind.i64.wrap ((aloneN j : Nat) : Int) = ((aloneN j : Nat) : Int) := IntWalk.i64_in _ (by omega)
    have H2 := Lib.hid (And.intro he2 hbw2)
    clear hb2 he2 hbw2
    go_wp2_with fail
    have e9 := err_set (y := 0) H2.out.1
    have hval : aloneD j = (((aloneN j : Nat) : Int), (0 : Int)) := by unfold aloneD; rw [HERR.out]; rfl
    exact jleaf_ret (w.heap.size + 1) _ _ ⟨_, by simp [results, Tryd.results14, go_sem, e9]; rfl, by rw [hval], H2.out.2.trans ((Keeps.setCell (Mut := fun k => k = w.heap.size + 1) _ _ _ rfl).below H2.out.2.size (fun k h e => by omega))⟩
end Go.Proofs.YtbmfphiecllggaaDoor

/- Which blocks can be lent. -/
namespace Go.Proofs.YtbmfphiecllggaaDoor
set_option linter.unusedVariables false
set_option linter.unusedSimpArgs false
open Go.RowKit Go.Shelf
attribute [local go_sem] Oper.semAt_some
theorem Below.alloc' (w : World) (o : Obj) : Below w.heap.size w (w.alloc o) := (Below.refl _ _).alloc (Nat.le_refl _) _
def lendF (j : JobD) (b : Nat) : Bool := (scoreD j (everyD j) (afterJ (allD j) (2 ^ b))).isSome
theorem lend_set (j : JobD) : lendN j = setJ (lendF j) j.st.bs.length := rfl
set_option maxRecDepth 100000 in
set_option maxHeartbeats 8000000 in
theorem Lend_any (j : JobD) (bs ws : Value) (w : World) (hbs : SpansAt w bs j.st.bs (fun k => k < w.heap.size)) (hws : SpansAt w ws j.ws (fun k => k < w.heap.size)) (htz : TabZ w) :
    Calls Tryd.prog 22 #[jobV j bs ws] w fun e w' => e = .returned (.tuple #[.int .i64 (lendD j).1, .int .i64 (lendD j).2]) ∧ Below w.heap.size w w' := by
  have HTZ := Lib.hid htz
  have h1z := htz.lt
  clear htz
  have HBS := Lib.hid hbs
  have HWS := Lib.hid hws
  obtain ⟨ao, cap, hv1, _⟩ := id hbs
  obtain ⟨ao2, cap2, hv2, _⟩ := id hws
  subst hv1 hv2
  obtain ⟨nb, hnb⟩ : ∃ n, n = j.st.bs.length := ⟨_, rfl⟩
  obtain ⟨nw, hnw⟩ : ∃ n, n = j.ws.length := ⟨_, rfl⟩
  rw [← hnb] at HBS
  rw [← hnw] at HWS
  unfold jobV
  rw [← hnb, ← hnw]
  have HNB := Lib.hid hnb
  have HNW := Lib.hid hnw
  clear hbs hws hnb hnw
  go_enter_defers Tryd.func22, Tryd.ntmps22
  go_wp2_with fail
  refine (open_always j (.slice ao nb cap) (.slice ao2 nw cap2) _ (by rw [HNB.out] at HBS ⊢; exact (HBS.out.later (by simp <;> omega) (fun k h1 h2 => (hget_old _ _ _ (by simp; omega)).trans (hget_old _ _ _ (by omega)))).low) (by rw [HNW.out] at HWS ⊢; exact (HWS.out.later (by simp <;> omega) (fun k h1 h2 => (hget_old _ _ _ (by simp; omega)).trans (hget_old _ _ _ (by omega)))).low)).mono ?_
  rintro e w1 ⟨hb1, hres⟩
  have he1 := (hb1.block (w.heap.size + 1) (by simp <;> omega)).trans (heap_alloc_at _ (.cells #[.int .i64 0] 33) _ (by simp))
  have hx1 := (hb1.block w.heap.size (by simp <;> omega)).trans ((hget_old _ _ _ (by simp)).trans (heap_alloc_at w (.cells #[.slice ao nb cap, .int .i64 j.st.film.1, .int .i64 j.st.film.2, .slice ao2 nw cap2] 28) _ rfl))
  have hbw : Below w.heap.size w w1 := (((Below.refl _ _).alloc (Nat.le_refl _) _).alloc (by simp) _).trans (hb1.mono (by simp <;> omega))
  have HE1 := Lib.hid he1
  have HX1 := Lib.hid hx1
  have HBW := Lib.hid hbw
  clear hb1 he1 hx1 hbw
  rcases hres with ⟨hne, rfl⟩ | ⟨he, pp, mp, r, rfl, hj, hm⟩
  · skip
    obtain ⟨er, her⟩ : ∃ x, x = errD j true := ⟨_, rfl⟩
    rw [← her] at hne ⊢
    have HNE := Lib.hid (And.intro hne her)
    clear hne her
    dsimp only
    go_wp2_with fail
    refine jleaf_stop er (w.heap.size + 1) 0 _ w1 HE1.out (fun W' hkE heE => ?_)
    have e9 : W'.cell? ⟨w.heap.size + 1, 0, none⟩ = some (.int .i64 er) := by rw [cell_of_row _ _ _ _ _ _ heE]; rfl
    have hval : lendD j = ((0 : Int), er) := by unfold lendD; rw [← HNE.out.2, if_pos HNE.out.1]
    exact ⟨_, by simp [results, Tryd.results22, go_sem, e9]; rfl, by rw [hval], HBW.out.trans (hkE.below HBW.out.size (fun k h e => by omega))⟩
  · skip
    dsimp only
    have hv := (errD_valid he).1
    have HV := Lib.hid hv
    have HERR := Lib.hid he
    obtain ⟨B, hBB⟩ : ∃ B, B = w.heap.size + 1 + 1 := ⟨_, rfl⟩
    have hsz : ((w.alloc (.cells #[.slice ao nb cap, .int .i64 j.st.film.1, .int .i64 j.st.film.2, .slice ao2 nw cap2] 28)).alloc (.cells #[.int .i64 0] 33)).heap.size = B := by rw [hBB]; simp
    rw [hsz] at hj
    have HJ := Lib.hid hj
    have HM := Lib.hid hm
    clear he hj hm hv hsz
    have hjk : JobK j B pp mp (.slice ao nb cap) (.slice ao2 nw cap2) r w1 := ⟨HJ.out, KeptJ.nil HM.out, HTZ.out.below HBW.out h1z, by omega⟩
    have HJK := Lib.hid hjk
    have hlm := hjk.r.o.lm
    clear hjk HJ HM
    have hnb8 : nb ≤ 8 := by rw [HNB.out]; exact (validSt_parts (validJb_parts HV.out).1).1
    go_wp2_with fail
    refine (jevery_any (validJb_parts HV.out).2.1 _ HJK.out.r.o).mono ?_
    rintro e w2 ⟨rfl, rfl⟩
    go_wp2_with fail
    refine (can_any HV.out (everyD j) (everyD_lt j) _ HJK.out).mono ?_
    rintro e w2 ⟨rfl, hjk2, hk2⟩
    dsimp only
    have he2 := (hk2.block _ (lt_of_block HE1.out) (by omega)).trans HE1.out
    have hx2 := (hk2.block _ (lt_of_block HX1.out) (by omega)).trans HX1.out
    have hbw2 := HBW.out.trans (hk2.below HBW.out.size (fun k h e => by omega))
    have HJ2 := Lib.hid hjk2
    have HE2 := Lib.hid he2
    have HX2 := Lib.hid hx2
    have HB2 := Lib.hid hbw2
    clear hjk2 hk2 he2 hx2 hbw2
    cases hcan : canD j (everyD j) with
    | false =>
      have HCAN := Lib.hid hcan
      clear hcan
      go_wp2_with fail
      refine (jask_no 4 _).mono ?_
      rintro e w' ⟨rfl, rfl⟩
      dsimp only
      go_wp2_with fail
      refine jleaf_stop 4 (w.heap.size + 1) 0 _ w2 HE2.out (fun W' hkE heE => ?_)
      have e9 : W'.cell? ⟨w.heap.size + 1, 0, none⟩ = some (.int .i64 4) := by rw [cell_of_row _ _ _ _ _ _ heE]; rfl
      have hval : lendD j = ((0 : Int), (4 : Int)) := by unfold lendD; rw [HERR.out, HCAN.out]; rfl
      exact ⟨_, by simp [results, Tryd.results22, go_sem, e9]; rfl, by rw [hval], HB2.out.trans (hkE.below HB2.out.size (fun k h e => by omega))⟩
    | true =>
      have HCAN := Lib.hid hcan
      clear hcan
      have hval : lendD j = (((lendN j : Nat) : Int), (0 : Int)) := by unfold lendD; rw [HERR.out, HCAN.out]; rfl
      have HVAL := Lib.hid hval
      clear hval
      have c0 : w2.cell? ⟨w.heap.size, 0, none⟩ = some (.slice ao nb cap) := by rw [cell_of_row _ _ _ _ _ _ HX2.out]; rfl
      go_wp2_with fail
      refine (jask_ok 4 _).mono ?_
      rintro e w' ⟨rfl, rfl⟩
      dsimp only
      go_wp2_with fail
      clear c0
      go_loopw [5, 19] (fun sv iv wr => ∃ i : Nat, i ≤ nb ∧ iv = .int .i64 i ∧ sv = .int .u64 (setJ (lendF j) i : Nat) ∧ JobK j B pp mp (.slice ao nb cap) (.slice ao2 nw cap2) r wr ∧ Keeps (fun k => k = mp) w2 wr) (fun _ iv _ => nb - (intOf iv).toNat)
      case atStart => exact ⟨0, Nat.zero_le _, rfl, rfl, HJ2.out, Keeps.refl _ _⟩
      case round =>
        obtain ⟨i, hi, rfl, rfl, hjk, hk⟩ := hrel
        have HJR := Lib.hid hjk
        have HKR := Lib.hid hk
        clear hjk hk
        by_cases hlt : i < nb
        · have hw : IntKind.i64.wrap ((i : Int) + 1) = ((i + 1 : Nat) : Int) := by rw [IntWalk.i64_in _ (by omega)]; omega
          have hlti : (i : Int) < (nb : Int) := by omega
          have hsh := shl_u64 i (by omega)
          have h2i : 2 ^ i < 256 := Nat.pow_lt_pow_right (by decide) (by omega : i < 8)
          have hal : allD j < 256 := Nat.lt_of_lt_of_le (allD_lt j) (Nat.pow_le_pow_right (by decide : 0 < 2) (by rw [← HNB.out]; exact hnb8) : _ ≤ 2 ^ 8)
          have hand := u64_andNot_nat (allD j) (2 ^ i) (by omega) (by omega)
          rw [and_notJ (allD j) (2 ^ i) hal h2i] at hand
          have hslt := setJ_lt (lendF j) i
          obtain ⟨s, hs⟩ : ∃ s, s = setJ (lendF j) i := ⟨_, rfl⟩
          have hor := or_add s i (by rw [hs]; exact hslt)
          have hsn : setJ (lendF j) (i + 1) = s + (if lendF j i then 2 ^ i else 0) := by rw [setJ, ← hs]
          rw [← hs] at hslt ⊢
          obtain ⟨al, hall⟩ : ∃ a, a = afterJ (allD j) (2 ^ i) := ⟨_, rfl⟩
          rw [← hall] at hand
          have HALL := Lib.hid hall
          have hallt : al < 2 ^ j.st.bs.length := by rw [hall]; exact afterJ_lt _ _ _ (allD_lt j)
          have hlf : lendF j i = (scoreD j (everyD j) al).isSome := by rw [hall]; rfl
          rw [hlf] at hsn
          obtain ⟨q, hq⟩ : ∃ q, q = 2 ^ i := ⟨_, rfl⟩
          rw [← hq] at hsh h2i hand hor hslt hsn
          have HSN := Lib.hid hsn
          have HOR := Lib.hid hor
          clear hs hsn hall hlf hq hor
          go_wp2_with fail
          refine region_fix 9 (fun W' => W' = wr.drew) (by kernel_rfl) (by kernel_rfl) rfl ?_
          simp only [List.take_succ_cons, List.take_zero, List.drop_succ_cons, List.drop_zero]
          have hjd := HJR.out.later (Below.refl _ _).drew
          have HJD := Lib.hid hjd
          clear hjd
          refine WF_step ?_ (fun W' hC => ?_) rfl ?_
          rotate_left
          · (subst hC; go_simp; exact fix_value (P := Tryd.prog) (C := fun W' => W' = wr.drew) rfl)
          simp only [Act.put, List.setIfInBounds_toArray, List.set_cons_zero, List.set_cons_succ]
          refine WF_step ?_ (fun W' hC => ?_) rfl ?_
          rotate_left
          · (subst hC; go_simp; exact fix_value (P := Tryd.prog) (C := fun W' => W' = wr.drew) rfl)
          simp only [Act.put, List.setIfInBounds_toArray, List.set_cons_zero, List.set_cons_succ]
          refine WF_step (.int .u64 (everyD j)) (fun W' hC => ?_) rfl ?_
          · subst hC
            go_simp
            refine fix_enter ((jevery_any (validJb_parts HV.out).2.1 _ HJD.out.r.o).mono ?_)
            rintro e w3 ⟨rfl, rfl⟩
            exact ⟨rfl, rfl⟩
          simp only [Act.put, List.setIfInBounds_toArray, List.set_cons_zero, List.set_cons_succ]
          refine WF_step ?_ (fun W' hC => ?_) rfl ?_
          rotate_left
          · (subst hC; go_simp; exact fix_value (P := Tryd.prog) (C := fun W' => W' = wr.drew) rfl)
          simp only [Act.put, List.setIfInBounds_toArray, List.set_cons_zero, List.set_cons_succ]
          refine WF_step (.int .u64 (allD j)) (fun W' hC => ?_) rfl ?_
          · subst hC
            go_simp
            refine fix_enter ((jall_any (by rw [← HNB.out]; exact hnb8) _ HJD.out.r.o).mono ?_)
            rintro e w3 ⟨rfl, rfl⟩
            exact ⟨rfl, rfl⟩
          simp only [Act.put, List.setIfInBounds_toArray, List.set_cons_zero, List.set_cons_succ]
          refine WF_step ?_ (fun W' hC => ?_) rfl ?_
          rotate_left
          · (subst hC; go_simp; exact fix_value (P := Tryd.prog) (C := fun W' => W' = wr.drew) rfl)
          simp only [Act.put, List.setIfInBounds_toArray, List.set_cons_zero, List.set_cons_succ]
          refine WF_step ?_ (fun W' hC => ?_) rfl ?_
          rotate_left
          · (subst hC; go_simp; exact fix_value (P := Tryd.prog) (C := fun W' => W' = wr.drew) rfl)
          simp only [Act.put, List.setIfInBounds_toArray, List.set_cons_zero, List.set_cons_succ]
          refine WF_step ?_ (fun W' hC => ?_) rfl ?_
          rotate_left
          · (subst hC; go_simp; exact fix_value (P := Tryd.prog) (C := fun W' => W' = wr.drew) rfl)
          simp only [Act.put, List.setIfInBounds_toArray, List.set_cons_zero, List.set_cons_succ]
          refine WF_step ?_ (fun W' hC => ?_) rfl ?_
          rotate_left
          · (subst hC; go_simp; exact fix_value (P := Tryd.prog) (C := fun W' => W' = wr.drew) rfl)
          simp only [Act.put, List.setIfInBounds_toArray, List.set_cons_zero, List.set_cons_succ]
          refine WF_nil ?_
          intro W3 hC
          subst hC
          go_wp2_with fail
          refine (scoreO HV.out (everyD j) (everyD_lt j) al hallt _ HJD.out).mono ?_
          rintro e w3 ⟨rfl, hjk3, hk3⟩
          dsimp only
          have HJ3 := Lib.hid hjk3
          have HK3 := Lib.hid (HKR.out.trans ((Keeps.drew _ _).trans hk3))
          clear hjk3 hk3
          have m1 := method_ncan
          have m3 := method_pcan
          have sv0 : scoreV none = .iface 92 (.agg #[]) := rfl
          have sv1 : ∀ y : Nat × Nat, scoreV (some y) = .iface 94 (.agg #[.int .u64 y.1, .int .i64 y.2]) := fun _ => rfl
          cases hz : scoreD j (everyD j) al with
          | none =>
            rw [hz] at HSN
            rw [sv0]
            clear sv0 sv1 hz
            go_wp2_with fail
            refine (never_can _).mono ?_
            rintro e w4 ⟨rfl, hb4⟩
            dsimp only
            have H4 := Lib.hid (And.intro (HJ3.out.later hb4) (HK3.out.trans (Keeps.of_below hb4 (fun k h1 h2 => absurd h2 (by omega)))))
            clear hb4
            go_wp2_with fail
            exact ⟨⟨i + 1, hlt, by push_cast; rfl, by rw [HSN.out]; rfl, H4.out.1, H4.out.2⟩, by simp [intOf]; omega⟩
          | some x =>
            rw [hz] at HSN
            rw [sv1]
            clear sv0 sv1 hz
            go_wp2_with fail
            refine (plan_can x.1 x.2 _).mono ?_
            rintro e w4 ⟨rfl, hb4⟩
            dsimp only
            have H4 := Lib.hid (And.intro (HJ3.out.later hb4) (HK3.out.trans (Keeps.of_below hb4 (fun k h1 h2 => absurd h2 (by omega)))))
            clear hb4
            go_wp2_with fail
            refine (junion_any s q w4.heap.size (by omega) (by omega) _ (by rw [cell_of_row _ _ _ _ _ _ (heap_alloc_at _ _ _ rfl)]; rfl) (by rw [cell_of_row _ _ _ _ _ _ (heap_alloc_at _ _ _ rfl)]; rfl)).mono ?_
            rintro e w6 ⟨rfl, rfl⟩
            rw [HOR.out]
            dsimp only
            go_wp2_with fail
            exact ⟨⟨i + 1, hlt, by push_cast; rfl, by rw [HSN.out]; rfl, H4.out.1.later (Below.alloc' _ _), H4.out.2.trans (Keeps.alloc _ _ _)⟩, by simp [intOf]; omega⟩
        · obtain rfl : i = nb := by omega
          have hlti : ¬ (i : Int) < (i : Int) := by omega
          have hll : lendN j < 2 ^ 8 := Nat.lt_of_lt_of_le (setJ_lt _ _) (Nat.pow_le_pow_right (by decide) (by rw [← HNB.out]; exact hnb8))
          have hw1 : IntKind.i64.wrap ((lendN j : Nat) : Int) = ((lendN j : Nat) : Int) := IntWalk.i64_in _ (by omega)
          rw [HNB.out, ← lend_set]
          have he3 := (HKR.out.block _ (lt_of_block HE2.out) (by omega)).trans HE2.out
          have hbw3 := HB2.out.trans (HKR.out.below HB2.out.size (fun k h e => by omega))
          have hc3 : wr.cell? ⟨w.heap.size + 1, 0, none⟩ = some (.int .i64 0) := by rw [cell_of_row _ _ _ _ _ _ he3]; rfl
          have hf3 : wr.frozen? ⟨w.heap.size + 1, 0, none⟩ = false := frozen_of_row _ _ 0 _ _ he3
          have H3 := Lib.hid (And.intro he3 hbw3)
          clear he3 hbw3
          go_wp2_with fail
          have e9 := err_set (y := 0) H3.out.1
          exact jleaf_ret (w.heap.size + 1) _ _ ⟨_, by simp [results, Tryd.results22, go_sem, e9]; rfl, by rw [HVAL.out], H3.out.2.trans ((Keeps.setCell (Mut := fun k => k = w.heap.size + 1) _ _ _ rfl).below H3.out.2.size (fun k h e => by omega))⟩
end Go.Proofs.YtbmfphiecllggaaDoor

/- Numbers in memory. -/
namespace Go.Proofs.YtbmfphiecllggaaDoor
set_option linter.unusedVariables false
set_option linter.unusedSimpArgs false
open Go.RowKit Go.Shelf

def NumsAt (W : World) (v : Value) (l : List Int) (Rd : Nat → Prop) : Prop :=
  ∃ ao cap, v = .slice ao l.length cap ∧ l.length ≤ cap ∧ cap ≤ maxLen ∧ ∀ i (h : i < l.length), ∃ b off, ao = some ⟨b, off, none⟩ ∧ Rd b ∧ b < W.heap.size ∧ W.cell? ⟨b, off + i, none⟩ = some (.int .i64 l[i])
theorem NumsAt.later {w W : World} {v : Value} {l : List Int} {Rd : Nat → Prop} (h : NumsAt w v l Rd) (hs : w.heap.size ≤ W.heap.size) (hk : ∀ k, k < w.heap.size → Rd k → W.heap[k]? = w.heap[k]?) : NumsAt W v l Rd := by
  obtain ⟨ao, cap, h1, h2, h3, h4⟩ := h
  refine ⟨ao, cap, h1, h2, h3, fun i hi => ?_⟩
  obtain ⟨b, off, e1, e2, e3, e4⟩ := h4 i hi
  exact ⟨b, off, e1, e2, Nat.lt_of_lt_of_le e3 hs, (World.cell?_of_block (w := w) (a := ⟨b, off + i, none⟩) (hk b e3 e2)).trans e4⟩
theorem NumsAt.mono {W : World} {v : Value} {l : List Int} {Rd Rd' : Nat → Prop} (h : NumsAt W v l Rd) (hr : ∀ k, Rd k → Rd' k) : NumsAt W v l Rd' := by
  obtain ⟨ao, cap, h1, h2, h3, h4⟩ := h
  exact ⟨ao, cap, h1, h2, h3, fun i hi => by obtain ⟨b, off, e1, e2, e3⟩ := h4 i hi; exact ⟨b, off, e1, hr b e2, e3⟩⟩
theorem nums_of_own {w : World} {base : Nat} {e : TypeId} {v : Value} {l : List Int} {n : Nat} (hn : n = l.length) (h : w.ownsRow base e 1 v n (l.map (Value.int .i64))) : NumsAt w v l (fun k => base ≤ k) := by
  subst hn
  rcases h.2 with ⟨h2, h3⟩ | ⟨g, cap, cur, h2, h3, h4, h5, h6, h7, h8⟩
  · refine ⟨none, 0, by rw [h2, h3], by omega, by unfold maxLen; omega, fun i hi => by omega⟩
  · refine ⟨_, cap, h2, h5, h6, fun i hi => ⟨g, 0, rfl, h3, lt_of_block h4, ?_⟩⟩
    rw [cell_of_row w g _ _ _ _ h4, Nat.zero_add]
    have h9 : (cur.toList.take (l.length * 1))[i]? = (l.map (Value.int .i64))[i]? := by rw [h8]
    rw [List.getElem?_take_of_lt (by omega), List.getElem?_map, List.getElem?_eq_getElem hi] at h9
    simpa using h9
theorem underInts : Tryd.prog.underlying 32 = some (.slice 3) := by kernel_rfl
theorem infoInt : (Tryd.prog.info? 3).map (fun i => (i.zero, i.size, i.bytes)) = some (some (.int .i64 0), 1, 8) := by kernel_rfl
theorem copy_nums (l : List Int) (ao : Option Addr) (cap : Nat) (Rd : Nat → Prop) (W : World) (h : NumsAt W (.slice ao l.length cap) l Rd) (ob : Nat) (cur : Array Value) (hl : l.length ≤ 1000) (hob : W.heap[ob]? = some (.cells cur 3 (0, 0))) (hsz : cur.size = l.length) :
    ∃ W2, (Builtin.copy_ #[32, 32] 3 #[.slice (some ⟨ob, 0, none⟩) l.length l.length, .slice ao l.length cap]).run Tryd.prog W = .ok (.int .i64 l.length) W2 ∧
      NumsAt W2 (.slice (some ⟨ob, 0, none⟩) l.length l.length) l (fun k => k = ob) ∧ Keeps (fun k => k = ob) W W2 ∧ W2.heap.size = W.heap.size := by
  obtain ⟨ao', cap', he, _, _, hel⟩ := h
  cases he
  by_cases h0 : l = []
  · subst h0
    refine ⟨W, ?_, ⟨_, _, rfl, Nat.le_refl _, by unfold maxLen; omega, fun i hi => by simp at hi⟩, Keeps.refl _ _, rfl⟩
    obtain ⟨i0, hi0, hz0, hz1, hz2⟩ := info_parts infoInt
    have hl0 : (loadCells ⟨0, 0, none⟩ 0).run Tryd.prog W = .ok #[] W := by rfl
    cases ao with
    | none => simp [Builtin.copy_, run_underlying underInts, Builtin.lenOf, Builtin.firstCells, sizeOf, typeInfo, hi0, hz1, goInt, storeCells]
    | some a =>
      have hla := run_loadCells_list (P := Tryd.prog) W a [] (fun j v h => by simp at h)
      simp at hla
      simp [Builtin.copy_, run_underlying underInts, Builtin.lenOf, Builtin.firstCells, sizeOf, typeInfo, hi0, hz1, goInt, storeCells, hla]
  · obtain ⟨b, off, rfl, _⟩ := hel 0 (List.length_pos_iff.2 h0)
    have hln : (l.map (Value.int .i64)).length = l.length := by simp
    have hrow : (W.setRow ob (cur.toList.take 0 ++ l.map (Value.int .i64) ++ cur.toList.drop (0 + (l.map (Value.int .i64)).length)).toArray).heap[ob]? = some (.cells (l.map (Value.int .i64)).toArray 3 (0, 0)) := by
      rw [setRow_heap _ _ _ _ _ _ hob]
      rw [List.take_zero, List.nil_append, Nat.zero_add, hln, List.drop_of_length_le (by simp [hsz]), List.append_nil]
    refine ⟨W.setRow ob (cur.toList.take 0 ++ l.map (Value.int .i64) ++ cur.toList.drop (0 + (l.map (Value.int .i64)).length)).toArray, (run_copy_rows W _ _ _ 3 1 ob 0 _ _ ⟨b, off, none⟩ _ _ cur 3 (l.map (Value.int .i64)) underInts (by kernel_rfl) hob (by rw [hln]; simp) ?_ (by rw [hln]; omega) ?_).trans ?_, ?_, keeps_setRow _ _ _, by simp⟩
    · intro j v hj
      have hjl : j < l.length := by have := (List.getElem?_eq_some_iff.1 hj).1; rwa [hln] at this
      obtain ⟨b2, off2, he2, _, _, e1⟩ := hel j hjl
      cases he2
      rw [List.getElem?_map, List.getElem?_eq_getElem hjl] at hj
      rw [Addr.add_mid]
      exact e1.trans hj
    · intro v hv
      obtain ⟨x, _, rfl⟩ := List.mem_map.1 hv
      rfl
    · simp; rfl
    · refine ⟨_, _, rfl, Nat.le_refl _, by unfold maxLen; omega, fun i hi => ⟨ob, 0, rfl, rfl, lt_of_block hrow, ?_⟩⟩
      rw [cell_of_row _ _ _ _ _ _ hrow, Nat.zero_add]
      simp [hi]
theorem NumsAt.nil (W : World) (Rd : Nat → Prop) : NumsAt W (.slice none 0 0) [] Rd := ⟨none, 0, rfl, Nat.le_refl _, by unfold maxLen; omega, fun i hi => by simp at hi⟩
end Go.Proofs.YtbmfphiecllggaaDoor
