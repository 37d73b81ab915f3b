/- Texts Uj, T, Uk, Ul, Um in one file; each begins with a word on what it proves. -/
import Derived.TacticsInMore
import Derived.LoopNIn
import Derived.LoopIn
import Derived.Recover
import Derived.OrdersHeld
import Derived.Maps.OwnIn
import Derived.Deep.RegionLaw
import Derived.Test.YtbmfphiecllggaaDoorKb
import Derived.Test.YtbmfphiecllggaaDoorKa

/- The lengths of which something is so, one after the other: the iterator. -/
namespace Go.Proofs.YtbmfphiecllggaaDoor
set_option linter.unusedVariables false
set_option linter.unusedSimpArgs false
open Go.RowKit Go.Shelf
attribute [local go_sem] Oper.semAt_some

/-- The stacks that are so long. -/
def LongS (s : StackD) (l : LenJ) (t : Nat) : Prop := t ≠ 0 ∧ OfJ s.film s.bs s.bs.length l t
def StepT (s : StackD) (want : Int × Int) (pre : List (LenJ × FoundD)) (x : LenJ × FoundD) : Prop := IsFewJ 8 (LongS s x.1) x.2.least ∧ insideJ want x.1 = true ∧ x.2.least < 256 ∧ ∀ y ∈ pre, x.1 ≠ y.1
def FinT (s : StackD) (want : Int × Int) (xs : List (LenJ × FoundD)) : Prop :=
  (∀ x ∈ xs, StepT s want [] x) ∧ ∀ l t, LongS s l t → insideJ want l = true → ∃ x ∈ xs, x.1 = l
theorem keys_eq {L : List (LenJ × Value × Nat)} (hn : (L.map (·.1)).Nodup) {x y : LenJ × Value × Nat} (hx : x ∈ L) (hy : y ∈ L) (e : x.1 = y.1) : x = y := by
  obtain ⟨i, hi, rfl⟩ := List.getElem_of_mem hx
  obtain ⟨j, hj, rfl⟩ := List.getElem_of_mem hy
  have : i = j := keys_inj hn hi hj e
  subst this; rfl
def insV (want : Int × Int) : Value := .iface 113 (spV want)
set_option maxRecDepth 100000 in
set_option maxHeartbeats 4000000 in
theorem that_seq (s : StackD) (hv : validSt s = true) (want : Int × Int) (pp b1 b2 : Nat) (sv : Value) (W : World) (h : SetAt W pp s sv)
    (hb1 : W.heap[b1]? = some (.cells #[.pointer (some ⟨pp, 0, none⟩)] 109 (0, 0))) (hb2 : W.heap[b2]? = some (.cells #[insV want] 122 (0, 0))) :
    SeqP Tryd.prog 98 #[.pointer (some ⟨b1, 0, none⟩), .pointer (some ⟨b2, 0, none⟩)] (fun x : LenJ × FoundD => #[encL x.1, encF x.2]) (StepT s want) (FinT s want) (fun k => k ≤ pp ∨ k = b1 ∨ k = b2) W := by
  intro l Mut J Jx hM hJ hJx hY h0
  have HM := Lib.hid hM
  have HJ := Lib.hid hJ
  have HJx := Lib.hid hJx
  have HY := Lib.hid hY
  have H0 := Lib.hid h0
  have HS := Lib.hid h
  have HB1 := Lib.hid hb1
  have HB2 := Lib.hid hb2
  have hl1 := lt_of_block hb1
  have hl2 := lt_of_block hb2
  have c1 : W.cell? ⟨b1, 0, none⟩ = some (.pointer (some ⟨pp, 0, none⟩)) := by rw [cell_of_row W b1 _ _ _ _ hb1]; rfl
  clear hM hJ hJx hY h0 h hb1 hb2
  refine callsIn_wide.1 (callsIn_of_wp (F := Fence.wide) (n := 0) Tryd.func98 rfl trivial ?_ rfl)
  simp only [Tryd.ntmps98, List.size_toArray, List.length_cons, List.length_nil, Nat.reduceAdd, Nat.reduceSub, Array.replicate_succ, Array.replicate_zero, List.push_toArray, List.append_toArray, List.nil_append, List.cons_append]
  gi_wp2
  refine wpIn_wide.2 (wp_scope_straight ((wpIn_wide (n := 0)).1 (wpIn_seq (wpIn_label ?_))))
  simp only [Exit.then]
  gi_wp2_with fail
  refine ⟨trivial, rfl, callsIn_wide.2 ((lengths_any s hv pp sv W HS.out).mono ?_)⟩
  rintro e w1 ⟨⟨mb, F, rfl, htab, hmb, htj⟩, hb⟩
  dsimp only
  obtain ⟨L, clock, hrow, htk⟩ := htab.row
  have hr1 := run_range_map (P := Tryd.prog) w1 160 _ _ mb _ clock under_lmap hrow
  have hmlt := htab.lt_size
  have HTAB := Lib.hid htab
  have HTJ := Lib.hid htj
  have HB := Lib.hid hb
  have HROW := Lib.hid hrow
  have HTK := Lib.hid htk
  have hszb := hb.size
  clear htab htj hb hrow htk
  gi_wp2_with fail
  clear hr1
  gi_loopw [] (fun wr => ∃ (seen : Array Nat) (pre : List (LenJ × FoundD)) (G : Nat → Prop), wr.heap[w1.heap.size]? = some (.mapIter (some mb) clock seen clock) ∧ J pre G wr ∧ (∀ k, G k → w1.heap.size < k) ∧
      (∀ x ∈ pre, StepT s want [] x) ∧ (∀ y ∈ L, seen.contains y.2.2 = true → insideJ want y.1 = true → ∃ x ∈ pre, x.1 = y.1) ∧ (∀ x ∈ pre, ∃ y ∈ L, y.1 = x.1 ∧ seen.contains y.2.2 = true) ∧ wr.heap[mb]? = some (mapK encL L clock) ∧ Keeps (fun k => Mut k ∨ W.heap.size ≤ k) W wr ∧ w1.heap.size < wr.heap.size)
    (fun wr => leftK wr mb w1.heap.size)
  case atStart =>
    have hk1 : Keeps (fun k => W.heap.size ≤ k) W w1 := Keeps.of_below HB.out (fun k h1 h2 => h1)
    refine ⟨#[], [], fun _ => False, heap_alloc_at _ _ _ rfl, HJ.out _ _ _ _ H0.out ((hk1.trans (Keeps.alloc _ _ _)).mono fun k _ h => ⟨h, id⟩), (fun k h => h.elim), (fun x h => by cases h), (fun y _ h => by simp at h), (fun x h => by cases h), (hget_old _ _ _ (by omega)).trans HROW.out, (Keeps.of_below HB.out (fun k h1 h2 => absurd h2 (by omega))).trans (Keeps.alloc _ _ _), by simp⟩
  case round =>
    obtain ⟨seen, pre, G, hit, hj, hG, hpre, hseen, hback, hmw, hk, hsz⟩ := hrel
    have HBACK := Lib.hid hback
    clear hback
    have hnk := next_K (P := Tryd.prog) HTK.out (Nat.le_refl clock) hit (Nat.le_refl clock) hmw (by omega)
    have HIT := Lib.hid hit
    have HJ1 := Lib.hid hj
    have HG := Lib.hid hG
    have HPRE := Lib.hid hpre
    have HSEEN := Lib.hid hseen
    have HMW := Lib.hid hmw
    have HK := Lib.hid hk
    clear hit hj hG hpre hseen hmw hk
    rcases hnk with ⟨hall, hrun⟩ | ⟨y, hy, hsn, W2, hkW, hsW, hiW, hrun, hent, hmeas⟩
    · have HALL := Lib.hid hall
      clear hall
      gi_wp2
      simp only [Exit.noGoto]
      first | go_end0 | skip
      refine ⟨⟨_, rfl⟩, HK.out, G, .inl ⟨pre, ⟨HPRE.out, fun y1 t hlt hin => ?_⟩, HJ1.out⟩⟩
      cases hF : F y1 with
      | none => exact absurd hlt ((HTJ.out y1).1 (by unfold leastT; rw [hF]; rfl) t)
      | some f =>
        obtain ⟨born, hb'⟩ := (HTK.out.mem y1 (encF f)).1 (by rw [hF]; rfl)
        exact HSEEN.out _ hb' (HALL.out _ hb') hin
    · have HKW := Lib.hid hkW
      have HSW := Lib.hid hsW
      have HIW := Lib.hid hiW
      have HMEAS := Lib.hid hmeas
      have HSN := Lib.hid hsn
      clear hkW hsW hiW hmeas hsn
      obtain ⟨y1, v, born⟩ := y
      have hfl : (fun l => (F l).map encF) y1 = some v := (HTK.out.mem y1 v).2 ⟨born, hy⟩
      obtain ⟨f, hF, hfv⟩ : ∃ f, F y1 = some f ∧ encF f = v := by
        cases hF : F y1 with
        | none => dsimp only at hfl; rw [hF] at hfl; cases hfl
        | some f => dsimp only at hfl; rw [hF] at hfl; exact ⟨f, rfl, Option.some.inj hfl⟩
      subst hfv
      have HYL := Lib.hid hy
      have HF := Lib.hid hF
      clear hy hF hfl
      dsimp only at hrun hent
      unfold encL encF at hrun hent
      have hmi := method_inside
      have hb2 := (HKW.out.block b2 (by have := HK.out.size; omega) (by have := HB.out.size; omega)).trans ((HK.out.block b2 hl2 (fun h => h.elim (fun h => (HM.out _ h).2 (.inr (.inr rfl))) (fun h => by omega))).trans HB2.out)
      have hc2 : ∀ o1 o2, ((W2.alloc o1).alloc o2).cell? ⟨b2, 0, none⟩ = some (.iface 113 (.agg #[.int .i64 want.1, .int .i64 want.2])) := by
        intro o1 o2
        have h1 := lt_of_block hb2
        rw [cell_of_row _ _ _ _ _ _ ((hget_old _ _ _ (by simp <;> omega)).trans ((hget_old _ _ _ (by omega)).trans hb2))]; rfl
      clear hb2
      gi_wp2_with fail
      refine ⟨trivial, rfl, callsIn_wide.2 ((inside_any want y1 _).mono ?_)⟩
      rintro e w3 ⟨rfl, hb3⟩
      dsimp only
      have hs3 := hb3.size
      have hxl : w3.heap[W2.heap.size]? = some (lenRow y1) := (hb3.block _ (by simp <;> omega)).trans (by repeat (first | (refine heap_alloc_at _ _ _ ?_; (simp <;> omega); done) | (refine (hget_old _ _ _ ?_).trans ?_; · (simp <;> omega))))
      have hxf : w3.heap[W2.heap.size + 1]? = some (foundRow f) := (hb3.block _ (by simp)).trans (by repeat (first | (refine heap_alloc_at _ _ _ ?_; (simp <;> omega); done) | (refine (hget_old _ _ _ ?_).trans ?_; · (simp <;> omega))))
      have hb23 : Below W2.heap.size W2 w3 := (((Below.refl _ _).alloc (Nat.le_refl _) _).alloc (by simp) _).trans (hb3.mono (by simp <;> omega))
      have hold : ∀ k, k < wr.heap.size → k ≠ w1.heap.size → w3.heap[k]? = wr.heap[k]? := fun k h1 h2 => (hb23.block k (by rw [HSW.out]; exact h1)).trans (HKW.out.block k h1 h2)
      have hk3 : Keeps (fun k => k = w1.heap.size) wr w3 := HKW.out.transNew (Keeps.of_below (Mut := fun k => W2.heap.size ≤ k) hb23 (fun k h1 h2 => h1)) (fun i h => by rw [← HSW.out]; exact h)
      have hit3 : w3.heap[w1.heap.size]? = some (.mapIter (some mb) clock (seen.push born) clock) := (hb23.block _ (by rw [HSW.out]; omega)).trans HIW.out
      have hm3 := (hold mb (by omega) (by omega)).trans HMW.out
      have hj3 : J pre G w3 := HJ.out _ _ _ _ HJ1.out (hk3.mono fun k _ e => ⟨by omega, fun hg => by have := HG.out k hg; omega⟩)
      have hkk3 : Keeps (fun k => Mut k ∨ W.heap.size ≤ k) W w3 := HK.out.transNew hk3 (fun i e => by omega)
      have hsz3 : wr.heap.size ≤ w3.heap.size := by have := hk3.size; exact this
      have HXL := Lib.hid hxl
      have HXF := Lib.hid hxf
      have HIT3 := Lib.hid hit3
      have HM3 := Lib.hid hm3
      have HJ3 := Lib.hid hj3
      have HK3 := Lib.hid hkk3
      clear hb3 hxl hxf hb23 hold hk3 hit3 hm3 hj3 hkk3 hrun hent hc2 hmi
      cases hin : insideJ want y1 with
      | false =>
        have HIN := Lib.hid hin
        clear hin
        gi_wp2
        go_roundw
        case rel =>
          refine ⟨seen.push born, pre, G, HIT3.out, HJ3.out, HG.out, HPRE.out, fun y hy hs hi => ?_, ?_, HM3.out, HK3.out, by omega⟩
          rw [contains_push, Bool.or_eq_true] at hs
          rcases hs with hs | hs
          · exact HSEEN.out y hy hs hi
          · rw [find_borns HTK.out.borns hy HYL.out (by simpa using hs), HIN.out] at hi; cases hi
          · intro x hx
            obtain ⟨y, h1, h2, h3⟩ := HBACK.out x hx
            exact ⟨y, h1, h2, by rw [contains_push, h3]; rfl⟩
        case measure => exact HMEAS.out _ HM3.out HIT3.out
      | true =>
        have hnew : ∀ x ∈ pre, y1 ≠ x.1 := by
          intro x hx e
          obtain ⟨y, h1, h2, h3⟩ := HBACK.out x hx
          have he : y = (y1, encF f, born) := keys_eq HTK.out.keys h1 HYL.out (by rw [h2]; exact e.symm)
          have h4 := HSN.out
          rw [he] at h3
          dsimp only at h3 h4
          rw [h4] at h3; cases h3
        have hstep : StepT s want pre (y1, f) := ⟨(HTJ.out y1).2 f.least (by unfold leastT; rw [HF.out]; rfl), hin, HTAB.out.lt y1 f HF.out, hnew⟩
        clear hnew
        obtain ⟨fn, tmps, assign, body, hy, hR⟩ := HY.out pre (y1, f) G w3 hstep HJ3.out (by have := HK3.out.size; exact this) (fun k hg => by have := HG.out k hg; omega)
        have HSTEP := Lib.hid hstep
        have HR := Lib.hid hR
        have l0 : w3.cell? ⟨W2.heap.size, 0, none⟩ = some (.int .i64 y1.lo) := by rw [cell_of_row _ _ _ _ _ _ HXL.out]; rfl
        have l1 : w3.cell? ⟨W2.heap.size, 1, none⟩ = some (.int .i64 y1.hi) := by rw [cell_of_row _ _ _ _ _ _ HXL.out]; rfl
        have l2 : w3.cell? ⟨W2.heap.size, 2, none⟩ = some (.int .i64 y1.many) := by rw [cell_of_row _ _ _ _ _ _ HXL.out]; rfl
        have q0 : w3.cell? ⟨W2.heap.size + 1, 0, none⟩ = some (.int .i64 f.many) := by rw [cell_of_row _ _ _ _ _ _ HXF.out]; rfl
        have q1 : w3.cell? ⟨W2.heap.size + 1, 1, none⟩ = some (.int .u64 f.least) := by rw [cell_of_row _ _ _ _ _ _ HXF.out]; rfl
        have q2 : w3.cell? ⟨W2.heap.size + 1, 2, none⟩ = some (.int .u64 f.each) := by rw [cell_of_row _ _ _ _ _ _ HXF.out]; rfl
        have q3 : w3.cell? ⟨W2.heap.size + 1, 3, none⟩ = some (.int .u64 f.some) := by rw [cell_of_row _ _ _ _ _ _ HXF.out]; rfl
        clear hstep hR hin
        dsimp only at hy
        unfold encL encF at hy
        gi_wp2
        refine ⟨rfl, HR.out.mono ?_⟩
        rintro e W5 ⟨hk5, hj5⟩
        have hs5 := hk5.size
        have hMu : ∀ k, W.heap.size ≤ k → ¬ Mut k := fun k h1 h2 => by have := (HM.out k h2).1; omega
        have hit5 := (hk5.block _ (by omega) (fun h => h.elim (hMu _ hszb) (fun h => by have := HG.out _ h; omega))).trans HIT3.out
        have hm5 := (hk5.block mb (by omega) (fun h => h.elim (hMu _ hmb) (fun h => by have := HG.out _ h; omega))).trans HM3.out
        rcases hj5 with ⟨rfl, hj5⟩ | ⟨rfl, hj5⟩
        · have HIT5 := Lib.hid hit5
          have HM5 := Lib.hid hm5
          have HJ5 := Lib.hid hj5
          have HK5 := Lib.hid (HK3.out.trans (hk5.mono fun k _ h => h.elim .inl fun h => .inr (by have := HG.out _ h; omega)))
          clear hit5 hm5 hj5 hk5 hMu
          gi_wp2
          go_roundw
          case rel =>
            refine ⟨seen.push born, pre ++ [(y1, f)], _, HIT5.out, HJ5.out, fun k hg => ?_, fun x hx => ?_, fun y hy hs hi => ?_, fun x hx => ?_, HM5.out, HK5.out, by omega⟩
            · rcases hg with hg | hg
              · exact HG.out k hg
              · omega
            · rcases List.mem_append.1 hx with hx | hx
              · exact HPRE.out x hx
              · rw [List.mem_singleton.1 hx]; exact ⟨HSTEP.out.1, HSTEP.out.2.1, HSTEP.out.2.2.1, fun y hy => by cases hy⟩
            · rw [contains_push, Bool.or_eq_true] at hs
              rcases hs with hs | hs
              · obtain ⟨x, hx, he⟩ := HSEEN.out y hy hs hi
                exact ⟨x, List.mem_append_left _ hx, he⟩
              · rw [find_borns HTK.out.borns hy HYL.out (by simpa using hs)]
                exact ⟨_, List.mem_append_right _ (List.mem_singleton.2 rfl), rfl⟩
            · rcases List.mem_append.1 hx with hx | hx
              · obtain ⟨y, h1, h2, h3⟩ := HBACK.out x hx
                exact ⟨y, h1, h2, by rw [contains_push, h3]; rfl⟩
              · rw [List.mem_singleton.1 hx]
                exact ⟨_, HYL.out, rfl, by rw [contains_push]; simp⟩
          case measure => exact HMEAS.out _ HM5.out HIT5.out
        · have HJ5 := Lib.hid hj5
          have HK5 := Lib.hid (HK3.out.trans (hk5.mono fun k _ h => h.elim .inl fun h => .inr (by have := HG.out _ h; omega)))
          clear hit5 hm5 hj5 hk5 hMu
          gi_wp2
          simp only [Exit.noGoto]
          exact bodyPost_ret (v := .tuple #[]) (by simp [results, Tryd.results98, go_sem]) rfl ⟨⟨_, rfl⟩, HK5.out, _, .inr ⟨pre, (y1, f), HSTEP.out, HJ5.out⟩⟩
end Go.Proofs.YtbmfphiecllggaaDoor

/- A region that draws its order and may panic, in a function that defers: what is read is taken first; the rest comes in one order. -/
namespace Go.Proofs.YtbmfphiecllggaaDoor
set_option linter.unusedVariables false
set_option linter.unusedSimpArgs false
open Go.RowKit

section
variable {P : Program} {ops : Array Oper} {md : Region.Mode} {S : World → Prop}
theorem Leaves.congr {fn : Func} {t1 t2 : Array Value} {R : Ending → World → Prop} (hr : ∀ w v, (results fn t1).run P w = .ok v w → (results fn t2).run P w = .ok v w) :
    ∀ (ds : List Deferred) (u : FrameMode) (w : World), Leaves P fn t1 R ds u w → Leaves P fn t2 R ds u w
  | [], .returning, w, h => by obtain ⟨v, h1, h2⟩ := h; exact ⟨v, hr _ _ h1, h2⟩
  | [], .panicking _, w, h => h
  | [], .run, w, h => h
  | d :: ds, u, w, h => by
    obtain ⟨h1, fv, cap, f, args, h2, h3, h4⟩ := h
    refine ⟨h1, fv, cap, f, args, h2, h3, h4.mono ?_⟩
    intro e u' w' he
    cases e with
    | returned v => exact Leaves.congr hr ds _ _ he
    | panicked c => exact Leaves.congr hr ds _ _ he
    | outgrown => exact he
theorem wpAnyH_call {Q : Exit → Act → World → Prop} {k fuel : Nat} {o : Oper} {f : FuncId} {args : Array Value} {listed : Array Bool} {a : Act} {w : World} (hr : Region.ready md ops listed = [k]) (ho : ops[k]? = some o) (hg : Region.wanted o (yielded ops a.tmps) = true)
    (hrun : (execOp a.eval o).run P w = .ok (.enter f args) w)
    (h : Calls P f args w fun
      | .returned v, w' => S w' ∧ wpAnyH P md ops Q S fuel (listed.setIfInBounds k true) (a.put o.dst v) w'
      | .panicked c, w' => Q (.panic c) a w'
      | .outgrown, _ => LetsOut Q) : wpAnyH P md ops Q S (fuel + 1) listed a w := by
  refine wpAnyH_all hr (by simp) fun i hi => ?_
  obtain rfl : i = k := by simpa using hi
  unfold wpOp
  rw [ho]
  simp only [hg, if_true]
  left
  unfold Oper.wp
  rw [hrun]
  simp only [Oper.upon]
  refine h.mono fun e w'' he => ?_
  cases e <;> exact he
theorem wpAnyH_skip {Q : Exit → Act → World → Prop} {k fuel : Nat} {o : Oper} {listed : Array Bool} {a : Act} {w w' : World} (hr : Region.ready md ops listed = [k]) (ho : ops[k]? = some o) (hg : Region.wanted o (yielded ops a.tmps) = true)
    (hrun : (execOp a.eval o).run P w = .ok .skip w') (hS : S w')
    (h : wpAnyH P md ops Q S fuel (listed.setIfInBounds k true) (a.put o.dst undef) w') : wpAnyH P md ops Q S (fuel + 1) listed a w := by
  refine wpAnyH_all hr (by simp) fun i hi => ?_
  obtain rfl : i = k := by simpa using hi
  unfold wpOp
  rw [ho]
  simp only [hg, if_true]
  left
  unfold Oper.wp
  rw [hrun]
  exact ⟨hS, h⟩
theorem wpAnyH_value {Q : Exit → Act → World → Prop} {k fuel : Nat} {o : Oper} {v : Value} {listed : Array Bool} {a : Act} {w w' : World} (hr : Region.ready md ops listed = [k]) (ho : ops[k]? = some o) (hg : Region.wanted o (yielded ops a.tmps) = true)
    (hrun : (execOp a.eval o).run P w = .ok (.value v) w') (hS : S w')
    (h : wpAnyH P md ops Q S fuel (listed.setIfInBounds k true) (a.put o.dst v) w') : wpAnyH P md ops Q S (fuel + 1) listed a w := by
  refine wpAnyH_all hr (by simp) fun i hi => ?_
  obtain rfl : i = k := by simpa using hi
  unfold wpOp
  rw [ho]
  simp only [hg, if_true]
  left
  unfold Oper.wp
  rw [hrun]
  exact ⟨hS, h⟩
end
end Go.Proofs.YtbmfphiecllggaaDoor

/- The lengths of which something is so, joined: the walk of all. -/
namespace Go.Proofs.YtbmfphiecllggaaDoor
set_option linter.unusedVariables false
set_option linter.unusedSimpArgs false
open Go.RowKit Go.Shelf
attribute [local go_sem] Oper.semAt_some

theorem that_any (pp : Nat) (want : Int × Int) (b1 b2 : Nat) (w : World) (hb1 : b1 = w.heap.size) (hb2 : b2 = w.heap.size + 1) :
    Calls Tryd.prog 87 #[.pointer (some ⟨pp, 0, none⟩), insV want] w fun e w' => e = .returned (.func (.func 98) #[] #[.pointer (some ⟨b1, 0, none⟩), .pointer (some ⟨b2, 0, none⟩)]) ∧
      w' = (w.alloc (.cells #[.pointer (some ⟨pp, 0, none⟩)] 109 (0, 0))).alloc (.cells #[insV want] 122 (0, 0)) := by
  have hmf : ∀ (fn : Fn) (first cap : Array Value) (w : World), (Instr.makeFunc fn first cap).run Tryd.prog w = .ok (.func fn first cap) w := fun _ _ _ _ => rfl
  unfold insV
  subst hb1 hb2
  go_enter Tryd.func87, Tryd.ntmps87
  go_wp2
  go_ret
  exact ⟨rfl, rfl⟩
theorem nodup_lenJ (n : Nat) : ∀ (L : List Nat), L.Nodup → (∀ y ∈ L, y < n) → L.length ≤ n := by
  induction n with
  | zero =>
    intro L _ h
    cases L with
    | nil => simp
    | cons a l => have := h a List.mem_cons_self; omega
  | succ n ih =>
    intro L hd h
    have h1 := ih (L.erase n) (hd.erase _) (fun y hy => by
      have h2 := (hd.mem_erase_iff).1 hy
      have h3 := h y h2.2
      have h4 := h2.1
      omega)
    have h2 := List.length_erase (a := n) (l := L)
    split at h2 <;> omega
/-- What has been yielded: each length once. -/
structure GotT (s : StackD) (want : Int × Int) (pre : List (LenJ × FoundD)) : Prop where
  step : ∀ x ∈ pre, StepT s want [] x
  keys : (pre.map (·.1)).Nodup
theorem GotT.nil (s : StackD) (want : Int × Int) : GotT s want [] := ⟨fun x h => (by cases h), List.nodup_nil⟩
theorem GotT.snoc {s : StackD} {want : Int × Int} {pre : List (LenJ × FoundD)} {x : LenJ × FoundD} (h : GotT s want pre) (hx : StepT s want pre x) : GotT s want (pre ++ [x]) := by
  refine ⟨fun y hy => ?_, ?_⟩
  · rcases List.mem_append.1 hy with hy | hy
    · exact h.step y hy
    · rw [List.mem_singleton.1 hy]; exact ⟨hx.1, hx.2.1, hx.2.2.1, fun y hy => by cases hy⟩
  · rw [List.map_append, List.nodup_append]
    refine ⟨h.keys, by simp, fun a ha b hb e => ?_⟩
    simp only [List.map_cons, List.map_nil, List.mem_singleton] at hb
    obtain ⟨y, hy, rfl⟩ := List.mem_map.1 ha
    exact hx.2.2.2 y hy (by rw [e, hb])
theorem GotT.len {s : StackD} {want : Int × Int} {pre : List (LenJ × FoundD)} (h : GotT s want pre) : pre.length ≤ 256 := by
  have h1 : (pre.map fun x => x.2.least).Nodup := by
    have hk : ∀ x ∈ pre, x.1 = lenJ s.film (selJ s.bs x.2.least) := fun x hx => ((h.step x hx).1.is).2.2.symm
    have : ∀ l : List (LenJ × FoundD), (∀ x ∈ l, x.1 = lenJ s.film (selJ s.bs x.2.least)) → (l.map (·.1)).Nodup → (l.map fun x => x.2.least).Nodup := by
      intro l
      induction l with
      | nil => intro _ _; exact List.nodup_nil
      | cons a l ih =>
        intro hk hn
        rw [List.map_cons, List.nodup_cons] at hn ⊢
        refine ⟨fun hm => hn.1 ?_, ih (fun x hx => hk x (List.mem_cons_of_mem _ hx)) hn.2⟩
        obtain ⟨y, hy, he⟩ := List.mem_map.1 hm
        refine List.mem_map.2 ⟨y, hy, ?_⟩
        rw [hk y (List.mem_cons_of_mem _ hy), hk a List.mem_cons_self]
        rw [he]
    exact this pre hk h.keys
  have h2 := nodup_lenJ 256 _ h1 (fun y hy => by obtain ⟨x, hx, rfl⟩ := List.mem_map.1 hy; exact (h.step x hx).2.2.1)
  simpa using h2
/-- The least of what is yielded is the least of all stacks that are right. -/
theorem fin_least {s : StackD} {want : Int × Int} {xs : List (LenJ × FoundD)} (h : FinT s want xs) : leastJ (rightsS s want) = if xs = [] then none else some (leastF (xs.map (·.2))) := by
  have hp : ∀ t, t ∈ rightsS s want ↔ ∃ x ∈ xs, LongS s x.1 t := by
    intro t
    unfold rightsS
    rw [mem_rightsJ]
    constructor
    · rintro ⟨h1, h2, h3⟩
      obtain ⟨x, hx, he⟩ := h.2 _ t ⟨h2, h1, rfl⟩ h3
      exact ⟨x, hx, h2, h1, he.symm⟩
    · rintro ⟨x, hx, h1, h2, h3⟩
      refine ⟨h2, h1, ?_⟩
      rw [h3]; exact (h.1 x hx).2.1
  cases xs with
  | nil =>
    rw [if_pos rfl, least_none]
    cases hr : rightsS s want with
    | nil => rfl
    | cons t l => obtain ⟨x, hx, _⟩ := (hp t).1 (by rw [hr]; exact List.mem_cons_self); cases hx
  | cons x l =>
    rw [if_neg (by simp)]
    have hf := fold_fewJ 8 (LongS s) (l.map fun x => (x.1, x.2.least)) x.2.least (LongS s x.1) (h.1 x List.mem_cons_self).1 (fun e he => by
      obtain ⟨y, hy, rfl⟩ := List.mem_map.1 he
      exact (h.1 y (List.mem_cons_of_mem _ hy)).1)
    have he : (l.map fun x => (x.1, x.2.least)).foldl (fun t e => if LessJ 8 e.2 t then e.2 else t) x.2.least = leastF ((x :: l).map (·.2)) := by
      rw [List.map_cons, leastF, List.foldl_map, List.foldl_map]
    rw [he] at hf
    refine least_is hf fun t => ?_
    rw [hp t]
    constructor
    · rintro (h1 | ⟨e, he, h1⟩)
      · exact ⟨x, List.mem_cons_self, h1⟩
      · obtain ⟨y, hy, rfl⟩ := List.mem_map.1 he
        exact ⟨y, List.mem_cons_of_mem _ hy, h1⟩
    · rintro ⟨y, hy, h1⟩
      rcases List.mem_cons.1 hy with rfl | hy
      · exact .inl h1
      · exact .inr ⟨_, List.mem_map.2 ⟨y, hy, rfl⟩, h1⟩
theorem infoFound : (Tryd.prog.info? 107).map (fun i => (i.zero, i.size, i.bytes)) = some (some (.agg #[.int .i64 0, .int .u64 0, .int .u64 0, .int .u64 0]), 4, 32) := by kernel_rfl
theorem underFounds : Tryd.prog.underlying 146 = some (.slice 107) := by kernel_rfl
theorem flat_foundC : ∀ (l : List FoundD) (i : Nat) (h : i < l.length) (k : Nat), k < 4 → (l.flatMap foundC)[i * 4 + k]? = (foundC l[i])[k]?
  | [], i, h, _, _ => by simp at h
  | f :: l, 0, _, k, hk => by
    rw [List.flatMap_cons, Nat.zero_mul, Nat.zero_add, List.getElem?_append_left (by simpa [foundC] using hk)]
    rfl
  | f :: l, i + 1, h, k, hk => by
    rw [List.flatMap_cons, List.getElem?_append_right (by simp [foundC]; omega), show (i + 1) * 4 + k - (foundC f).length = i * 4 + k by simp [foundC]; omega, flat_foundC l i (by simpa using h) k hk]
    rfl
theorem founds_of_own {w : World} {base : Nat} {v : Value} {l : List FoundD} (h : w.ownsRow base 107 4 v l.length (l.flatMap foundC)) : FoundsAt w v l := by
  rcases id h.2 with ⟨h2, h3⟩ | ⟨g, cap, cur, h2, h3, h4, h5, h6, h7, h8⟩
  · have hl : l = [] := by
      cases l with
      | nil => rfl
      | cons f l => simp [foundC] at h3
    subst hl
    exact ⟨none, 0, h2, fun i hi => by simp at hi⟩
  · subst h2
    refine ⟨_, cap, rfl, fun i hi => ⟨g, 0, rfl, lt_of_block h4, ?_⟩⟩
    have hc : ∀ k, k < 4 → w.cell? ⟨g, i * 4 + k, none⟩ = (foundC l[i])[k]? := fun k hk => by
      rw [World.ownsRow.cellAt h (i * 4 + k) (by omega), flat_foundC l i hi k hk]
    rw [Nat.zero_add]
    exact ⟨hc 0 (by decide), hc 1 (by decide), hc 2 (by decide), hc 3 (by decide)⟩
theorem LeavesInM.congr {F : Fence} {n : Nat} {P : Program} {fn : Func} {t1 t2 : Array Value} {R : Ending → World → Prop} (hr : ∀ w v, (results fn t1).run P w = .ok v w → (results fn t2).run P w = .ok v w) :
    ∀ (ds : List Deferred) (u : FrameMode) (w : World), LeavesInM F n P fn t1 R ds u w → LeavesInM F n P fn t2 R ds u w
  | [], .returning, w, h => by obtain ⟨v, h1, h2⟩ := h; exact ⟨v, hr _ _ h1, h2⟩
  | [], .panicking _, w, h => h
  | [], .run, w, h => h
  | d :: ds, u, w, h => by
    obtain ⟨h1, h2⟩ := h
    refine ⟨h1, ?_⟩
    rcases h2 with ⟨r, w', h3, h4, h5⟩ | ⟨hn, fv, cap, f, args, h3, h4, h5, h6⟩
    · exact .inl ⟨r, w', h3, h4, LeavesInM.congr hr ds _ _ h5⟩
    · refine .inr ⟨hn, fv, cap, f, args, h3, h4, h5, h6.mono ?_⟩
      intro e u' w' he
      cases e with
      | returned v => exact LeavesInM.congr hr ds _ _ he
      | panicked c => exact LeavesInM.congr hr ds _ _ he
      | outgrown => exact he
theorem all_results (t1 t2 : Array Value) (h4 : t1.getD 4 undef = t2.getD 4 undef) (h5 : t1.getD 5 undef = t2.getD 5 undef) : results Tryd.f69 t1 = results Tryd.f69 t2 := by
  have : Tryd.f69.results = #[.cell 4 107, .tmp 5] := rfl
  unfold results
  rw [this]
  have h4' : t1[4]?.getD undef = t2[4]?.getD undef := by simpa [Array.getD_eq_getD_getElem?] using h4
  have h5' : t1[5]?.getD undef = t2[5]?.getD undef := by simpa [Array.getD_eq_getD_getElem?] using h5
  simp [h4', h5']
theorem all_put {R : Ending → World → Prop} {c : List PanicEntry} {d : Nat} {v : Value} {a : Act} {w : World} (h4 : d ≠ 4) (h5 : d ≠ 5)
    (h : bodyPostM Fence.wide 0 Tryd.prog Tryd.f69 R (.panic c) (a.put (some d) v) w) : bodyPostM Fence.wide 0 Tryd.prog Tryd.f69 R (.panic c) a w := by
  refine LeavesInM.congr (fun w v hh => ?_) _ _ _ h
  rw [all_results _ a.tmps] at hh
  · exact hh
  · simp [Act.put, Array.getD_eq_getD_getElem?, Array.getElem?_setIfInBounds, h4]
  · simp [Act.put, Array.getD_eq_getD_getElem?, Array.getElem?_setIfInBounds, h5]
/-- What all comes to. -/
def allR (s : StackD) (want : Int × Int) (e : Ending) : Prop :=
  ∃ f : FoundD, e = .returned (.tuple #[encF f, .bool (leastJ (rightsS s want)).isSome]) ∧ ∀ t, leastJ (rightsS s want) = some t → f.least = t
set_option maxRecDepth 100000 in
set_option maxHeartbeats 4000000 in
theorem all_any (s : StackD) (hv : validSt s = true) (want : Int × Int) (pp : Nat) (sv : Value) (w : World) (h : SetAt w pp s sv) :
    Calls Tryd.prog 69 #[.pointer (some ⟨pp, 0, none⟩), insV want] w fun e w' => allR s want e ∧ Below w.heap.size w w' := by
  have HS := Lib.hid h
  have hpp : pp < w.heap.size := (Array.getElem?_eq_some_iff.1 h.row).1
  clear h
  refine calls_of_wp_marks Tryd.func69 rfl ?_
  simp only [Tryd.ntmps69, List.size_toArray, List.length_cons, List.length_nil, Nat.reduceAdd, Nat.reduceSub, Array.replicate_succ, Array.replicate_zero, List.push_toArray, List.append_toArray, List.nil_append, List.cons_append]
  unfold insV spV
  go_wp2_with fail
  refine (that_any pp want (w.heap.size + 2) (w.heap.size + 3) _ (by simp) (by simp)).mono ?_
  rintro e w4 ⟨rfl, hw4⟩
  dsimp only
  have hb4 : Below w.heap.size w w4 := by rw [hw4]; exact ((((Below.refl _ _).alloc (Nat.le_refl _) _).alloc (by simp) _).alloc (by simp <;> omega) _).alloc (by simp <;> omega) _
  have hs4 : w4.heap.size = w.heap.size + 4 := by rw [hw4]; simp
  have r0 : w4.heap[w.heap.size]? = some (foundRow ⟨0, 0, 0, 0⟩) := by rw [hw4]; exact (by repeat (first | (refine heap_alloc_at _ _ _ ?_; (simp <;> omega); done) | (refine (hget_old _ _ _ ?_).trans ?_; · (simp <;> omega))))
  have r1 : w4.heap[w.heap.size + 1]? = some (.cells #[.slice none 0 0] 146 (0, 0)) := by rw [hw4]; exact (by repeat (first | (refine heap_alloc_at _ _ _ ?_; (simp <;> omega); done) | (refine (hget_old _ _ _ ?_).trans ?_; · (simp <;> omega))))
  have r2 : w4.heap[w.heap.size + 2]? = some (.cells #[.pointer (some ⟨pp, 0, none⟩)] 109 (0, 0)) := by rw [hw4]; exact (by repeat (first | (refine heap_alloc_at _ _ _ ?_; (simp <;> omega); done) | (refine (hget_old _ _ _ ?_).trans ?_; · (simp <;> omega))))
  have r3 : w4.heap[w.heap.size + 3]? = some (.cells #[insV want] 122 (0, 0)) := by rw [hw4]; exact (by repeat (first | (refine heap_alloc_at _ _ _ ?_; (simp <;> omega); done) | (refine (hget_old _ _ _ ?_).trans ?_; · (simp <;> omega))))
  have HB4 := Lib.hid hb4
  have HR := Lib.hid (And.intro r0 (And.intro r1 (And.intro r2 r3)))
  clear r0 r1 r2 r3 hw4 hb4
  go_wp2_with fail
  refine wp_rangeP (gf := 98) (lb := #[.pointer (some ⟨w.heap.size + 2, 0, none⟩), .pointer (some ⟨w.heap.size + 3, 0, none⟩)]) rfl (enters_of Tryd.func98 (by kernel_rfl) rfl) (encs := fun x : LenJ × FoundD => #[encL x.1, encF x.2]) (fun _ => rfl)
    (fun k => k ≤ pp ∨ k = w.heap.size + 2 ∨ k = w.heap.size + 3) (fun k => k = w.heap.size + 1) ?hRd ?hM (StepT s want) (FinT s want) ?hseq
    (fun pre G Wr => GotT s want pre ∧ ∃ v, Wr.heap[w.heap.size + 1]? = some (.cells #[v] 146 (0, 0)) ∧ Wr.ownsRow w4.heap.size 107 4 v (pre.map (·.2)).length ((pre.map (·.2)).flatMap foundC) ∧ (∀ k, v.ownBlock = some k → G k) ∧ Keeps (fun k => k = w.heap.size + 1) w4 Wr)
    (fun _ _ _ _ => False)
    ?hI ?hIx ?h0 ?hround ?hdone ?hstop
  case hRd => intro k hk; omega
  case hM => intro k hk; exact ⟨by omega, fun h => by omega⟩
  case hseq =>
    intro W' hb
    obtain ⟨r0, r1, r2, r3⟩ := HR.out
    exact that_seq s hv want pp (w.heap.size + 2) (w.heap.size + 3) sv W' ((HS.out.later HB4.out).later hb) ((hb.block _ (by omega)).trans r2) ((hb.block _ (by omega)).trans r3)
  case hI =>
    rintro s' G A B' ⟨h0, v, h1, h2, h3, h4⟩ hk
    exact ⟨h0, v, (hk.block _ (lt_of_block h1) (by omega)).trans h1, own_block h2 (fun k e => hk.block k (h2.lt k e).2 (fun hn => hn.2 (h3 k e))), h3, h4.transNew hk (fun i h => h.1)⟩
  case hIx => rintro c s' G A B' h hk; exact h
  case h0 => exact ⟨GotT.nil s want, _, HR.out.2.1, World.ownsRow_nil _ _ _ _, (fun k e => by simp [Value.ownBlock] at e), Keeps.refl _ _⟩
  case hstop => rintro D c pre x G W' hxs h; exact h.elim
  case hround =>
    rintro l pre x G Wr hxs ⟨hgot, v, h1, h2, h3, h4⟩ hl1 hl2 hGl
    obtain ⟨xl, f⟩ := x
    have hlen : (pre.map (·.2)).length ≤ 256 := by rw [List.length_map]; exact hgot.len
    have HGOT := Lib.hid (hgot.snoc hxs)
    have H1 := Lib.hid h1
    have H2 := Lib.hid h2
    have H3 := Lib.hid h3
    have H4 := Lib.hid h4
    have HGL := Lib.hid hGl
    clear h1 h2 h3 h4 hxs hGl hgot
    unfold encF
    gi_wp2
    refine ⟨Keeps.alloc _ _ _, ?_⟩
    intro W3 hk3 hs3
    have hs3 : W3.heap.size = Wr.heap.size + 1 := by rw [hs3]
    have hW3 : ∀ k, k < Wr.heap.size → k ≠ l → W3.heap[k]? = Wr.heap[k]? := fun k hk hne => (hk3.block k (by simp; omega) hne).trans (Below.heap_alloc _ _ _ hk)
    have z5 := (hW3 _ (by omega) (by omega)).trans H1.out
    have zf : W3.heap[Wr.heap.size]? = some (foundRow f) := (hk3.block _ (by simp) (by omega)).trans (heap_alloc_at _ _ _ rfl)
    have hown3 : W3.ownsRow w4.heap.size 107 4 v (pre.map (·.2)).length ((pre.map (·.2)).flatMap foundC) := own_block H2.out (fun k e => hW3 k (H2.out.lt k e).2 (fun hn => by have := HGL.out k (H3.out k e); omega))
    have hkr3 : Keeps (fun k => k = w.heap.size + 1) w4 W3 := (H4.out.trans (Keeps.alloc _ _ _)).transNew hk3 (fun i h => by omega)
    have d1 : W3.cell? ⟨w.heap.size + 1, 0, none⟩ = some v := by rw [cell_of_row W3 _ _ _ _ _ z5]; rfl
    have q0 : W3.cell? ⟨Wr.heap.size, 0, none⟩ = some (.int .i64 f.many) := by rw [cell_of_row _ _ _ _ _ _ zf]; rfl
    have q1 : W3.cell? ⟨Wr.heap.size, 1, none⟩ = some (.int .u64 f.least) := by rw [cell_of_row _ _ _ _ _ _ zf]; rfl
    have q2 : W3.cell? ⟨Wr.heap.size, 2, none⟩ = some (.int .u64 f.each) := by rw [cell_of_row _ _ _ _ _ _ zf]; rfl
    have q3 : W3.cell? ⟨Wr.heap.size, 3, none⟩ = some (.int .u64 f.some) := by rw [cell_of_row _ _ _ _ _ _ zf]; rfl
    have HZ3 := Lib.hid (And.intro z5 hown3)
    have HK3 := Lib.hid hkr3
    have HF3 := Lib.hid zf
    clear z5 zf hW3 hown3 hkr3 hk3
    gi_wp2_with (first | (refine wpListIn_append_here rfl (.tmp 14) (.tmp 16) 146 rfl w4.heap.size 107 4 32 _ underFounds infoFound rfl (by decide) v (pre.map (·.2)).length _ rfl (own_block HZ3.out.2 (fun k e => Below.heap_alloc _ _ _ (HZ3.out.2.lt k e).2)) (Wr.heap.size + 1) 1 #[.int .i64 f.many, .int .u64 f.least, .int .u64 f.each, .int .u64 f.some] 107 (0, 0) rfl (heap_alloc_at _ _ _ hs3.symm) rfl (by simp [Value.oneCell']) (by omega) (by decide) (by simp <;> omega) ?_))
    intro v1 W5 hown5 hg5 hat5
    have hb5 := (Below.refl w4.heap.size _).grown hg5 (by simp <;> omega) (own_base HZ3.out.2)
    have hz5 := (hb5.block (w.heap.size + 1) (by omega)).trans ((hget_old _ _ _ (by omega)).trans HZ3.out.1)
    have f5 : W5.frozen? ⟨w.heap.size + 1, 0, none⟩ = false := frozen_of_row _ _ 0 _ _ hz5
    have c5 : W5.cell? ⟨w.heap.size + 1, 0, none⟩ = some v := by rw [cell_of_row _ _ _ _ _ _ hz5]; rfl
    have hs5 := hg5.size
    have hat : ∀ k, v1.ownBlock = some k → Grow G Wr W5 k := fun k e => by
      rcases hat5 with h | h
      · exact .inl (H3.out k (h.symm.trans e))
      · rw [h] at e
        obtain rfl := Option.some.inj e
        exact .inr ⟨by first | omega | (simp <;> omega), (hown5.lt _ h).2⟩
    have hkg : Keeps (fun k => G k) W3 W5 := (Keeps.alloc _ _ _).trans ((keeps_grown hg5).mono (fun k _ e => H3.out k e))
    have HZ5 := Lib.hid (And.intro hz5 (And.intro hown5 (And.intro hat hkg)))
    obtain ⟨av, ac, nv, rfl⟩ : ∃ a n c, v1 = .slice a n c := by
      rcases hown5.2 with ⟨h2, _⟩ | ⟨g, cap, cur, h2, _⟩ <;> exact ⟨_, _, _, h2⟩
    clear hown5 hg5 hat5 hb5 hz5 hat hkg
    gi_wp2
    refine ⟨(HZ5.out.2.2.2.mono fun k _ h => .inr h).trans (Keeps.setCell _ _ _ (.inl rfl)), HGOT.out, .slice av ac nv, ?_, ?_, fun k e => ?_, ((HK3.out.transNew HZ5.out.2.2.2 (fun i h => by have := HGL.out i h; omega)).trans (Keeps.setCell _ _ _ rfl))⟩
    · have := HZ5.out.1
      simp [World.setCell, Array.getElem?_modify, this]
    · have := ownsRow_setCell_below HZ5.out.2.1 (a := ⟨w.heap.size + 1, 0, none⟩) (by show w.heap.size + 1 < w.heap.size + 4; omega) (.slice av ac nv)
      rw [List.length_append, List.map_append, List.flatMap_append]
      have hfc : [(xl, f)].map (·.2) = [f] := rfl
      rw [hfc]
      simpa [foundC, List.flatMap_map] using this
    · rcases HZ5.out.2.2.1 k e with h | h
      · exact .inl h
      · exact .inr ⟨h.1, by simpa [World.setCell] using h.2⟩
  case hdone =>
    rintro D xs G W' hfin ⟨hgot, v, h1, h2, h3, h4⟩ hGD hkk hD hDs
    have hfa := founds_of_own h2
    have hlst := fin_least hfin
    have hlen : (xs.map (·.2)).length ≤ 256 := by rw [List.length_map]; exact hgot.len
    have r0 := (h4.block w.heap.size (by omega) (by omega)).trans HR.out.1
    have z0 : W'.cell? ⟨w.heap.size + 1, 0, none⟩ = some v := by rw [cell_of_row _ _ _ _ _ _ h1]; rfl
    have HR0 := Lib.hid r0
    have H1 := Lib.hid h1
    have H4 := Lib.hid h4
    have HD := Lib.hid hD
    have HFA := Lib.hid hfa
    have HLST := Lib.hid hlst
    have HGT := Lib.hid hgot
    obtain ⟨ao, cap, rfl, _⟩ := id hfa
    obtain ⟨n, hn⟩ : ∃ n, n = (xs.map (·.2)).length := ⟨_, rfl⟩
    rw [← hn] at z0
    have HN := Lib.hid hn
    clear h1 h2 h3 h4 hGD hkk hD hfa hlst hgot hn r0
    go_wp2_with fail
    refine wp_region_held_drew (S := fun w' => w'.cell? ⟨w.heap.size + 1, 0, none⟩ = some (.slice ao n cap)) (by kernel_rfl) z0 fun hS => ?_
    refine wpAnyH_take (i := 0) (v := ?_) rfl (by kernel_rfl) (by kernel_rfl) (by kernel_rfl) (fun c a w h => all_put (by decide) (by decide) h) (Or.inl ⟨by rfl, ?_⟩) hS ?_
    rotate_left
    · (intro W hSw; go_simp; try with_reducible rfl)
    try simp only [List.getElem_toArray, List.getElem_cons_succ, List.getElem_cons_zero, Act.put, List.setIfInBounds_toArray, List.set_cons_zero, List.set_cons_succ]
    refine wpAnyH_take (i := 2) (v := ?_) rfl (by kernel_rfl) (by kernel_rfl) (by kernel_rfl) (fun c a w h => all_put (by decide) (by decide) h) (Or.inl ⟨by rfl, ?_⟩) hS ?_
    rotate_left
    · (intro W hSw; go_simp; try with_reducible rfl)
    try simp only [List.getElem_toArray, List.getElem_cons_succ, List.getElem_cons_zero, Act.put, List.setIfInBounds_toArray, List.set_cons_zero, List.set_cons_succ]
    refine wpAnyH_take (i := 3) (v := ?_) rfl (by kernel_rfl) (by kernel_rfl) (by kernel_rfl) (fun c a w h => all_put (by decide) (by decide) h) (Or.inl ⟨by rfl, ?_⟩) hS ?_
    rotate_left
    · (intro W hSw; go_simp; try with_reducible rfl)
    try simp only [List.getElem_toArray, List.getElem_cons_succ, List.getElem_cons_zero, Act.put, List.setIfInBounds_toArray, List.set_cons_zero, List.set_cons_succ]
    refine wpAnyH_take (i := 4) (v := ?_) rfl (by kernel_rfl) (by kernel_rfl) (by kernel_rfl) (fun c a w h => all_put (by decide) (by decide) h) (Or.inl ⟨by rfl, ?_⟩) hS ?_
    rotate_left
    · (intro W hSw; go_simp; try with_reducible rfl)
    try simp only [List.getElem_toArray, List.getElem_cons_succ, List.getElem_cons_zero, Act.put, List.setIfInBounds_toArray, List.set_cons_zero, List.set_cons_succ]
    refine wpAnyH_call (k := 1) (by kernel_rfl) rfl rfl (f := 88) (args := #[.slice ao n cap]) (by simp [execOp, go_sem, Act.eval, Act.put]) ?_
    refine (joined_any (xs.map (·.2)) (by omega) (fun f hf => by obtain ⟨x, hx, rfl⟩ := List.mem_map.1 hf; exact (HGT.out.step x hx).2.2.1) _ _ (by rw [HN.out]; exact HFA.out.later (Below.refl _ _).drew)).mono ?_
    rintro e w6 ⟨⟨g, rfl, hg⟩, hb6⟩
    dsimp only
    have hs6 : W'.heap.size ≤ w6.heap.size := hb6.size
    have hr6 := (hb6.block w.heap.size (lt_of_block HR0.out)).trans HR0.out
    have hz6 := (hb6.block (w.heap.size + 1) (lt_of_block H1.out)).trans H1.out
    have z6 : w6.cell? ⟨w.heap.size + 1, 0, none⟩ = some (.slice ao n cap) := by rw [cell_of_row _ _ _ _ _ _ hz6, HN.out]; rfl
    obtain ⟨cs, hcs⟩ : ∃ cs, cs = #[Value.int .i64 g.many, .int .u64 g.least, .int .u64 g.each, .int .u64 g.some] := ⟨_, rfl⟩
    obtain ⟨W7, hW7⟩ : ∃ W, W = w6.setRow w.heap.size cs := ⟨_, rfl⟩
    have hk7 : Keeps (fun k => k = w.heap.size) w6 W7 := by rw [hW7]; exact keeps_setRow _ _ _
    have hr7 : W7.heap[w.heap.size]? = some (foundRow g) := by rw [hW7, hcs]; exact setRow_heap _ _ _ _ _ _ hr6
    refine ⟨z6, ?_⟩
    have hS7 : W7.cell? ⟨w.heap.size + 1, 0, none⟩ = some (.slice ao n cap) := (World.cell?_of_block (w := w6) (a := ⟨w.heap.size + 1, 0, none⟩) (hk7.block (w.heap.size + 1) (lt_of_block hz6) (by omega))).trans z6
    have hd6 := (hk7.block D (by have := lt_of_block HD.out; omega) (by omega)).trans ((hb6.block D (lt_of_block HD.out)).trans HD.out)
    refine wpAnyH_skip (k := 5) (w' := W7) (by kernel_rfl) rfl rfl ?_ hS7 ?_
    · rw [hW7, hcs]
      exact run_store_row 107 (.tmp 4) (.tmp 19) rfl w.heap.size #[.int .i64 g.many, .int .u64 g.least, .int .u64 g.each, .int .u64 g.some] rfl rfl 107 _ hr6 (by kernel_rfl) rfl (by simp [Value.oneCell'])
    refine wpAnyH_value (k := 6) (w' := W7) (by kernel_rfl) rfl rfl rfl hS7 ?_
    refine wpAnyH_done (by kernel_rfl) ?_ _
    have hres : ∀ t, leastJ (rightsS s want) = some t → g.least = t := fun t ht => by
      rw [HLST.out] at ht
      split at ht
      · cases ht
      · rw [hg]; exact Option.some.inj ht
    have hsome : decide (0 < n) = (leastJ (rightsS s want)).isSome := by
      rw [HLST.out, HN.out, List.length_map]
      cases xs with
      | nil => rfl
      | cons x l => rw [if_neg (by simp)]; simp
    have hfin7 : Below w.heap.size w (W7.putObj D (.deferred none)) := by
      have hz4 := H4.out.size
      have hz7 := hk7.size
      have b2 : Below w.heap.size w4 W' := H4.out.below (by omega) (fun k h1 h2 => by omega)
      have b3 : Below w.heap.size W' w6 := (Below.refl _ _).drew.trans (hb6.mono (by show w.heap.size ≤ W'.heap.size; omega))
      have b4 : Below w.heap.size w6 W7 := hk7.below (by omega) (fun k h1 h2 => by omega)
      have b5 : Below w.heap.size W7 (W7.putObj D (.deferred none)) := (Keeps.putObj (Mut := fun k => k = D) W7 D _ rfl).below (by omega) (fun k h1 h2 => by omega)
      exact HB4.out.trans (b2.trans (b3.trans (b4.trans b5)))
    have hD7 : W7.heap[D]? = some (.deferred (some [])) := hd6
    have HRES := Lib.hid (And.intro hres (And.intro hsome (And.intro hfin7 (And.intro hr7 hD7))))
    clear hres hsome hfin7 hD7 hd6 hS7 hS z0 hr6 hz6 z6 hb6 hk7 hW7
    go_wp2_with fail
    rw [HRES.out.2.1]
    obtain ⟨hres, _, hfin7, hr7, hD7⟩ := HRES.out
    refine ⟨by simp, .inl ⟨_, _, rfl, run_takeDeferred hD7, ?_⟩⟩
    have hr8 : (W7.putObj D (.deferred none)).heap[w.heap.size]? = some (foundRow g) := (World.putObj_heap_other (by omega)).trans hr7
    have x0 : (W7.putObj D (.deferred none)).cell? ⟨w.heap.size, 0, none⟩ = some (.int .i64 g.many) := by rw [cell_of_row _ _ _ _ _ _ hr8]; rfl
    have x1 : (W7.putObj D (.deferred none)).cell? ⟨w.heap.size, 1, none⟩ = some (.int .u64 g.least) := by rw [cell_of_row _ _ _ _ _ _ hr8]; rfl
    have x2 : (W7.putObj D (.deferred none)).cell? ⟨w.heap.size, 2, none⟩ = some (.int .u64 g.each) := by rw [cell_of_row _ _ _ _ _ _ hr8]; rfl
    have x3 : (W7.putObj D (.deferred none)).cell? ⟨w.heap.size, 3, none⟩ = some (.int .u64 g.some) := by rw [cell_of_row _ _ _ _ _ _ hr8]; rfl
    refine ⟨.tuple #[encF g, .bool (leastJ (rightsS s want)).isSome], ?_, ⟨g, rfl, hres⟩, hfin7⟩
    simp [results, Tryd.results69, go_sem, encF, x0, x1, x2, x3, Act.put]
end Go.Proofs.YtbmfphiecllggaaDoor

/- A set of blocks is looked at: the walk of open. -/
namespace Go.Proofs.YtbmfphiecllggaaDoor
set_option linter.unusedVariables false
set_option linter.unusedSimpArgs false
open Go.RowKit Go.Shelf
attribute [local go_sem] Oper.semAt_some

theorem underSpansJ : Tryd.prog.underlying 22 = some (.slice 24) := by kernel_rfl
theorem infoSpanJ : (Tryd.prog.info? 24).map (fun i => (i.zero, i.size, i.bytes)) = some (some (.agg #[.int .i64 0, .int .i64 0]), 2, 16) := by kernel_rfl
def spanC (s : Int × Int) : List Value := [.int .i64 s.1, .int .i64 s.2]
theorem flat_spanC : ∀ (l : List (Int × Int)) (i : Nat) (h : i < l.length) (k : Nat), k < 2 → (l.flatMap spanC)[i * 2 + k]? = (spanC l[i])[k]?
  | [], i, h, _, _ => by simp at h
  | f :: l, 0, _, k, hk => by
    rw [List.flatMap_cons, Nat.zero_mul, Nat.zero_add, List.getElem?_append_left (by simpa [spanC] using hk)]
    rfl
  | f :: l, i + 1, h, k, hk => by
    rw [List.flatMap_cons, List.getElem?_append_right (by simp [spanC]; omega), show (i + 1) * 2 + k - (spanC f).length = i * 2 + k by simp [spanC]; omega, flat_spanC l i (by simpa using h) k hk]
    rfl
theorem flat_lenJ : ∀ (l : List (Int × Int)), (l.flatMap spanC).length = l.length * 2
  | [] => rfl
  | r :: l => by rw [List.flatMap_cons, List.length_append, flat_lenJ l, List.length_cons]; simp [spanC]; omega
/-- Spans are copied into a row of as many. -/
theorem copy_spans (l : List (Int × Int)) (ao : Option Addr) (cap : Nat) (Rd : Nat → Prop) (W : World) (h : SpansAt W (.slice ao l.length cap) l Rd) (ob : Nat) (cur : Array Value) (hl : l.length ≤ 1000) (hob : W.heap[ob]? = some (.cells cur 24 (0, 0))) (hsz : cur.size = l.length * 2) :
    ∃ W2, (Builtin.copy_ #[22, 22] 3 #[.slice (some ⟨ob, 0, none⟩) l.length l.length, .slice ao l.length cap]).run Tryd.prog W = .ok (.int .i64 l.length) W2 ∧
      SpansAt W2 (.slice (some ⟨ob, 0, none⟩) l.length l.length) l (fun k => k = ob) ∧ Keeps (fun k => k = ob) W W2 ∧ W2.heap.size = W.heap.size := by
  obtain ⟨ao', cap', he, _, _, hel⟩ := h
  cases he
  by_cases h0 : l = []
  · subst h0
    refine ⟨W, ?_, ⟨_, _, rfl, Nat.le_refl _, by unfold maxLen; omega, fun i hi => by simp at hi⟩, Keeps.refl _ _, rfl⟩
    obtain ⟨i0, hi0, hz0, hz1, hz2⟩ := info_parts infoSpanJ
    have hl0 : (loadCells ⟨0, 0, none⟩ 0).run Tryd.prog W = .ok #[] W := by rfl
    cases ao with
    | none => simp [Builtin.copy_, run_underlying underSpansJ, Builtin.lenOf, Builtin.firstCells, sizeOf, typeInfo, hi0, hz1, goInt, storeCells]
    | some a =>
      have hla := run_loadCells_list (P := Tryd.prog) W a [] (fun j v h => by simp at h)
      simp at hla
      simp [Builtin.copy_, run_underlying underSpansJ, Builtin.lenOf, Builtin.firstCells, sizeOf, typeInfo, hi0, hz1, goInt, storeCells, hla]
  · obtain ⟨b, off, rfl, _⟩ := hel 0 (List.length_pos_iff.2 h0)
    have hrow : (W.setRow ob (cur.toList.take 0 ++ l.flatMap spanC ++ cur.toList.drop (0 + (l.flatMap spanC).length)).toArray).heap[ob]? = some (.cells (l.flatMap spanC).toArray 24 (0, 0)) := by
      rw [setRow_heap _ _ _ _ _ _ hob]
      rw [List.take_zero, List.nil_append, Nat.zero_add, flat_lenJ, List.drop_of_length_le (by simp [hsz]), List.append_nil]
    refine ⟨W.setRow ob (cur.toList.take 0 ++ l.flatMap spanC ++ cur.toList.drop (0 + (l.flatMap spanC).length)).toArray, (run_copy_rows W _ _ _ 24 2 ob 0 _ _ ⟨b, off, none⟩ _ _ cur 24 (l.flatMap spanC) underSpansJ (by kernel_rfl) hob (by rw [flat_lenJ]; simp) ?_ (by rw [flat_lenJ]; omega) ?_).trans ?_, ?_, keeps_setRow _ _ _, by simp⟩
    · intro j v hj
      have hjl : j < l.length * 2 := by have := (List.getElem?_eq_some_iff.1 hj).1; rwa [flat_lenJ] at this
      obtain ⟨b2, off2, he2, _, _, e1, e2⟩ := hel (j / 2) (by omega)
      cases he2
      have hq : j % 2 < 2 := Nat.mod_lt _ (by omega)
      have hj2 : j = j / 2 * 2 + j % 2 := by omega
      have hjl2 : j / 2 < l.length := by omega
      rw [hj2, flat_spanC l (j / 2) hjl2 (j % 2) hq] at hj
      rw [Addr.add_mid, show off + j = off + j / 2 * 2 + j % 2 by omega]
      have hjc : j % 2 = 0 ∨ j % 2 = 1 := by omega
      rcases hjc with hc | hc <;> rw [hc] at hj ⊢ <;> simp [spanC] at hj <;> subst hj
      · exact e1
      · exact e2
    · intro v hv
      obtain ⟨r, _, hr⟩ := List.mem_flatMap.1 hv
      simp only [spanC, List.mem_cons, List.not_mem_nil, or_false] at hr
      rcases hr with rfl | rfl <;> rfl
    · simp [goInt]
    · refine ⟨_, _, rfl, Nat.le_refl _, by unfold maxLen; omega, fun i hi => ⟨ob, 0, rfl, rfl, lt_of_block hrow, ?_⟩⟩
      have hc : ∀ k, k < 2 → (W.setRow ob (cur.toList.take 0 ++ l.flatMap spanC ++ cur.toList.drop (0 + (l.flatMap spanC).length)).toArray).cell? ⟨ob, 0 + i * 2 + k, none⟩ = (spanC l[i])[k]? := fun k hk => by
        rw [cell_of_row _ _ _ _ _ _ hrow, Nat.zero_add]
        rw [List.getElem?_toArray, flat_spanC l i hi k hk]
      exact ⟨hc 0 (by decide), hc 1 (by decide)⟩
theorem validSt_parts {s : StackD} (h : validSt s = true) : s.bs.length ≤ 8 ∧ (0 ≤ s.film.1 ∧ s.film.1 ≤ s.film.2 ∧ s.film.2 ≤ 5) ∧ ∀ b ∈ s.bs, blockOk b = true := by
  unfold validSt filmOk at h
  simp only [Bool.and_eq_true, decide_eq_true_eq, List.all_eq_true] at h
  exact ⟨h.1.1, ⟨h.1.2.1.1, h.1.2.1.2, h.1.2.2⟩, h.2⟩
theorem validSt_of {s : StackD} (h1 : s.bs.length ≤ 8) (h2 : 0 ≤ s.film.1 ∧ s.film.1 ≤ s.film.2 ∧ s.film.2 ≤ 5) (h3 : ∀ b ∈ s.bs, blockOk b = true) : validSt s = true := by
  unfold validSt filmOk
  simp only [Bool.and_eq_true, decide_eq_true_eq, List.all_eq_true]
  exact ⟨⟨h1, ⟨⟨h2.1, h2.2.1⟩, h2.2.2⟩⟩, h3⟩
/-- What open comes to. -/
def OpenS (s : StackD) (ok : Bool) (w : World) (e : Ending) (w' : World) : Prop :=
  Below w.heap.size w w' ∧ ((errS s ok ≠ 0 ∧ e = .panicked [{ v := srefV (errS s ok), recovered := false }]) ∨
    (errS s ok = 0 ∧ ∃ pp sv, e = .returned (.pointer (some ⟨pp, 0, none⟩)) ∧ SetAt w' pp s sv ∧ w.heap.size ≤ pp))
def stackV (s : StackD) (bs : Value) : Value := .agg #[bs, .int .i64 s.film.1, .int .i64 s.film.2]
set_option maxRecDepth 100000 in
set_option maxHeartbeats 4000000 in
theorem sopen_any (s : StackD) (bs : Value) (ok : Bool) (w : World) (hbs : SpansAt w bs s.bs (fun k => k < w.heap.size)) :
    Calls Tryd.prog 67 #[stackV s bs, .bool ok] w (OpenS s ok w) := by
  have HBS := Lib.hid hbs
  obtain ⟨ao, cap, rfl, _⟩ := id hbs
  obtain ⟨l, ⟨fl, fh⟩⟩ := s
  obtain ⟨n, hn⟩ : ∃ n, n = l.length := ⟨_, rfl⟩
  have HN := Lib.hid hn
  unfold stackV
  dsimp only
  rw [← hn]
  clear hbs hn
  have hbad : ∀ W, validSt ⟨l, (fl, fh)⟩ = false → Below w.heap.size w W → OpenS ⟨l, (fl, fh)⟩ ok w (.panicked [{ v := srefV 1, recovered := false }]) W := fun W hv hb => by
    have : errS ⟨l, (fl, fh)⟩ ok = 1 := by unfold errS; rw [if_pos hv]
    exact ⟨hb, .inl ⟨by rw [this]; decide, by rw [this]⟩⟩
  have HBAD := Lib.hid hbad
  clear hbad
  have hb1 : ∀ o, Below w.heap.size w (w.alloc o) := fun o => (Below.refl _ _).alloc (Nat.le_refl _) _
  have HB1 := Lib.hid hb1
  clear hb1
  go_enter Tryd.func67, Tryd.ntmps67
  by_cases h1 : n ≤ 8
  · by_cases h2 : 0 ≤ fl
    · by_cases h3 : fl ≤ fh
      · by_cases h4 : fh ≤ 5
        · have h1i : (n : Int) ≤ 8 := by omega
          go_wp2_with fail
          refine (sask_ok 1 _).mono ?_
          rintro e w' ⟨rfl, rfl⟩
          dsimp only
          go_wp2_with fail
          refine wp_name (fun W => W.heap[w.heap.size]? = some (.cells #[.slice ao n cap, .int .i64 fl, .int .i64 fh] 26 (0, 0)) ∧ Below w.heap.size w W) ⟨(by repeat (first | (refine heap_alloc_at _ _ _ ?_; (simp <;> omega); done) | (refine (hget_old _ _ _ ?_).trans ?_; · (simp <;> omega)))), HB1.out _⟩ ?_
          rintro W0 ⟨hrow, hb0⟩
          have HI0 := Lib.hid (And.intro hrow hb0)
          clear hrow hb0
          go_loopw [37] (fun iv wr => ∃ i : Nat, i ≤ n ∧ iv = .int .i64 i ∧ (∀ b ∈ l.take i, blockOk b = true) ∧ wr.heap[w.heap.size]? = some (.cells #[.slice ao n cap, .int .i64 fl, .int .i64 fh] 26 (0, 0)) ∧ Below w.heap.size w wr)
            (fun iv _ => n - (intOf iv).toNat)
          case atStart => exact ⟨0, Nat.zero_le _, rfl, (fun b hb => by cases hb), HI0.out.1, HI0.out.2⟩
          case round =>
            obtain ⟨i, hi, rfl, hpre, hrow, hb⟩ := hrel
            have HPRE := Lib.hid hpre
            have HROW := Lib.hid hrow
            have HB := Lib.hid hb
            clear hpre hrow hb
            by_cases hlt : i < n
            · obtain ⟨ao', cap', hv', _, _, hel⟩ := HBS.out.later HB.out.size (fun k hk _ => HB.out.block k hk)
              injection hv' with hao hnn hcap
              subst hao hcap
              clear hnn
              obtain ⟨b, off, rfl, _, hbl, e0, e1⟩ := hel i (by rw [← HN.out]; exact hlt)
              obtain ⟨⟨bl, bh⟩, hx⟩ : ∃ x, x = l[i]'(by rw [← HN.out]; exact hlt) := ⟨_, rfl⟩
              rw [← hx] at e0 e1
              have HX := Lib.hid hx
              clear hx hel
              have hw : IntKind.i64.wrap ((i : Int) + 1) = ((i + 1 : Nat) : Int) := by rw [IntWalk.i64_in _ (by omega)]; omega
              have hlti : (i : Int) < (n : Int) := by omega
              have hmem : (bl, bh) ∈ l := by rw [HX.out]; exact List.getElem_mem _
              have HMEM := Lib.hid hmem
              clear hmem
              have hbw : ∀ o, Below w.heap.size w (wr.alloc o) := fun o => HB.out.alloc (by have := HB.out.size; omega) o
              have HBW := Lib.hid hbw
              clear hbw
              by_cases k1 : 1 ≤ bl
              · by_cases k2 : bl ≤ bh
                · by_cases k3 : bh ≤ 500
                  · have hws : IntKind.i64.wrap (bh - bl) = bh - bl := IntWalk.i64_in _ (by omega)
                    by_cases k4 : bh - bl ≤ 6
                    · go_wp2_with fail
                      refine (sask_ok 1 _).mono ?_
                      rintro e w' ⟨rfl, rfl⟩
                      dsimp only
                      go_wp2
                      refine ⟨⟨i + 1, hlt, rfl, fun x hx => ?_, (hget_old _ _ _ (by have := lt_of_block HROW.out; omega)).trans HROW.out, HBW.out _⟩, by simp [intOf]; omega⟩
                      rw [List.take_succ_eq_append_getElem (by rw [← HN.out]; exact hlt)] at hx
                      rcases List.mem_append.1 hx with h | h
                      · exact HPRE.out x h
                      · rw [List.mem_singleton.1 h, ← HX.out]; unfold blockOk; simp [k1, k2, k3, k4]
                    · skip
                      go_wp2_with fail
                      refine (sask_no 1 _).mono ?_
                      rintro e w' ⟨rfl, rfl⟩
                      dsimp only
                      go_wp2_with fail
                      exact ⟨rfl, HBAD.out _ (Bool.eq_false_iff.2 fun h => by have := (validSt_parts h).2.2 _ HMEM.out; unfold blockOk at this; simp only [Bool.and_eq_true, decide_eq_true_eq] at this; omega) (HBW.out _)⟩
                  · skip
                    go_wp2_with fail
                    refine (sask_no 1 _).mono ?_
                    rintro e w' ⟨rfl, rfl⟩
                    dsimp only
                    go_wp2_with fail
                    exact ⟨rfl, HBAD.out _ (Bool.eq_false_iff.2 fun h => by have := (validSt_parts h).2.2 _ HMEM.out; unfold blockOk at this; simp only [Bool.and_eq_true, decide_eq_true_eq] at this; omega) (HBW.out _)⟩
                · skip
                  go_wp2_with fail
                  refine (sask_no 1 _).mono ?_
                  rintro e w' ⟨rfl, rfl⟩
                  dsimp only
                  go_wp2_with fail
                  exact ⟨rfl, HBAD.out _ (Bool.eq_false_iff.2 fun h => by have := (validSt_parts h).2.2 _ HMEM.out; unfold blockOk at this; simp only [Bool.and_eq_true, decide_eq_true_eq] at this; omega) (HBW.out _)⟩
              · skip
                go_wp2_with fail
                refine (sask_no 1 _).mono ?_
                rintro e w' ⟨rfl, rfl⟩
                dsimp only
                go_wp2_with fail
                exact ⟨rfl, HBAD.out _ (Bool.eq_false_iff.2 fun h => by have := (validSt_parts h).2.2 _ HMEM.out; unfold blockOk at this; simp only [Bool.and_eq_true, decide_eq_true_eq] at this; omega) (HBW.out _)⟩
            · obtain rfl : i = n := by omega
              have hval : validSt ⟨l, (fl, fh)⟩ = true := validSt_of (by rw [← HN.out]; exact h1) ⟨h2, h3, h4⟩ (fun b hb => HPRE.out b (by rw [HN.out, List.take_length]; exact hb))
              have HVAL := Lib.hid hval
              clear hval
              cases ok with
              | false =>
                go_wp2_with fail
                refine (sask_no 2 _).mono ?_
                rintro e w' ⟨rfl, rfl⟩
                dsimp only
                go_wp2_with fail
                have : errS ⟨l, (fl, fh)⟩ false = 2 := by unfold errS; rw [HVAL.out]; rfl
                exact ⟨rfl, HB.out, .inl ⟨by rw [this]; decide, by rw [this]⟩⟩
              | true =>
                have c0 : wr.cell? ⟨w.heap.size, 0, none⟩ = some (.slice ao i cap) := by rw [cell_of_row _ _ _ _ _ _ HROW.out]; rfl
                go_wp2_with fail
                refine (sask_ok 2 _).mono ?_
                rintro e w' ⟨rfl, rfl⟩
                dsimp only
                have hnl := HN.out
                obtain ⟨cur0, hcur0⟩ : ∃ c, c = madeCells #[.int .i64 0, .int .i64 0] (i * 2) := ⟨_, rfl⟩
                have hmk : (Instr.makeSlice 22 (.int .i64 i) (.int .i64 i)).run Tryd.prog wr = .ok (.slice (some ⟨wr.heap.size, 0, none⟩) i i) (wr.alloc (.cells cur0 24)) := by
                  obtain ⟨i0, hi0, hz0, hz1, hz2⟩ := info_parts infoSpanJ
                  have := run_makeSlice (P := Tryd.prog) (w := wr) 22 24 i0 _ underSpansJ hi0 hz0 .i64 .i64 i i (by omega) (by omega) (by rw [hz1]; simp; omega) (by rw [hz2]; omega) (by omega)
                  rw [hz1] at this
                  rw [hcur0]
                  simpa [Value.cells] using this
                have hsz0 : cur0.size = l.length * 2 := by rw [hcur0, size_madeCells, hnl]
                obtain ⟨W1, hW1⟩ : ∃ W, W = wr.alloc (.cells cur0 24) := ⟨_, rfl⟩
                rw [← hW1] at hmk
                have hb1 : Below wr.heap.size wr W1 := by rw [hW1]; exact (Below.refl _ _).alloc (Nat.le_refl _) _
                have hs1 : W1.heap.size = wr.heap.size + 1 := by rw [hW1]; simp
                have hob : W1.heap[wr.heap.size]? = some (.cells cur0 24 (0, 0)) := by rw [hW1]; exact heap_alloc_at _ _ _ rfl
                have hsp1 : SpansAt W1 (.slice ao l.length cap) l (fun k => k < w.heap.size) := (HBS.out.later HB.out.size (fun k hk _ => HB.out.block k hk)).later (by omega) (fun k hk _ => hb1.block k hk)
                obtain ⟨W2, hcp, hsp2, hk2, hs2⟩ := copy_spans l ao cap _ W1 hsp1 wr.heap.size cur0 (by omega) hob hsz0
                rw [← hnl] at hcp hsp2
                have hrlt := lt_of_block HROW.out
                have hr1 := (hb1.block w.heap.size hrlt).trans HROW.out
                have hr2 := (hk2.block w.heap.size (by omega) (by omega)).trans hr1
                have d0 : W1.cell? ⟨w.heap.size, 0, none⟩ = some (.slice ao i cap) := by rw [cell_of_row _ _ _ _ _ _ hr1]; rfl
                have d1 : W2.cell? ⟨w.heap.size, 1, none⟩ = some (.int .i64 fl) := by rw [cell_of_row _ _ _ _ _ _ hr2]; rfl
                have d2 : W2.cell? ⟨w.heap.size, 2, none⟩ = some (.int .i64 fh) := by rw [cell_of_row _ _ _ _ _ _ hr2]; rfl
                have hbW : Below w.heap.size w W2 := HB.out.trans ((hb1.mono (by omega)).trans (hk2.below (by omega) (fun k h1 h2 => by omega)))
                have HE := Lib.hid (And.intro hbW (And.intro hsp2 hs2))
                clear hbW hsp2 hs2 hW1 hb1 hob hsp1 hk2 hr1 hr2 hsz0 hcur0 hnl
                go_wp2
                go_ret
                obtain ⟨hbW, hsp2, hs2⟩ := HE.out
                refine ⟨hbW.alloc (by omega) _, .inr ⟨by unfold errS; rw [HVAL.out]; rfl, W2.heap.size, _, rfl, ⟨heap_alloc_at _ _ _ rfl, ?_⟩, by omega⟩⟩
                have hsp3 := hsp2.later (W := W2.alloc (.cells #[.slice (some ⟨wr.heap.size, 0, none⟩) i i, .int .i64 fl, .int .i64 fh] 145)) (by simp) (fun k h1 h2 => Below.heap_alloc _ _ _ h1)
                obtain ⟨ao3, cap3, e1, e2, e3, e4⟩ := hsp3
                refine ⟨ao3, cap3, ?_, e2, e3, fun j hj => ?_⟩
                · rw [← e1]
                · obtain ⟨b, off, f1, f2, f3⟩ := e4 j hj
                  exact ⟨b, off, f1, by omega, f3⟩
        · have h1i : (n : Int) ≤ 8 := by omega
          go_wp2_with fail
          refine (sask_no 1 _).mono ?_
          rintro e w' ⟨rfl, rfl⟩
          dsimp only
          go_wp2_with fail
          exact ⟨rfl, HBAD.out _ (Bool.eq_false_iff.2 fun h => by have := (validSt_parts h).2.1; dsimp only at this; omega) (HB1.out _)⟩
      · have h1i : (n : Int) ≤ 8 := by omega
        go_wp2_with fail
        refine (sask_no 1 _).mono ?_
        rintro e w' ⟨rfl, rfl⟩
        dsimp only
        go_wp2_with fail
        exact ⟨rfl, HBAD.out _ (Bool.eq_false_iff.2 fun h => by have := (validSt_parts h).2.1; dsimp only at this; omega) (HB1.out _)⟩
    · have h1i : (n : Int) ≤ 8 := by omega
      go_wp2_with fail
      refine (sask_no 1 _).mono ?_
      rintro e w' ⟨rfl, rfl⟩
      dsimp only
      go_wp2_with fail
      exact ⟨rfl, HBAD.out _ (Bool.eq_false_iff.2 fun h => by have := (validSt_parts h).2.1; dsimp only at this; omega) (HB1.out _)⟩
  · have h1i : ¬ (n : Int) ≤ 8 := by omega
    go_wp2_with fail
    refine (sask_no 1 _).mono ?_
    rintro e w' ⟨rfl, rfl⟩
    dsimp only
    go_wp2_with fail
    exact ⟨rfl, HBAD.out _ (Bool.eq_false_iff.2 fun h => by have := (validSt_parts h).1; have := HN.out; dsimp only at *; omega) (HB1.out _)⟩
end Go.Proofs.YtbmfphiecllggaaDoor

/- A refusal is answered; how long a stack is. -/
namespace Go.Proofs.YtbmfphiecllggaaDoor
set_option linter.unusedVariables false
set_option linter.unusedSimpArgs false
open Go.RowKit Go.Shelf
attribute [local go_sem] Oper.semAt_some

set_option maxRecDepth 100000 in
set_option maxHeartbeats 2000000 in
theorem sanswer_idle (ep : Nat) (w : World) :
    CallsD Tryd.prog 66 #[.pointer (some ⟨ep, 0, none⟩)] .returning w fun e u' w' => e = .returned (.tuple #[]) ∧ u' = .returning ∧ w' = w := by
  refine callsD_of_wpS Tryd.func66 rfl fun c₀ cs hu => ?_
  have hm : c₀ = { c₀ with mode := .returning } := by cases c₀; simp_all
  simp only [Tryd.ntmps66, List.size_toArray, List.length_cons, List.length_nil, Nat.reduceAdd, Nat.reduceSub, Array.replicate_succ, Array.replicate_zero, List.push_toArray, List.append_toArray, List.nil_append, List.cons_append]
  refine wpS_seq ?_
  apply wpS_region
  simp [wpOpsS, go_sem, recoverD, hu, Oper.upon, Exit.thenS]
  refine wpS_of_wp ?_
  go_wp2
  simp only [bodyPostS]
  exact ⟨trivial, .returning, by rw [← hm], .tuple #[], by simp [results, Tryd.results66, go_sem], by first | exact ⟨rfl, rfl, rfl⟩ | exact ⟨trivial, rfl, rfl⟩ | simp⟩
set_option maxRecDepth 100000 in
set_option maxHeartbeats 2000000 in
theorem sanswer_stop (n : Int) (ep : Nat) (x : Int) (w : World) (hep : w.heap[ep]? = some (.cells #[.int .i64 x] 33 (0, 0))) :
    CallsD Tryd.prog 66 #[.pointer (some ⟨ep, 0, none⟩)] (.panicking [{ v := srefV n, recovered := false }]) w fun e u' w' => e = .returned (.tuple #[]) ∧ u' = .panicking [{ v := srefV n, recovered := true }] ∧ Keeps (fun k => k = ep) w w' ∧ w'.heap[ep]? = some (.cells #[.int .i64 n] 33 (0, 0)) := by
  have hlt := lt_of_block hep
  have hta : ∀ W : World, (Instr.typeAssert (.iface 142 (.int .i64 n)) 20 142 true).run Tryd.prog W = .ok (.tuple #[.int .i64 n, .bool true]) W := fun W => by kernel_rfl
  have c0 : w.cell? ⟨ep, 0, none⟩ = some (.int .i64 x) := by rw [cell_of_row _ _ _ _ _ _ hep]; rfl
  have c1 : w.frozen? ⟨ep, 0, none⟩ = false := frozen_of_row _ _ _ _ _ hep
  refine callsD_of_wpS Tryd.func66 rfl fun c₀ cs hu => ?_
  simp only [Tryd.ntmps66, List.size_toArray, List.length_cons, List.length_nil, Nat.reduceAdd, Nat.reduceSub, Array.replicate_succ, Array.replicate_zero, List.push_toArray, List.append_toArray, List.nil_append, List.cons_append]
  refine wpS_seq ?_
  apply wpS_region
  simp [wpOpsS, go_sem, recoverD, hu, Oper.upon, Exit.thenS]
  refine wpS_of_wp ?_
  unfold srefV
  have c2 : (w.setCell ⟨ep, 0, none⟩ (.int .i64 n)).heap[ep]? = some (.cells #[.int .i64 n] 33 (0, 0)) := by
    simp [World.setCell, Array.getElem?_modify, hep]
  have C2 := Lib.hid c2
  have HT := Lib.hid hta
  clear c2
  go_wp2
  simp only [bodyPostS]
  exact ⟨trivial, _, rfl, .tuple #[], by simp [results, Tryd.results66, go_sem], by first | exact ⟨rfl, rfl, Keeps.setCell (Mut := fun k => k = ep) _ _ _ rfl, C2.out⟩ | exact ⟨trivial, rfl, Keeps.setCell (Mut := fun k => k = ep) _ _ _ rfl, C2.out⟩⟩
/-- A refusal that is answered. -/
theorem sleaf_stop {fn : Func} (n : Int) {R : Ending → World → Prop} (E : Nat) (x : Int) (tmps : Array Value) (w5 : World) (he : w5.heap[E]? = some (.cells #[.int .i64 x] 33 (0, 0)))
    (hR : ∀ W', Keeps (fun k => k = E) w5 W' → W'.heap[E]? = some (.cells #[.int .i64 n] 33 (0, 0)) → ∃ v, (results fn tmps).run Tryd.prog W' = .ok v W' ∧ R (.returned v) W') :
    Leaves Tryd.prog fn tmps R [{ target := .fn (.func 66) #[], args := #[.pointer (some ⟨E, 0, none⟩)] }] (.panicking [{ v := srefV n, recovered := false }]) w5 := by
  refine leaves_cons (f := 66) (args := #[.pointer (some ⟨E, 0, none⟩)]) (by simp) (by simp [go_sem, invoke]) ?_
  refine (sanswer_stop n E x w5 he).mono ?_
  rintro e u' w' ⟨rfl, rfl, hk, he'⟩
  exact hR _ hk he'
theorem sleaf_ret {fn : Func} {R : Ending → World → Prop} (E : Nat) (tmps : Array Value) (w5 : World) (hR : ∃ v, (results fn tmps).run Tryd.prog w5 = .ok v w5 ∧ R (.returned v) w5) :
    Leaves Tryd.prog fn tmps R [{ target := .fn (.func 66) #[], args := #[.pointer (some ⟨E, 0, none⟩)] }] .returning w5 := by
  refine leaves_cons (f := 66) (args := #[.pointer (some ⟨E, 0, none⟩)]) (by simp) (by simp [go_sem, invoke]) ?_
  refine (sanswer_idle E w5).mono ?_
  rintro e u' w' ⟨rfl, rfl, rfl⟩
  exact hR

/-! ### how long a stack is -/
theorem bit_testJ (s k : Nat) (hs : s < 256) : (bits BinOp.and IntKind.u64 ((s : Int) / 2 ^ k) 1 == 1) = s.testBit k := by
  have h1 : ((s : Int) / 2 ^ k) = ((s / 2 ^ k : Nat) : Int) := by simp
  have h2 : s / 2 ^ k ≤ s := Nat.div_le_self _ _
  rw [h1, Nat.testBit_eq_decide_div_mod_eq]
  generalize s / 2 ^ k = q at *
  rw [and_one_u64 _ (by omega) (by omega)]
  rcases Nat.mod_two_eq_zero_or_one q with h | h
  · have : (q : Int) % 2 = 0 := by omega
    rw [this, h]; rfl
  · have : (q : Int) % 2 = 1 := by omega
    rw [this, h]; rfl
theorem sel_succJ {α : Type} : ∀ (bs : List α) (i x : Nat) (h : i < bs.length), selJ (bs.take (i + 1)) x = selJ (bs.take i) x ++ (if x.testBit i then [bs[i]] else [])
  | [], i, x, h => by simp at h
  | b :: bs, 0, x, h => by
    rw [List.take_succ_cons, List.take_zero, List.take_zero, Nat.testBit_zero]
    by_cases hx : x % 2 = 1 <;> simp [selJ, hx]
  | b :: bs, i + 1, x, h => by
    rw [List.take_succ_cons, List.take_succ_cons, selJ, selJ, sel_succJ bs i (x / 2) (by simpa using h), testBit_succJ]
    by_cases hx : x % 2 = 1
    · rw [if_pos hx, if_pos hx, List.cons_append]; rfl
    · rw [if_neg hx, if_neg hx]; rfl
theorem three_setCell {w : World} {b : Nat} {x y z x' y' z' : Value} {t : TypeId} {fr : Nat × Nat} (h : w.heap[b]? = some (.cells #[x, y, z] t fr)) :
    (((w.setCell ⟨b, 0, none⟩ x').setCell ⟨b, 1, none⟩ y').setCell ⟨b, 2, none⟩ z').heap[b]? = some (.cells #[x', y', z'] t fr) := by
  simp [World.setCell, Array.getElem?_modify, h]
theorem lenOk_sel {s : StackD} (hv : validSt s = true) (i x : Nat) : LenOk (lenJ s.film (selJ (s.bs.take i) x)) := by
  obtain ⟨h1, h2, h3⟩ := validSt_parts hv
  have hl : (selJ (s.bs.take i) x).length ≤ 8 := Nat.le_trans (sel_lenJ _ _) (Nat.le_trans (List.length_take_le' _ _) h1)
  have hf : filmOk s.film = true := by unfold filmOk; simp only [Bool.and_eq_true, decide_eq_true_eq]; exact ⟨⟨h2.1, h2.2.1⟩, h2.2.2⟩
  have hk := len_okJ s.film hf (selJ (s.bs.take i) x) LenJ.zero (fun b hb => h3 b (List.mem_of_mem_take (sel_memJ _ _ _ hb))) (by decide) (by decide) (by decide) (by decide)
  have hm := lenJ_many s.film (selJ (s.bs.take i) x)
  have hz : LenJ.zero.many = 0 := rfl
  rw [hz] at hk
  unfold lenJ at *
  refine ⟨⟨by omega, by omega⟩, ⟨by omega, by omega⟩, by omega, by omega⟩
set_option maxRecDepth 100000 in
set_option maxHeartbeats 4000000 in
theorem sof_any (s : StackD) (hv : validSt s = true) (x : Nat) (hx : x < 256) (pp : Nat) (sv : Value) (w : World) (h : SetAt w pp s sv) :
    Calls Tryd.prog 75 #[.pointer (some ⟨pp, 0, none⟩), .int .u64 x] w fun e w' => e = .returned (encL (lenS s x)) ∧ Below w.heap.size w w' := by
  have HS := Lib.hid h
  have HV := Lib.hid hv
  obtain ⟨hlen, hfilm, hblk⟩ := validSt_parts hv
  have hpp : pp < w.heap.size := (Array.getElem?_eq_some_iff.1 h.row).1
  obtain ⟨ao, cap, hsv, _⟩ := h.bs
  subst hsv
  obtain ⟨n, hn⟩ : ∃ n, n = s.bs.length := ⟨_, rfl⟩
  have HN := Lib.hid hn
  rw [← hn] at HS hlen
  have HBLK := Lib.hid hblk
  clear h hv hn hfilm hblk
  have hb0 : ∀ o, Below w.heap.size w (w.alloc o) := fun o => (Below.refl _ _).alloc (Nat.le_refl _) _
  have c0 : ∀ o, (w.alloc o).cell? ⟨pp, 0, none⟩ = some (.slice ao n cap) := fun o => by rw [cell_of_row _ _ _ _ _ _ (((hb0 o).block _ hpp).trans HS.out.row)]; rfl
  go_enter Tryd.func75, Tryd.ntmps75
  go_wp2_with fail
  clear c0
  go_loopw [12] (fun iv wr => ∃ i : Nat, i ≤ n ∧ iv = .int .i64 i ∧ (∃ l, wr.heap[w.heap.size]? = some (lenRow l) ∧ l = lenJ s.film (selJ (s.bs.take i) x)) ∧ Below w.heap.size w wr)
    (fun iv _ => n - (intOf iv).toNat)
  case atStart => exact ⟨0, Nat.zero_le _, rfl, ⟨LenJ.zero, heap_alloc_at _ _ _ rfl, rfl⟩, hb0 _⟩
  case round =>
    clear hb0
    obtain ⟨wo, hwo⟩ : ∃ x, x = wr := ⟨_, rfl⟩
    subst hwo
    obtain ⟨i, hi, rfl, ⟨l, hrow, hl⟩, hb⟩ := hrel
    have HROW := Lib.hid hrow
    have HL := Lib.hid hl
    have HB := Lib.hid hb
    clear hrow hl hb
    by_cases hlt : i < n
    · obtain ⟨ao', cap', hv', _, _, hel⟩ := (HS.out.later HB.out).bs
      injection hv' with hao hnn hcap
      subst hao hcap
      clear hnn
      obtain ⟨b, off, rfl, _, hbs, e0, e1⟩ := hel i (by rw [← HN.out]; exact hlt)
      obtain ⟨⟨bl, bh⟩, hbx⟩ : ∃ x, x = s.bs[i]'(by rw [← HN.out]; exact hlt) := ⟨_, rfl⟩
      rw [← hbx] at e0 e1
      have HX := Lib.hid hbx
      clear hbx hel
      have hw : IntKind.i64.wrap ((i : Int) + 1) = ((i + 1 : Nat) : Int) := by rw [IntWalk.i64_in _ (by omega)]; omega
      have hlti : (i : Int) < (n : Int) := by omega
      have hbit := bit_testJ x i hx
      have hsel := sel_succJ s.bs i x (by rw [← HN.out]; exact hlt)
      cases htb : x.testBit i with
      | false =>
        rw [htb] at hbit hsel
        have HSEL := Lib.hid hsel
        clear hsel htb
        go_wp2
        refine ⟨⟨i + 1, hlt, rfl, ⟨l, (hget_old _ _ _ (by have := lt_of_block HROW.out; omega)).trans HROW.out, ?_⟩, HB.out.alloc (by have := HB.out.size; omega) _⟩, by simp [intOf]; omega⟩
        rw [HSEL.out, HL.out]; simp
      | true =>
        rw [htb] at hbit hsel
        have HSEL := Lib.hid hsel
        clear hsel htb
        go_wp2_with fail
        refine wp_name (fun X => X.heap[w.heap.size]? = some (lenRow l) ∧ X.heap[wo.heap.size]? = some (.cells #[.int .i64 bl, .int .i64 bh] 24 (0, 0)) ∧ Below w.heap.size w X) ⟨(hget_old _ _ _ (by have := lt_of_block HROW.out; omega)).trans HROW.out, heap_alloc_at _ _ _ rfl, HB.out.alloc (by have := HB.out.size; omega) _⟩ ?_
        rintro X ⟨hxl, hxb, hbX⟩
        have hset := (HS.out.later hbX).row
        have hx1 := lt_of_block hxl
        have hx2 := lt_of_block hxb
        have hx3 := hbX.size
        have hcells : ∀ W', Below X.heap.size X W' → W'.cell? ⟨w.heap.size, 0, none⟩ = some (.int .i64 l.lo) ∧ W'.cell? ⟨w.heap.size, 1, none⟩ = some (.int .i64 l.hi) ∧ W'.cell? ⟨w.heap.size, 2, none⟩ = some (.int .i64 l.many) ∧
            W'.cell? ⟨wo.heap.size, 0, none⟩ = some (.int .i64 bl) ∧ W'.cell? ⟨wo.heap.size, 1, none⟩ = some (.int .i64 bh) ∧ W'.cell? ⟨pp, 1, none⟩ = some (.int .i64 s.film.1) ∧ W'.cell? ⟨pp, 2, none⟩ = some (.int .i64 s.film.2) := by
          intro W' hC
          have y1 := (hC.block _ hx1).trans hxl
          have y2 := (hC.block _ hx2).trans hxb
          have y3 := (hC.block pp (by omega)).trans hset
          refine ⟨?_, ?_, ?_, ?_, ?_, ?_, ?_⟩
          · rw [cell_of_row _ _ _ _ _ _ y1]; rfl
          · rw [cell_of_row _ _ _ _ _ _ y1]; rfl
          · rw [cell_of_row _ _ _ _ _ _ y1]; rfl
          · rw [cell_of_row _ _ _ _ _ _ y2]; rfl
          · rw [cell_of_row _ _ _ _ _ _ y2]; rfl
          · rw [cell_of_row _ _ _ _ _ _ y3]; rfl
          · rw [cell_of_row _ _ _ _ _ _ y3]; rfl
        have CELLS := Lib.hid hcells
        have HXL := Lib.hid hxl
        have HBX := Lib.hid hbX
        clear hcells hxl hxb hbX hset
        obtain ⟨L, hL⟩ : ∃ L, L = l.with (bl, bh) s.film := ⟨_, rfl⟩
        have HLW := Lib.hid hL
        clear hL
        refine region_fix 7 (fun W' => Below X.heap.size X W') (by kernel_rfl) (by kernel_rfl) (Below.refl _ _).drew ?_
        simp only [List.take_succ_cons, List.take_zero, List.drop_succ_cons, List.drop_zero]
        iterate 6
          refine WF_step ?_ (fun W' hC => ?_) rfl ?_
          rotate_left
          · obtain ⟨l0, l1, l2, b0, b1, f1, f2⟩ := CELLS.out W' hC
            go_simp
            exact fix_value hC
          simp only [Act.put, List.setIfInBounds_toArray, List.set_cons_zero, List.set_cons_succ]
        refine WF_step (encL L) (fun W' hC => ?_) rfl ?_
        · go_simp
          refine fix_enter ((lwith_any l (bl, bh) s.film (by rw [HL.out]; exact lenOk_sel HV.out i x) (spOk_block (HBLK.out _ (by rw [HX.out]; exact List.getElem_mem _))) (spOk_film (by have := HV.out; unfold validSt at this; simp only [Bool.and_eq_true] at this; exact this.1.2)) _).mono ?_)
          rintro e w1 ⟨rfl, hb1⟩
          exact ⟨by rw [HLW.out], hC.trans (hb1.mono hC.size)⟩
        simp only [Act.put, List.setIfInBounds_toArray, List.set_cons_zero, List.set_cons_succ]
        refine WF_nil ?_
        intro X6 hC6
        have h6 := (hC6.block _ hx1).trans HXL.out
        have f6 : ∀ k, X6.frozen? ⟨w.heap.size, k, none⟩ = false := fun k => frozen_of_row _ _ k _ _ h6
        have hb6 : Below w.heap.size w X6 := HBX.out.trans (hC6.mono hx3)
        have H6 := Lib.hid h6
        have HB6 := Lib.hid hb6
        obtain ⟨l0, l1, l2, _⟩ := CELLS.out X6 hC6
        clear h6 hb6 hC6
        unfold encL
        go_wp2
        refine ⟨⟨i + 1, hlt, rfl, ⟨L, three_setCell H6.out, ?_⟩, ((HB6.out.setCell (p := ⟨w.heap.size, 0, none⟩) (Nat.le_refl _) _).setCell (p := ⟨w.heap.size, 1, none⟩) (Nat.le_refl _) _).setCell (p := ⟨w.heap.size, 2, none⟩) (Nat.le_refl _) _⟩, by simp [intOf]; omega⟩
        rw [HSEL.out, HLW.out, HL.out]
        simp only [if_true]
        rw [lenJ_snoc, HX.out]
    · obtain rfl : i = n := by omega
      have l0 : wo.cell? ⟨w.heap.size, 0, none⟩ = some (.int .i64 l.lo) := by rw [cell_of_row _ _ _ _ _ _ HROW.out]; rfl
      have l1 : wo.cell? ⟨w.heap.size, 1, none⟩ = some (.int .i64 l.hi) := by rw [cell_of_row _ _ _ _ _ _ HROW.out]; rfl
      have l2 : wo.cell? ⟨w.heap.size, 2, none⟩ = some (.int .i64 l.many) := by rw [cell_of_row _ _ _ _ _ _ HROW.out]; rfl
      have lf : ∀ k, wo.frozen? ⟨w.heap.size, k, none⟩ = false := fun k => frozen_of_row _ _ k _ _ HROW.out
      go_wp2
      have h9 := three_setCell (x' := .int .i64 l.lo) (y' := .int .i64 l.hi) (z' := .int .i64 l.many) HROW.out
      obtain ⟨W9, hW9⟩ : ∃ W, W = ((wo.setCell ⟨w.heap.size, 0, none⟩ (.int .i64 l.lo)).setCell ⟨w.heap.size, 1, none⟩ (.int .i64 l.hi)).setCell ⟨w.heap.size, 2, none⟩ (.int .i64 l.many) := ⟨_, rfl⟩
      have hb9 : Below w.heap.size w W9 := by rw [hW9]; exact ((HB.out.setCell (p := ⟨w.heap.size, 0, none⟩) (Nat.le_refl _) _).setCell (p := ⟨w.heap.size, 1, none⟩) (Nat.le_refl _) _).setCell (p := ⟨w.heap.size, 2, none⟩) (Nat.le_refl _) _
      rw [← hW9] at h9 ⊢
      have z0 : W9.cell? ⟨w.heap.size, 0, none⟩ = some (.int .i64 l.lo) := by rw [cell_of_row _ _ _ _ _ _ h9]; rfl
      have z1 : W9.cell? ⟨w.heap.size, 1, none⟩ = some (.int .i64 l.hi) := by rw [cell_of_row _ _ _ _ _ _ h9]; rfl
      have z2 : W9.cell? ⟨w.heap.size, 2, none⟩ = some (.int .i64 l.many) := by rw [cell_of_row _ _ _ _ _ _ h9]; rfl
      refine bodyPost_ret (v := encL l) ?_ rfl ⟨?_, hb9⟩
      · simp [results, Tryd.results75, go_sem, encL, z0, z1, z2]
      · rw [HL.out, HN.out, List.take_length]; rfl
end Go.Proofs.YtbmfphiecllggaaDoor
