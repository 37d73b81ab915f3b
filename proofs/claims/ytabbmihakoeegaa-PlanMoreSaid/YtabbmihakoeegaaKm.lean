/- Texts Vq, Vr, Vs, Vt, Vu in one file; each begins with a word on what it proves. -/
import Derived.RecoverIn
import Derived.Test.YtabbmihakoeegaaKl

/- A refusal is answered, behind a range over a function. -/
namespace Go.Proofs.Ytabbmihakoeegaa
set_option linter.unusedVariables false
set_option linter.unusedSimpArgs false
open Go.RowKit Go.Shelf
attribute [local go_sem] Oper.semAt_some

set_option maxRecDepth 100000 in
set_option maxHeartbeats 2000000 in
theorem answerIn_idle (ep : Nat) (w : World) :
    CallsDIn Fence.wide 0 Try.prog 29 #[.pointer (some ⟨ep, 0, none⟩)] .returning w fun e u' w' => e = .returned (.tuple #[]) ∧ u' = .returning ∧ w' = w := by
  refine callsDIn_of_wpSIn Try.func29 rfl trivial fun c₀ cs hu => ?_
  have hm : c₀ = { c₀ with mode := .returning } := by cases c₀; simp_all
  simp only [Try.ntmps29, List.size_toArray, List.length_cons, List.length_nil, Nat.reduceAdd, Nat.reduceSub, Array.replicate_succ, Array.replicate_zero, List.push_toArray, List.append_toArray, List.nil_append, List.cons_append]
  refine wpSIn_seq ?_
  apply wpSIn_region
  simp [wpOpsSIn, go_sem, recoverD, hu, Oper.upon, Exit.thenS, Fence.wide]
  refine wpSIn_of_wpIn rfl ?_
  refine (wpIn_wide (n := 0)).2 ?_
  go_wp2
  simp only [bodyPostS]
  exact ⟨trivial, .returning, by rw [← hm], .tuple #[], by simp [results, Try.results29, go_sem], by first | exact ⟨rfl, rfl, rfl⟩ | exact ⟨trivial, rfl, rfl⟩ | simp⟩
set_option maxRecDepth 100000 in
set_option maxHeartbeats 2000000 in
theorem answerIn_stop (n : Int) (ep : Nat) (x : Int) (w : World) (hep : w.heap[ep]? = some (.cells #[.int .i64 x] 33 (0, 0))) :
    CallsDIn Fence.wide 0 Try.prog 29 #[.pointer (some ⟨ep, 0, none⟩)] (.panicking [{ v := refV n, recovered := false }]) w fun e u' w' => e = .returned (.tuple #[]) ∧ u' = .panicking [{ v := refV n, recovered := true }] ∧ Keeps (fun k => k = ep) w w' ∧ w'.heap[ep]? = some (.cells #[.int .i64 n] 33 (0, 0)) := by
  have hlt := lt_of_block hep
  have hta : ∀ W : World, (Instr.typeAssert (.iface 107 (.int .i64 n)) 20 107 true).run Try.prog W = .ok (.tuple #[.int .i64 n, .bool true]) W := fun W => by kernel_rfl
  have c0 : w.cell? ⟨ep, 0, none⟩ = some (.int .i64 x) := by rw [cell_of_row _ _ _ _ _ _ hep]; rfl
  have c1 : w.frozen? ⟨ep, 0, none⟩ = false := frozen_of_row _ _ _ _ _ hep
  refine callsDIn_of_wpSIn Try.func29 rfl trivial fun c₀ cs hu => ?_
  simp only [Try.ntmps29, List.size_toArray, List.length_cons, List.length_nil, Nat.reduceAdd, Nat.reduceSub, Array.replicate_succ, Array.replicate_zero, List.push_toArray, List.append_toArray, List.nil_append, List.cons_append]
  refine wpSIn_seq ?_
  apply wpSIn_region
  simp [wpOpsSIn, go_sem, recoverD, hu, Oper.upon, Exit.thenS, Fence.wide]
  refine wpSIn_of_wpIn rfl ?_
  refine (wpIn_wide (n := 0)).2 ?_
  unfold refV
  have c2 : (w.setCell ⟨ep, 0, none⟩ (.int .i64 n)).heap[ep]? = some (.cells #[.int .i64 n] 33 (0, 0)) := by
    simp [World.setCell, Array.getElem?_modify, hep]
  have C2 := Lib.hid c2
  have HT := Lib.hid hta
  clear c2
  go_wp2
  simp only [bodyPostS]
  exact ⟨trivial, _, rfl, .tuple #[], by simp [results, Try.results29, go_sem], by first | exact ⟨rfl, rfl, Keeps.setCell (Mut := fun k => k = ep) _ _ _ rfl, C2.out⟩ | exact ⟨trivial, rfl, Keeps.setCell (Mut := fun k => k = ep) _ _ _ rfl, C2.out⟩⟩
theorem leafM_stop {fn : Func} (n : Int) {R : Ending → World → Prop} (E : Nat) (x : Int) (tmps : Array Value) (w5 : World) (he : w5.heap[E]? = some (.cells #[.int .i64 x] 33 (0, 0)))
    (hR : ∀ W', Keeps (fun k => k = E) w5 W' → W'.heap[E]? = some (.cells #[.int .i64 n] 33 (0, 0)) → ∃ v, (results fn tmps).run Try.prog W' = .ok v W' ∧ R (.returned v) W') :
    LeavesInM Fence.wide 0 Try.prog fn tmps R [{ target := .fn (.func 29) #[], args := #[.pointer (some ⟨E, 0, none⟩)] }] (.panicking [{ v := refV n, recovered := false }]) w5 := by
  refine ⟨by simp, .inr ⟨(fun h => by cases h), .func 29, #[], 29, #[.pointer (some ⟨E, 0, none⟩)], rfl, by simp [go_sem, invoke], fun g hg => trivial, ?_⟩⟩
  refine CallsDIn.mono (answerIn_stop n E x w5 he) ?_
  rintro e u' w' ⟨rfl, rfl, hk, he'⟩
  exact hR _ hk he'
theorem leafM_ret {fn : Func} {R : Ending → World → Prop} (E : Nat) (tmps : Array Value) (w5 : World) (hR : ∃ v, (results fn tmps).run Try.prog w5 = .ok v w5 ∧ R (.returned v) w5) :
    LeavesInM Fence.wide 0 Try.prog fn tmps R [{ target := .fn (.func 29) #[], args := #[.pointer (some ⟨E, 0, none⟩)] }] .returning w5 := by
  refine ⟨by simp, .inr ⟨(fun h => by cases h), .func 29, #[], 29, #[.pointer (some ⟨E, 0, none⟩)], rfl, by simp [go_sem, invoke], fun g hg => trivial, ?_⟩⟩
  refine CallsDIn.mono (answerIn_idle E w5) ?_
  rintro e u' w' ⟨rfl, rfl, rfl⟩
  exact hR
end Go.Proofs.Ytabbmihakoeegaa

/- Which readings cannot be left out, walked. -/
namespace Go.Proofs.Ytabbmihakoeegaa
set_option linter.unusedVariables false
set_option linter.unusedSimpArgs false
open Go.RowKit Go.Shelf
attribute [local go_sem] Oper.semAt_some

theorem needed_err {q : PlanD} {n : Int} (h : errE q = n) (hn : n ≠ 0) : neededV q = (0, n) := by unfold neededV; rw [if_pos (by rw [h]; exact hn), h]
theorem needed_ok {q : PlanD} (h : errE q = 0) : neededV q = (((setN (fun i => !enoughV q (everyV q - 2 ^ i)) q.prices.length : Nat) : Int), 0) := by unfold neededV; rw [if_neg (by rw [h]; decide)]
theorem ofL_every {q : PlanD} (hq : OkQ q) : ofL (everyV q) = List.range q.prices.length := by
  rw [← ofN_end (everyV q) q.prices.length hq.m8 everyV_lt]
  unfold ofN
  rw [List.filter_eq_self]
  intro x hx
  unfold everyV
  rw [Nat.testBit_two_pow_sub_one]
  simpa using hx
theorem range_pre {m x : Nat} {pre rest : List Nat} (h : List.range m = pre ++ x :: rest) : pre = List.range x ∧ x < m ∧ pre.length = x := by
  have h1 : (List.range m)[pre.length]? = some x := by rw [h]; simp
  have h2 := (List.getElem?_eq_some_iff.1 h1).1
  rw [List.getElem?_eq_getElem h2, List.getElem_range] at h1
  have h3 : pre.length = x := Option.some.inj h1
  refine ⟨?_, by simpa [h3] using h2, h3⟩
  have h4 : (List.range m).take pre.length = pre := by rw [h]; simp
  rw [← h4, List.take_range, h3]
  congr 1
  have : x < m := by simpa [h3] using h2
  omega
theorem every_less {q : PlanD} (hq : OkQ q) {x : Nat} (hx : x < q.prices.length) : bits BinOp.andNot IntKind.u64 ((everyV q : Nat) : Int) (IntKind.u64.wrap (2 ^ x)) = ((everyV q - 2 ^ x : Nat) : Int) ∧ everyV q - 2 ^ x < 2 ^ q.prices.length := by
  have h8 := hq.m8
  have hlt : 2 ^ x < 2 ^ q.prices.length := Nat.pow_lt_pow_right (by decide) hx
  have hle := hq.p256
  have hev : everyV q = 2 ^ q.prices.length - 1 := rfl
  have h1 := andNot_u64 ⟨q.prices.length, by omega⟩ ⟨2 ^ x, Nat.lt_of_lt_of_le hlt hle⟩ hlt
  have h2 : IntKind.u64.wrap (2 ^ x) = ((2 ^ x : Nat) : Int) := by
    have h3 : (2 : Int) ^ x = ((2 ^ x : Nat) : Int) := by simp
    rw [h3]
    obtain ⟨a, ha⟩ : ∃ a, a = 2 ^ x := ⟨_, rfl⟩
    rw [← ha] at hlt ⊢
    exact IntWalk.u64_in _ ⟨by omega, by omega⟩
  refine ⟨?_, Nat.lt_of_le_of_lt (Nat.sub_le _ _) everyV_lt⟩
  rw [h2]
  exact h1
theorem needed_fold {f : Nat → Bool} (n : Nat) : (List.range n).foldl (fun a i => if f i then a ||| 2 ^ i else a) 0 = setN f n := by
  induction n with
  | zero => rfl
  | succ n ih => rw [List.range_succ, List.foldl_append, ih, setN_next]; rfl
set_option maxRecDepth 100000 in
set_option maxHeartbeats 4000000 in
theorem neededV_any {q : PlanD} {bs rs ps : Value} {w : World} (h : PlanAt w q bs rs ps) :
    Calls Try.prog 18 #[.agg (planRow q bs rs ps)] w fun e w' => e = .returned (.tuple #[.int .i64 (neededV q).1, .int .i64 (neededV q).2]) ∧ Below w.heap.size w w' := by
  obtain ⟨aob, capb, hbv, _⟩ := id h.p.b
  obtain ⟨aor, capr, hrv, _⟩ := id h.p.r
  obtain ⟨aop, capp, hpv, _⟩ := id h.n
  subst hbv hrv hpv
  have H := Lib.hid h
  have hmf : ∀ (fn : Fn) (first cap : Array Value) (w : World), (Instr.makeFunc fn first cap).run Try.prog w = .ok (.func fn first cap) w := fun _ _ _ _ => rfl
  clear h
  unfold planRow
  have eg := enters_of Try.func51 (by kernel_rfl) rfl
  obtain ⟨W0, hW0⟩ : ∃ x, x = (w.alloc (.cells #[.slice aob q.pr.bs.length capb, .int .i64 q.pr.zl, .int .i64 q.pr.zh, .int .i64 q.pr.rl, .int .i64 q.pr.rh, .slice aor q.pr.rs.length capr, .int .i64 q.wide, .slice aop q.prices.length capp] 30)).alloc (.cells #[.int .i64 0] 33) := ⟨_, rfl⟩
  have hb0 : Below w.heap.size w W0 := by rw [hW0]; exact ((Below.refl _ _).alloc (Nat.le_refl _) _).alloc (by simp) _
  have hz0 : W0.heap.size = w.heap.size + 2 := by rw [hW0]; simp
  have x0 : W0.heap[w.heap.size]? = some (.cells #[.slice aob q.pr.bs.length capb, .int .i64 q.pr.zl, .int .i64 q.pr.zh, .int .i64 q.pr.rl, .int .i64 q.pr.rh, .slice aor q.pr.rs.length capr, .int .i64 q.wide, .slice aop q.prices.length capp] 30 (0, 0)) := by rw [hW0]; exact (hget_old _ _ _ (by simp)).trans (heap_alloc_at _ _ _ rfl)
  have xe : W0.heap[w.heap.size + 1]? = some (.cells #[.int .i64 0] 33 (0, 0)) := by rw [hW0]; exact heap_alloc_at _ _ _ (by simp)
  have HB0 := Lib.hid hb0
  have XE := Lib.hid xe
  have X0 := Lib.hid x0
  refine calls_of_wp_marks Try.func18 rfl ?_
  simp only [Try.ntmps18, List.size_toArray, List.length_cons, List.length_nil, Nat.reduceAdd, Nat.reduceSub, Array.replicate_succ, Array.replicate_zero, List.push_toArray, List.append_toArray, List.nil_append, List.cons_append]
  have c0 : W0.cell? ⟨w.heap.size, 0, none⟩ = some (.slice aob q.pr.bs.length capb) := by rw [cell_of_row _ _ _ _ _ _ x0]; rfl
  have c1 : W0.cell? ⟨w.heap.size, 1, none⟩ = some (.int .i64 q.pr.zl) := by rw [cell_of_row _ _ _ _ _ _ x0]; rfl
  have c2 : W0.cell? ⟨w.heap.size, 2, none⟩ = some (.int .i64 q.pr.zh) := by rw [cell_of_row _ _ _ _ _ _ x0]; rfl
  have c3 : W0.cell? ⟨w.heap.size, 3, none⟩ = some (.int .i64 q.pr.rl) := by rw [cell_of_row _ _ _ _ _ _ x0]; rfl
  have c4 : W0.cell? ⟨w.heap.size, 4, none⟩ = some (.int .i64 q.pr.rh) := by rw [cell_of_row _ _ _ _ _ _ x0]; rfl
  have c5 : W0.cell? ⟨w.heap.size, 5, none⟩ = some (.slice aor q.pr.rs.length capr) := by rw [cell_of_row _ _ _ _ _ _ x0]; rfl
  have c6 : W0.cell? ⟨w.heap.size, 6, none⟩ = some (.int .i64 q.wide) := by rw [cell_of_row _ _ _ _ _ _ x0]; rfl
  have c7 : W0.cell? ⟨w.heap.size, 7, none⟩ = some (.slice aop q.prices.length capp) := by rw [cell_of_row _ _ _ _ _ _ x0]; rfl
  clear hb0 x0 xe
  go_wp2_with fail
  rw [← hW0]
  clear hW0 c0 c1 c2 c3 c4 c5 c6 c7
  refine (popen_any q (.slice aob q.pr.bs.length capb) (.slice aor q.pr.rs.length capr) (.slice aop q.prices.length capp) w.heap.size W0 HB0.out.size (H.out.p.b.later HB0.out.size (fun k h1 h2 => HB0.out.block k h1)) (H.out.p.r.later HB0.out.size (fun k h1 h2 => HB0.out.block k h1)) (H.out.n.later HB0.out.size (fun k h1 h2 => HB0.out.block k h1)) 51 #[] true eg (fun _ W pp mp _ _ => palways_any _ _)).mono ?_
  rintro e w5 hor
  have HXE5 : ∀ W, Below W0.heap.size W0 W → W.heap[w.heap.size + 1]? = some (.cells #[.int .i64 0] 33 (0, 0)) := fun W hb => (hb.block _ (by omega)).trans XE.out
  have HXE := Lib.hid HXE5
  clear HXE5
  rcases hor with ⟨hv, rfl, hb5⟩ | ⟨hv, ho, rfl, hb5⟩ | ⟨hv, ho, pp, mp, rfl, hP, hb5, hpp, hmp⟩
  · dsimp only
    refine leafM_stop 1 (w.heap.size + 1) 0 _ w5 (HXE.out w5 hb5) (fun W' hkE heE => ?_)
    have e9 : W'.cell? ⟨w.heap.size + 1, 0, none⟩ = some (.int .i64 1) := by rw [cell_of_row _ _ _ _ _ _ heE]; rfl
    exact ⟨_, by simp [results, Try.results18, go_sem, e9]; rfl, by rw [needed_err (errE_bad hv) (by decide)], ((HB0.out.trans (hb5.mono HB0.out.size))).trans (hkE.below ((HB0.out.trans (hb5.mono HB0.out.size))).size (fun k h e => by omega))⟩
  · cases ho
  have hq := OkQ.of hv
  have HQ := Lib.hid hq
  have HV := Lib.hid hv
  have HP := Lib.hid hP
  have HB5 := Lib.hid hb5
  have hz5 := hb5.size
  clear hq hv ho hP hb5
  dsimp only
  go_wp2_with fail
  refine (can_any HQ.out w5 HP.out).mono ?_
  rintro e w6 (⟨ht, rfl, hk⟩ | ⟨ht, hen, rfl, hk⟩ | ⟨ht, hen, rfl, L1, hP1, hk⟩)
  · dsimp only
    refine leafM_stop 10 (w.heap.size + 1) 0 _ w6 ((hk.block (w.heap.size + 1) (by omega) (by omega)).trans (HXE.out w5 HB5.out)) (fun W' hkE heE => ?_)
    have e9 : W'.cell? ⟨w.heap.size + 1, 0, none⟩ = some (.int .i64 10) := by rw [cell_of_row _ _ _ _ _ _ heE]; rfl
    exact ⟨_, by simp [results, Try.results18, go_sem, e9]; rfl, by rw [needed_err (errE_no HV.out ht) (by decide)], (((HB0.out.trans (HB5.out.mono HB0.out.size)).trans (hk.below (by omega) (fun k h e => by omega)))).trans (hkE.below (((HB0.out.trans (HB5.out.mono HB0.out.size)).trans (hk.below (by omega) (fun k h e => by omega)))).size (fun k h e => by omega))⟩
  · dsimp only
    refine leafM_stop 4 (w.heap.size + 1) 0 _ w6 ((hk.block (w.heap.size + 1) (by omega) (by omega)).trans (HXE.out w5 HB5.out)) (fun W' hkE heE => ?_)
    have e9 : W'.cell? ⟨w.heap.size + 1, 0, none⟩ = some (.int .i64 4) := by rw [cell_of_row _ _ _ _ _ _ heE]; rfl
    exact ⟨_, by simp [results, Try.results18, go_sem, e9]; rfl, by rw [needed_err (errE_none HV.out ht hen) (by decide)], (((HB0.out.trans (HB5.out.mono HB0.out.size)).trans (hk.below (by omega) (fun k h e => by omega)))).trans (hkE.below (((HB0.out.trans (HB5.out.mono HB0.out.size)).trans (hk.below (by omega) (fun k h e => by omega)))).size (fun k h e => by omega))⟩
  have HVAL := Lib.hid (needed_ok (errE_ok HV.out ht hen))
  have HT := Lib.hid ht
  have HP1 := Lib.hid hP1
  have HB6 := Lib.hid ((HB0.out.trans (HB5.out.mono HB0.out.size)).trans (hk.below (by omega) (fun k h e => by omega)))
  have HXE6 := Lib.hid ((hk.block (w.heap.size + 1) (by omega) (by omega)).trans (HXE.out w5 HB5.out))
  have hz6 := hk.size
  clear ht hen hP1 hk
  dsimp only
  go_wp2_with fail
  obtain ⟨WA, hWA⟩ : ∃ x, x = (w6.alloc (.cells #[.pointer (some ⟨pp, 0, none⟩)] 60)).alloc (.cells #[.int .u64 0] 70) := ⟨_, rfl⟩
  have hbA : Below w6.heap.size w6 WA := by rw [hWA]; exact ((Below.refl _ _).alloc (Nat.le_refl _) _).alloc (by simp) _
  have hzA : WA.heap.size = w6.heap.size + 2 := by rw [hWA]; simp
  have a0 : WA.heap[w6.heap.size]? = some (.cells #[.pointer (some ⟨pp, 0, none⟩)] 60 (0, 0)) := by rw [hWA]; exact (by repeat (first | (refine heap_alloc_at _ _ _ ?_; (simp <;> omega); done) | (refine (hget_old _ _ _ ?_).trans ?_; · (simp <;> omega))))
  have a1 : WA.heap[w6.heap.size + 1]? = some (.cells #[.int .u64 0] 70 (0, 0)) := by rw [hWA]; exact (by repeat (first | (refine heap_alloc_at _ _ _ ?_; (simp <;> omega); done) | (refine (hget_old _ _ _ ?_).trans ?_; · (simp <;> omega))))
  rw [← hWA]
  clear hWA
  refine (pevery_any HQ.out WA (HP1.out.below hbA)).mono ?_
  rintro e w' ⟨rfl, rfl⟩
  dsimp only
  go_wp2_with fail
  refine (of_any (everyV q) WA).mono ?_
  rintro e WZ ⟨rfl, hWZ⟩
  have hzz : WZ.heap.size = w6.heap.size + 3 := by rw [← hWZ]; simp [hzA]
  have hbZ : Below w6.heap.size w6 WZ := by rw [← hWZ]; exact hbA.alloc (by omega) _
  have y0 : WZ.heap[w6.heap.size]? = some (.cells #[.pointer (some ⟨pp, 0, none⟩)] 60 (0, 0)) := by rw [← hWZ]; exact (hget_old _ _ _ (by omega)).trans a0
  have y1 : WZ.heap[w6.heap.size + 1]? = some (.cells #[.int .u64 0] 70 (0, 0)) := by rw [← hWZ]; exact (hget_old _ _ _ (by omega)).trans a1
  have ys : WZ.heap[WA.heap.size]? = some (.cells #[.int .u64 (everyV q : Nat)] 70 (0, 0)) := by rw [← hWZ]; exact heap_alloc_at _ _ _ rfl
  rw [hzA] at ys
  rw [hzA]
  have HBZ := Lib.hid hbZ
  have Y0 := Lib.hid y0
  have Y1 := Lib.hid y1
  have YS := Lib.hid ys
  have HPZ := Lib.hid (HP1.out.below hbZ)
  have hml := lt_of_block HP1.out.map
  have hpl := lt_of_block HP1.out.obj
  have hev256 : everyV q < 256 := Nat.lt_of_lt_of_le everyV_lt HQ.out.p256
  have HOE := Lib.hid (ofL_every HQ.out)
  clear hWZ hbZ y0 y1 ys hbA a0 a1
  dsimp only
  go_wp2_with fail
  refine wp_range (gf := 89) (lb := #[.pointer (some ⟨w6.heap.size + 2, 0, none⟩)]) rfl (enters_of Try.func89 (by kernel_rfl) rfl) (encs := fun n : Nat => #[.int .i64 n]) (fun _ => rfl)
    (fun k => k = w6.heap.size + 2) (fun k => k = mp ∨ k = w6.heap.size + 1) ?hRd ?hM (ofL (everyV q)) ?hseq
    (fun pre _ Wr => (∃ L, PlanS q w.heap.size pp mp (.slice aob q.pr.bs.length capb) (.slice aor q.pr.rs.length capr) (.slice aop q.prices.length capp) L Wr) ∧ Wr.heap[w6.heap.size + 1]? = some (.cells #[.int .u64 (pre.foldl (fun a i => if !enoughV q (everyV q - 2 ^ i) then a ||| 2 ^ i else a) 0 : Nat)] 70 (0, 0)) ∧ Keeps (fun k => k = mp ∨ k = w6.heap.size + 1) WZ Wr)
    (fun _ _ _ _ => False)
    ?hI ?hIx ?h0 ?hround ?hdone ?hstop
  case hRd => intro k hk; omega
  case hM => intro k hk; exact ⟨by omega, fun h => by omega⟩
  case hseq =>
    intro W' hb
    exact of_seq _ _ hev256 W' ((hb.block _ (by omega)).trans YS.out)
  case hI =>
    rintro s G A B' ⟨⟨L, h1⟩, h2, h3⟩ hk
    exact ⟨⟨L, h1.keep hk (fun k hk1 _ => by have h4 := hk1.1; have h5 := h1.lp; exact ⟨by omega, by omega, by omega⟩)⟩, (hk.block _ (lt_of_block h2) (by omega)).trans h2, h3.transNew hk (fun i h => h.1)⟩
  case hIx => rintro c s G A B' h hk; exact h
  case h0 => exact ⟨⟨_, HPZ.out⟩, Y1.out, Keeps.refl _ _⟩
  case hstop => rintro D c pre x rest G W' hxs h; exact h.elim
  case hround =>
    rintro l pre x rest G Wr hxs ⟨⟨L, h1⟩, h2, h3⟩ hl1 hl2 hGl
    rw [HOE.out] at hxs
    obtain ⟨hpre, hxm, hplen⟩ := range_pre hxs
    have hx8 : x < 8 := by have := HQ.out.m8; omega
    obtain ⟨hel1, hel2⟩ := every_less HQ.out hxm
    obtain ⟨es, hes⟩ : ∃ s, s = everyV q - 2 ^ x := ⟨_, rfl⟩
    obtain ⟨nd, hnd⟩ : ∃ s, s = pre.foldl (fun a i => if !enoughV q (everyV q - 2 ^ i) then a ||| 2 ^ i else a) 0 := ⟨_, rfl⟩
    have hnd256 : nd < 256 := by
      rw [hnd, hpre, needed_fold]
      exact Nat.lt_of_lt_of_le (setN_lt _ _) (Nat.pow_le_pow_right (show 0 < 2 by decide) (by omega : x ≤ 8))
    have hnx : (pre ++ [x]).foldl (fun a i => if !enoughV q (everyV q - 2 ^ i) then a ||| 2 ^ i else a) 0 = if !enoughV q es then nd ||| 2 ^ x else nd := by rw [List.foldl_append, ← hnd, hes]; rfl
    rw [← hes] at hel1 hel2
    rw [← hnd] at h2
    have H1 := Lib.hid h1
    have H2 := Lib.hid h2
    have H3 := Lib.hid h3
    have HNX := Lib.hid hnx
    have HEL := Lib.hid hel1
    have hwx : IntKind.u64.wrap (2 ^ x) = IntKind.u64.wrap (2 ^ x) := rfl
    clear h1 h2 h3 hnx hxs hGl hnd hes hpre hplen hwx
    gi_wp2
    refine ⟨Keeps.refl _ _, ?_⟩
    intro W3 hk3 hs3
    have hP3 := H1.out.keep hk3 (fun k hk _ => by have h5 := H1.out.lp; exact ⟨by omega, by omega, by omega⟩)
    have z0 : W3.heap[w6.heap.size]? = some (.cells #[.pointer (some ⟨pp, 0, none⟩)] 60 (0, 0)) := (hk3.block _ (by omega) (by omega)).trans ((H3.out.block _ (by omega) (by omega)).trans Y0.out)
    have z1 := (hk3.block (w6.heap.size + 1) (by omega) (by omega)).trans H2.out
    have d0 : W3.cell? ⟨w6.heap.size, 0, none⟩ = some (.pointer (some ⟨pp, 0, none⟩)) := by rw [cell_of_row _ _ _ _ _ _ z0]; rfl
    have HP3 := Lib.hid hP3
    have Z0 := Lib.hid z0
    have Z1 := Lib.hid z1
    have HK3 := Lib.hid hk3
    clear hP3 z0 z1 hk3
    gi_wp2
    refine region_heldIn (S := fun W' => W'.cell? ⟨w6.heap.size, 0, none⟩ = some (.pointer (some ⟨pp, 0, none⟩))) (by kernel_rfl) (by kernel_rfl) (fun ⟨a, w, h⟩ => h) d0 fun hS => ?_
    clear d0
    refine wpAnyH_take (i := 0) (v := ?_) rfl (by kernel_rfl) (by kernel_rfl) (by kernel_rfl) (fun _ _ _ h => h) (Or.inl ⟨by rfl, ?_⟩) hS ?_
    rotate_left
    · (intro W hSw; have hq1 := hSw; go_simp; try with_reducible rfl)
    try simp only [List.getElem_toArray, List.getElem_cons_succ, List.getElem_cons_zero, Act.put, List.setIfInBounds_toArray, List.set_cons_zero, List.set_cons_succ]
    refine wpAnyH_take (i := 1) (v := ?_) rfl (by kernel_rfl) (by kernel_rfl) (by kernel_rfl) (fun _ _ _ h => h) (Or.inl ⟨by rfl, ?_⟩) hS ?_
    rotate_left
    · (intro W hSw; have hq1 := hSw; go_simp; try with_reducible rfl)
    try simp only [List.getElem_toArray, List.getElem_cons_succ, List.getElem_cons_zero, Act.put, List.setIfInBounds_toArray, List.set_cons_zero, List.set_cons_succ]
    refine wpAnyH_take (i := 3) (v := ?_) rfl (by kernel_rfl) (by kernel_rfl) (by kernel_rfl) (fun _ _ _ h => h) (Or.inl ⟨by rfl, ?_⟩) hS ?_
    rotate_left
    · (intro W hSw; have hq1 := hSw; go_simp; try with_reducible rfl)
    try simp only [List.getElem_toArray, List.getElem_cons_succ, List.getElem_cons_zero, Act.put, List.setIfInBounds_toArray, List.set_cons_zero, List.set_cons_succ]
    refine wpAnyH_take (i := 4) (v := ?_) rfl (by kernel_rfl) (by kernel_rfl) (by kernel_rfl) (fun _ _ _ h => h) (Or.inl ⟨by rfl, ?_⟩) hS ?_
    rotate_left
    · (intro W hSw; have hq1 := hSw; go_simp; try with_reducible rfl)
    try simp only [List.getElem_toArray, List.getElem_cons_succ, List.getElem_cons_zero, Act.put, List.setIfInBounds_toArray, List.set_cons_zero, List.set_cons_succ]
    refine wpAnyH_ready (rs := [2]) (by kernel_rfl) (by simp) ?_
    refine AllReadyH.cons rfl (fun K hK => ?_) AllReadyH.nil
    go_simp
    refine (pevery_any HQ.out _ HP3.out.drew).mono ?_
    rintro e w' ⟨rfl, rfl⟩
    dsimp only
    refine hK.out _ _ hS (fun hS => ?_)
    clear hK K
    try simp only [List.getElem_toArray, List.getElem_cons_succ, List.getElem_cons_zero, Act.put, List.setIfInBounds_toArray, List.set_cons_zero, List.set_cons_succ]
    refine wpAnyH_take (i := 5) (v := ?_) rfl (by kernel_rfl) (by kernel_rfl) (by kernel_rfl) (fun _ _ _ h => h) (Or.inl ⟨by rfl, ?_⟩) hS ?_
    rotate_left
    · (intro W hSw; have hq1 := hSw; go_simp; try with_reducible rfl)
    try simp only [List.getElem_toArray, List.getElem_cons_succ, List.getElem_cons_zero, Act.put, List.setIfInBounds_toArray, List.set_cons_zero, List.set_cons_succ]
    refine wpAnyH_ready (rs := [6]) (by kernel_rfl) (by simp) ?_
    refine AllReadyH.cons rfl (fun K hK => ?_) AllReadyH.nil
    go_simp
    refine (enough_any HQ.out HT.out es hel2 _ HP3.out.drew).mono ?_
    rintro e W4 ⟨rfl, L4, hP4, hk4⟩
    dsimp only
    have z04 := (hk4.block w6.heap.size (by show _ < W3.heap.size; omega) (by omega)).trans Z0.out
    have z14 := (hk4.block (w6.heap.size + 1) (by show _ < W3.heap.size; omega) (by omega)).trans Z1.out
    have HP4 := Lib.hid hP4
    have HK4 := Lib.hid ((Keeps.drew (fun k => k = mp) W3).trans hk4)
    have Z14 := Lib.hid z14
    clear hS hP4 hk4
    refine hK.out _ _ (by rw [cell_of_row _ _ _ _ _ _ z04]; rfl) (fun hS => ?_)
    clear hK K
    try simp only [List.getElem_toArray, List.getElem_cons_succ, List.getElem_cons_zero, Act.put, List.setIfInBounds_toArray, List.set_cons_zero, List.set_cons_succ]
    refine wpAnyH_take (i := 7) (v := ?_) rfl (by kernel_rfl) (by kernel_rfl) (by kernel_rfl) (fun _ _ _ h => h) (Or.inl ⟨by rfl, ?_⟩) hS ?_
    rotate_left
    · (intro W hSw; have hq1 := hSw; go_simp; try with_reducible rfl)
    try simp only [List.getElem_toArray, List.getElem_cons_succ, List.getElem_cons_zero, Act.put, List.setIfInBounds_toArray, List.set_cons_zero, List.set_cons_succ]
    refine wpAnyH_done (by kernel_rfl) ?_ _
    clear hS z04
    have hz4 := HK4.out.size
    cases hen : enoughV q es with
    | true =>
      rw [hen] at HNX
      gi_wp2
      exact ⟨HK4.out.mono (fun k _ h => .inl h), ⟨L4, HP4.out⟩, by rw [HNX.out]; exact Z14.out, (H3.out.transNew HK3.out (fun i hi => by omega)).trans (HK4.out.mono (fun k _ h => .inl h))⟩
    | false =>
      rw [hen] at HNX
      have d14 : W4.cell? ⟨w6.heap.size + 1, 0, none⟩ = some (.int .u64 (nd : Nat)) := by rw [cell_of_row _ _ _ _ _ _ z14]; rfl
      have f14 : W4.frozen? ⟨w6.heap.size + 1, 0, none⟩ = false := frozen_of_row _ _ 0 _ _ z14
      clear z14
      have hkk := HK4.out
      gi_wp2
      refine ⟨trivial, rfl, CallsIn.inRound l (callsIn_wide.2 ((with_any nd x (by omega) (by omega) _).mono ?_))⟩
      rintro e w' ⟨rfl, rfl⟩
      gi_wp2
      refine ⟨(hkk.mono (fun k _ h => .inl h)).trans (Keeps.setCell _ _ _ (.inr rfl)), ⟨L4, HP4.out.keep (Keeps.setCell (Mut := fun k => k = w6.heap.size + 1) _ _ _ rfl) (fun k hk _ => by have h5 := HP4.out.lp; exact ⟨by omega, by omega, by omega⟩)⟩, ?_, ((H3.out.transNew HK3.out (fun i hi => by omega)).trans (hkk.mono (fun k _ h => .inl h))).trans (Keeps.setCell _ _ _ (.inr rfl))⟩
      rw [HNX.out]
      have := Z14.out
      simp [World.setCell, Array.getElem?_modify, this]
  case hdone =>
    rintro D G W' ⟨⟨L, h1⟩, h2, h3⟩ hGD hkk hD hDs
    rw [HOE.out, needed_fold] at h2
    have xe := (h3.block (w.heap.size + 1) (by omega) (by omega)).trans ((HBZ.out.block _ (by omega)).trans HXE6.out)
    have de : W'.cell? ⟨w.heap.size + 1, 0, none⟩ = some (.int .i64 0) := by rw [cell_of_row _ _ _ _ _ _ xe]; rfl
    have fe : W'.frozen? ⟨w.heap.size + 1, 0, none⟩ = false := frozen_of_row _ _ 0 _ _ xe
    obtain ⟨st, hst⟩ : ∃ x, x = setN (fun i => !enoughV q (everyV q - 2 ^ i)) q.prices.length := ⟨_, rfl⟩
    have hstl := setN_lt (fun i => !enoughV q (everyV q - 2 ^ i)) q.prices.length
    rw [← hst] at h2 hstl HVAL
    have h256 := HQ.out.p256
    have dn : W'.cell? ⟨w6.heap.size + 1, 0, none⟩ = some (.int .u64 (st : Nat)) := by rw [cell_of_row _ _ _ _ _ _ h2]; rfl
    have hwr : IntKind.i64.wrap (st : Int) = (st : Int) := IntWalk.i64_in _ (by omega)
    have HXE9 := Lib.hid xe
    have HD := Lib.hid hD
    have HBW := Lib.hid ((HB6.out.trans (HBZ.out.mono HB6.out.size)).trans (h3.below (by have := HB6.out.size; omega) (fun k h e => by have := HB6.out.size; omega)))
    clear hst h1 h2 h3 hGD hkk hD xe
    go_wp2_with fail
    have hd5 : (W'.setCell ⟨w.heap.size + 1, 0, none⟩ (.int .i64 0)).heap[D]? = some (.deferred (some [])) := (Below.heap_setCell _ _ _ _ (by simp; omega)).trans HD.out
    refine ⟨by simp, .inl ⟨_, _, rfl, run_takeDeferred hd5, ?_⟩⟩
    refine leafM_ret (w.heap.size + 1) _ _ ?_
    have x9 : ((W'.setCell ⟨w.heap.size + 1, 0, none⟩ (.int .i64 0)).putObj D (.deferred none)).heap[w.heap.size + 1]? = some (.cells #[.int .i64 0] 33 (0, 0)) := by
      refine (World.putObj_heap_other (by omega)).trans ?_
      have := HXE9.out
      simp [World.setCell, Array.getElem?_modify, this]
    have e9 : ((W'.setCell ⟨w.heap.size + 1, 0, none⟩ (.int .i64 0)).putObj D (.deferred none)).cell? ⟨w.heap.size + 1, 0, none⟩ = some (.int .i64 0) := by rw [cell_of_row _ _ _ _ _ _ x9]; rfl
    refine ⟨_, by simp [results, Try.results18, go_sem, e9]; rfl, by rw [HVAL.out], ?_⟩
    exact (HBW.out.setCell (by simp; try omega) _).trans ((Keeps.putObj (Mut := fun k => k = D) _ _ _ rfl).below (by have := HBW.out.size; simp [World.setCell]; omega) (fun k h e => by have := HB6.out.size; omega))
end Go.Proofs.Ytabbmihakoeegaa

/- The next reading of an order, in plain words. -/
namespace Go.Proofs.Ytabbmihakoeegaa
set_option linter.unusedVariables false
set_option linter.unusedSimpArgs false
open Go.RowKit Go.Shelf

/-- The readings that are in no set. -/
def leftL (q : PlanD) (s : Nat) : List Nat := (List.range q.prices.length).filter fun i => !s.testBit i
theorem left_ofL {q : PlanD} (hq : OkQ q) (s : Nat) (hs : s < 2 ^ q.prices.length) : ofL (everyV q - s) = leftL q s := by
  have he : everyV q - s = 2 ^ q.prices.length - (s + 1) := by unfold everyV; omega
  have hlt : everyV q - s < 2 ^ q.prices.length := Nat.lt_of_le_of_lt (Nat.sub_le _ _) everyV_lt
  rw [← ofN_end (everyV q - s) q.prices.length hq.m8 hlt]
  unfold ofN leftL
  refine List.filter_congr fun i hi => ?_
  rw [he, Nat.testBit_two_pow_sub_succ hs]
  simp [List.mem_range.1 hi]
theorem left_mem {q : PlanD} {s i : Nat} : i ∈ leftL q s ↔ i < q.prices.length ∧ s.testBit i = false := by
  unfold leftL; rw [List.mem_filter, List.mem_range]; simp
theorem next_left (q : PlanD) (s : Nat) : (leftL q s).foldl (nextStep q s) (-1, 0) = nextP q s q.prices.length := by
  unfold leftL nextP
  rw [List.foldl_filter]
  refine congrFun (congrFun (congrArg List.foldl ?_) _) _
  funext a n
  unfold nextStep
  cases s.testBit n <;> simp
theorem step_in {q : PlanD} {s x : Nat} (h : s.testBit x = false) (a : Int × Int) : nextStep q s a x = if a.1 < 0 ∨ totalV q.pr (s + 2 ^ x) < a.2 then ((x : Int), totalV q.pr (s + 2 ^ x)) else a := by
  unfold nextStep; rw [if_neg (by rw [h]; decide)]
theorem fold_next (q : PlanD) (s : Nat) : ∀ (l : List Nat) (a : Int × Int), (∀ x ∈ l, s.testBit x = false) → (a.1 = -1 ∨ ∃ n : Nat, (n : Int) = a.1 ∧ n < q.prices.length ∧ s.testBit n = false) → (∀ x ∈ l, x < q.prices.length) →
    ((l.foldl (nextStep q s) a).1 = -1 ∨ ∃ n : Nat, (n : Int) = (l.foldl (nextStep q s) a).1 ∧ n < q.prices.length ∧ s.testBit n = false) ∧ ((l ≠ [] ∨ 0 ≤ a.1) → 0 ≤ (l.foldl (nextStep q s) a).1)
  | [], a, _, h2, _ => ⟨h2, fun h => h.elim (fun h => absurd rfl h) id⟩
  | x :: l, a, h1, h2, h3 => by
    have hx := step_in (q := q) (h1 x List.mem_cons_self) a
    have ih := fold_next q s l (nextStep q s a x) (fun y hy => h1 y (List.mem_cons_of_mem _ hy)) (by
      rw [hx]; split
      · exact .inr ⟨x, rfl, h3 x List.mem_cons_self, h1 x List.mem_cons_self⟩
      · exact h2) (fun y hy => h3 y (List.mem_cons_of_mem _ hy))
    refine ⟨ih.1, fun _ => ih.2 (.inr ?_)⟩
    rw [hx]; split
    · exact Int.natCast_nonneg _
    · rename_i h; omega
/-- Where a reading is left there is a next one. -/
theorem next_is (q : PlanD) (s : Nat) (h : leftL q s ≠ []) : ∃ n : Nat, nextV q s = n ∧ n < q.prices.length ∧ s.testBit n = false := by
  have h1 := fold_next q s (leftL q s) (-1, 0) (fun x hx => (left_mem.1 hx).2) (.inl rfl) (fun x hx => (left_mem.1 hx).1)
  rw [next_left] at h1
  have h2 := h1.2 (.inl h)
  rcases h1.1 with h3 | ⟨n, h3, h4⟩
  · omega
  · exact ⟨n, h3.symm, h4⟩
theorem or_add : ∀ s : Fin 256, ∀ n : Fin 8, s.val.testBit n.val = false → s.val ||| 2 ^ n.val = s.val + 2 ^ n.val := by decide +kernel
theorem or_lt {s n m : Nat} (hs : s < 2 ^ m) (hn : n < m) : s ||| 2 ^ n < 2 ^ m := Nat.or_lt_two_pow hs (Nat.pow_lt_pow_right (by decide) hn)
theorem left_less {q : PlanD} {s n : Nat} (h : n ∈ leftL q s) : (leftL q (s ||| 2 ^ n)).length + 1 = (leftL q s).length := by
  have h1 : leftL q (s ||| 2 ^ n) = (leftL q s).filter (fun i => i != n) := by
    unfold leftL
    rw [List.filter_filter]
    refine List.filter_congr fun i _ => ?_
    rw [Nat.testBit_or, Nat.testBit_two_pow]
    by_cases e : n = i
    · subst e; simp
    · have : ¬ i = n := fun h => e h.symm
      simp [e, this]
  have hnd : (leftL q s).Nodup := by unfold leftL; exact List.nodup_range.sublist List.filter_sublist
  have h3 : (leftL q s).filter (fun i => i != n) = (leftL q s).erase n := (List.Nodup.erase_eq_filter hnd n).symm
  rw [h1, h3, List.length_erase_of_mem h]
  have := List.length_pos_of_mem h
  omega
theorem left_zero {q : PlanD} (s : Nat) (hs : s < 2 ^ q.prices.length) (h : leftL q s = []) : s = everyV q := by
  unfold everyV
  refine Nat.eq_of_testBit_eq fun i => ?_
  rw [Nat.testBit_two_pow_sub_one]
  by_cases hi : i < q.prices.length
  · have : i ∉ leftL q s := by rw [h]; simp
    rw [left_mem] at this
    simp only [hi, true_and, Bool.not_eq_false] at this
    simp [hi, this]
  · rw [Nat.testBit_lt_two_pow (Nat.lt_of_lt_of_le hs (Nat.pow_le_pow_right (by decide) (by omega)))]
    simp [hi]
theorem order_yes {q : PlanD} (f s : Nat) (h : enoughV q s = true) : orderL q f s = [] := by
  cases f with
  | zero => rfl
  | succ f => unfold orderL; rw [if_pos h]
theorem order_no {q : PlanD} (f s n : Nat) (h : enoughV q s = false) (hn : nextV q s = n) (ho : s ||| 2 ^ n = s + 2 ^ n) : orderL q (f + 1) s = (n : Int) :: orderL q f (s ||| 2 ^ n) := by
  conv => lhs; unfold orderL
  rw [if_neg (by rw [h]; decide), hn, ho]
  simp
end Go.Proofs.Ytabbmihakoeegaa

/- The order of readings, walked: the function that calls itself. -/
namespace Go.Proofs.Ytabbmihakoeegaa
set_option linter.unusedVariables false
set_option linter.unusedSimpArgs false
open Go.RowKit Go.Shelf
attribute [local go_sem] Oper.semAt_some

theorem LeavesInM.congr {F : Fence} {m : Nat} {P : Program} {fn : Func} {t1 t2 : Array Value} {R : Ending → World → Prop} (hr : ∀ w v, (results fn t1).run P w = .ok v w → (results fn t2).run P w = .ok v w) (h0 : ∀ u w, LeavesIn F m P fn t1 R [] u w → LeavesIn F m P fn t2 R [] u w) :
    ∀ (ds : List Deferred) (u : FrameMode) (w : World), LeavesInM F m P fn t1 R ds u w → LeavesInM F m P fn t2 R ds u w
  | [], u, w, h => h0 u w h
  | d :: ds, u, w, h => by
    obtain ⟨h1, h2⟩ := h
    refine ⟨h1, ?_⟩
    rcases h2 with ⟨r, w', h2, h3, h4⟩ | ⟨h2, fv, cap, f, args, h3, h4, h5, h6⟩
    · exact .inl ⟨r, w', h2, h3, LeavesInM.congr hr h0 ds _ _ h4⟩
    · refine .inr ⟨h2, fv, cap, f, args, h3, h4, h5, h6.mono ?_⟩
      intro e u' w' he
      cases e with
      | returned v => exact LeavesInM.congr hr h0 ds _ _ he
      | panicked c => exact LeavesInM.congr hr h0 ds _ _ he
      | outgrown => exact he
theorem on_put {R : Ending → World → Prop} {c : List PanicEntry} {d : Option Nat} {v : Value} {a : Act} {w : World}
    (h : bodyPostM Fence.wide 0 Try.prog Try.f63 R (.panic c) (a.put d v) w) : bodyPostM Fence.wide 0 Try.prog Try.f63 R (.panic c) a w := by
  have hr : Try.f63.results = #[] := rfl
  have hd : (a.put d v).defers = a.defers := by cases d <;> rfl
  change LeavesInM Fence.wide 0 Try.prog Try.f63 (a.put d v).tmps R (a.put d v).defers (.panicking c) w at h
  change LeavesInM Fence.wide 0 Try.prog Try.f63 a.tmps R a.defers (.panicking c) w
  rw [hd] at h
  refine LeavesInM.congr (fun w v hh => ?_) (fun u w hh => ?_) _ _ _ h
  · unfold results at hh ⊢
    rw [hr] at hh ⊢
    simpa using hh
  · cases u with
    | returning =>
      obtain ⟨v, h1, h2⟩ := hh
      refine ⟨v, ?_, h2⟩
      unfold results at h1 ⊢
      rw [hr] at h1 ⊢
      simpa using h1
    | panicking _ => exact hh
    | run => exact hh
/-- What the order works on: the plan, what was told so far, and itself. -/
structure OnS (q : PlanD) (B pp mp c : Nat) (bs rs ps v : Value) (l : List Int) (W : World) : Prop where
  pl : ∃ L, PlanS q B pp mp bs rs ps L W
  p : W.heap[c]? = some (.cells #[.pointer (some ⟨pp, 0, none⟩)] 60 (0, 0))
  f : W.heap[c + 2]? = some (.cells #[.func (.func 63) #[] #[.pointer (some ⟨c, 0, none⟩), .pointer (some ⟨c + 1, 0, none⟩), .pointer (some ⟨c + 2, 0, none⟩)]] 101 (0, 0))
  o : W.heap[c + 1]? = some (.cells #[v] 28 (0, 0))
  r : W.ownsRow (c + 3) 3 1 v l.length (l.map (Value.int .i64))
  hp : pp < c
  hm : mp < c
theorem OnS.keep {q : PlanD} {B pp mp c : Nat} {bs rs ps v : Value} {l : List Int} {W W' : World} (h : OnS q B pp mp c bs rs ps v l W) {L : List Nat} (hP : PlanS q B pp mp bs rs ps L W') {Mut : Nat → Prop} (hk : Keeps Mut W W') (hM : ∀ k, Mut k → k < W.heap.size → k = mp) : OnS q B pp mp c bs rs ps v l W' where
  pl := ⟨L, hP⟩
  p := (hk.block _ (lt_of_block h.p) (fun e => by have := hM _ e (lt_of_block h.p); have := h.hm; omega)).trans h.p
  f := (hk.block _ (lt_of_block h.f) (fun e => by have := hM _ e (lt_of_block h.f); have := h.hm; omega)).trans h.f
  o := (hk.block _ (lt_of_block h.o) (fun e => by have := hM _ e (lt_of_block h.o); have := h.hm; omega)).trans h.o
  r := own_block h.r (fun k e => hk.block k (h.r.lt k e).2 (fun hn => by have h3 := hM _ hn (h.r.lt k e).2; have h4 := own_base h.r k e; have := h.hm; omega))
  hp := h.hp
  hm := h.hm
set_option maxRecDepth 100000 in
set_option maxHeartbeats 4000000 in
theorem on_yes {q : PlanD} (hq : OkQ q) (ht : truA q.pr ≠ []) {B pp mp c : Nat} {bs rs ps : Value} (s : Nat) (v : Value) (l : List Int) (w : World) (hs : s < 2 ^ q.prices.length) (hes : enoughV q s = true) (h : OnS q B pp mp c bs rs ps v l w) :
    Calls Try.prog 63 #[.int .u64 s, .pointer (some ⟨c, 0, none⟩), .pointer (some ⟨c + 1, 0, none⟩), .pointer (some ⟨c + 2, 0, none⟩)] w fun e w' => e = .returned (.tuple #[]) ∧ (∃ v', OnS q B pp mp c bs rs ps v' l w') ∧ Keeps (fun k => k = mp ∨ k = c + 1 ∨ v.ownBlock = some k) w w' := by
  have HQ := Lib.hid hq
  have HT := Lib.hid ht
  have H := Lib.hid h
  have hlc := lt_of_block h.p
  have c0 : ∀ o, (w.alloc o).cell? ⟨c, 0, none⟩ = some (.pointer (some ⟨pp, 0, none⟩)) := fun o => by rw [cell_of_row _ _ _ _ _ _ ((hget_old _ _ _ (by omega)).trans h.p)]; rfl
  obtain ⟨L, hL⟩ := h.pl
  have HL := Lib.hid hL
  clear hq ht h hL
  refine calls_of_wp_marks Try.func63 rfl ?_
  simp only [Try.ntmps63, List.size_toArray, List.length_cons, List.length_nil, Nat.reduceAdd, Nat.reduceSub, Array.replicate_succ, Array.replicate_zero, List.push_toArray, List.append_toArray, List.nil_append, List.cons_append]
  go_wp2_with fail
  have hba : Below w.heap.size w (w.alloc (.cells #[.int .u64 s] 70)) := (Below.refl _ _).alloc (Nat.le_refl _) _
  refine (enough_any HQ.out HT.out s hs _ (HL.out.below hba)).mono ?_
  rintro e w2 ⟨rfl, L2, hP2, hk2⟩
  dsimp only
  rw [hes]
  have hk : Keeps (fun k => k = mp) w w2 := (Keeps.of_below hba (fun k h1 h2 => by omega)).trans hk2
  have HK := Lib.hid hk
  have HP := Lib.hid hP2
  clear hk2 hP2 hk hba c0
  go_wp2_with fail
  exact ⟨.tuple #[], by simp [results, Try.results63, go_sem], rfl, ⟨_, H.out.keep HP.out HK.out (fun k h _ => h)⟩, HK.out.mono (fun k _ h => .inl h)⟩
theorem OnS.low {q : PlanD} {B pp mp c : Nat} {bs rs ps v : Value} {l : List Int} {W W' : World} (h : OnS q B pp mp c bs rs ps v l W) (hb : Below W.heap.size W W') : OnS q B pp mp c bs rs ps v l W' := by
  obtain ⟨L, hL⟩ := h.pl
  exact h.keep (hL.below hb) (Mut := fun _ => False) (Keeps.of_below hb (fun k h1 h2 => by omega)) (fun k h => h.elim)
def OnNext (q : PlanD) (s : Nat) (pre : List Nat) : Int × Int := pre.foldl (nextStep q s) (-1, 0)
theorem onNext_snoc (q : PlanD) (s : Nat) (pre : List Nat) (x : Nat) (h : s.testBit x = false) (ho : s ||| 2 ^ x = s + 2 ^ x) : OnNext q s (pre ++ [x]) = if (OnNext q s pre).1 < 0 ∨ totalV q.pr (s ||| 2 ^ x) < (OnNext q s pre).2 then ((x : Int), totalV q.pr (s ||| 2 ^ x)) else OnNext q s pre := by
  unfold OnNext
  rw [List.foldl_append, ho]
  exact step_in h _
theorem totalV_in {q : PlanD} (hq : OkQ q) (ht : truA q.pr ≠ []) (s : Nat) : ∀ x ∈ widsV q.pr s, -1000000 ≤ x ∧ x ≤ 1000000 := by
  intro x hx
  obtain ⟨b, _, rfl⟩ := List.mem_map.1 hx
  have := widB_40 hq.pr s b (truA_of_every hq ht s)
  omega
set_option maxRecDepth 100000 in
set_option maxHeartbeats 8000000 in
theorem on_no {q : PlanD} (hq : OkQ q) (ht : truA q.pr ≠ []) {B pp mp c : Nat} {bs rs ps : Value} (f s : Nat) (ihf : ∀ (s : Nat) (v : Value) (l : List Int) (w : World), s < 2 ^ q.prices.length → (leftL q s).length ≤ f → l.length + f ≤ 8 → OnS q B pp mp c bs rs ps v l w →
    Calls Try.prog 63 #[.int .u64 s, .pointer (some ⟨c, 0, none⟩), .pointer (some ⟨c + 1, 0, none⟩), .pointer (some ⟨c + 2, 0, none⟩)] w fun e w' => e = .returned (.tuple #[]) ∧ (∃ v', OnS q B pp mp c bs rs ps v' (l ++ orderL q f s) w') ∧ Keeps (fun k => k = mp ∨ k = c + 1 ∨ v.ownBlock = some k) w w')
    (v : Value) (l : List Int) (w : World) (hs : s < 2 ^ q.prices.length) (hne : leftL q s ≠ []) (hlf : (leftL q s).length ≤ f + 1) (hl : l.length + (f + 1) ≤ 8) (hes : enoughV q s = false) (h : OnS q B pp mp c bs rs ps v l w) :
    Calls Try.prog 63 #[.int .u64 s, .pointer (some ⟨c, 0, none⟩), .pointer (some ⟨c + 1, 0, none⟩), .pointer (some ⟨c + 2, 0, none⟩)] w fun e w' => e = .returned (.tuple #[]) ∧ (∃ v', OnS q B pp mp c bs rs ps v' (l ++ orderL q (f + 1) s) w') ∧ Keeps (fun k => k = mp ∨ k = c + 1 ∨ v.ownBlock = some k) w w' := by
  have HQ := Lib.hid hq
  have HT := Lib.hid ht
  have H := Lib.hid h
  have IH := Lib.hid ihf
  have hs256 : s < 256 := Nat.lt_of_lt_of_le hs hq.p256
  have hcw : c + 2 < w.heap.size := lt_of_block h.f
  have hmp := h.hm
  have hpp := h.hp
  have hBc : B ≤ pp := by obtain ⟨L, hL⟩ := h.pl; exact hL.lp
  have c0 : ∀ o, (w.alloc o).cell? ⟨c, 0, none⟩ = some (.pointer (some ⟨pp, 0, none⟩)) := fun o => by rw [cell_of_row _ _ _ _ _ _ ((hget_old _ _ _ (by omega)).trans h.p)]; rfl
  obtain ⟨L, hL⟩ := h.pl
  have HL := Lib.hid hL
  clear hq ht h hL ihf
  obtain ⟨b0, hb0⟩ : ∃ k, k = w.heap.size := ⟨_, rfl⟩
  obtain ⟨W0, hW0⟩ : ∃ x, x = w.alloc (.cells #[.int .u64 s] 70) := ⟨_, rfl⟩
  have hba : Below w.heap.size w W0 := by rw [hW0]; exact (Below.refl _ _).alloc (Nat.le_refl _) _
  have z0 : W0.heap[b0]? = some (.cells #[.int .u64 s] 70 (0, 0)) := by rw [hW0, hb0]; exact heap_alloc_at _ _ _ rfl
  have hz0 : W0.heap.size = w.heap.size + 1 := by rw [hW0]; simp
  refine calls_of_wp_marks Try.func63 rfl ?_
  simp only [Try.ntmps63, List.size_toArray, List.length_cons, List.length_nil, Nat.reduceAdd, Nat.reduceSub, Array.replicate_succ, Array.replicate_zero, List.push_toArray, List.append_toArray, List.nil_append, List.cons_append]
  have HZ0 := Lib.hid z0
  have HBA := Lib.hid hba
  have hbl : w.heap.size ≤ b0 := by omega
  have hbg : b0 < w.heap.size + 1 := by omega
  clear z0 hba
  go_wp2_with fail
  rw [← hW0, ← hb0]
  clear c0 hW0 hb0
  refine (enough_any HQ.out HT.out s hs _ (HL.out.below HBA.out)).mono ?_
  rintro e w2 ⟨rfl, L2, hP2, hk2⟩
  dsimp only
  rw [hes]
  have HK2 := Lib.hid ((Keeps.of_below HBA.out (fun k h1 h2 => by omega)).trans hk2 : Keeps (fun k => k = mp) w w2)
  have HP2 := Lib.hid hP2
  have HZ2 := Lib.hid ((hk2.block b0 (by omega) (by omega)).trans HZ0.out)
  have hz2 := hk2.size
  clear hk2 hP2
  go_wp2_with fail
  obtain ⟨WA, hWA⟩ : ∃ x, x = ((w2.alloc (.cells #[.int .i64 (-1)] 3)).alloc (.cells #[.int .i64 0] 3)) := ⟨_, rfl⟩
  have hbA : Below w2.heap.size w2 WA := by rw [hWA]; exact ((Below.refl _ _).alloc (Nat.le_refl _) _).alloc (by simp) _
  have hzA : WA.heap.size = w2.heap.size + 2 := by rw [hWA]; simp
  have a0 : WA.heap[w2.heap.size]? = some (.cells #[.int .i64 (-1)] 3 (0, 0)) := by rw [hWA]; exact (by repeat (first | (refine heap_alloc_at _ _ _ ?_; (simp <;> omega); done) | (refine (hget_old _ _ _ ?_).trans ?_; · (simp <;> omega))))
  have a1 : WA.heap[w2.heap.size + 1]? = some (.cells #[.int .i64 0] 3 (0, 0)) := by rw [hWA]; exact (by repeat (first | (refine heap_alloc_at _ _ _ ?_; (simp <;> omega); done) | (refine (hget_old _ _ _ ?_).trans ?_; · (simp <;> omega))))
  rw [← hWA]
  clear hWA
  obtain ⟨nx, hnx⟩ : ∃ k, k = w2.heap.size := ⟨_, rfl⟩
  rw [← hnx] at a0 a1 ⊢
  have hnl : w2.heap.size ≤ nx := by omega
  have hng : nx < w2.heap.size + 1 := by omega
  clear hnx
  have zc := (hbA.block c (by omega)).trans ((HK2.out.block c (by omega) (by omega)).trans H.out.p)
  have zb := (hbA.block b0 (by omega)).trans HZ2.out
  have d1 : WA.cell? ⟨c, 0, none⟩ = some (.pointer (some ⟨pp, 0, none⟩)) := by rw [cell_of_row _ _ _ _ _ _ zc]; rfl
  have d2 : WA.cell? ⟨b0, 0, none⟩ = some (.int .u64 s) := by rw [cell_of_row _ _ _ _ _ _ zb]; rfl
  have h8 := HQ.out.m8
  have hel : bits BinOp.andNot IntKind.u64 ((everyV q : Nat) : Int) (s : Int) = ((everyV q - s : Nat) : Int) := andNot_u64 ⟨q.prices.length, by omega⟩ ⟨s, hs256⟩ hs
  have HBA2 := Lib.hid hbA
  have A0 := Lib.hid a0
  have A1 := Lib.hid a1
  clear hbA a0 a1 zc zb
  refine wp_region_held_drew (S := fun W' => W'.cell? ⟨c, 0, none⟩ = some (.pointer (some ⟨pp, 0, none⟩)) ∧ W'.cell? ⟨b0, 0, none⟩ = some (.int .u64 s)) (by kernel_rfl) ⟨d1, d2⟩ fun hS => ?_
  clear d1 d2
  refine wpAnyH_take (i := 0) (v := ?_) rfl (by kernel_rfl) (by kernel_rfl) (by kernel_rfl) (fun c a w h => on_put h) (Or.inl ⟨by rfl, ?_⟩) hS ?_
  rotate_left
  · (intro W hSw; obtain ⟨hq1, hq2⟩ := hSw; go_simp; try with_reducible rfl)
  try simp only [List.getElem_toArray, List.getElem_cons_succ, List.getElem_cons_zero, Act.put, List.setIfInBounds_toArray, List.set_cons_zero, List.set_cons_succ]
  refine wpAnyH_take (i := 2) (v := ?_) rfl (by kernel_rfl) (by kernel_rfl) (by kernel_rfl) (fun c a w h => on_put h) (Or.inl ⟨by rfl, ?_⟩) hS ?_
  rotate_left
  · (intro W hSw; obtain ⟨hq1, hq2⟩ := hSw; go_simp; try with_reducible rfl)
  try simp only [List.getElem_toArray, List.getElem_cons_succ, List.getElem_cons_zero, Act.put, List.setIfInBounds_toArray, List.set_cons_zero, List.set_cons_succ]
  refine wpAnyH_ready (rs := [1]) (by kernel_rfl) (by simp) ?_
  refine AllReadyH.cons rfl (fun K hK => ?_) AllReadyH.nil
  go_simp
  refine (pevery_any HQ.out _ (HP2.out.below HBA2.out).drew).mono ?_
  rintro e w' ⟨rfl, rfl⟩
  dsimp only
  refine hK.out _ _ hS (fun hS => ?_)
  clear hK K
  try simp only [List.getElem_toArray, List.getElem_cons_succ, List.getElem_cons_zero, Act.put, List.setIfInBounds_toArray, List.set_cons_zero, List.set_cons_succ]
  refine wpAnyH_take (i := 3) (v := ?_) rfl (by kernel_rfl) (by kernel_rfl) (by kernel_rfl) (fun c a w h => on_put h) (Or.inl ⟨by rfl, ?_⟩) hS ?_
  rotate_left
  · (intro W hSw; obtain ⟨hq1, hq2⟩ := hSw; go_simp; try with_reducible rfl)
  try simp only [List.getElem_toArray, List.getElem_cons_succ, List.getElem_cons_zero, Act.put, List.setIfInBounds_toArray, List.set_cons_zero, List.set_cons_succ]
  refine wpAnyH_ready (rs := [4]) (by kernel_rfl) (by simp) ?_
  refine AllReadyH.cons rfl (fun K hK => ?_) AllReadyH.nil
  go_simp
  refine (of_any (everyV q - s) _).mono ?_
  rintro e WZ ⟨rfl, hWZ⟩
  have hzz : WZ.heap.size = w2.heap.size + 3 := by rw [← hWZ]; show (WA.alloc _).heap.size = _; simp [hzA]
  have hbZ : Below w2.heap.size w2 WZ := by rw [← hWZ]; exact HBA2.out.drew.alloc (by show _ ≤ WA.heap.size; omega) _
  have hbAZ : Below WA.heap.size WA WZ := by rw [← hWZ]; exact (Below.refl _ _).drew.alloc (Nat.le_refl _) _
  have y0 := (hbAZ.block nx (by omega)).trans A0.out
  have y1 := (hbAZ.block (nx + 1) (by omega)).trans A1.out
  have ys : WZ.heap[nx + 2]? = some (.cells #[.int .u64 (everyV q - s : Nat)] 70 (0, 0)) := by rw [← hWZ]; exact heap_alloc_at _ _ _ (by show _ = WA.heap.size; omega)
  have zc := (hbZ.block c (by omega)).trans ((HK2.out.block c (by omega) (by omega)).trans H.out.p)
  have zb := (hbZ.block b0 (by omega)).trans HZ2.out
  have hS2 : WZ.cell? ⟨c, 0, none⟩ = some (.pointer (some ⟨pp, 0, none⟩)) ∧ WZ.cell? ⟨b0, 0, none⟩ = some (.int .u64 s) := ⟨by rw [cell_of_row _ _ _ _ _ _ zc]; rfl, by rw [cell_of_row _ _ _ _ _ _ zb]; rfl⟩
  have hnz : WA.drew.heap.size = nx + 2 := by show WA.heap.size = _; omega
  rw [hnz]
  dsimp only
  clear hS
  refine hK.out _ _ hS2 (fun hS => ?_)
  clear hK K
  try simp only [List.getElem_toArray, List.getElem_cons_succ, List.getElem_cons_zero, Act.put, List.setIfInBounds_toArray, List.set_cons_zero, List.set_cons_succ]
  refine wpAnyH_done (by kernel_rfl) ?_ _
  have HBZ := Lib.hid hbZ
  have Y0 := Lib.hid y0
  have Y1 := Lib.hid y1
  have YS := Lib.hid ys
  have HPZ := Lib.hid (HP2.out.below hbZ)
  have ZCZ := Lib.hid zc
  have ZBZ := Lib.hid zb
  clear hS hS2 hWZ hbZ hbAZ y0 y1 ys zc zb hnz A0 A1 HBA2
  go_wp2_with fail
  have hml : ∀ k, k < c → k < w.heap.size := fun k h => by omega
  have hev256 : everyV q - s < 256 := Nat.lt_of_le_of_lt (Nat.sub_le _ _) (Nat.lt_of_lt_of_le everyV_lt HQ.out.p256)
  refine wp_range (gf := 89) (lb := #[.pointer (some ⟨nx + 2, 0, none⟩)]) rfl (enters_of Try.func89 (by kernel_rfl) rfl) (encs := fun n : Nat => #[.int .i64 n]) (fun _ => rfl)
    (fun k => k = nx + 2) (fun k => k = mp ∨ k = nx ∨ k = nx + 1) ?hRd ?hM (leftL q s) ?hseq
    (fun pre _ Wr => (∃ L, PlanS q B pp mp bs rs ps L Wr) ∧ Wr.heap[nx]? = some (.cells #[.int .i64 (OnNext q s pre).1] 3 (0, 0)) ∧ Wr.heap[nx + 1]? = some (.cells #[.int .i64 (OnNext q s pre).2] 3 (0, 0)) ∧ Keeps (fun k => k = mp ∨ k = nx ∨ k = nx + 1) WZ Wr)
    (fun _ _ _ _ => False)
    ?hI ?hIx ?h0 ?hround ?hdone ?hstop
  case hRd => intro k hk; omega
  case hM => intro k hk; exact ⟨by omega, fun h => by omega⟩
  case hseq =>
    intro W' hb
    rw [← left_ofL HQ.out s hs]
    exact of_seq _ _ hev256 W' ((hb.block _ (by omega)).trans YS.out)
  case hI =>
    rintro s G A B' ⟨⟨L, h1⟩, h2, h3, h4⟩ hk
    exact ⟨⟨L, h1.keep hk (fun k hk1 _ => by have h4 := hk1.1; have h5 := h1.lp; exact ⟨by omega, by omega, by omega⟩)⟩, (hk.block _ (lt_of_block h2) (by omega)).trans h2, (hk.block _ (lt_of_block h3) (by omega)).trans h3, h4.transNew hk (fun i h => h.1)⟩
  case hIx => rintro c s G A B h hk; exact h
  case h0 => exact ⟨⟨_, HPZ.out⟩, Y0.out, Y1.out, Keeps.refl _ _⟩
  case hstop => rintro D c pre x rest G W' hxs h; exact h.elim
  case hround =>
    rintro ll pre x rest G Wr hxs ⟨⟨L, h1⟩, h2, h3, h4⟩ hl1 hl2 hGl
    have hxm := left_mem.1 (show x ∈ leftL q s by rw [hxs]; simp)
    have hx8 : x < 8 := by omega
    have ho := or_add ⟨s, hs256⟩ ⟨x, hx8⟩ hxm.2
    have hx2 : s ||| 2 ^ x < 2 ^ q.prices.length := or_lt hs hxm.1
    have hnx := onNext_snoc q s pre x hxm.2 ho
    have htb := totalV_in HQ.out HT.out (s ||| 2 ^ x)
    obtain ⟨on, hon⟩ : ∃ p, p = OnNext q s pre := ⟨_, rfl⟩
    rw [← hon] at h2 h3 hnx
    clear hon
    obtain ⟨on1, on2⟩ := on
    dsimp only at h2 h3 hnx
    have H1 := Lib.hid h1
    have H2 := Lib.hid h2
    have H3 := Lib.hid h3
    have H4 := Lib.hid h4
    have HNX := Lib.hid hnx
    have HTB := Lib.hid htb
    clear h1 h2 h3 h4 hnx htb hxs hGl hxm ho
    gi_wp2
    refine ⟨Keeps.refl _ _, ?_⟩
    intro W3 hk3 hs3
    have hP3 := H1.out.keep hk3 (fun k hk _ => by have h5 := H1.out.lp; exact ⟨by omega, by omega, by omega⟩)
    have zc := (hk3.block c (by omega) (by omega)).trans ((H4.out.block c (by omega) (by omega)).trans ZCZ.out)
    have zb := (hk3.block b0 (by omega) (by omega)).trans ((H4.out.block b0 (by omega) (by omega)).trans ZBZ.out)
    have z1 := (hk3.block nx (by omega) (by omega)).trans H2.out
    have z2 := (hk3.block (nx + 1) (by omega) (by omega)).trans H3.out
    have d1 : W3.cell? ⟨c, 0, none⟩ = some (.pointer (some ⟨pp, 0, none⟩)) := by rw [cell_of_row _ _ _ _ _ _ zc]; rfl
    have d2 : W3.cell? ⟨b0, 0, none⟩ = some (.int .u64 s) := by rw [cell_of_row _ _ _ _ _ _ zb]; rfl
    have HP3 := Lib.hid hP3
    have ZC := Lib.hid zc
    have ZB := Lib.hid zb
    have Z1 := Lib.hid z1
    have Z2 := Lib.hid z2
    have HK3 := Lib.hid hk3
    have hzw := H4.out.size
    have hs3l : W3.heap.size ≤ Wr.heap.size := by omega
    have hs3g : Wr.heap.size ≤ W3.heap.size := by omega
    clear hs3 hP3 zc zb z1 z2 hk3
    gi_wp2
    refine region_tailIn (S := fun W' => W'.cell? ⟨c, 0, none⟩ = some (.pointer (some ⟨pp, 0, none⟩)) ∧ W'.cell? ⟨b0, 0, none⟩ = some (.int .u64 s)) 6 #[false, false, false, false, false, false, true] (by kernel_rfl) (by kernel_rfl) (by kernel_rfl) (fun ⟨a, w, h⟩ => h) rfl ⟨d1, d2⟩ fun hS => ?_
    clear d1 d2
    refine wpAnyH_take (i := 0) (v := ?_) rfl (by kernel_rfl) (by kernel_rfl) (by kernel_rfl) (fun _ _ _ h => h) (Or.inl ⟨by rfl, ?_⟩) hS ?_
    rotate_left
    · (intro W hSw; obtain ⟨hq1, hq2⟩ := hSw; go_simp; try with_reducible rfl)
    try simp only [List.getElem_toArray, List.getElem_cons_succ, List.getElem_cons_zero, Act.put, List.setIfInBounds_toArray, List.set_cons_zero, List.set_cons_succ]
    refine wpAnyH_take (i := 1) (v := ?_) rfl (by kernel_rfl) (by kernel_rfl) (by kernel_rfl) (fun _ _ _ h => h) (Or.inl ⟨by rfl, ?_⟩) hS ?_
    rotate_left
    · (intro W hSw; obtain ⟨hq1, hq2⟩ := hSw; go_simp; try with_reducible rfl)
    try simp only [List.getElem_toArray, List.getElem_cons_succ, List.getElem_cons_zero, Act.put, List.setIfInBounds_toArray, List.set_cons_zero, List.set_cons_succ]
    refine wpAnyH_take (i := 2) (v := ?_) rfl (by kernel_rfl) (by kernel_rfl) (by kernel_rfl) (fun _ _ _ h => h) (Or.inl ⟨by rfl, ?_⟩) hS ?_
    rotate_left
    · (intro W hSw; obtain ⟨hq1, hq2⟩ := hSw; go_simp; try with_reducible rfl)
    try simp only [List.getElem_toArray, List.getElem_cons_succ, List.getElem_cons_zero, Act.put, List.setIfInBounds_toArray, List.set_cons_zero, List.set_cons_succ]
    refine held_tail (fun b8 _ => { tmps := #[.int .u64 s, .pointer (some ⟨c, 0, none⟩), .pointer (some ⟨c + 1, 0, none⟩), .pointer (some ⟨c + 2, 0, none⟩), .pointer (some ⟨b0, 0, none⟩), .pointer (some ⟨nx, 0, none⟩), .pointer (some ⟨nx + 1, 0, none⟩), .int .i64 x, .pointer (some ⟨b8, 0, none⟩), undef, .pointer (some ⟨pp, 0, none⟩), .int .u64 s, .bool false, .pointer (some ⟨pp, 0, none⟩), .int .u64 (everyV q : Nat), .int .u64 s, .int .u64 (everyV q - s : Nat), .func (.func 89) #[] #[.pointer (some ⟨nx + 2, 0, none⟩)], .int .i64 x, .pointer (some ⟨pp, 0, none⟩), .int .u64 s, .int .i64 x, .int .u64 (s ||| 2 ^ x : Nat), .agg (knownC q.pr (s ||| 2 ^ x)), undef, undef, undef, undef, undef, undef, undef, undef, undef, undef, undef, undef, undef, undef, undef, undef, undef, undef, undef, undef, undef], defers := [] }) (fun b8 _ W => (∃ L, PlanS q B pp mp bs rs ps L W) ∧ Keeps (fun k => k = mp) W3 W ∧ W.heap[b8]? = some (.cells #[.int .i64 0, .int .i64 0, .int .i64 0, .int .i64 0, .int .i64 0] 67 (0, 0)) ∧ W3.heap.size ≤ b8) ?_ ?_
    · rintro b8 b9 W7 ⟨⟨L7, hP7⟩, hk7, hb8, hb8l⟩
      have HP7 := Lib.hid hP7
      have HK7 := Lib.hid hk7
      have HB8 := Lib.hid hb8
      have hz7 := hk7.size
      have hb8g : b8 < W7.heap.size := lt_of_block hb8
      clear hP7 hk7 hb8 hS
      unfold TailQ
      simp only [List.drop_succ_cons, List.drop_zero]
      refine wpList_storeA rfl 67 _ _ rfl b8 (knownC q.pr (s ||| 2 ^ x)) rfl rfl 67 _ HB8.out (sizeKnown _ _) rfl (knownC_one _ _) ?_
      intro W8 hr8 hk8 hs8
      have hr8' : W8.heap[b8]? = some (.cells (knownC q.pr (s ||| 2 ^ x)) 67 (0, 0)) := hr8
      have HK8 := Lib.hid ((HK7.out).transNew hk8 (fun i hi => by omega) : Keeps (fun k => k = mp) W3 W8)
      have HP8 := Lib.hid (HP7.out.keep hk8 (fun k hk _ => by have h5 := HP7.out.lp; have h6 := lt_of_block H1.out.obj; have h7 := lt_of_block H1.out.map; exact ⟨by omega, by omega, by omega⟩))
      have HNM := Lib.hid (nums_known q.pr (s ||| 2 ^ x) hr8')
      have HR8 := Lib.hid hr8'
      clear hr8 hk8 hr8'
      go_wp2_with fail
      gi_wp2
      refine ⟨trivial, rfl, CallsIn.inRound ll (callsIn_wide.2 ((total_any (widsV q.pr (s ||| 2 ^ x)) HTB.out (by rw [widsV_eq]; simp) _ _ _ HNM.out).mono ?_))⟩
      rintro e w9 ⟨rfl, hb9⟩
      obtain ⟨tv, htv⟩ : ∃ t, t = totalV q.pr (s ||| 2 ^ x) := ⟨_, rfl⟩
      have hnx := HNX.out
      rw [← htv] at hnx
      have htw : sumL (widsV q.pr (s ||| 2 ^ x)) = tv := htv.symm
      rw [htw]
      have HNX9 := Lib.hid hnx
      have hz8 := HK8.out.size
      have HK9 := Lib.hid (HK8.out.trans (Keeps.of_below hb9 (fun k h1 h2 => by omega)))
      have HP9 := Lib.hid (HP8.out.below hb9)
      have z1 := (HK9.out.block nx (by omega) (by omega)).trans Z1.out
      have z2 := (HK9.out.block (nx + 1) (by omega) (by omega)).trans Z2.out
      have e1 : w9.cell? ⟨nx, 0, none⟩ = some (.int .i64 on1) := by rw [cell_of_row _ _ _ _ _ _ z1]; rfl
      have e2 : w9.cell? ⟨nx + 1, 0, none⟩ = some (.int .i64 on2) := by rw [cell_of_row _ _ _ _ _ _ z2]; rfl
      have f1 : w9.frozen? ⟨nx, 0, none⟩ = false := frozen_of_row _ _ 0 _ _ z1
      have f2 : ∀ v, (w9.setCell ⟨nx, 0, none⟩ v).frozen? ⟨nx + 1, 0, none⟩ = false := fun v => frozen_of_row _ _ 0 _ _ ((Below.heap_setCell _ _ _ _ (by simp)).trans z2)
      have e3 : ∀ v, (w9.setCell ⟨nx, 0, none⟩ v).cell? ⟨nx + 1, 0, none⟩ = some (.int .i64 on2) := fun v => by rw [cell_of_row _ _ _ _ _ _ ((Below.heap_setCell _ _ _ _ (by simp)).trans z2)]; rfl
      have HZ1 := Lib.hid z1
      have HZ2' := Lib.hid z2
      clear hb9 htv htw hnx z1 z2
      by_cases hc1 : on1 < 0
      · rw [if_pos (.inl hc1)] at HNX9
        gi_wp2
        have hkss : Keeps (fun k => k = nx ∨ k = nx + 1) w9 ((w9.setCell ⟨nx, 0, none⟩ (.int .i64 x)).setCell ⟨nx + 1, 0, none⟩ (.int .i64 tv)) := (Keeps.setCell _ _ _ (.inl rfl)).trans (Keeps.setCell _ _ _ (.inr rfl))
        have r1 := HZ1.out
        have r2 := HZ2'.out
        refine ⟨(HK9.out.mono (fun k _ h => .inl h)).trans (hkss.mono (fun k _ h => .inr h)), ⟨_, HP9.out.keep hkss (fun k hk _ => by have h5 := HP9.out.lp; exact ⟨by omega, by omega, by omega⟩)⟩, ?_, ?_, ((H4.out.transNew HK3.out (fun i hi => by omega)).trans (HK9.out.mono (fun k _ h => .inl h))).trans (hkss.mono (fun k _ h => .inr h))⟩
        · rw [HNX9.out]
          simp [World.setCell, Array.getElem?_modify, r1]
        · rw [HNX9.out]
          simp [World.setCell, Array.getElem?_modify, r2]
      by_cases hc2 : tv < on2
      · rw [if_pos (.inr hc2)] at HNX9
        gi_wp2
        have hkss : Keeps (fun k => k = nx ∨ k = nx + 1) w9 ((w9.setCell ⟨nx, 0, none⟩ (.int .i64 x)).setCell ⟨nx + 1, 0, none⟩ (.int .i64 tv)) := (Keeps.setCell _ _ _ (.inl rfl)).trans (Keeps.setCell _ _ _ (.inr rfl))
        have r1 := HZ1.out
        have r2 := HZ2'.out
        refine ⟨(HK9.out.mono (fun k _ h => .inl h)).trans (hkss.mono (fun k _ h => .inr h)), ⟨_, HP9.out.keep hkss (fun k hk _ => by have h5 := HP9.out.lp; exact ⟨by omega, by omega, by omega⟩)⟩, ?_, ?_, ((H4.out.transNew HK3.out (fun i hi => by omega)).trans (HK9.out.mono (fun k _ h => .inl h))).trans (hkss.mono (fun k _ h => .inr h))⟩
        · rw [HNX9.out]
          simp [World.setCell, Array.getElem?_modify, r1]
        · rw [HNX9.out]
          simp [World.setCell, Array.getElem?_modify, r2]
      · rw [if_neg (fun h => h.elim hc1 hc2)] at HNX9
        gi_wp2
        exact ⟨HK9.out.mono (fun k _ h => .inl h), ⟨_, HP9.out⟩, by rw [HNX9.out]; exact HZ1.out, by rw [HNX9.out]; exact HZ2'.out, (H4.out.transNew HK3.out (fun i hi => by omega)).trans (HK9.out.mono (fun k _ h => .inl h))⟩
    intro hTT
    have HTT := Lib.hid hTT
    clear hTT
    have HPx := Lib.hid HP3.out.drew
    have HKx : Hid (Keeps (fun k => k = mp) W3 W3.drew) := Lib.hid (Keeps.drew _ _)
    obtain ⟨V0, hV0⟩ : ∃ x, x = W3.drew := ⟨_, rfl⟩
    have hv0 : V0.heap.size ≤ W3.heap.size := by rw [hV0]; exact Nat.le_refl _
    have hv1 : W3.heap.size ≤ V0.heap.size := by rw [hV0]; exact Nat.le_refl _
    rw [← hV0] at HPx HKx hS ⊢
    clear hV0
    refine wpAnyH_ready (rs := [3, 5]) (by kernel_rfl) (by simp) ?_
    refine AllReadyH.cons rfl (fun K hK => ?_) ?_
    · skip
      go_simp
      refine (with_any s x (by omega) (by omega) V0).mono ?_
      rintro e w' ⟨rfl, rfl⟩
      dsimp only
      refine hK.out _ _ hS (fun hS => ?_)
      clear hK K
      try simp only [List.getElem_toArray, List.getElem_cons_succ, List.getElem_cons_zero, Act.put, List.setIfInBounds_toArray, List.set_cons_zero, List.set_cons_succ]
      refine wpAnyH_ready (rs := [4, 5]) (by kernel_rfl) (by simp) ?_
      refine AllReadyH.cons rfl (fun K hK => ?_) ?_
      · skip
        go_simp
        refine (pknown_any HQ.out HT.out (s ||| 2 ^ x) hx2 V0 HPx.out).mono ?_
        rintro e V1 ⟨rfl, Lx, hPx, hkx⟩
        dsimp only
        replace HPx := Lib.hid hPx
        replace HKx := Lib.hid (HKx.out.trans hkx)
        have hS2 := And.intro (show V1.cell? ⟨c, 0, none⟩ = some (.pointer (some ⟨pp, 0, none⟩)) by rw [cell_of_row _ _ _ _ _ _ ((HKx.out.block c (by omega) (by omega)).trans ZC.out)]; rfl) (show V1.cell? ⟨b0, 0, none⟩ = some (.int .u64 s) by rw [cell_of_row _ _ _ _ _ _ ((HKx.out.block b0 (by omega) (by omega)).trans ZB.out)]; rfl)
        clear hS hPx
        refine hK.out _ _ hS2 (fun hS => ?_)
        clear hK K
        try simp only [List.getElem_toArray, List.getElem_cons_succ, List.getElem_cons_zero, Act.put, List.setIfInBounds_toArray, List.set_cons_zero, List.set_cons_succ]
        refine wpAnyH_ready (rs := [5]) (by kernel_rfl) (by simp) ?_
        refine AllReadyH.cons rfl (fun K hK => ?_) AllReadyH.nil
        go_simp
        have hbn : Below V1.heap.size V1 (V1.alloc (.cells #[.int .i64 0, .int .i64 0, .int .i64 0, .int .i64 0, .int .i64 0] 67)) := (Below.refl _ _).alloc (Nat.le_refl _) _
        obtain ⟨b8, hb8⟩ : ∃ k, k = V1.heap.size := ⟨_, rfl⟩
        have R8 : Hid ((V1.alloc (.cells #[.int .i64 0, .int .i64 0, .int .i64 0, .int .i64 0, .int .i64 0] 67)).heap[b8]? = some (.cells #[.int .i64 0, .int .i64 0, .int .i64 0, .int .i64 0, .int .i64 0] 67 (0, 0))) := Lib.hid (heap_alloc_at _ _ _ hb8)
        have G8 : W3.heap.size ≤ b8 := by have := HKx.out.size; omega
        obtain ⟨V2, hWn⟩ : ∃ x, x = V1.alloc (.cells #[.int .i64 0, .int .i64 0, .int .i64 0, .int .i64 0, .int .i64 0] 67) := ⟨_, rfl⟩
        rw [← hWn] at hbn R8
        rw [← hb8, ← hWn]
        replace HPx := Lib.hid (HPx.out.below hbn)
        replace HKx := Lib.hid (HKx.out.trans (Keeps.of_below hbn (fun k h1 h2 => by omega)))
        have hS2 := And.intro (show V2.cell? ⟨c, 0, none⟩ = some (.pointer (some ⟨pp, 0, none⟩)) by rw [cell_of_row _ _ _ _ _ _ ((HKx.out.block c (by omega) (by omega)).trans ZC.out)]; rfl) (show V2.cell? ⟨b0, 0, none⟩ = some (.int .u64 s) by rw [cell_of_row _ _ _ _ _ _ ((HKx.out.block b0 (by omega) (by omega)).trans ZB.out)]; rfl)
        clear hWn hb8 hbn hS
        refine hK.out _ _ hS2 (fun hS => ?_)
        clear hK K
        try simp only [List.getElem_toArray, List.getElem_cons_succ, List.getElem_cons_zero, Act.put, List.setIfInBounds_toArray, List.set_cons_zero, List.set_cons_succ]
        refine wpAnyH_done (by kernel_rfl) ?_ _
        exact HTT.out b8 0 V2 ⟨⟨_, HPx.out⟩, HKx.out, R8.out, G8⟩
      refine AllReadyH.cons rfl (fun K hK => ?_) AllReadyH.nil
      go_simp
      have hbn : Below V0.heap.size V0 (V0.alloc (.cells #[.int .i64 0, .int .i64 0, .int .i64 0, .int .i64 0, .int .i64 0] 67)) := (Below.refl _ _).alloc (Nat.le_refl _) _
      obtain ⟨b8, hb8⟩ : ∃ k, k = V0.heap.size := ⟨_, rfl⟩
      have R8 : Hid ((V0.alloc (.cells #[.int .i64 0, .int .i64 0, .int .i64 0, .int .i64 0, .int .i64 0] 67)).heap[b8]? = some (.cells #[.int .i64 0, .int .i64 0, .int .i64 0, .int .i64 0, .int .i64 0] 67 (0, 0))) := Lib.hid (heap_alloc_at _ _ _ hb8)
      have G8 : W3.heap.size ≤ b8 := by have := HKx.out.size; omega
      obtain ⟨V1, hWn⟩ : ∃ x, x = V0.alloc (.cells #[.int .i64 0, .int .i64 0, .int .i64 0, .int .i64 0, .int .i64 0] 67) := ⟨_, rfl⟩
      rw [← hWn] at hbn R8
      rw [← hb8, ← hWn]
      replace HPx := Lib.hid (HPx.out.below hbn)
      replace HKx := Lib.hid (HKx.out.trans (Keeps.of_below hbn (fun k h1 h2 => by omega)))
      have hS2 := And.intro (show V1.cell? ⟨c, 0, none⟩ = some (.pointer (some ⟨pp, 0, none⟩)) by rw [cell_of_row _ _ _ _ _ _ ((HKx.out.block c (by omega) (by omega)).trans ZC.out)]; rfl) (show V1.cell? ⟨b0, 0, none⟩ = some (.int .u64 s) by rw [cell_of_row _ _ _ _ _ _ ((HKx.out.block b0 (by omega) (by omega)).trans ZB.out)]; rfl)
      clear hWn hb8 hbn hS
      refine hK.out _ _ hS2 (fun hS => ?_)
      clear hK K
      try simp only [List.getElem_toArray, List.getElem_cons_succ, List.getElem_cons_zero, Act.put, List.setIfInBounds_toArray, List.set_cons_zero, List.set_cons_succ]
      refine wpAnyH_ready (rs := [4]) (by kernel_rfl) (by simp) ?_
      refine AllReadyH.cons rfl (fun K hK => ?_) AllReadyH.nil
      go_simp
      refine (pknown_any HQ.out HT.out (s ||| 2 ^ x) hx2 V1 HPx.out).mono ?_
      rintro e V2 ⟨rfl, Lx, hPx, hkx⟩
      dsimp only
      replace HPx := Lib.hid hPx
      replace HKx := Lib.hid (HKx.out.trans hkx)
      have hS2 := And.intro (show V2.cell? ⟨c, 0, none⟩ = some (.pointer (some ⟨pp, 0, none⟩)) by rw [cell_of_row _ _ _ _ _ _ ((HKx.out.block c (by omega) (by omega)).trans ZC.out)]; rfl) (show V2.cell? ⟨b0, 0, none⟩ = some (.int .u64 s) by rw [cell_of_row _ _ _ _ _ _ ((HKx.out.block b0 (by omega) (by omega)).trans ZB.out)]; rfl)
      clear hS hPx
      replace R8 := Lib.hid ((hkx.block b8 (lt_of_block R8.out) (by omega)).trans R8.out)
      refine hK.out _ _ hS2 (fun hS => ?_)
      clear hK K
      try simp only [List.getElem_toArray, List.getElem_cons_succ, List.getElem_cons_zero, Act.put, List.setIfInBounds_toArray, List.set_cons_zero, List.set_cons_succ]
      refine wpAnyH_done (by kernel_rfl) ?_ _
      exact HTT.out b8 0 V2 ⟨⟨_, HPx.out⟩, HKx.out, R8.out, G8⟩
    refine AllReadyH.cons rfl (fun K hK => ?_) AllReadyH.nil
    go_simp
    have hbn : Below V0.heap.size V0 (V0.alloc (.cells #[.int .i64 0, .int .i64 0, .int .i64 0, .int .i64 0, .int .i64 0] 67)) := (Below.refl _ _).alloc (Nat.le_refl _) _
    obtain ⟨b8, hb8⟩ : ∃ k, k = V0.heap.size := ⟨_, rfl⟩
    have R8 : Hid ((V0.alloc (.cells #[.int .i64 0, .int .i64 0, .int .i64 0, .int .i64 0, .int .i64 0] 67)).heap[b8]? = some (.cells #[.int .i64 0, .int .i64 0, .int .i64 0, .int .i64 0, .int .i64 0] 67 (0, 0))) := Lib.hid (heap_alloc_at _ _ _ hb8)
    have G8 : W3.heap.size ≤ b8 := by have := HKx.out.size; omega
    obtain ⟨V1, hWn⟩ : ∃ x, x = V0.alloc (.cells #[.int .i64 0, .int .i64 0, .int .i64 0, .int .i64 0, .int .i64 0] 67) := ⟨_, rfl⟩
    rw [← hWn] at hbn R8
    rw [← hb8, ← hWn]
    replace HPx := Lib.hid (HPx.out.below hbn)
    replace HKx := Lib.hid (HKx.out.trans (Keeps.of_below hbn (fun k h1 h2 => by omega)))
    have hS2 := And.intro (show V1.cell? ⟨c, 0, none⟩ = some (.pointer (some ⟨pp, 0, none⟩)) by rw [cell_of_row _ _ _ _ _ _ ((HKx.out.block c (by omega) (by omega)).trans ZC.out)]; rfl) (show V1.cell? ⟨b0, 0, none⟩ = some (.int .u64 s) by rw [cell_of_row _ _ _ _ _ _ ((HKx.out.block b0 (by omega) (by omega)).trans ZB.out)]; rfl)
    clear hWn hb8 hbn hS
    refine hK.out _ _ hS2 (fun hS => ?_)
    clear hK K
    try simp only [List.getElem_toArray, List.getElem_cons_succ, List.getElem_cons_zero, Act.put, List.setIfInBounds_toArray, List.set_cons_zero, List.set_cons_succ]
    refine wpAnyH_ready (rs := [3]) (by kernel_rfl) (by simp) ?_
    refine AllReadyH.cons rfl (fun K hK => ?_) AllReadyH.nil
    go_simp
    refine (with_any s x (by omega) (by omega) V1).mono ?_
    rintro e w' ⟨rfl, rfl⟩
    dsimp only
    refine hK.out _ _ hS (fun hS => ?_)
    clear hK K
    try simp only [List.getElem_toArray, List.getElem_cons_succ, List.getElem_cons_zero, Act.put, List.setIfInBounds_toArray, List.set_cons_zero, List.set_cons_succ]
    refine wpAnyH_ready (rs := [4]) (by kernel_rfl) (by simp) ?_
    refine AllReadyH.cons rfl (fun K hK => ?_) AllReadyH.nil
    go_simp
    refine (pknown_any HQ.out HT.out (s ||| 2 ^ x) hx2 V1 HPx.out).mono ?_
    rintro e V2 ⟨rfl, Lx, hPx, hkx⟩
    dsimp only
    replace HPx := Lib.hid hPx
    replace HKx := Lib.hid (HKx.out.trans hkx)
    have hS2 := And.intro (show V2.cell? ⟨c, 0, none⟩ = some (.pointer (some ⟨pp, 0, none⟩)) by rw [cell_of_row _ _ _ _ _ _ ((HKx.out.block c (by omega) (by omega)).trans ZC.out)]; rfl) (show V2.cell? ⟨b0, 0, none⟩ = some (.int .u64 s) by rw [cell_of_row _ _ _ _ _ _ ((HKx.out.block b0 (by omega) (by omega)).trans ZB.out)]; rfl)
    clear hS hPx
    replace R8 := Lib.hid ((hkx.block b8 (lt_of_block R8.out) (by omega)).trans R8.out)
    refine hK.out _ _ hS2 (fun hS => ?_)
    clear hK K
    try simp only [List.getElem_toArray, List.getElem_cons_succ, List.getElem_cons_zero, Act.put, List.setIfInBounds_toArray, List.set_cons_zero, List.set_cons_succ]
    refine wpAnyH_done (by kernel_rfl) ?_ _
    exact HTT.out b8 0 V2 ⟨⟨_, HPx.out⟩, HKx.out, R8.out, G8⟩
  case hdone =>
    rintro D G W' ⟨⟨L9, h1⟩, h2, h3, h4⟩ hGD hkk hD hDs
    obtain ⟨n, hn, hnm, hnb⟩ := next_is q s hne
    have hnx : (OnNext q s (leftL q s)).1 = (n : Int) := by unfold OnNext; rw [next_left]; exact hn
    rw [hnx] at h2
    have hn8 : n < 8 := by omega
    have ho := or_add ⟨s, hs256⟩ ⟨n, hn8⟩ hnb
    have HORD := Lib.hid (order_no (q := q) f s n hes hn ho)
    have hlt2 : s ||| 2 ^ n < 2 ^ q.prices.length := or_lt hs hnm
    have hlf2 : (leftL q (s ||| 2 ^ n)).length ≤ f := by have := left_less (q := q) (s := s) (n := n) (left_mem.2 ⟨hnm, hnb⟩); omega
    have hkA : Keeps (fun k => k = mp) w WZ := HK2.out.trans (Keeps.of_below HBZ.out (fun k h1 h2 => by omega))
    have hkB : Keeps (fun k => k = mp) w W' := ((hkA.mono (fun k _ h => .inl h) : Keeps (fun k => k = mp ∨ k = nx ∨ k = nx + 1) w WZ).trans h4).mono (fun k hk h => h.elim id (fun h => by omega))
    have hon : OnS q B pp mp c bs rs ps v l W' := H.out.keep h1 hkB (fun k h _ => h)
    have zb := (h4.block b0 (by omega) (by omega)).trans ZBZ.out
    have c1 : W'.cell? ⟨c + 1, 0, none⟩ = some v := by rw [cell_of_row _ _ _ _ _ _ hon.o]; rfl
    have c2 : W'.cell? ⟨nx, 0, none⟩ = some (.int .i64 n) := by rw [cell_of_row _ _ _ _ _ _ h2]; rfl
    have hown3 : ∀ o, (W'.alloc o).ownsRow (c + 3) 3 1 v l.length (l.map (Value.int .i64)) := fun o => own_block hon.r (fun k e => hget_old _ _ _ (by have := (hon.r.lt k e).2; omega))
    have hn4 : (W'.alloc (.cells #[.int .i64 n] 3)).heap[W'.heap.size]? = some (.cells #[.int .i64 n] 3 (0, 0)) := heap_alloc_at _ _ _ rfl
    have HON := Lib.hid hon
    have HKB := Lib.hid hkB
    have HD := Lib.hid hD
    have HZB := Lib.hid zb
    have HZN := Lib.hid h2
    have HP9 := Lib.hid h1
    have hzk := h4.size
    clear h1 h2 h3 h4 hGD hkk hD hon hkA hkB zb hnx hn hes ho
    have HOWN := Lib.hid (hown3 (.cells #[.int .i64 n] 3))
    have hcz : c + 3 ≤ W'.heap.size := by omega
    have z4 : ∀ o, (W'.alloc o).heap[c + 1]? = some (.cells #[v] 28 (0, 0)) := fun o => (hget_old _ _ _ (by omega)).trans HON.out.o
    have HZ4 := Lib.hid z4
    clear z4
    go_wp2_with (first | (at_builtin; refine wpList_append_here rfl _ _ 28 rfl (c + 3) 3 1 8 (.int .i64 0) underInts infoInt rfl (by decide) v l.length _ rfl (hown3 _) W'.heap.size 1 #[.int .i64 n] 3 (0, 0) rfl hn4 rfl (by simp [Value.oneCell']) (by omega) (by decide) (by simp; omega) ?_; intro v1 W5 hown5 hg5 hat5; obtain ⟨av, ac, nv, rfl⟩ : ∃ a n c, v1 = .slice a n c := (by rcases hown5.2 with ⟨h2, _⟩ | ⟨g, cap, cur, h2, _⟩ <;> exact ⟨_, _, _, h2⟩); have hb5 : Below (c + 3) (W'.alloc (.cells #[.int .i64 n] 3)) W5 := ((Below.refl _ _).grown hg5 (by simp; omega) (own_base HOWN.out)); have z5 := (hb5.block (c + 1) (by omega)).trans (HZ4.out _); have c5 : W5.cell? ⟨c + 1, 0, none⟩ = some v := (by rw [cell_of_row _ _ _ _ _ _ z5]; rfl); have f5 : W5.frozen? ⟨c + 1, 0, none⟩ = false := frozen_of_row _ _ 0 _ _ z5; have HO5 := Lib.hid hown5; have HG5 := Lib.hid hg5; have HAT5 := Lib.hid hat5; have HZ5 := Lib.hid z5; clear hown5 hg5 hat5 hown3 hn4 c1 z5 hb5))
    have hob : ∀ k, v.ownBlock = some k → c + 3 ≤ k ∧ k < w.heap.size := fun k e => ⟨own_base H.out.r k e, (H.out.r.lt k e).2⟩
    have hk45 : Keeps (fun k => v.ownBlock = some k) (W'.alloc (.cells #[.int .i64 n] 3)) W5 := keeps_grown HG5.out
    obtain ⟨W6, hW6⟩ : ∃ x, x = W5.setCell ⟨c + 1, 0, none⟩ (.slice av ac nv) := ⟨_, rfl⟩
    have hk46 : Keeps (fun k => v.ownBlock = some k ∨ k = c + 1) W' W6 := by
      rw [hW6]
      exact (Keeps.alloc _ _ _).trans ((hk45.mono (fun k _ h => .inl h)).trans (Keeps.setCell _ _ _ (.inr rfl)))
    have o6 : W6.heap[c + 1]? = some (.cells #[.slice av ac nv] 28 (0, 0)) := by
      rw [hW6]
      have := HZ5.out
      simp [World.setCell, Array.getElem?_modify, this]
    have r6 : W6.ownsRow (c + 3) 3 1 (.slice av ac nv) (l ++ [(n : Int)]).length ((l ++ [(n : Int)]).map (Value.int .i64)) := by
      rw [hW6, List.length_append, List.map_append]
      exact ownsRow_setCell_below HO5.out (by simp) _
    have hne6 : ∀ k, W'.heap[k]? = W'.heap[k]? → k ≠ c + 1 → (k < c + 3 ∨ w.heap.size ≤ k) → k < W'.heap.size → W6.heap[k]? = W'.heap[k]? := fun k _ h1 h2 h3 => hk46.block k h3 (fun h => h.elim (fun h => by have := hob k h; omega) h1)
    have hbig : ∀ k, (v.ownBlock = some k ∨ k = c + 1) → c + 1 ≤ k := fun k h => h.elim (fun h => by have := hob k h; omega) (fun h => by omega)
    have hon6 : OnS q B pp mp c bs rs ps (.slice av ac nv) (l ++ [(n : Int)]) W6 := ⟨⟨_, HP9.out.keep hk46 (fun k hk _ => by have h5 := hbig k hk; clear hk; exact ⟨by omega, by omega, by omega⟩)⟩, (hne6 c rfl (by omega) (by omega) (by omega)).trans HON.out.p, (hne6 (c + 2) rfl (by omega) (by omega) (by omega)).trans HON.out.f, o6, r6, hpp, hmp⟩
    have z1 := (hne6 b0 rfl (by omega) (by omega) (by omega)).trans HZB.out
    have z2 := (hne6 nx rfl (by omega) (by omega) (by omega)).trans HZN.out
    have zD := (hne6 D rfl (by omega) (by omega) (lt_of_block HD.out)).trans HD.out
    have d1 : W6.cell? ⟨c + 2, 0, none⟩ = some (.func (.func 63) #[] #[.pointer (some ⟨c, 0, none⟩), .pointer (some ⟨c + 1, 0, none⟩), .pointer (some ⟨c + 2, 0, none⟩)]) := by rw [cell_of_row _ _ _ _ _ _ hon6.f]; rfl
    have d2 : W6.cell? ⟨b0, 0, none⟩ = some (.int .u64 s) := by rw [cell_of_row _ _ _ _ _ _ z1]; rfl
    have d3 : W6.cell? ⟨nx, 0, none⟩ = some (.int .i64 n) := by rw [cell_of_row _ _ _ _ _ _ z2]; rfl
    have HK46 := Lib.hid hk46
    have HON6 := Lib.hid (hon6.low (Below.refl _ _).drew)
    have HD6 := Lib.hid zD
    have HOB := Lib.hid hob
    have Z61 := Lib.hid z1
    have Z62 := Lib.hid z2
    have hz6 := hk46.size
    rw [← hW6]
    clear hW6 hk45 hk46 o6 r6 hne6 hbig hon6 z1 z2 zD hob c2 c5 f5
    refine wp_region_held_drew (S := fun W' => W'.cell? ⟨c + 2, 0, none⟩ = some (.func (.func 63) #[] #[.pointer (some ⟨c, 0, none⟩), .pointer (some ⟨c + 1, 0, none⟩), .pointer (some ⟨c + 2, 0, none⟩)]) ∧ W'.cell? ⟨b0, 0, none⟩ = some (.int .u64 s) ∧ W'.cell? ⟨nx, 0, none⟩ = some (.int .i64 n)) (by kernel_rfl) ⟨d1, d2, d3⟩ fun hS => ?_
    clear d1 d2 d3
    refine wpAnyH_take (i := 0) (v := ?_) rfl (by kernel_rfl) (by kernel_rfl) (by kernel_rfl) (fun c a w h => on_put h) (Or.inl ⟨by rfl, ?_⟩) hS ?_
    rotate_left
    · (intro W hSw; obtain ⟨hq1, hq2, hq3⟩ := hSw; go_simp; try with_reducible rfl)
    try simp only [List.getElem_toArray, List.getElem_cons_succ, List.getElem_cons_zero, Act.put, List.setIfInBounds_toArray, List.set_cons_zero, List.set_cons_succ]
    refine wpAnyH_take (i := 1) (v := ?_) rfl (by kernel_rfl) (by kernel_rfl) (by kernel_rfl) (fun c a w h => on_put h) (Or.inl ⟨by rfl, ?_⟩) hS ?_
    rotate_left
    · (intro W hSw; obtain ⟨hq1, hq2, hq3⟩ := hSw; go_simp; try with_reducible rfl)
    try simp only [List.getElem_toArray, List.getElem_cons_succ, List.getElem_cons_zero, Act.put, List.setIfInBounds_toArray, List.set_cons_zero, List.set_cons_succ]
    refine wpAnyH_take (i := 2) (v := ?_) rfl (by kernel_rfl) (by kernel_rfl) (by kernel_rfl) (fun c a w h => on_put h) (Or.inl ⟨by rfl, ?_⟩) hS ?_
    rotate_left
    · (intro W hSw; obtain ⟨hq1, hq2, hq3⟩ := hSw; go_simp; try with_reducible rfl)
    try simp only [List.getElem_toArray, List.getElem_cons_succ, List.getElem_cons_zero, Act.put, List.setIfInBounds_toArray, List.set_cons_zero, List.set_cons_succ]
    refine wpAnyH_ready (rs := [3]) (by kernel_rfl) (by simp) ?_
    refine AllReadyH.cons rfl (fun K hK => ?_) AllReadyH.nil
    go_simp
    refine (with_any s n (by omega) (by omega) _).mono ?_
    rintro e w' ⟨rfl, rfl⟩
    dsimp only
    refine hK.out _ _ hS (fun hS => ?_)
    clear hK K
    try simp only [List.getElem_toArray, List.getElem_cons_succ, List.getElem_cons_zero, Act.put, List.setIfInBounds_toArray, List.set_cons_zero, List.set_cons_succ]
    refine wpAnyH_ready (rs := [4]) (by kernel_rfl) (by simp) ?_
    refine AllReadyH.cons rfl (fun K hK => ?_) AllReadyH.nil
    go_simp
    refine (IH.out (s ||| 2 ^ n) (.slice av ac nv) (l ++ [(n : Int)]) _ hlt2 hlf2 (by simp; omega) HON6.out).mono ?_
    rintro e W7 ⟨rfl, ⟨v7, hon7⟩, hk7⟩
    dsimp only
    have hDl := lt_of_block HD.out
    have hoa : ∀ k, (Value.slice av ac nv).ownBlock = some k → (c + 3 ≤ k ∧ k < w.heap.size) ∨ k = W'.heap.size + 1 := fun k e => by
      rcases HAT5.out with h | h
      · exact .inl (HOB.out k (h.symm.trans e))
      · rw [h] at e
        right
        have := Option.some.inj e
        simpa using this.symm
    have hkk : ∀ k, k ≠ mp → k ≠ c + 1 → w.heap.size ≤ k → k ≤ W'.heap.size → k < W6.heap.size → W7.heap[k]? = W6.heap[k]? := fun k h1 h2 h3 h4 h5 => hk7.block k h5 (fun h => by
      rcases h with h | h | h
      · exact h1 h
      · exact h2 h
      · have := hoa k h; omega)
    have hS7 : W7.cell? ⟨c + 2, 0, none⟩ = some (.func (.func 63) #[] #[.pointer (some ⟨c, 0, none⟩), .pointer (some ⟨c + 1, 0, none⟩), .pointer (some ⟨c + 2, 0, none⟩)]) ∧ W7.cell? ⟨b0, 0, none⟩ = some (.int .u64 s) ∧ W7.cell? ⟨nx, 0, none⟩ = some (.int .i64 n) := ⟨by rw [cell_of_row _ _ _ _ _ _ hon7.f]; rfl, by rw [cell_of_row _ _ _ _ _ _ ((hkk b0 (by omega) (by omega) (by omega) (by omega) (by omega)).trans Z61.out)]; rfl, by rw [cell_of_row _ _ _ _ _ _ ((hkk nx (by omega) (by omega) (by omega) (by omega) (by omega)).trans Z62.out)]; rfl⟩
    have hd7 := (hkk D (by omega) (by omega) (by omega) (by omega) (by omega)).trans HD6.out
    have hk67 : Keeps (fun k => k = mp ∨ k = c + 1 ∨ v.ownBlock = some k) w W7 := by
      have a1 : Keeps (fun k => k = mp ∨ k = c + 1 ∨ v.ownBlock = some k ∨ w.heap.size ≤ k) w W7 := (((HKB.out.mono (fun k _ h => .inl h)).trans (HK46.out.mono (fun k _ h => h.elim (fun h => .inr (.inr (.inl h))) (fun h => .inr (.inl h))))).trans (Keeps.drew _ _)).trans (hk7.mono (fun k _ h => by
        rcases h with h | h | h
        · exact .inl h
        · exact .inr (.inl h)
        · rcases HAT5.out with h2 | h2
          · exact .inr (.inr (.inl (h2.symm.trans h)))
          · have := hoa k h
            by_cases hkw : w.heap.size ≤ k
            · exact .inr (.inr (.inr hkw))
            · rw [h2] at h
              have := Option.some.inj h
              simp at this
              omega))
      exact a1.mono (fun k hk h => by
        rcases h with h | h | h | h
        · exact .inl h
        · exact .inr (.inl h)
        · exact .inr (.inr h)
        · omega)
    have HON7 := Lib.hid hon7
    have HK67 := Lib.hid hk67
    have HD7 := Lib.hid hd7
    have hz7 := hk7.size
    have hz67 := hk67.size
    clear hS hon7 hk7 hkk hoa hk67 hd7
    refine hK.out _ _ hS7 (fun hS => ?_)
    clear hK K
    try simp only [List.getElem_toArray, List.getElem_cons_succ, List.getElem_cons_zero, Act.put, List.setIfInBounds_toArray, List.set_cons_zero, List.set_cons_succ]
    refine wpAnyH_done (by kernel_rfl) ?_ _
    clear hS hS7
    go_wp2_with fail
    refine ⟨by simp, .inl ⟨_, _, rfl, run_takeDeferred HD7.out, ?_⟩⟩
    have hkD : Keeps (fun k => k = D) W7 (W7.putObj D (.deferred none)) := Keeps.putObj _ _ _ rfl
    refine ⟨.tuple #[], by simp [results, Try.results63, go_sem], rfl, ⟨v7, ?_⟩, (HK67.out.mono (fun k _ h => h)).transNew hkD (fun i h => by omega)⟩
    rw [HORD.out, show l ++ (n : Int) :: orderL q f (s ||| 2 ^ n) = l ++ [(n : Int)] ++ orderL q f (s ||| 2 ^ n) by simp]
    have h7 := HON7.out
    obtain ⟨L7, hL7⟩ := h7.pl
    have hBp := hL7.lp
    have hdd := HD7.out
    have hob : ∀ {k : Nat} (x : Obj), k ≠ D → (W7.putObj D (.deferred none)).heap[k]? = W7.heap[k]? := fun {k} _ h => World.putObj_heap_other h
    exact ⟨⟨_, hL7.keep hkD (fun k hk _ => ⟨by omega, by omega, by omega⟩)⟩, (hob (k := c) (.deferred none) (by omega)).trans h7.p, (hob (k := c + 2) (.deferred none) (by omega)).trans h7.f, (hob (k := c + 1) (.deferred none) (by omega)).trans h7.o, own_block h7.r (fun k e => hob (.deferred none) (fun hk => by
      subst hk
      rcases h7.r.2 with ⟨h2, _⟩ | ⟨g, cap, cur, h2, h3, h4, _⟩
      · rw [h2] at e; simp [Value.ownBlock] at e
      · rw [h2] at e
        simp [Value.ownBlock] at e
        subst e
        rw [h4] at hdd
        simp at hdd)), h7.hp, h7.hm⟩
theorem on_any {q : PlanD} (hq : OkQ q) (ht : truA q.pr ≠ []) (hen : enoughV q (everyV q) = true) {B pp mp c : Nat} {bs rs ps : Value} : ∀ (f s : Nat) (v : Value) (l : List Int) (w : World), s < 2 ^ q.prices.length → (leftL q s).length ≤ f → l.length + f ≤ 8 → OnS q B pp mp c bs rs ps v l w →
    Calls Try.prog 63 #[.int .u64 s, .pointer (some ⟨c, 0, none⟩), .pointer (some ⟨c + 1, 0, none⟩), .pointer (some ⟨c + 2, 0, none⟩)] w fun e w' => e = .returned (.tuple #[]) ∧ (∃ v', OnS q B pp mp c bs rs ps v' (l ++ orderL q f s) w') ∧ Keeps (fun k => k = mp ∨ k = c + 1 ∨ v.ownBlock = some k) w w' := by
  intro f
  induction f with
  | zero =>
    intro s v l w hs hf hl h
    have hse : s = everyV q := left_zero s hs (List.length_eq_zero_iff.1 (by omega))
    refine (on_yes hq ht s v l w hs (by rw [hse]; exact hen) h).mono ?_
    rintro e w' ⟨h1, h2, h3⟩
    exact ⟨h1, by simpa [orderL] using h2, h3⟩
  | succ f ih =>
    intro s v l w hs hf hl h
    cases hes : enoughV q s with
    | true =>
      refine (on_yes hq ht s v l w hs hes h).mono ?_
      rintro e w' ⟨h1, h2, h3⟩
      exact ⟨h1, by rw [order_yes _ _ hes]; simpa using h2, h3⟩
    | false =>
      refine on_no hq ht f s ih v l w hs (fun hn => ?_) hf hl hes h
      have hse : s = everyV q := left_zero s hs hn
      rw [hse, hen] at hes
      cases hes
end Go.Proofs.Ytabbmihakoeegaa

/- In which order readings are best made, walked. -/
namespace Go.Proofs.Ytabbmihakoeegaa
set_option linter.unusedVariables false
set_option linter.unusedSimpArgs false
open Go.RowKit Go.Shelf
attribute [local go_sem] Oper.semAt_some

theorem order_err {q : PlanD} {n : Int} (h : errE q = n) (hn : n ≠ 0) : orderV q = ([], n) := by unfold orderV; rw [if_pos (by rw [h]; exact hn), h]
theorem order_ok {q : PlanD} (h : errE q = 0) : orderV q = (orderL q q.prices.length 0, 0) := by unfold orderV; rw [if_neg (by rw [h]; decide)]
/-- What an order comes to: a slice of its own. -/
def OrderR (q : PlanD) (w : World) (e : Ending) (w' : World) : Prop :=
  ∃ v, e = .returned (.tuple #[v, .int .i64 (orderV q).2]) ∧ NumsAt w' v (orderV q).1 (fun k => w.heap.size ≤ k) ∧ Below w.heap.size w w'
set_option maxRecDepth 100000 in
set_option maxHeartbeats 4000000 in
theorem orderV_any {q : PlanD} {bs rs ps : Value} {w : World} (h : PlanAt w q bs rs ps) :
    Calls Try.prog 23 #[.agg (planRow q bs rs ps)] w (OrderR q w) := by
  obtain ⟨aob, capb, hbv, _⟩ := id h.p.b
  obtain ⟨aor, capr, hrv, _⟩ := id h.p.r
  obtain ⟨aop, capp, hpv, _⟩ := id h.n
  subst hbv hrv hpv
  have H := Lib.hid h
  have hmf : ∀ (fn : Fn) (first cap : Array Value) (w : World), (Instr.makeFunc fn first cap).run Try.prog w = .ok (.func fn first cap) w := fun _ _ _ _ => rfl
  clear h
  unfold planRow
  have eg := enters_of Try.func51 (by kernel_rfl) rfl
  obtain ⟨W0, hW0⟩ : ∃ x, x = (w.alloc (.cells #[.slice aob q.pr.bs.length capb, .int .i64 q.pr.zl, .int .i64 q.pr.zh, .int .i64 q.pr.rl, .int .i64 q.pr.rh, .slice aor q.pr.rs.length capr, .int .i64 q.wide, .slice aop q.prices.length capp] 30)).alloc (.cells #[.int .i64 0] 33) := ⟨_, rfl⟩
  have hb0 : Below w.heap.size w W0 := by rw [hW0]; exact ((Below.refl _ _).alloc (Nat.le_refl _) _).alloc (by simp) _
  have hz0 : W0.heap.size = w.heap.size + 2 := by rw [hW0]; simp
  have x0 : W0.heap[w.heap.size]? = some (.cells #[.slice aob q.pr.bs.length capb, .int .i64 q.pr.zl, .int .i64 q.pr.zh, .int .i64 q.pr.rl, .int .i64 q.pr.rh, .slice aor q.pr.rs.length capr, .int .i64 q.wide, .slice aop q.prices.length capp] 30 (0, 0)) := by rw [hW0]; exact (hget_old _ _ _ (by simp)).trans (heap_alloc_at _ _ _ rfl)
  have xe : W0.heap[w.heap.size + 1]? = some (.cells #[.int .i64 0] 33 (0, 0)) := by rw [hW0]; exact heap_alloc_at _ _ _ (by simp)
  have HB0 := Lib.hid hb0
  have XE := Lib.hid xe
  have X0 := Lib.hid x0
  go_enter_defers Try.func23, Try.ntmps23
  have c0 : W0.cell? ⟨w.heap.size, 0, none⟩ = some (.slice aob q.pr.bs.length capb) := by rw [cell_of_row _ _ _ _ _ _ x0]; rfl
  have c1 : W0.cell? ⟨w.heap.size, 1, none⟩ = some (.int .i64 q.pr.zl) := by rw [cell_of_row _ _ _ _ _ _ x0]; rfl
  have c2 : W0.cell? ⟨w.heap.size, 2, none⟩ = some (.int .i64 q.pr.zh) := by rw [cell_of_row _ _ _ _ _ _ x0]; rfl
  have c3 : W0.cell? ⟨w.heap.size, 3, none⟩ = some (.int .i64 q.pr.rl) := by rw [cell_of_row _ _ _ _ _ _ x0]; rfl
  have c4 : W0.cell? ⟨w.heap.size, 4, none⟩ = some (.int .i64 q.pr.rh) := by rw [cell_of_row _ _ _ _ _ _ x0]; rfl
  have c5 : W0.cell? ⟨w.heap.size, 5, none⟩ = some (.slice aor q.pr.rs.length capr) := by rw [cell_of_row _ _ _ _ _ _ x0]; rfl
  have c6 : W0.cell? ⟨w.heap.size, 6, none⟩ = some (.int .i64 q.wide) := by rw [cell_of_row _ _ _ _ _ _ x0]; rfl
  have c7 : W0.cell? ⟨w.heap.size, 7, none⟩ = some (.slice aop q.prices.length capp) := by rw [cell_of_row _ _ _ _ _ _ x0]; rfl
  clear hb0 x0 xe
  go_wp2_with fail
  rw [← hW0]
  clear hW0 c0 c1 c2 c3 c4 c5 c6 c7
  refine (popen_any q (.slice aob q.pr.bs.length capb) (.slice aor q.pr.rs.length capr) (.slice aop q.prices.length capp) w.heap.size W0 HB0.out.size (H.out.p.b.later HB0.out.size (fun k h1 h2 => HB0.out.block k h1)) (H.out.p.r.later HB0.out.size (fun k h1 h2 => HB0.out.block k h1)) (H.out.n.later HB0.out.size (fun k h1 h2 => HB0.out.block k h1)) 51 #[] true eg (fun _ W pp mp _ _ => palways_any _ _)).mono ?_
  rintro e w5 hor
  have HXE5 : ∀ W, Below W0.heap.size W0 W → W.heap[w.heap.size + 1]? = some (.cells #[.int .i64 0] 33 (0, 0)) := fun W hb => (hb.block _ (by omega)).trans XE.out
  have HXE := Lib.hid HXE5
  clear HXE5
  rcases hor with ⟨hv, rfl, hb5⟩ | ⟨hv, ho, rfl, hb5⟩ | ⟨hv, ho, pp, mp, rfl, hP, hb5, hpp, hmp⟩
  · dsimp only
    refine leaf_stop 1 (w.heap.size + 1) 0 _ w5 (HXE.out w5 hb5) (fun W' hkE heE => ?_)
    have e9 : W'.cell? ⟨w.heap.size + 1, 0, none⟩ = some (.int .i64 1) := by rw [cell_of_row _ _ _ _ _ _ heE]; rfl
    refine ⟨_, by simp [results, Try.results23, go_sem, e9]; rfl, .slice none 0 0, by rw [order_err (errE_bad hv) (by decide)], ?_, ((HB0.out.trans (hb5.mono HB0.out.size))).trans (hkE.below ((HB0.out.trans (hb5.mono HB0.out.size))).size (fun k h e => by omega))⟩
    rw [order_err (errE_bad hv) (by decide)]
    exact ⟨none, 0, rfl, Nat.le_refl _, by unfold maxLen; omega, fun i hi => absurd hi (Nat.not_lt_zero _)⟩
  · cases ho
  have hq := OkQ.of hv
  have HQ := Lib.hid hq
  have HV := Lib.hid hv
  have HP := Lib.hid hP
  have HB5 := Lib.hid hb5
  have hz5 := hb5.size
  clear hq hv ho hP hb5
  dsimp only
  go_wp2_with fail
  refine (can_any HQ.out w5 HP.out).mono ?_
  rintro e w6 (⟨ht, rfl, hk⟩ | ⟨ht, hen, rfl, hk⟩ | ⟨ht, hen, rfl, L1, hP1, hk⟩)
  · dsimp only
    refine leaf_stop 10 (w.heap.size + 1) 0 _ w6 ((hk.block (w.heap.size + 1) (by omega) (by omega)).trans (HXE.out w5 HB5.out)) (fun W' hkE heE => ?_)
    have e9 : W'.cell? ⟨w.heap.size + 1, 0, none⟩ = some (.int .i64 10) := by rw [cell_of_row _ _ _ _ _ _ heE]; rfl
    refine ⟨_, by simp [results, Try.results23, go_sem, e9]; rfl, .slice none 0 0, by rw [order_err (errE_no HV.out ht) (by decide)], ?_, (((HB0.out.trans (HB5.out.mono HB0.out.size)).trans (hk.below (by omega) (fun k h e => by omega)))).trans (hkE.below (((HB0.out.trans (HB5.out.mono HB0.out.size)).trans (hk.below (by omega) (fun k h e => by omega)))).size (fun k h e => by omega))⟩
    rw [order_err (errE_no HV.out ht) (by decide)]
    exact ⟨none, 0, rfl, Nat.le_refl _, by unfold maxLen; omega, fun i hi => absurd hi (Nat.not_lt_zero _)⟩
  · dsimp only
    refine leaf_stop 4 (w.heap.size + 1) 0 _ w6 ((hk.block (w.heap.size + 1) (by omega) (by omega)).trans (HXE.out w5 HB5.out)) (fun W' hkE heE => ?_)
    have e9 : W'.cell? ⟨w.heap.size + 1, 0, none⟩ = some (.int .i64 4) := by rw [cell_of_row _ _ _ _ _ _ heE]; rfl
    refine ⟨_, by simp [results, Try.results23, go_sem, e9]; rfl, .slice none 0 0, by rw [order_err (errE_none HV.out ht hen) (by decide)], ?_, (((HB0.out.trans (HB5.out.mono HB0.out.size)).trans (hk.below (by omega) (fun k h e => by omega)))).trans (hkE.below (((HB0.out.trans (HB5.out.mono HB0.out.size)).trans (hk.below (by omega) (fun k h e => by omega)))).size (fun k h e => by omega))⟩
    rw [order_err (errE_none HV.out ht hen) (by decide)]
    exact ⟨none, 0, rfl, Nat.le_refl _, by unfold maxLen; omega, fun i hi => absurd hi (Nat.not_lt_zero _)⟩
  have HVAL := Lib.hid (order_ok (errE_ok HV.out ht hen))
  have HT := Lib.hid ht
  have HEN := Lib.hid hen
  have HP1 := Lib.hid hP1
  have HB6 := Lib.hid ((HB0.out.trans (HB5.out.mono HB0.out.size)).trans (hk.below (by omega) (fun k h e => by omega)))
  have HXE6 := Lib.hid ((hk.block (w.heap.size + 1) (by omega) (by omega)).trans (HXE.out w5 HB5.out))
  have hz6 := hk.size
  clear ht hen hP1 hk
  dsimp only
  go_wp2_with fail
  obtain ⟨Wa, hWa⟩ : ∃ x, x = ((w6.alloc (.cells #[.pointer (some ⟨pp, 0, none⟩)] 60)).alloc (.cells #[.slice none 0 0] 28)).alloc (.cells #[Value.nilFunc] 101) := ⟨_, rfl⟩
  have ya0 : Wa.heap[w6.heap.size]? = some (.cells #[.pointer (some ⟨pp, 0, none⟩)] 60 (0, 0)) := by rw [hWa]; exact (by repeat (first | (refine heap_alloc_at _ _ _ ?_; (simp <;> omega); done) | (refine (hget_old _ _ _ ?_).trans ?_; · (simp <;> omega))))
  have ya1 : Wa.heap[w6.heap.size + 1]? = some (.cells #[.slice none 0 0] 28 (0, 0)) := by rw [hWa]; exact (by repeat (first | (refine heap_alloc_at _ _ _ ?_; (simp <;> omega); done) | (refine (hget_old _ _ _ ?_).trans ?_; · (simp <;> omega))))
  have ya2 : Wa.heap[w6.heap.size + 1 + 1]? = some (.cells #[Value.nilFunc] 101 (0, 0)) := by rw [hWa]; exact (by repeat (first | (refine heap_alloc_at _ _ _ ?_; (simp <;> omega); done) | (refine (hget_old _ _ _ ?_).trans ?_; · (simp <;> omega))))
  have hba : Below w6.heap.size w6 Wa := by rw [hWa]; exact (((Below.refl _ _).alloc (Nat.le_refl _) _).alloc (by simp) _).alloc (by simp <;> omega) _
  have hza : Wa.heap.size = w6.heap.size + 3 := by rw [hWa]; simp
  have k1 : Wa.cell? ⟨w6.heap.size + 1 + 1, 0, none⟩ = some Value.nilFunc := by rw [cell_of_row _ _ _ _ _ _ ya2]; rfl
  have k2 : Wa.frozen? ⟨w6.heap.size + 1 + 1, 0, none⟩ = false := frozen_of_row _ _ 0 _ _ ya2
  rw [← hWa]
  clear hWa
  have hst : ∀ f a b, (store ⟨w6.heap.size + 1 + 1, 0, none⟩ (.func f a b)).run Try.prog Wa = .ok () (Wa.setCell ⟨w6.heap.size + 1 + 1, 0, none⟩ (.func f a b)) := fun f a b => (run_store Try.prog Wa _ _ _ rfl).trans (by simp [stored, k1, k2])
  rw [hst]
  clear hst
  obtain ⟨fv, hfv⟩ : ∃ x, x = Value.func (.func 63) #[] #[.pointer (some ⟨w6.heap.size, 0, none⟩), .pointer (some ⟨w6.heap.size + 1, 0, none⟩), .pointer (some ⟨w6.heap.size + 1 + 1, 0, none⟩)] := ⟨_, rfl⟩
  obtain ⟨W7, hW7⟩ : ∃ x, x = Wa.setCell ⟨w6.heap.size + 1 + 1, 0, none⟩ fv := ⟨_, rfl⟩
  have hz7 : W7.heap.size = w6.heap.size + 3 := by rw [hW7]; simp [World.setCell, hza]
  have hb7 : Below w6.heap.size w6 W7 := by rw [hW7]; exact hba.setCell (by simp; omega) _
  have y0 : W7.heap[w6.heap.size]? = some (.cells #[.pointer (some ⟨pp, 0, none⟩)] 60 (0, 0)) := by rw [hW7]; exact (Below.heap_setCell _ _ _ _ (by simp; omega)).trans ya0
  have y1 : W7.heap[w6.heap.size + 1]? = some (.cells #[.slice none 0 0] 28 (0, 0)) := by rw [hW7]; exact (Below.heap_setCell _ _ _ _ (by simp)).trans ya1
  have y2 : W7.heap[w6.heap.size + 1 + 1]? = some (.cells #[fv] 101 (0, 0)) := by
    rw [hW7]
    simp only [World.setCell, Array.getElem?_modify, ya2]
    simp
  rw [← hfv, ← hW7]
  have hml := lt_of_block HP1.out.map
  have hpl := lt_of_block HP1.out.obj
  have c2 : W7.cell? ⟨w6.heap.size + 1 + 1, 0, none⟩ = some fv := by rw [cell_of_row _ _ _ _ _ _ y2]; rfl
  rw [hfv] at y2
  have hon : OnS q w.heap.size pp mp w6.heap.size (.slice aob q.pr.bs.length capb) (.slice aor q.pr.rs.length capr) (.slice aop q.prices.length capp) (.slice none 0 0) [] W7 := ⟨⟨_, HP1.out.below hb7⟩, y0, y2, y1, World.ownsRow_nil _ _ _ _, hpl, hml⟩
  have HON := Lib.hid hon
  have HB7 := Lib.hid hb7
  rw [hfv] at c2 ⊢
  clear hW7 hfv k1 k2 ya0 ya1 ya2 hba hza y0 y1 y2 hb7 hon
  have h8 := HQ.out.m8
  have hpos := Nat.two_pow_pos q.prices.length
  have hl8 : (leftL q 0).length ≤ q.prices.length := by unfold leftL; exact Nat.le_trans (List.length_filter_le _ _) (by simp)
  have eg1 := enters_of Try.func63 (by kernel_rfl) rfl
  go_wp2_with fail
  refine (on_any HQ.out HT.out HEN.out q.prices.length 0 (.slice none 0 0) [] W7 hpos hl8 (by simpa using h8) HON.out).mono ?_
  rintro e W8 ⟨rfl, ⟨v8, hon8⟩, hk8⟩
  dsimp only
  have hob : (Value.slice none 0 0).ownBlock = none := rfl
  have hk8' : Keeps (fun k => k = mp ∨ k = w6.heap.size + 1) W7 W8 := hk8.mono (fun k _ h => by
    rcases h with h | h | h
    · exact .inl h
    · exact .inr h
    · rw [hob] at h; cases h)
  have c8 : W8.cell? ⟨w6.heap.size + 1, 0, none⟩ = some v8 := by rw [cell_of_row _ _ _ _ _ _ hon8.o]; rfl
  have hr8 := hon8.r
  rw [List.nil_append] at hr8
  have hnum := nums_of_own rfl hr8
  obtain ⟨av, nv, cv, rfl⟩ : ∃ a n c, v8 = .slice a n c := by
    rcases hr8.2 with ⟨h2, _⟩ | ⟨g, cap, cur, h2, _⟩ <;> exact ⟨_, _, _, h2⟩
  have xe8 := (hk8'.block (w.heap.size + 1) (by omega) (by omega)).trans ((HB7.out.block _ (by omega)).trans HXE6.out)
  have d8 : W8.cell? ⟨w.heap.size + 1, 0, none⟩ = some (.int .i64 0) := by rw [cell_of_row _ _ _ _ _ _ xe8]; rfl
  have f8 : W8.frozen? ⟨w.heap.size + 1, 0, none⟩ = false := frozen_of_row _ _ 0 _ _ xe8
  have HB8 := Lib.hid ((HB6.out.trans (HB7.out.mono HB6.out.size)).trans (hk8'.below (by omega) (fun k h e => by omega)))
  have XE8 := Lib.hid xe8
  have HNUM := Lib.hid hnum
  clear hk8 hk8' hon8 hr8 hnum xe8 hob c2
  go_wp2_with fail
  refine leaf_ret (w.heap.size + 1) _ _ ?_
  have x9 : (W8.setCell ⟨w.heap.size + 1, 0, none⟩ (.int .i64 0)).heap[w.heap.size + 1]? = some (.cells #[.int .i64 0] 33 (0, 0)) := by
    have := XE8.out
    simp [World.setCell, Array.getElem?_modify, this]
  have e9 : (W8.setCell ⟨w.heap.size + 1, 0, none⟩ (.int .i64 0)).cell? ⟨w.heap.size + 1, 0, none⟩ = some (.int .i64 0) := by rw [cell_of_row _ _ _ _ _ _ x9]; rfl
  refine ⟨_, by simp [results, Try.results23, go_sem, e9]; rfl, .slice av nv cv, by rw [HVAL.out], ?_, HB8.out.setCell (by simp; try omega) _⟩
  rw [HVAL.out]
  have h9 := HNUM.out.later (W := W8.setCell ⟨w.heap.size + 1, 0, none⟩ (.int .i64 0)) (by simp [World.setCell]) (fun k h1 h2 => Below.heap_setCell _ _ _ _ (by simp; omega))
  exact h9.mono (fun k h => by omega)
end Go.Proofs.Ytabbmihakoeegaa
