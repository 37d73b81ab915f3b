/- Texts U in one file; each begins with a word on what it proves. -/
import Derived.Test.YtlgeggekmdoceaaKb

/- Differ. -/
namespace Go.Proofs.Ytlgeggekmdoceaa
set_option linter.unusedVariables false
set_option linter.unusedSimpArgs false
open Go.RowKit Go.Shelf
attribute [local go_sem] Oper.semAt_some

theorem differ2_any (p : PairD) (x y : Int) (px py bp n cap : Nat) (ao : Option Addr) (rs mv : Value) (hn : n ≤ 1000) (w : World) (hpx : w.heap[px]? = some (.cells #[.int .i64 x] 3 (0, 0))) (hpy : w.heap[py]? = some (.cells #[.int .i64 y] 3 (0, 0))) (hbp : w.heap[bp]? = some (benchObj (.slice ao n cap) rs p.zl p.zh p.rl p.rh mv)) :
    Calls Try.prog 56 (#[.pointer (some ⟨bp, 0, none⟩)] ++ #[.pointer (some ⟨px, 0, none⟩), .pointer (some ⟨py, 0, none⟩)]) w fun e w' => e = .returned (.bool (inB x 0 ((n : Int) - 1) && inB y 0 ((n : Int) - 1))) ∧ w = w' := by
  have d0 : w.cell? ⟨px, 0, none⟩ = some (.int .i64 x) := by rw [cell_of_row w _ _ _ _ _ hpx]; rfl
  have d1 : w.cell? ⟨py, 0, none⟩ = some (.int .i64 y) := by rw [cell_of_row w _ _ _ _ _ hpy]; rfl
  cases hx : inB x 0 ((n : Int) - 1) with
  | false =>
    go_enter Try.func56, Try.ntmps56
    go_wp2_with (first | (go_at_call 49; refine (isBlock_any bp n cap ao rs mv _ _ _ _ x hn w hbp).mono ?_; rintro e w' ⟨rfl, rfl⟩; rw [hx]))
    go_ret
    exact ⟨rfl, rfl⟩
  | true =>
    go_enter Try.func56, Try.ntmps56
    go_wp2_with fail
    refine (isBlock_any bp n cap ao rs mv _ _ _ _ x hn w hbp).mono ?_
    rintro e w' ⟨rfl, rfl⟩
    rw [hx]
    go_wp2_with fail
    refine (isBlock_any bp n cap ao rs mv _ _ _ _ y hn w hbp).mono ?_
    rintro e w' ⟨rfl, rfl⟩
    go_wp2
    go_ret
    exact ⟨rfl, rfl⟩
theorem differp_results (t1 t2 : Array Value) (h4 : t1.getD 6 undef = t2.getD 6 undef) (h5 : t1.getD 7 undef = t2.getD 7 undef) : results Try.f17 t1 = results Try.f17 t2 := by
  have : Try.f17.results = #[.cell 6 24, .cell 7 30] := rfl
  unfold results
  rw [this]
  have h4' : t1[6]?.getD undef = t2[6]?.getD undef := by simpa [Array.getD_eq_getD_getElem?] using h4
  have h5' : t1[7]?.getD undef = t2[7]?.getD undef := by simpa [Array.getD_eq_getD_getElem?] using h5
  simp [h4', h5']
theorem differp_put {R : Ending → World → Prop} {c : List PanicEntry} {d : Nat} {v : Value} {a : Act} {w : World} (h4 : d ≠ 6) (h5 : d ≠ 7)
    (h : bodyPostD Try.prog Try.f17 R (.panic c) (a.put (some d) v) w) : bodyPostD Try.prog Try.f17 R (.panic c) a w := by
  refine Leaves.congr (fun w v hh => ?_) _ _ _ h
  rw [differp_results _ a.tmps] at hh
  · exact hh
  · simp [Act.put, Array.getD_eq_getD_getElem?, Array.getElem?_setIfInBounds, h4]
  · simp [Act.put, Array.getD_eq_getD_getElem?, Array.getElem?_setIfInBounds, h5]
theorem differp_run (tmps : Array Value) (S E : Nat) (lo hi n : Int) (W : World) (h4 : tmps.getD 6 undef = .pointer (some ⟨S, 0, none⟩)) (h5 : tmps.getD 7 undef = .pointer (some ⟨E, 0, none⟩))
    (hs : W.heap[S]? = some (.cells #[.int .i64 lo, .int .i64 hi] 24 (0, 0))) (he : W.heap[E]? = some (.cells #[.int .i64 n] 30 (0, 0))) :
    (results Try.f17 tmps).run Try.prog W = .ok (.tuple #[spanV (lo, hi), .int .i64 n]) W := by
  have e0 : W.cell? ⟨S, 0, none⟩ = some (.int .i64 lo) := by rw [cell_of_row W _ _ _ _ _ hs]; rfl
  have e1 : W.cell? ⟨S, 1, none⟩ = some (.int .i64 hi) := by rw [cell_of_row W _ _ _ _ _ hs]; rfl
  have e2 : W.cell? ⟨E, 0, none⟩ = some (.int .i64 n) := by rw [cell_of_row W _ _ _ _ _ he]; rfl
  rw [differp_results tmps #[undef, undef, undef, undef, undef, undef, .pointer (some ⟨S, 0, none⟩), .pointer (some ⟨E, 0, none⟩)] h4 h5]
  simp [results, Try.results17, go_sem, spanV, e0, e1, e2]
theorem differp_leaf (n : Int) (R : Ending → World → Prop) (S E : Nat) (tmps : Array Value) (w5 : World) (h4 : tmps.getD 6 undef = .pointer (some ⟨S, 0, none⟩)) (h5 : tmps.getD 7 undef = .pointer (some ⟨E, 0, none⟩)) (hSE : S ≠ E)
    (hs : w5.heap[S]? = some (.cells #[.int .i64 0, .int .i64 0] 24 (0, 0))) (he : w5.heap[E]? = some (.cells #[.int .i64 0] 30 (0, 0)))
    (hR : ∀ W', Keeps (fun k => k = E) w5 W' → R (.returned (.tuple #[spanV (0, 0), .int .i64 n])) W') :
    Leaves Try.prog Try.f17 tmps R [{ target := .fn (.func 55) #[.pointer (some ⟨E, 0, none⟩)], args := #[] }] (.panicking [{ v := stopV n, recovered := false }]) w5 := by
  refine leaves_cons (f := 55) (args := #[.pointer (some ⟨E, 0, none⟩)]) (by simp) (by simp [go_sem, invoke]) ?_
  refine (catch_stop_differ n E 0 w5 he).mono ?_
  rintro e u' w' ⟨rfl, rfl, hk, he'⟩
  exact ⟨_, differp_run tmps S E 0 0 n w' h4 h5 ((hk.block _ (lt_of_block hs) (by omega)).trans hs) he', hR _ hk⟩
theorem differp_leaf_ret (R : Ending → World → Prop) (S E : Nat) (lo hi : Int) (tmps : Array Value) (w5 : World) (h4 : tmps.getD 6 undef = .pointer (some ⟨S, 0, none⟩)) (h5 : tmps.getD 7 undef = .pointer (some ⟨E, 0, none⟩))
    (hs : w5.heap[S]? = some (.cells #[.int .i64 lo, .int .i64 hi] 24 (0, 0))) (he : w5.heap[E]? = some (.cells #[.int .i64 0] 30 (0, 0)))
    (hR : R (.returned (.tuple #[spanV (lo, hi), .int .i64 0])) w5) :
    Leaves Try.prog Try.f17 tmps R [{ target := .fn (.func 55) #[.pointer (some ⟨E, 0, none⟩)], args := #[] }] .returning w5 := by
  refine leaves_cons (f := 55) (args := #[.pointer (some ⟨E, 0, none⟩)]) (by simp) (by simp [go_sem, invoke]) ?_
  refine (catch_idle_differ E w5).mono ?_
  rintro e u' w' ⟨rfl, rfl, rfl⟩
  exact ⟨_, differp_run tmps S E lo hi 0 w' h4 h5 hs he, hR⟩

set_option maxRecDepth 100000 in
set_option maxHeartbeats 8000000 in
theorem differp_any (p : PairD) (bs rs : Value) (x y : Int) (Rd : Nat → Prop) (w : World) (hRd : ∀ k, Rd k → k < w.heap.size) (hbs : SpansAt w bs p.bs Rd) (hrs : ReadsAt w rs p.rs Rd) :
    Calls Try.prog 17 #[.agg (pairRow p bs rs), .int .i64 x, .int .i64 y] w fun e w' => ∃ s er, e = .returned (.tuple #[spanV s, .int .i64 er]) ∧ ToldRes p (inB x 0 ((p.bs.length : Int) - 1) && inB y 0 ((p.bs.length : Int) - 1)) (difOf x.toNat y.toNat) s er ∧ Below w.heap.size w w' := by
  have hmf : ∀ fn first cap w, (Instr.makeFunc fn first cap).run Try.prog w = .ok (.func fn first cap) w := fun _ _ _ _ => rfl
  obtain ⟨W0, hW0⟩ : ∃ W0, W0 = ((((w.alloc (.cells (pairRow p bs rs) 27 (0, 0))).alloc (.cells #[.int .i64 x] 3 (0, 0))).alloc (.cells #[.int .i64 y] 3 (0, 0))).alloc (.cells #[.int .i64 0, .int .i64 0] 24 (0, 0))).alloc (.cells #[.int .i64 0] 30 (0, 0)) := ⟨_, rfl⟩
  have w0 : W0.heap[w.heap.size]? = some (.cells (pairRow p bs rs) 27 (0, 0)) := by rw [hW0]; exact (by repeat (first | (refine heap_alloc_at _ _ _ ?_; (simp <;> omega); done) | (refine (hget_old _ _ _ ?_).trans ?_; · (simp <;> omega))))
  have w1 : W0.heap[w.heap.size + 1]? = some (.cells #[.int .i64 x] 3 (0, 0)) := by rw [hW0]; exact (by repeat (first | (refine heap_alloc_at _ _ _ ?_; (simp <;> omega); done) | (refine (hget_old _ _ _ ?_).trans ?_; · (simp <;> omega))))
  have wy : W0.heap[w.heap.size + 1 + 1]? = some (.cells #[.int .i64 y] 3 (0, 0)) := by rw [hW0]; exact (by repeat (first | (refine heap_alloc_at _ _ _ ?_; (simp <;> omega); done) | (refine (hget_old _ _ _ ?_).trans ?_; · (simp <;> omega))))
  have w2 : W0.heap[w.heap.size + 1 + 1 + 1]? = some (.cells #[.int .i64 0, .int .i64 0] 24 (0, 0)) := by rw [hW0]; exact (by repeat (first | (refine heap_alloc_at _ _ _ ?_; (simp <;> omega); done) | (refine (hget_old _ _ _ ?_).trans ?_; · (simp <;> omega))))
  have w3 : W0.heap[w.heap.size + 1 + 1 + 1 + 1]? = some (.cells #[.int .i64 0] 30 (0, 0)) := by rw [hW0]; exact (by repeat (first | (refine heap_alloc_at _ _ _ ?_; (simp <;> omega); done) | (refine (hget_old _ _ _ ?_).trans ?_; · (simp <;> omega))))
  have hbW : Below w.heap.size w W0 := by rw [hW0]; exact (((((Below.refl _ _).alloc (Nat.le_refl _) _).alloc (by simp) _).alloc (by simp <;> omega) _).alloc (by simp <;> omega) _).alloc (by simp <;> omega) _
  have hsW : W0.heap.size = w.heap.size + 5 := by rw [hW0]; simp
  have hbsW : SpansAt W0 bs p.bs Rd := hbs.later (by omega) (fun k hk _ => hbW.block k hk)
  have hrsW : ReadsAt W0 rs p.rs Rd := hrs.later (by omega) (fun k hk _ => hbW.block k hk)
  have hf : validB p = true → ∀ W bp, Below W0.heap.size W0 W → W.heap[bp]? = some (benchObj bs rs p.zl p.zh p.rl p.rh (.map none)) → Calls Try.prog 56 (#[.pointer (some ⟨bp, 0, none⟩)] ++ #[.pointer (some ⟨w.heap.size + 1, 0, none⟩), .pointer (some ⟨w.heap.size + 1 + 1, 0, none⟩)]) W fun e W' => e = .returned (.bool (inB x 0 ((p.bs.length : Int) - 1) && inB y 0 ((p.bs.length : Int) - 1))) ∧ W = W' := fun hv W bp hb hbp => by
    obtain ⟨ao, cap, hbse, hc1, hc2, _⟩ := hbs
    rw [hbse] at hbp
    have := (OkP.of p hv).n5
    exact differ2_any p x y (w.heap.size + 1) (w.heap.size + 1 + 1) bp p.bs.length cap ao rs _ (by omega) W ((hb.block _ (by omega)).trans w1) ((hb.block _ (by omega)).trans wy) hbp
  have hfd : validB p = true → ∀ W bp, Below W0.drew.heap.size W0.drew W → W.heap[bp]? = some (benchObj bs rs p.zl p.zh p.rl p.rh (.map none)) → Calls Try.prog 56 (#[.pointer (some ⟨bp, 0, none⟩)] ++ #[.pointer (some ⟨w.heap.size + 1, 0, none⟩), .pointer (some ⟨w.heap.size + 1 + 1, 0, none⟩)]) W fun e W' => e = .returned (.bool (inB x 0 ((p.bs.length : Int) - 1) && inB y 0 ((p.bs.length : Int) - 1))) ∧ W = W' :=
    fun hv W bp hb hbp => hf hv W bp ((Below.refl _ _).drew.trans hb) hbp
  have HF := Lib.hid hfd
  clear hfd
  have HBS := Lib.hid hbsW
  have HRS := Lib.hid hrsW
  have HB := Lib.hid hbW
  clear hf hbsW hrsW hbW hbs hrs
  have c0 : W0.cell? ⟨w.heap.size, 0, none⟩ = some bs := by rw [cell_of_row W0 _ _ _ _ _ w0]; rfl
  have c1 : W0.cell? ⟨w.heap.size, 1, none⟩ = some (.int .i64 p.zl) := by rw [cell_of_row W0 _ _ _ _ _ w0]; rfl
  have c2 : W0.cell? ⟨w.heap.size, 2, none⟩ = some (.int .i64 p.zh) := by rw [cell_of_row W0 _ _ _ _ _ w0]; rfl
  have c3 : W0.cell? ⟨w.heap.size, 3, none⟩ = some (.int .i64 p.rl) := by rw [cell_of_row W0 _ _ _ _ _ w0]; rfl
  have c4 : W0.cell? ⟨w.heap.size, 4, none⟩ = some (.int .i64 p.rh) := by rw [cell_of_row W0 _ _ _ _ _ w0]; rfl
  have c5 : W0.cell? ⟨w.heap.size, 5, none⟩ = some rs := by rw [cell_of_row W0 _ _ _ _ _ w0]; rfl
  have c6 : W0.cell? ⟨w.heap.size + 1, 0, none⟩ = some (.int .i64 x) := by rw [cell_of_row W0 _ _ _ _ _ w1]; rfl
  have c7 : W0.cell? ⟨w.heap.size + 1 + 1, 0, none⟩ = some (.int .i64 y) := by rw [cell_of_row W0 _ _ _ _ _ wy]; rfl
  have eg := enters_of Try.func56 (by kernel_rfl) rfl
  have h2 := Lib.hid w2
  have h3 := Lib.hid w3
  clear w2 w3
  cases hv : validB p with
  | false =>
    unfold pairRow at hW0 ⊢
    go_enter_defers Try.func17, Try.ntmps17
    go_wp2_with fail
    rename_i hK
    rw [← hW0]
    clear hW0
    refine wp_region_held_drew (S := fun w' => w'.heap[w.heap.size]? = some (.cells (pairRow p bs rs) 27 (0, 0)) ∧ w'.heap[w.heap.size + 1]? = some (.cells #[.int .i64 x] 3 (0, 0)) ∧ w'.heap[w.heap.size + 1 + 1]? = some (.cells #[.int .i64 y] 3 (0, 0))) (by kernel_rfl) ⟨w0, w1, wy⟩ fun hS0 => ?_
    refine wpAnyH_take (i := 0) (v := .agg (pairRow p bs rs)) rfl (by kernel_rfl) (by kernel_rfl) (by kernel_rfl) (fun c a w h => differp_put (by decide) (by decide) h) (yields_value rfl fun W hS => run_load_row 27 _ rfl w.heap.size rfl 27 (pairRow p bs rs) (0, 0) _ hS.1 underPair rfl rfl) hS0 ?_
    refine wpAnyH_take (i := 1) (v := .func (.func 56) #[] #[.pointer (some ⟨w.heap.size + 1, 0, none⟩), .pointer (some ⟨w.heap.size + 1 + 1, 0, none⟩)]) rfl (by kernel_rfl) (by kernel_rfl) (by kernel_rfl) (fun c a w h => differp_put (by decide) (by decide) h) (yields_value rfl fun W hS => by simp [execOp, hmf, go_sem, Act.eval, Act.put]) hS0 ?_
    refine wpAnyH_take (i := 4) (v := .int .i64 x) rfl (by kernel_rfl) (by kernel_rfl) (by kernel_rfl) (fun c a w h => differp_put (by decide) (by decide) h) (yields_value rfl fun W hS => by simp [execOp, go_sem, Act.eval, Act.put, cell_of_row W _ _ _ _ _ hS.2.1]) hS0 ?_
    refine wpAnyH_take (i := 5) (v := .int .i64 y) rfl (by kernel_rfl) (by kernel_rfl) (by kernel_rfl) (fun c a w h => differp_put (by decide) (by decide) h) (yields_value rfl fun W hS => by simp [execOp, go_sem, Act.eval, Act.put, cell_of_row W _ _ _ _ _ hS.2.2]) hS0 ?_
    refine wpAnyH_call (k := 2) (by kernel_rfl) rfl rfl (f := 47) (args := #[.agg (pairRow p bs rs), .func (.func 56) #[] #[.pointer (some ⟨w.heap.size + 1, 0, none⟩), .pointer (some ⟨w.heap.size + 1 + 1, 0, none⟩)]]) (by simp [execOp, go_sem, Act.eval, Act.put]) ?_
    refine (open_bad p bs rs Rd W0.drew (by exact HBS.out) (by exact HRS.out) 56 #[.pointer (some ⟨w.heap.size + 1, 0, none⟩), .pointer (some ⟨w.heap.size + 1 + 1, 0, none⟩)] _ eg (by exact HF.out) hv).mono ?_
    rintro e w5 ⟨rfl, hb5⟩
    refine differp_leaf 1 _ (w.heap.size + 1 + 1 + 1) (w.heap.size + 1 + 1 + 1 + 1) _ w5 rfl rfl (by omega) ((hb5.block _ (by simp; omega)).trans h2.out) ((hb5.block _ (by simp; omega)).trans h3.out) (fun W' hk => ⟨_, _, rfl, .inl ⟨hv, rfl, rfl⟩, ?_⟩)
    exact HB.out.trans ((((Below.refl _ _).drew.trans hb5).mono (by show w.heap.size ≤ W0.heap.size; omega)).trans (hk.below (by have := hb5.size; simp at this; omega) (fun k h => by omega)))
  | true =>
    cases hin : (inB x 0 ((p.bs.length : Int) - 1) && inB y 0 ((p.bs.length : Int) - 1)) with
    | false =>
      unfold pairRow at hW0 ⊢
      go_enter_defers Try.func17, Try.ntmps17
      go_wp2_with fail
      rename_i hK
      rw [← hW0]
      clear hW0
      refine wp_region_held_drew (S := fun w' => w'.heap[w.heap.size]? = some (.cells (pairRow p bs rs) 27 (0, 0)) ∧ w'.heap[w.heap.size + 1]? = some (.cells #[.int .i64 x] 3 (0, 0)) ∧ w'.heap[w.heap.size + 1 + 1]? = some (.cells #[.int .i64 y] 3 (0, 0))) (by kernel_rfl) ⟨w0, w1, wy⟩ fun hS0 => ?_
      refine wpAnyH_take (i := 0) (v := .agg (pairRow p bs rs)) rfl (by kernel_rfl) (by kernel_rfl) (by kernel_rfl) (fun c a w h => differp_put (by decide) (by decide) h) (yields_value rfl fun W hS => run_load_row 27 _ rfl w.heap.size rfl 27 (pairRow p bs rs) (0, 0) _ hS.1 underPair rfl rfl) hS0 ?_
      refine wpAnyH_take (i := 1) (v := .func (.func 56) #[] #[.pointer (some ⟨w.heap.size + 1, 0, none⟩), .pointer (some ⟨w.heap.size + 1 + 1, 0, none⟩)]) rfl (by kernel_rfl) (by kernel_rfl) (by kernel_rfl) (fun c a w h => differp_put (by decide) (by decide) h) (yields_value rfl fun W hS => by simp [execOp, hmf, go_sem, Act.eval, Act.put]) hS0 ?_
      refine wpAnyH_take (i := 4) (v := .int .i64 x) rfl (by kernel_rfl) (by kernel_rfl) (by kernel_rfl) (fun c a w h => differp_put (by decide) (by decide) h) (yields_value rfl fun W hS => by simp [execOp, go_sem, Act.eval, Act.put, cell_of_row W _ _ _ _ _ hS.2.1]) hS0 ?_
      refine wpAnyH_take (i := 5) (v := .int .i64 y) rfl (by kernel_rfl) (by kernel_rfl) (by kernel_rfl) (fun c a w h => differp_put (by decide) (by decide) h) (yields_value rfl fun W hS => by simp [execOp, go_sem, Act.eval, Act.put, cell_of_row W _ _ _ _ _ hS.2.2]) hS0 ?_
      refine wpAnyH_call (k := 2) (by kernel_rfl) rfl rfl (f := 47) (args := #[.agg (pairRow p bs rs), .func (.func 56) #[] #[.pointer (some ⟨w.heap.size + 1, 0, none⟩), .pointer (some ⟨w.heap.size + 1 + 1, 0, none⟩)]]) (by simp [execOp, go_sem, Act.eval, Act.put]) ?_
      refine (open_no p bs rs Rd W0.drew (by exact HBS.out) (by exact HRS.out) 56 #[.pointer (some ⟨w.heap.size + 1, 0, none⟩), .pointer (some ⟨w.heap.size + 1 + 1, 0, none⟩)] _ eg (by exact HF.out) hv hin).mono ?_
      rintro e w5 ⟨rfl, hb5⟩
      refine differp_leaf 2 _ (w.heap.size + 1 + 1 + 1) (w.heap.size + 1 + 1 + 1 + 1) _ w5 rfl rfl (by omega) ((hb5.block _ (by simp; omega)).trans h2.out) ((hb5.block _ (by simp; omega)).trans h3.out) (fun W' hk => ⟨_, _, rfl, .inr (.inl ⟨hv, rfl, rfl, rfl⟩), ?_⟩)
      exact HB.out.trans ((((Below.refl _ _).drew.trans hb5).mono (by show w.heap.size ≤ W0.heap.size; omega)).trans (hk.below (by have := hb5.size; simp at this; omega) (fun k h => by omega)))
    | true =>
      have hp := OkP.of p hv
      have hxn : ((x.toNat : Nat) : Int) = x := by simp [inB] at hin; omega
      have hyn : ((y.toNat : Nat) : Int) = y := by simp [inB] at hin; omega
      have hx6 : x.toNat < 6 := by have := hp.n5; simp [inB] at hin; omega
      have hy6 : y.toNat < 6 := by have := hp.n5; simp [inB] at hin; omega
      by_cases hne : pairOuts p (allR p) = []
      · skip
        unfold pairRow at hW0 ⊢
        go_enter_defers Try.func17, Try.ntmps17
        go_wp2_with fail
        rename_i hK
        rw [← hW0]
        clear hW0
        refine wp_region_held_drew (S := fun w' => w'.heap[w.heap.size]? = some (.cells (pairRow p bs rs) 27 (0, 0)) ∧ w'.heap[w.heap.size + 1]? = some (.cells #[.int .i64 x] 3 (0, 0)) ∧ w'.heap[w.heap.size + 1 + 1]? = some (.cells #[.int .i64 y] 3 (0, 0))) (by kernel_rfl) ⟨w0, w1, wy⟩ fun hS0 => ?_
        refine wpAnyH_take (i := 0) (v := .agg (pairRow p bs rs)) rfl (by kernel_rfl) (by kernel_rfl) (by kernel_rfl) (fun c a w h => differp_put (by decide) (by decide) h) (yields_value rfl fun W hS => run_load_row 27 _ rfl w.heap.size rfl 27 (pairRow p bs rs) (0, 0) _ hS.1 underPair rfl rfl) hS0 ?_
        refine wpAnyH_take (i := 1) (v := .func (.func 56) #[] #[.pointer (some ⟨w.heap.size + 1, 0, none⟩), .pointer (some ⟨w.heap.size + 1 + 1, 0, none⟩)]) rfl (by kernel_rfl) (by kernel_rfl) (by kernel_rfl) (fun c a w h => differp_put (by decide) (by decide) h) (yields_value rfl fun W hS => by simp [execOp, hmf, go_sem, Act.eval, Act.put]) hS0 ?_
        refine wpAnyH_take (i := 4) (v := .int .i64 x) rfl (by kernel_rfl) (by kernel_rfl) (by kernel_rfl) (fun c a w h => differp_put (by decide) (by decide) h) (yields_value rfl fun W hS => by simp [execOp, go_sem, Act.eval, Act.put, cell_of_row W _ _ _ _ _ hS.2.1]) hS0 ?_
        refine wpAnyH_take (i := 5) (v := .int .i64 y) rfl (by kernel_rfl) (by kernel_rfl) (by kernel_rfl) (fun c a w h => differp_put (by decide) (by decide) h) (yields_value rfl fun W hS => by simp [execOp, go_sem, Act.eval, Act.put, cell_of_row W _ _ _ _ _ hS.2.2]) hS0 ?_
        refine wpAnyH_call (k := 2) (by kernel_rfl) rfl rfl (f := 47) (args := #[.agg (pairRow p bs rs), .func (.func 56) #[] #[.pointer (some ⟨w.heap.size + 1, 0, none⟩), .pointer (some ⟨w.heap.size + 1 + 1, 0, none⟩)]]) (by simp [execOp, go_sem, Act.eval, Act.put]) ?_
        refine (open_yes p bs rs Rd W0.drew (by exact HBS.out) (by exact HRS.out) 56 #[.pointer (some ⟨w.heap.size + 1, 0, none⟩), .pointer (some ⟨w.heap.size + 1 + 1, 0, none⟩)] _ eg (by exact HF.out) hv hin).mono ?_
        rintro e w5 ⟨bp, rfl, hle, hbp, hb5⟩
        have hle5 : W0.heap.size ≤ w5.heap.size := hb5.size
        have hleb : W0.heap.size ≤ bp := hle
        have hltb := lt_of_block hbp
        have HB5 := Lib.hid (HB.out.trans (((Below.refl _ _).drew.trans hb5).mono (by show w.heap.size ≤ W0.heap.size; omega)))
        have hbs5 : SpansAt w5 bs p.bs Rd := HBS.out.later hle5 (fun k hk _ => hb5.block k hk)
        have hrs5 : ReadsAt w5 rs p.rs Rd := HRS.out.later hle5 (fun k hk _ => hb5.block k hk)
        refine ⟨⟨(hb5.block _ (by simp; omega)).trans hS0.1, (hb5.block _ (by simp; omega)).trans hS0.2.1, (hb5.block _ (by simp; omega)).trans hS0.2.2⟩, ?_⟩
        refine wpAnyH_call (k := 3) (by kernel_rfl) rfl rfl (f := 50) (args := #[.pointer (some ⟨bp, 0, none⟩)]) (by simp [execOp, go_sem, Act.eval, Act.put]) ?_
        refine (told_no p hp bp bs rs w5 hbp Rd (fun k hk => by have := hRd k hk; omega) hbs5 hrs5 hne).mono ?_
        rintro e w6 ⟨rfl, hb6⟩
        refine differp_leaf 10 _ (w.heap.size + 1 + 1 + 1) (w.heap.size + 1 + 1 + 1 + 1) _ w6 rfl rfl (by omega) ((hb6.block _ (by omega) (by omega)).trans ((hb5.block _ (by simp; omega)).trans h2.out)) ((hb6.block _ (by omega) (by omega)).trans ((hb5.block _ (by simp; omega)).trans h3.out)) (fun W' hk => ⟨_, _, rfl, .inr (.inr (.inl ⟨hv, rfl, hne, rfl, rfl⟩)), ?_⟩)
        exact HB5.out.trans ((hb6.below (by omega) (fun k h => by omega)).trans (hk.below (by have := hb6.size; omega) (fun k h => by omega)))
      · skip
        unfold pairRow at hW0 ⊢
        go_enter_defers Try.func17, Try.ntmps17
        go_wp2_with fail
        rename_i hK
        rw [← hW0]
        clear hW0
        refine wp_region_held_drew (S := fun w' => w'.heap[w.heap.size]? = some (.cells (pairRow p bs rs) 27 (0, 0)) ∧ w'.heap[w.heap.size + 1]? = some (.cells #[.int .i64 x] 3 (0, 0)) ∧ w'.heap[w.heap.size + 1 + 1]? = some (.cells #[.int .i64 y] 3 (0, 0))) (by kernel_rfl) ⟨w0, w1, wy⟩ fun hS0 => ?_
        refine wpAnyH_take (i := 0) (v := .agg (pairRow p bs rs)) rfl (by kernel_rfl) (by kernel_rfl) (by kernel_rfl) (fun c a w h => differp_put (by decide) (by decide) h) (yields_value rfl fun W hS => run_load_row 27 _ rfl w.heap.size rfl 27 (pairRow p bs rs) (0, 0) _ hS.1 underPair rfl rfl) hS0 ?_
        refine wpAnyH_take (i := 1) (v := .func (.func 56) #[] #[.pointer (some ⟨w.heap.size + 1, 0, none⟩), .pointer (some ⟨w.heap.size + 1 + 1, 0, none⟩)]) rfl (by kernel_rfl) (by kernel_rfl) (by kernel_rfl) (fun c a w h => differp_put (by decide) (by decide) h) (yields_value rfl fun W hS => by simp [execOp, hmf, go_sem, Act.eval, Act.put]) hS0 ?_
        refine wpAnyH_take (i := 4) (v := .int .i64 x) rfl (by kernel_rfl) (by kernel_rfl) (by kernel_rfl) (fun c a w h => differp_put (by decide) (by decide) h) (yields_value rfl fun W hS => by simp [execOp, go_sem, Act.eval, Act.put, cell_of_row W _ _ _ _ _ hS.2.1]) hS0 ?_
        refine wpAnyH_take (i := 5) (v := .int .i64 y) rfl (by kernel_rfl) (by kernel_rfl) (by kernel_rfl) (fun c a w h => differp_put (by decide) (by decide) h) (yields_value rfl fun W hS => by simp [execOp, go_sem, Act.eval, Act.put, cell_of_row W _ _ _ _ _ hS.2.2]) hS0 ?_
        refine wpAnyH_call (k := 2) (by kernel_rfl) rfl rfl (f := 47) (args := #[.agg (pairRow p bs rs), .func (.func 56) #[] #[.pointer (some ⟨w.heap.size + 1, 0, none⟩), .pointer (some ⟨w.heap.size + 1 + 1, 0, none⟩)]]) (by simp [execOp, go_sem, Act.eval, Act.put]) ?_
        refine (open_yes p bs rs Rd W0.drew (by exact HBS.out) (by exact HRS.out) 56 #[.pointer (some ⟨w.heap.size + 1, 0, none⟩), .pointer (some ⟨w.heap.size + 1 + 1, 0, none⟩)] _ eg (by exact HF.out) hv hin).mono ?_
        rintro e w5 ⟨bp, rfl, hle, hbp, hb5⟩
        have hle5 : W0.heap.size ≤ w5.heap.size := hb5.size
        have hleb : W0.heap.size ≤ bp := hle
        have hltb := lt_of_block hbp
        have HB5 := Lib.hid (HB.out.trans (((Below.refl _ _).drew.trans hb5).mono (by show w.heap.size ≤ W0.heap.size; omega)))
        have hbs5 : SpansAt w5 bs p.bs Rd := HBS.out.later hle5 (fun k hk _ => hb5.block k hk)
        have hrs5 : ReadsAt w5 rs p.rs Rd := HRS.out.later hle5 (fun k hk _ => hb5.block k hk)
        refine ⟨⟨(hb5.block _ (by simp; omega)).trans hS0.1, (hb5.block _ (by simp; omega)).trans hS0.2.1, (hb5.block _ (by simp; omega)).trans hS0.2.2⟩, ?_⟩
        refine wpAnyH_call (k := 3) (by kernel_rfl) rfl rfl (f := 50) (args := #[.pointer (some ⟨bp, 0, none⟩)]) (by simp [execOp, go_sem, Act.eval, Act.put]) ?_
        refine (told_yes p hp bp bs rs w5 hbp Rd (fun k hk => by have := hRd k hk; omega) hbs5 hrs5 hne).mono ?_
        rintro e w6 ⟨rfl, ⟨mb, ht⟩, hb6⟩
        have hs6 := hb6.size
        have f0 := (hb6.block w.heap.size (by omega) (by omega)).trans ((hb5.block _ (by simp; omega)).trans hS0.1)
        have f1 := (hb6.block (w.heap.size + 1) (by omega) (by omega)).trans ((hb5.block _ (by simp; omega)).trans hS0.2.1)
        have fy := (hb6.block (w.heap.size + 1 + 1) (by omega) (by omega)).trans ((hb5.block _ (by simp; omega)).trans hS0.2.2)
        have f2 := (hb6.block (w.heap.size + 1 + 1 + 1) (by omega) (by omega)).trans ((hb5.block _ (by simp; omega)).trans h2.out)
        have f3 := (hb6.block (w.heap.size + 1 + 1 + 1 + 1) (by omega) (by omega)).trans ((hb5.block _ (by simp; omega)).trans h3.out)
        refine ⟨⟨f0, f1, fy⟩, ?_⟩
        refine wpAnyH_call (k := 6) (by kernel_rfl) rfl rfl (f := 51) (args := #[.pointer (some ⟨bp, 0, none⟩), .int .i64 x, .int .i64 y]) (by simp [execOp, go_sem, Act.eval, Act.put]) ?_
        have hd := differ_any p hp hne bp mb bs rs x.toNat y.toNat (by omega) (by omega) w6 ht
        rw [hxn, hyn] at hd
        refine hd.mono ?_
        rintro e w7 ⟨⟨⟨lo, hi⟩, hh, rfl⟩, hb7⟩
        have hs7 := hb7.size
        have g0 := (hb7.block _ (by omega)).trans f0
        have g1 := (hb7.block _ (by omega)).trans f1
        have gy := (hb7.block _ (by omega)).trans fy
        have g2 := (hb7.block _ (by omega)).trans f2
        have g3 := (hb7.block _ (by omega)).trans f3
        refine ⟨⟨g0, g1, gy⟩, ?_⟩
        refine wpAnyH_skip (k := 7) (by kernel_rfl) rfl rfl (run_store_row 24 _ _ rfl (w.heap.size + 1 + 1 + 1) #[.int .i64 lo, .int .i64 hi] rfl rfl 24 _ g2 rfl rfl (by simp [Value.oneCell'])) ⟨(setRow_other _ _ _ _ (by omega)).trans g0, (setRow_other _ _ _ _ (by omega)).trans g1, (setRow_other _ _ _ _ (by omega)).trans gy⟩ ?_
        obtain ⟨W8, hW8⟩ : ∃ W8, W8 = w7.setRow (w.heap.size + 1 + 1 + 1) #[.int .i64 lo, .int .i64 hi] := ⟨_, rfl⟩
        have k0 : W8.heap[w.heap.size]? = some (.cells (pairRow p bs rs) 27 (0, 0)) := by rw [hW8]; exact (setRow_other _ _ _ _ (by omega)).trans g0
        have k1 : W8.heap[w.heap.size + 1]? = some (.cells #[.int .i64 x] 3 (0, 0)) := by rw [hW8]; exact (setRow_other _ _ _ _ (by omega)).trans g1
        have ky : W8.heap[w.heap.size + 1 + 1]? = some (.cells #[.int .i64 y] 3 (0, 0)) := by rw [hW8]; exact (setRow_other _ _ _ _ (by omega)).trans gy
        have k3 : W8.heap[w.heap.size + 1 + 1 + 1 + 1]? = some (.cells #[.int .i64 0] 30 (0, 0)) := by rw [hW8]; exact (setRow_other _ _ _ _ (by omega)).trans g3
        have k2 : W8.heap[w.heap.size + 1 + 1 + 1]? = some (.cells #[.int .i64 lo, .int .i64 hi] 24 (0, 0)) := by rw [hW8]; exact setRow_heap _ _ _ _ _ _ g2
        have hb8 : Below w.heap.size w W8 := by rw [hW8]; exact below_setRow (HB5.out.trans ((hb6.below (by omega) (fun k h => by omega)).trans (hb7.mono (by omega)))) (by omega) _
        rw [← hW8]
        refine wpAnyH_skip (k := 8) (w' := W8.setCell ⟨w.heap.size + 1 + 1 + 1 + 1, 0, none⟩ (.int .i64 0)) (by kernel_rfl) rfl rfl ?_ ⟨(Below.heap_setCell _ _ _ _ (by simp; omega)).trans k0, (Below.heap_setCell _ _ _ _ (by simp)).trans k1, (Below.heap_setCell _ _ _ _ (by simp)).trans ky⟩ ?_
        · have d0 : W8.cell? ⟨w.heap.size + 1 + 1 + 1 + 1, 0, none⟩ = some (.int .i64 0) := by rw [cell_of_row W8 _ _ _ _ _ k3]; rfl
          have d1 : W8.frozen? ⟨w.heap.size + 1 + 1 + 1 + 1, 0, none⟩ = false := frozen_of_row W8 _ _ _ _ k3
          simp [execOp, go_sem, Act.eval, Act.put, d0, d1]
        obtain ⟨W9, hW9⟩ : ∃ W9, W9 = W8.setCell ⟨w.heap.size + 1 + 1 + 1 + 1, 0, none⟩ (.int .i64 0) := ⟨_, rfl⟩
        have l2 : W9.heap[w.heap.size + 1 + 1 + 1]? = some (.cells #[.int .i64 lo, .int .i64 hi] 24 (0, 0)) := by rw [hW9]; exact (Below.heap_setCell _ _ _ _ (by simp)).trans k2
        have l3 : W9.heap[w.heap.size + 1 + 1 + 1 + 1]? = some (.cells #[.int .i64 0] 30 (0, 0)) := by rw [hW9]; simp [World.setCell, Array.getElem?_modify, k3]
        have hb9 : Below w.heap.size w W9 := by rw [hW9]; exact hb8.setCell (by simp; omega) _
        rw [← hW9]
        refine wpAnyH_done (by kernel_rfl) ?_ _
        refine hK _ _ ?_
        go_wp2
        exact differp_leaf_ret _ (w.heap.size + 1 + 1 + 1) (w.heap.size + 1 + 1 + 1 + 1) lo hi _ W9 rfl rfl l2 l3 ⟨_, _, rfl, .inr (.inr (.inr ⟨hv, rfl, hne, rfl, hh⟩)), hb9⟩

end Go.Proofs.Ytlgeggekmdoceaa
