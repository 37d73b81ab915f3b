/- Wrong. -/
import Derived.Test.YtlgeggekmdoceaaZi
namespace Go.Proofs.Ytlgeggekmdoceaa
set_option linter.unusedVariables false
set_option linter.unusedSimpArgs false
open Go.RowKit Go.Shelf
attribute [local go_sem] Oper.semAt_some

/-- What Wrong returns. -/
def WrongRes (p : PairD) (many set er : Int) : Prop :=
  (validB p = false ∧ many = 0 ∧ set = 0 ∧ er = 1) ∨ (validB p = true ∧ er = 0 ∧ ∃ s b, FirstRes p.rs.length (fun s => decide (pairOuts p (allR p - s) ≠ [])) s b ∧ set = (s : Nat) ∧ many = (ones s : Nat))
theorem wrongp_results (t1 t2 : Array Value) (h2 : t1.getD 2 undef = t2.getD 2 undef) (h3 : t1.getD 3 undef = t2.getD 3 undef) (h5 : t1.getD 4 undef = t2.getD 4 undef) : results Try.f27 t1 = results Try.f27 t2 := by
  have : Try.f27.results = #[.tmp 2, .tmp 3, .cell 4 30] := rfl
  unfold results
  rw [this]
  simp only [Array.getD_eq_getD_getElem?] at h2 h3 h5
  simp [h2, h3, h5]
theorem wrongp_run (tmps : Array Value) (E : Nat) (x y n : Int) (W : World) (h2 : tmps.getD 2 undef = .int .i64 x) (h3 : tmps.getD 3 undef = .int .i64 y) (h5 : tmps.getD 4 undef = .pointer (some ⟨E, 0, none⟩))
    (he : W.heap[E]? = some (.cells #[.int .i64 n] 30 (0, 0))) :
    (results Try.f27 tmps).run Try.prog W = .ok (.tuple #[.int .i64 x, .int .i64 y, .int .i64 n]) W := by
  have e2 : W.cell? ⟨E, 0, none⟩ = some (.int .i64 n) := by rw [cell_of_row W _ _ _ _ _ he]; rfl
  rw [wrongp_results tmps #[undef, undef, .int .i64 x, .int .i64 y, .pointer (some ⟨E, 0, none⟩)] h2 h3 h5]
  simp [results, Try.results27, go_sem, e2]
theorem wrongp_leaf (n : Int) (R : Ending → World → Prop) (E : Nat) (tmps : Array Value) (w5 : World) (h2 : tmps.getD 2 undef = .int .i64 0) (h3 : tmps.getD 3 undef = .int .i64 0) (h5 : tmps.getD 4 undef = .pointer (some ⟨E, 0, none⟩))
    (he : w5.heap[E]? = some (.cells #[.int .i64 0] 30 (0, 0)))
    (hR : ∀ W', Keeps (fun k => k = E) w5 W' → R (.returned (.tuple #[.int .i64 0, .int .i64 0, .int .i64 n])) W') :
    Leaves Try.prog Try.f27 tmps R [{ target := .fn (.func 78) #[.pointer (some ⟨E, 0, none⟩)], args := #[] }] (.panicking [{ v := stopV n, recovered := false }]) w5 := by
  refine leaves_cons (f := 78) (args := #[.pointer (some ⟨E, 0, none⟩)]) (by simp) (by simp [go_sem, invoke]) ?_
  refine (catch_stop_wrong n E 0 w5 he).mono ?_
  rintro e u' w' ⟨rfl, rfl, hk, he'⟩
  exact ⟨_, wrongp_run tmps E 0 0 n w' h2 h3 h5 he', hR _ hk⟩
theorem wrongp_leaf_ret (R : Ending → World → Prop) (E : Nat) (x y : Int) (tmps : Array Value) (w5 : World) (h2 : tmps.getD 2 undef = .int .i64 x) (h3 : tmps.getD 3 undef = .int .i64 y) (h5 : tmps.getD 4 undef = .pointer (some ⟨E, 0, none⟩))
    (he : w5.heap[E]? = some (.cells #[.int .i64 0] 30 (0, 0)))
    (hR : R (.returned (.tuple #[.int .i64 x, .int .i64 y, .int .i64 0])) w5) :
    Leaves Try.prog Try.f27 tmps R [{ target := .fn (.func 78) #[.pointer (some ⟨E, 0, none⟩)], args := #[] }] .returning w5 := by
  refine leaves_cons (f := 78) (args := #[.pointer (some ⟨E, 0, none⟩)]) (by simp) (by simp [go_sem, invoke]) ?_
  refine (catch_idle_wrong E w5).mono ?_
  rintro e u' w' ⟨rfl, rfl, rfl⟩
  exact ⟨_, wrongp_run tmps E x y 0 w' h2 h3 h5 he, hR⟩

set_option maxRecDepth 100000 in
set_option maxHeartbeats 8000000 in
theorem wrongp_any (p : PairD) (bs rs : Value) (Rd : Nat → Prop) (w : World) (hRd : ∀ k, Rd k → k < w.heap.size) (hbs : SpansAt w bs p.bs Rd) (hrs : ReadsAt w rs p.rs Rd) :
    Calls Try.prog 27 #[.agg (pairRow p bs rs)] w fun e w' => (∃ many set er, e = .returned (.tuple #[.int .i64 many, .int .i64 set, .int .i64 er]) ∧ WrongRes p many set er) ∧ Below w.heap.size w w' := by
  have hmf : ∀ fn first cap w, (Instr.makeFunc fn first cap).run Try.prog w = .ok (.func fn first cap) w := fun _ _ _ _ => rfl
  obtain ⟨W0, hW0⟩ : ∃ W0, W0 = (w.alloc (.cells (pairRow p bs rs) 27 (0, 0))).alloc (.cells #[.int .i64 0] 30 (0, 0)) := ⟨_, rfl⟩
  have w0 : W0.heap[w.heap.size]? = some (.cells (pairRow p bs rs) 27 (0, 0)) := by rw [hW0]; exact (by repeat (first | (refine heap_alloc_at _ _ _ ?_; (simp <;> omega); done) | (refine (hget_old _ _ _ ?_).trans ?_; · (simp <;> omega))))
  have w3 : W0.heap[w.heap.size + 1]? = some (.cells #[.int .i64 0] 30 (0, 0)) := by rw [hW0]; exact (by repeat (first | (refine heap_alloc_at _ _ _ ?_; (simp <;> omega); done) | (refine (hget_old _ _ _ ?_).trans ?_; · (simp <;> omega))))
  have hbW : Below w.heap.size w W0 := by rw [hW0]; exact ((Below.refl _ _).alloc (Nat.le_refl _) _).alloc (by simp) _
  have hsW : W0.heap.size = w.heap.size + 2 := by rw [hW0]; simp
  have hbsW : SpansAt W0 bs p.bs Rd := hbs.later (by omega) (fun k hk _ => hbW.block k hk)
  have hrsW : ReadsAt W0 rs p.rs Rd := hrs.later (by omega) (fun k hk _ => hbW.block k hk)
  have hf : validB p = true → ∀ W bp, Below W0.heap.size W0 W → W.heap[bp]? = some (benchObj bs rs p.zl p.zh p.rl p.rh (.map none)) → Calls Try.prog 67 (#[.pointer (some ⟨bp, 0, none⟩)] ++ #[]) W fun e W' => e = .returned (.bool true) ∧ W = W' := fun hv W bp hb hbp => always_any _ _
  have HF := Lib.hid hf
  have HBS := Lib.hid hbsW
  have HRS := Lib.hid hrsW
  have HB := Lib.hid hbW
  clear hf hbsW hrsW hbW hrs
  have c0 : W0.cell? ⟨w.heap.size, 0, none⟩ = some bs := by rw [cell_of_row W0 _ _ _ _ _ w0]; rfl
  have c1 : W0.cell? ⟨w.heap.size, 1, none⟩ = some (.int .i64 p.zl) := by rw [cell_of_row W0 _ _ _ _ _ w0]; rfl
  have c2 : W0.cell? ⟨w.heap.size, 2, none⟩ = some (.int .i64 p.zh) := by rw [cell_of_row W0 _ _ _ _ _ w0]; rfl
  have c3 : W0.cell? ⟨w.heap.size, 3, none⟩ = some (.int .i64 p.rl) := by rw [cell_of_row W0 _ _ _ _ _ w0]; rfl
  have c4 : W0.cell? ⟨w.heap.size, 4, none⟩ = some (.int .i64 p.rh) := by rw [cell_of_row W0 _ _ _ _ _ w0]; rfl
  have c5 : W0.cell? ⟨w.heap.size, 5, none⟩ = some rs := by rw [cell_of_row W0 _ _ _ _ _ w0]; rfl
  have eg := enters_of Try.func67 (by kernel_rfl) rfl
  have h3 := Lib.hid w3
  have h0 := Lib.hid w0
  clear w3 w0
  unfold pairRow at hW0 ⊢
  go_enter_defers Try.func27, Try.ntmps27
  go_wp2_with fail
  rw [← hW0]
  clear hW0
  cases hv : validB p with
  | false =>
    refine (open_bad p bs rs Rd W0 (by exact HBS.out) (by exact HRS.out) 67 #[] true eg (by exact HF.out) hv).mono ?_
    rintro e w5 ⟨rfl, hb5⟩
    refine wrongp_leaf 1 _ (w.heap.size + 1) _ w5 rfl rfl rfl ((hb5.block _ (by omega)).trans h3.out) (fun W' hk => ⟨⟨_, _, _, rfl, .inl ⟨hv, rfl, rfl, rfl⟩⟩, ?_⟩)
    exact HB.out.trans ((hb5.mono (by omega)).trans (hk.below (by have := hb5.size; omega) (fun k h => by omega)))
  | true =>
    have hp := OkP.of p hv
    refine (open_yes p bs rs Rd W0 (by exact HBS.out) (by exact HRS.out) 67 #[] true eg (by exact HF.out) hv rfl).mono ?_
    rintro e w5 ⟨bp, rfl, hle, hbp, hb5⟩
    have hle5 : W0.heap.size ≤ w5.heap.size := hb5.size
    have hltb := lt_of_block hbp
    have HB5 := Lib.hid (HB.out.trans (hb5.mono (by omega)))
    have hbs5 : SpansAt w5 bs p.bs Rd := HBS.out.later hle5 (fun k hk _ => hb5.block k hk)
    have hrs5 : ReadsAt w5 rs p.rs Rd := HRS.out.later hle5 (fun k hk _ => hb5.block k hk)
    have HBP := Lib.hid hbp
    have HB5' := Lib.hid hb5
    clear hbp hb5
    go_wp2_with fail
    obtain ⟨W, hW⟩ : ∃ W, W = w5.alloc (boxPtr bp) := ⟨_, rfl⟩
    have hbox : W.heap[w5.heap.size]? = some (boxPtr bp) := by rw [hW]; exact heap_alloc_at _ _ _ rfl
    have hbw : Below w5.heap.size w5 W := by rw [hW]; exact (Below.refl _ _).alloc (Nat.le_refl _) _
    have hsw : W.heap.size = w5.heap.size + 1 := by rw [hW]; simp
    have hopen : Opened p bp bs rs (.map none) Rd W := Opened.later ⟨HBP.out, fun k hk => by have := hRd k hk; omega, hbs5, hrs5⟩ hbw
    unfold boxPtr at hW
    rw [← hW]
    obtain ⟨aor, capr, hrse, _⟩ := id hrs5
    subst hrse
    refine (first_any p hp.m8 bp bs (.map none) aor capr W hopen.b 80 _ (fun s => decide (pairOuts p (allR p - s) ≠ [])) (enters_of Try.func80 (by kernel_rfl) rfl) (fun s hs W' hb' => wrong2_any p hv bp bs _ (.map none) Rd s hs w5.heap.size W' (hopen.later hb') ((hb'.block _ (by omega)).trans hbox))).mono ?_
    rintro e w7 ⟨⟨set, b, rfl, hfr⟩, hb7⟩
    have hp2 : 2 ^ p.rs.length ≤ 2 ^ 8 := Nat.pow_le_pow_right (by decide) hp.m8
    have hset : set < 256 := by
      rcases hfr with ⟨_, h, _⟩ | ⟨_, h, _⟩ <;> omega
    have k3 := (hb7.block (w.heap.size + 1) (by omega)).trans ((hbw.block _ (by omega)).trans ((HB5'.out.block _ (by omega)).trans h3.out))
    have d0 : w7.cell? ⟨w.heap.size + 1, 0, none⟩ = some (.int .i64 0) := by rw [cell_of_row w7 _ _ _ _ _ k3]; rfl
    have d1 : ∀ j, w7.frozen? ⟨w.heap.size + 1, j, none⟩ = false := fun j => frozen_of_row _ _ _ _ _ k3
    have hb7' : Below w.heap.size w w7 := HB5.out.trans ((hbw.mono (by omega)).trans (hb7.mono (by omega)))
    have HFR := Lib.hid hfr
    have K3 := Lib.hid k3
    have HB7 := Lib.hid hb7'
    have hcv : IntKind.i64.wrap (set : Int) = (set : Int) := IntWalk.i64_in _ (by omega)
    clear hfr k3 hb7 hb7' hbox hbw hopen hW
    go_wp2_with fail
    refine (ones_any set hset w7).mono ?_
    rintro e w' ⟨rfl, rfl⟩
    go_wp2
    obtain ⟨W9, hW9⟩ : ∃ W9, W9 = w7.setCell ⟨w.heap.size + 1, 0, none⟩ (.int .i64 0) := ⟨_, rfl⟩
    have l3 : W9.heap[w.heap.size + 1]? = some (.cells #[.int .i64 0] 30 (0, 0)) := by rw [hW9]; simp [World.setCell, Array.getElem?_modify, K3.out]
    have hb9 : Below w.heap.size w W9 := by rw [hW9]; exact HB7.out.setCell (by simp) _
    rw [← hW9]
    exact wrongp_leaf_ret _ (w.heap.size + 1) _ _ _ W9 rfl rfl rfl l3 ⟨⟨_, _, _, rfl, .inr ⟨hv, rfl, set, b, HFR.out, rfl, rfl⟩⟩, hb9⟩

end Go.Proofs.Ytlgeggekmdoceaa
