/- Groups. -/
import Derived.Test.YtlgeggekmdoceaaZn
namespace Go.Proofs.Ytlgeggekmdoceaa
set_option linter.unusedVariables false
set_option linter.unusedSimpArgs false
open Go.RowKit Go.Shelf
attribute [local go_sem] Oper.semAt_some

/-- Does a block not hang together with a lesser one? -/
def IsMin (p : PairD) (j : Nat) : Prop := ∀ k : Nat, k < j → ¬ Conn p k j
/-- What Groups returns. -/
def GroupsRes (p : PairD) (n er : Int) : Prop :=
  (validB p = false ∧ n = 0 ∧ er = 1) ∨ (validB p = true ∧ er = 0 ∧ ∃ f : Nat → Bool, (∀ j, j < p.bs.length → (f j = true ↔ IsMin p j)) ∧ n = (((List.range p.bs.length).filter f).length : Nat))
theorem groups_results (t1 t2 : Array Value) (h2 : t1.getD 2 undef = t2.getD 2 undef) (h3 : t1.getD 3 undef = t2.getD 3 undef) : results Try.f25 t1 = results Try.f25 t2 := by
  have : Try.f25.results = #[.tmp 2, .cell 3 30] := rfl
  unfold results
  rw [this]
  simp only [Array.getD_eq_getD_getElem?] at h2 h3
  simp [h2, h3]
theorem groups_run (tmps : Array Value) (E : Nat) (x n : Int) (W : World) (h2 : tmps.getD 2 undef = .int .i64 x) (h3 : tmps.getD 3 undef = .pointer (some ⟨E, 0, none⟩))
    (he : W.heap[E]? = some (.cells #[.int .i64 n] 30 (0, 0))) :
    (results Try.f25 tmps).run Try.prog W = .ok (.tuple #[.int .i64 x, .int .i64 n]) W := by
  have e2 : W.cell? ⟨E, 0, none⟩ = some (.int .i64 n) := by rw [cell_of_row W _ _ _ _ _ he]; rfl
  rw [groups_results tmps #[undef, undef, .int .i64 x, .pointer (some ⟨E, 0, none⟩)] h2 h3]
  simp [results, Try.results25, go_sem, e2]
theorem groups_leaf (n : Int) (R : Ending → World → Prop) (E : Nat) (tmps : Array Value) (w5 : World) (h2 : tmps.getD 2 undef = .int .i64 0) (h3 : tmps.getD 3 undef = .pointer (some ⟨E, 0, none⟩))
    (he : w5.heap[E]? = some (.cells #[.int .i64 0] 30 (0, 0)))
    (hR : ∀ W', Keeps (fun k => k = E) w5 W' → R (.returned (.tuple #[.int .i64 0, .int .i64 n])) W') :
    Leaves Try.prog Try.f25 tmps R [{ target := .fn (.func 75) #[.pointer (some ⟨E, 0, none⟩)], args := #[] }] (.panicking [{ v := stopV n, recovered := false }]) w5 := by
  refine leaves_cons (f := 75) (args := #[.pointer (some ⟨E, 0, none⟩)]) (by simp) (by simp [go_sem, invoke]) ?_
  refine (catch_stop_groups n E 0 w5 he).mono ?_
  rintro e u' w' ⟨rfl, rfl, hk, he'⟩
  exact ⟨_, groups_run tmps E 0 n w' h2 h3 he', hR _ hk⟩
theorem groups_leaf_ret (R : Ending → World → Prop) (E : Nat) (x : Int) (tmps : Array Value) (w5 : World) (h2 : tmps.getD 2 undef = .int .i64 x) (h3 : tmps.getD 3 undef = .pointer (some ⟨E, 0, none⟩))
    (he : w5.heap[E]? = some (.cells #[.int .i64 0] 30 (0, 0)))
    (hR : R (.returned (.tuple #[.int .i64 x, .int .i64 0])) w5) :
    Leaves Try.prog Try.f25 tmps R [{ target := .fn (.func 75) #[.pointer (some ⟨E, 0, none⟩)], args := #[] }] .returning w5 := by
  refine leaves_cons (f := 75) (args := #[.pointer (some ⟨E, 0, none⟩)]) (by simp) (by simp [go_sem, invoke]) ?_
  refine (catch_idle_groups E w5).mono ?_
  rintro e u' w' ⟨rfl, rfl, rfl⟩
  exact ⟨_, groups_run tmps E x 0 w' h2 h3 he, hR⟩
/-- As far as Groups has come. -/
structure SeenK (p : PairD) (i : Nat) (L : List Int) : Prop where
  nodup : L.Nodup
  range : ∀ y ∈ L, 0 ≤ y ∧ y < p.bs.length
  adj : ∀ y ∈ L, ∀ z, Adj p y z → z ∈ L
  from' : ∀ y ∈ L, ∃ j : Nat, j < i ∧ Conn p j y
  all : ∀ j : Nat, j < i → (j : Int) ∈ L
theorem SeenK.next {p : PairD} {i : Nat} {L L' : List Int} (h : SeenK p i L) (hj : JoinRel p i L L') : SeenK p (i + 1) L' := by
  refine ⟨hj.nodup, hj.range, fun y hy z hz => ?_, fun y hy => ?_, fun j hji => ?_⟩
  · by_cases hin : y ∈ L
    · exact hj.sub _ (h.adj y hin z hz)
    · exact hj.adj y hy hin z hz
  · rcases hj.conn y hy with h1 | h1
    · obtain ⟨j, h2, h3⟩ := h.from' y h1; exact ⟨j, by omega, h3⟩
    · exact ⟨i, by omega, h1⟩
  · by_cases he : j = i
    · subst he; exact hj.own
    · exact hj.sub _ (h.all j (by omega))
theorem SeenK.min {p : PairD} {i : Nat} {L : List Int} (h : SeenK p i L) : (i : Int) ∉ L ↔ IsMin p i := by
  constructor
  · intro hn k hk hc
    exact hn (hc.closed (S := fun y => y ∈ L) (h.all k hk) (fun u v hu ha => h.adj u hu v ha))
  · intro hm hin
    obtain ⟨j, h1, h2⟩ := h.from' _ hin
    exact hm j h1 h2
/-- How many of the first blocks are the least of all that hang together with them. -/
def ManyK (p : PairD) (i m : Nat) : Prop := ∃ f : Nat → Bool, (∀ j, j < i → (f j = true ↔ IsMin p j)) ∧ m = ((List.range i).filter f).length
theorem ManyK.next {p : PairD} {i m : Nat} {L : List Int} (h : ManyK p i m) (hs : SeenK p i L) : ManyK p (i + 1) (if (i : Int) ∈ L then m else m + 1) := by
  obtain ⟨f, h1, rfl⟩ := h
  refine ⟨fun j => if j = i then !decide ((i : Int) ∈ L) else f j, fun j hj => ?_, ?_⟩
  · by_cases he : j = i
    · subst he
      simp only [if_true, Bool.not_eq_true', decide_eq_false_iff_not]
      exact hs.min
    · simp only [if_neg he]
      exact h1 j (by omega)
  · rw [List.range_succ, List.filter_append, List.length_append]
    have e1 : (List.range i).filter (fun j => if j = i then !decide ((i : Int) ∈ L) else f j) = (List.range i).filter f := by
      apply List.filter_congr
      intro j hj
      rw [List.mem_range] at hj
      rw [if_neg (by omega)]
    rw [e1]
    by_cases hin : (i : Int) ∈ L
    · simp [hin]
    · simp [hin]

set_option maxRecDepth 100000 in
set_option maxHeartbeats 8000000 in
theorem groupsp_any (p : PairD) (bs rs : Value) (Rd : Nat → Prop) (w : World) (hRd : ∀ k, Rd k → k < w.heap.size) (hbs : SpansAt w bs p.bs Rd) (hrs : ReadsAt w rs p.rs Rd) :
    Calls Try.prog 25 #[.agg (pairRow p bs rs)] w fun e w' => (∃ n er, e = .returned (.tuple #[.int .i64 n, .int .i64 er]) ∧ GroupsRes p n er) ∧ Below w.heap.size w w' := by
  have hmf : ∀ fn first cap w, (Instr.makeFunc fn first cap).run Try.prog w = .ok (.func fn first cap) w := fun _ _ _ _ => rfl
  obtain ⟨W0, hW0⟩ : ∃ W0, W0 = (w.alloc (.cells (pairRow p bs rs) 27 (0, 0))).alloc (.cells #[.int .i64 0] 30 (0, 0)) := ⟨_, rfl⟩
  have w0 : W0.heap[w.heap.size]? = some (.cells (pairRow p bs rs) 27 (0, 0)) := by rw [hW0]; exact (by repeat (first | (refine heap_alloc_at _ _ _ ?_; (simp <;> omega); done) | (refine (hget_old _ _ _ ?_).trans ?_; · (simp <;> omega))))
  have w3 : W0.heap[w.heap.size + 1]? = some (.cells #[.int .i64 0] 30 (0, 0)) := by rw [hW0]; exact (by repeat (first | (refine heap_alloc_at _ _ _ ?_; (simp <;> omega); done) | (refine (hget_old _ _ _ ?_).trans ?_; · (simp <;> omega))))
  have hbW : Below w.heap.size w W0 := by rw [hW0]; exact ((Below.refl _ _).alloc (Nat.le_refl _) _).alloc (by simp) _
  have hsW : W0.heap.size = w.heap.size + 2 := by rw [hW0]; simp
  have hbsW : SpansAt W0 bs p.bs Rd := hbs.later (by omega) (fun k hk _ => hbW.block k hk)
  have hrsW : ReadsAt W0 rs p.rs Rd := hrs.later (by omega) (fun k hk _ => hbW.block k hk)
  have hf : validB p = true → ∀ W bp, Below W0.heap.size W0 W → W.heap[bp]? = some (benchObj bs rs p.zl p.zh p.rl p.rh (.map none)) → Calls Try.prog 67 (#[.pointer (some ⟨bp, 0, none⟩)] ++ #[]) W fun e W' => e = .returned (.bool true) ∧ W = W' := fun hv W bp hb hbp => always_any _ _
  have HF := Lib.hid hf
  have HBS := Lib.hid hbsW
  have HRS := Lib.hid hrsW
  have HB := Lib.hid hbW
  clear hf hbsW hrsW hbW hrs
  have c0 : W0.cell? ⟨w.heap.size, 0, none⟩ = some bs := by rw [cell_of_row W0 _ _ _ _ _ w0]; rfl
  have c1 : W0.cell? ⟨w.heap.size, 1, none⟩ = some (.int .i64 p.zl) := by rw [cell_of_row W0 _ _ _ _ _ w0]; rfl
  have c2 : W0.cell? ⟨w.heap.size, 2, none⟩ = some (.int .i64 p.zh) := by rw [cell_of_row W0 _ _ _ _ _ w0]; rfl
  have c3 : W0.cell? ⟨w.heap.size, 3, none⟩ = some (.int .i64 p.rl) := by rw [cell_of_row W0 _ _ _ _ _ w0]; rfl
  have c4 : W0.cell? ⟨w.heap.size, 4, none⟩ = some (.int .i64 p.rh) := by rw [cell_of_row W0 _ _ _ _ _ w0]; rfl
  have c5 : W0.cell? ⟨w.heap.size, 5, none⟩ = some rs := by rw [cell_of_row W0 _ _ _ _ _ w0]; rfl
  have eg := enters_of Try.func67 (by kernel_rfl) rfl
  have h3 := Lib.hid w3
  have h0 := Lib.hid w0
  clear w3 w0
  unfold pairRow at hW0 ⊢
  go_enter_defers Try.func25, Try.ntmps25
  go_wp2_with fail
  rw [← hW0]
  clear hW0
  cases hv : validB p with
  | false =>
    refine (open_bad p bs rs Rd W0 (by exact HBS.out) (by exact HRS.out) 67 #[] true eg (by exact HF.out) hv).mono ?_
    rintro e w5 ⟨rfl, hb5⟩
    refine groups_leaf 1 _ (w.heap.size + 1) _ w5 rfl rfl ((hb5.block _ (by omega)).trans h3.out) (fun W' hk => ⟨⟨_, _, rfl, .inl ⟨hv, rfl, rfl⟩⟩, ?_⟩)
    exact HB.out.trans ((hb5.mono (by omega)).trans (hk.below (by have := hb5.size; omega) (fun k h => by omega)))
  | true =>
    have hp := OkP.of p hv
    have hn5 := hp.n5
    refine (open_yes p bs rs Rd W0 (by exact HBS.out) (by exact HRS.out) 67 #[] true eg (by exact HF.out) hv rfl).mono ?_
    rintro e w5 ⟨bp, rfl, hle, hbp, hb5⟩
    have hle5 : W0.heap.size ≤ w5.heap.size := hb5.size
    have hltb := lt_of_block hbp
    have HB5 := Lib.hid (HB.out.trans (hb5.mono (by omega)))
    have hrs5 : ReadsAt w5 rs p.rs Rd := HRS.out.later hle5 (fun k hk _ => hb5.block k hk)
    have HBP := Lib.hid hbp
    have HB5' := Lib.hid hb5
    have HRS5 := Lib.hid hrs5
    clear hbp hb5 hrs5 c0 c1 c2 c3 c4 c5
    have hmm := @run_makeMap Try.prog
    obtain ⟨ao, cap, hbse, hc1, hc2, _⟩ := id hbs
    subst hbse
    have k0 : ∀ o, (w5.alloc o).cell? ⟨bp, 0, none⟩ = some (.slice ao p.bs.length cap) := fun o => by rw [cell_of_row _ _ _ _ _ _ ((Below.heap_alloc w5 o _ hltb).trans HBP.out)]; rfl
    go_wp2_with fail
    obtain ⟨W, hW⟩ : ∃ W, W = (((w5.alloc (boxPtr bp)).alloc (.map #[] 0)).alloc (.cells #[.map (some (w5.heap.size + 1))] 59)).alloc (.cells #[.nilFunc] 96) := ⟨_, rfl⟩
    have q0 : W.heap[w5.heap.size]? = some (boxPtr bp) := by rw [hW]; exact (by repeat (first | (refine heap_alloc_at _ _ _ ?_; (simp <;> omega); done) | (refine (hget_old _ _ _ ?_).trans ?_; · (simp <;> omega))))
    have q1 : W.heap[w5.heap.size + 1]? = some (setM []) := by rw [hW]; exact (by repeat (first | (refine heap_alloc_at _ _ _ ?_; (simp <;> omega); done) | (refine (hget_old _ _ _ ?_).trans ?_; · (simp <;> omega))))
    have q2 : W.heap[w5.heap.size + 1 + 1]? = some (.cells #[.map (some (w5.heap.size + 1))] 59 (0, 0)) := by rw [hW]; exact (by repeat (first | (refine heap_alloc_at _ _ _ ?_; (simp <;> omega); done) | (refine (hget_old _ _ _ ?_).trans ?_; · (simp <;> omega))))
    have q3 : W.heap[w5.heap.size + 1 + 1 + 1]? = some (.cells #[.nilFunc] 96 (0, 0)) := by rw [hW]; exact (by repeat (first | (refine heap_alloc_at _ _ _ ?_; (simp <;> omega); done) | (refine (hget_old _ _ _ ?_).trans ?_; · (simp <;> omega))))
    have hsW5 : W.heap.size = w5.heap.size + 4 := by rw [hW]; simp
    have hb5W : Below w5.heap.size w5 W := by rw [hW]; exact ((((Below.refl _ _).alloc (Nat.le_refl _) _).alloc (by simp) _).alloc (by simp <;> omega) _).alloc (by simp <;> omega) _
    have q4 := (hb5W.block bp hltb).trans HBP.out
    have j3 : W.cell? ⟨w5.heap.size + 1 + 1 + 1, 0, none⟩ = some .nilFunc := by rw [cell_of_row W _ _ _ _ _ q3]; rfl
    have j4 : ∀ k, W.frozen? ⟨w5.heap.size + 1 + 1 + 1, k, none⟩ = false := fun k => frozen_of_row W _ _ _ _ q3
    have l0 : ∀ v, (W.setCell ⟨w5.heap.size + 1 + 1 + 1, 0, none⟩ v).cell? ⟨w5.heap.size, 0, none⟩ = some (.pointer (some ⟨bp, 0, none⟩)) := fun v => by rw [cell_of_row _ _ _ _ _ _ ((Below.heap_setCell _ _ _ _ (by simp <;> omega)).trans q0)]; rfl
    have l1 : ∀ v, (W.setCell ⟨w5.heap.size + 1 + 1 + 1, 0, none⟩ v).cell? ⟨bp, 0, none⟩ = some (.slice ao p.bs.length cap) := fun v => by rw [cell_of_row _ _ _ _ _ _ ((Below.heap_setCell _ _ _ _ (by simp; omega)).trans q4)]; rfl
    have HW : Hid (JoinAt p (w5.heap.size + 1 + 1) w5.heap.size (w5.heap.size + 1 + 1 + 1) bp (w5.heap.size + 1) (.slice ao p.bs.length cap) rs (.map none) Rd (W.setCell ⟨w5.heap.size + 1 + 1 + 1, 0, none⟩ (.func (.func 76) #[] #[.pointer (some ⟨w5.heap.size + 1 + 1, 0, none⟩), .pointer (some ⟨w5.heap.size, 0, none⟩), .pointer (some ⟨w5.heap.size + 1 + 1 + 1, 0, none⟩)]))) := by
      refine ⟨(Below.heap_setCell _ _ _ _ (by simp <;> omega)).trans q2, (Below.heap_setCell _ _ _ _ (by simp <;> omega)).trans q0, one_setCell q3, (Below.heap_setCell _ _ _ _ (by simp; omega)).trans q4, by omega, by omega, by omega, by omega, fun k hk => by have := hRd k hk; omega, ?_⟩
      exact HRS5.out.later (by simp; omega) (fun k hk _ => (Below.heap_setCell _ _ _ _ (by simp; omega)).trans (hb5W.block k hk))
    have HM : Hid ((W.setCell ⟨w5.heap.size + 1 + 1 + 1, 0, none⟩ (.func (.func 76) #[] #[.pointer (some ⟨w5.heap.size + 1 + 1, 0, none⟩), .pointer (some ⟨w5.heap.size, 0, none⟩), .pointer (some ⟨w5.heap.size + 1 + 1 + 1, 0, none⟩)])).heap[w5.heap.size + 1]? = some (setM [])) := (Below.heap_setCell _ _ _ _ (by simp)).trans q1
    have HBW5 := Lib.hid hb5W
    clear q0 q1 q2 q3 q4 hb5W
    unfold boxPtr at hW
    rw [← hW]
    clear hW
    have hst : ∀ f a b, (store ⟨w5.heap.size + 1 + 1 + 1, 0, none⟩ (.func f a b)).run Try.prog W = .ok () (W.setCell ⟨w5.heap.size + 1 + 1 + 1, 0, none⟩ (.func f a b)) := fun f a b => (run_store Try.prog W _ _ _ rfl).trans (by simp [stored, j3, j4])
    rw [hst]
    have hbX := HBW5.out.setCell (p := ⟨w5.heap.size + 1 + 1 + 1, 0, none⟩) (by simp; omega) (.func (.func 76) #[] #[.pointer (some ⟨w5.heap.size + 1 + 1, 0, none⟩), .pointer (some ⟨w5.heap.size, 0, none⟩), .pointer (some ⟨w5.heap.size + 1 + 1 + 1, 0, none⟩)])
    obtain ⟨X, hX⟩ : ∃ X, X = W.setCell ⟨w5.heap.size + 1 + 1 + 1, 0, none⟩ (.func (.func 76) #[] #[.pointer (some ⟨w5.heap.size + 1 + 1, 0, none⟩), .pointer (some ⟨w5.heap.size, 0, none⟩), .pointer (some ⟨w5.heap.size + 1 + 1 + 1, 0, none⟩)]) := ⟨_, rfl⟩
    have m0 := l0 (.func (.func 76) #[] #[.pointer (some ⟨w5.heap.size + 1 + 1, 0, none⟩), .pointer (some ⟨w5.heap.size, 0, none⟩), .pointer (some ⟨w5.heap.size + 1 + 1 + 1, 0, none⟩)])
    have m1 := l1 (.func (.func 76) #[] #[.pointer (some ⟨w5.heap.size + 1 + 1, 0, none⟩), .pointer (some ⟨w5.heap.size, 0, none⟩), .pointer (some ⟨w5.heap.size + 1 + 1 + 1, 0, none⟩)])
    rw [← hX] at HW HM hbX m0 m1 ⊢
    have HBX := Lib.hid hbX
    have egj := enters_of Try.func76 (by kernel_rfl) rfl
    clear hX hbX hst l0 l1 j3 j4 k0
    go_wp2_with fail
    have hb5s := HB5.out.size
    have hbxs := HBX.out.size
    go_loopw [7, 20] (fun c i wr => ∃ (k m : Nat) (L : List Int), k ≤ p.bs.length ∧ i = .int .i64 k ∧ c = .int .i64 m ∧ m ≤ k ∧ wr.heap[w5.heap.size + 1]? = some (setM L) ∧ SeenK p k L ∧ ManyK p k m ∧ Keeps (fun k => k = w5.heap.size + 1) X wr) (fun _ i _ => p.bs.length - (intOf i).toNat)
    case atStart => exact ⟨0, 0, [], by omega, rfl, rfl, by omega, HM.out, ⟨by simp, by simp, by simp, by simp, by intro j hj; omega⟩, ⟨fun _ => true, by intro j hj; omega, rfl⟩, Keeps.refl _ _⟩
    case round =>
      obtain ⟨k, m, L, hk, rfl, rfl, hmk, hmap, hsn, hmy, hkk⟩ := hrel
      have HA := Lib.hid (HW.out.later hkk)
      have HMP := Lib.hid hmap
      have HSN := Lib.hid hsn
      have HMY := Lib.hid (hmy.next hsn)
      have HMY0 := Lib.hid hmy
      have HKK := Lib.hid hkk
      clear m0 m1
      by_cases hlk : k < p.bs.length
      · have hlkp := lookup_set (w5.heap.size + 1) L k wr hmap
        have d1 : wr.cell? ⟨w5.heap.size + 1 + 1, 0, none⟩ = some (.map (some (w5.heap.size + 1))) := by rw [cell_of_row wr _ _ _ _ _ HA.out.h1]; rfl
        have d3 : wr.cell? ⟨w5.heap.size + 1 + 1 + 1, 0, none⟩ = some (.func (.func 76) #[] #[.pointer (some ⟨w5.heap.size + 1 + 1, 0, none⟩), .pointer (some ⟨w5.heap.size, 0, none⟩), .pointer (some ⟨w5.heap.size + 1 + 1 + 1, 0, none⟩)]) := by rw [cell_of_row wr _ _ _ _ _ HA.out.h3]; rfl
        clear hmap hsn hmy hkk
        have HJ := Lib.hid (join_any p hv _ _ _ bp (w5.heap.size + 1) _ rs _ Rd p.bs.length k L wr (by omega) (by omega) (by omega) HSN.out.nodup HSN.out.range HA.out HMP.out)
        by_cases hin : (k : Int) ∈ L
        · rw [show decide ((k : Int) ∈ L) = true by simpa using hin] at hlkp
          have e1 := HMY.out
          rw [if_pos hin] at e1
          have E1 := Lib.hid e1
          clear e1 hin
          go_wp2_with fail
          refine HJ.out.mono ?_
          rintro e w8 ⟨rfl, ⟨L', hm', hj'⟩, hk8⟩
          have HM8 := Lib.hid hm'
          have HJ8 := Lib.hid (HSN.out.next hj')
          have HK8 := Lib.hid (HKK.out.trans hk8)
          clear hm' hj' hk8
          go_wp2
          exact ⟨⟨k + 1, m, L', by omega, by go_num, rfl, by omega, HM8.out, HJ8.out, E1.out, HK8.out⟩, by simp [intOf]; omega⟩
        · rw [show decide ((k : Int) ∈ L) = false by simpa using hin] at hlkp
          have e1 := HMY.out
          rw [if_neg hin] at e1
          have E1 := Lib.hid e1
          clear e1 hin
          go_wp2_with fail
          refine HJ.out.mono ?_
          rintro e w8 ⟨rfl, ⟨L', hm', hj'⟩, hk8⟩
          have HM8 := Lib.hid hm'
          have HJ8 := Lib.hid (HSN.out.next hj')
          have HK8 := Lib.hid (HKK.out.trans hk8)
          clear hm' hj' hk8
          go_wp2
          exact ⟨⟨k + 1, m + 1, L', by omega, by go_num, by go_num, by omega, HM8.out, HJ8.out, E1.out, HK8.out⟩, by simp [intOf]; omega⟩
      · obtain rfl : k = p.bs.length := by omega
        clear hmap hsn hmy hkk
        have hbX : Below w5.heap.size w5 wr := HBX.out.trans (HKK.out.below (by omega) (fun k h => by omega))
        have k3 := (hbX.block (w.heap.size + 1) (by omega)).trans ((HB5'.out.block _ (by omega)).trans h3.out)
        have d0 : wr.cell? ⟨w.heap.size + 1, 0, none⟩ = some (.int .i64 0) := by rw [cell_of_row wr _ _ _ _ _ k3]; rfl
        have d1 : ∀ j, wr.frozen? ⟨w.heap.size + 1, j, none⟩ = false := fun j => frozen_of_row _ _ _ _ _ k3
        have K3 := Lib.hid k3
        have HBL := Lib.hid (HB5.out.trans (hbX.mono (by omega)))
        clear k3 hbX
        go_wp2
        obtain ⟨W9, hW9⟩ : ∃ W9, W9 = wr.setCell ⟨w.heap.size + 1, 0, none⟩ (.int .i64 0) := ⟨_, rfl⟩
        have l3 : W9.heap[w.heap.size + 1]? = some (.cells #[.int .i64 0] 30 (0, 0)) := by rw [hW9]; simp [World.setCell, Array.getElem?_modify, K3.out]
        have hb9 : Below w.heap.size w W9 := by rw [hW9]; exact HBL.out.setCell (by simp) _
        rw [← hW9]
        obtain ⟨f, hf1, hf2⟩ := HMY0.out
        exact groups_leaf_ret _ (w.heap.size + 1) _ _ W9 rfl rfl l3 ⟨⟨_, _, rfl, .inr ⟨hv, rfl, f, hf1, by rw [hf2]⟩⟩, hb9⟩

end Go.Proofs.Ytlgeggekmdoceaa
