/- Texts Un, Uo in one file; each begins with a word on what it proves. -/
import Derived.Test.YtbmfphiecllggaaDoorKc

/- The stack of the fewest blocks, and whether a stack is right: walked. -/
namespace Go.Proofs.YtbmfphiecllggaaDoor
set_option linter.unusedVariables false
set_option linter.unusedSimpArgs false
open Go.RowKit Go.Shelf
attribute [local go_sem] Oper.semAt_some

theorem least_lt {s : StackD} (hv : validSt s = true) {want : Int × Int} {t : Nat} (h : leastJ (rightsS s want) = some t) : t < 256 := by
  have hm := (least_some h).is
  have := (mem_rightsJ.1 hm).1
  exact Nat.lt_of_lt_of_le this (Nat.pow_le_pow_right (by decide) (validSt_parts hv).1)
/-- What stands while Fewest comes to its stack. -/
structure FewW (ao : Option Addr) (n cap : Nat) (fl fh wl wh : Int) (w W : World) : Prop where
  r0 : W.heap[w.heap.size]? = some (.cells #[.slice ao n cap, .int .i64 fl, .int .i64 fh] 26 (0, 0))
  r1 : W.heap[w.heap.size + 1]? = some (.cells #[.int .i64 wl, .int .i64 wh] 24 (0, 0))
  r2 : W.heap[w.heap.size + 1 + 1]? = some (.cells #[.int .i64 0] 33 (0, 0))
  bel : Below w.heap.size w W
theorem FewW.below {ao : Option Addr} {n cap : Nat} {fl fh wl wh : Int} {w W W' : World} (h : FewW ao n cap fl fh wl wh w W) (hb : Below W.heap.size W W') : FewW ao n cap fl fh wl wh w W' :=
  ⟨(hb.block _ (lt_of_block h.r0)).trans h.r0, (hb.block _ (lt_of_block h.r1)).trans h.r1, (hb.block _ (lt_of_block h.r2)).trans h.r2, h.bel.trans (hb.mono h.bel.size)⟩
theorem few_results (t1 t2 : Array Value) (h4 : t1.getD 4 undef = t2.getD 4 undef) (h5 : t1.getD 5 undef = t2.getD 5 undef) : results Tryd.f23 t1 = results Tryd.f23 t2 := by
  have : Tryd.f23.results = #[.tmp 4, .cell 5 33] := rfl
  unfold results
  rw [this]
  have h4' : t1[4]?.getD undef = t2[4]?.getD undef := by simpa [Array.getD_eq_getD_getElem?] using h4
  have h5' : t1[5]?.getD undef = t2[5]?.getD undef := by simpa [Array.getD_eq_getD_getElem?] using h5
  simp [h4', h5']
theorem few_put {R : Ending → World → Prop} {c : List PanicEntry} {d : Nat} {v : Value} {a : Act} {w : World} (h4 : d ≠ 4) (h5 : d ≠ 5)
    (h : bodyPostD Tryd.prog Tryd.f23 R (.panic c) (a.put (some d) v) w) : bodyPostD Tryd.prog Tryd.f23 R (.panic c) a w := by
  refine Leaves.congr (fun w v hh => ?_) _ _ _ h
  rw [few_results _ a.tmps] at hh
  · exact hh
  · simp [Act.put, Array.getD_eq_getD_getElem?, Array.getElem?_setIfInBounds, h4]
  · simp [Act.put, Array.getD_eq_getD_getElem?, Array.getElem?_setIfInBounds, h5]
theorem fewest_errS {s : StackD} {want : Int × Int} (h : errS s (wantOk want) ≠ 0) : fewestS s want = (0, errS s (wantOk want)) := by unfold fewestS; rw [if_pos h]
theorem fewest_noneS {s : StackD} {want : Int × Int} (h : errS s (wantOk want) = 0) (hn : leastJ (rightsS s want) = none) : fewestS s want = (0, 4) := by unfold fewestS; rw [if_neg (by rw [h]; decide), hn]
theorem fewest_someS {s : StackD} {want : Int × Int} (h : errS s (wantOk want) = 0) {t : Nat} (hn : leastJ (rightsS s want) = some t) : fewestS s want = (((t : Nat) : Int), 0) := by unfold fewestS; rw [if_neg (by rw [h]; decide), hn]
theorem errS_valid {s : StackD} {ok : Bool} (h : errS s ok = 0) : validSt s = true := by
  unfold errS at h
  split at h
  · cases h
  · rename_i h1
    cases hv : validSt s with
    | true => rfl
    | false => exact absurd hv h1
set_option maxRecDepth 100000 in
set_option maxHeartbeats 4000000 in
theorem fewestS_any (s : StackD) (bs : Value) (want : Int × Int) (w : World) (hbs : SpansAt w bs s.bs (fun k => k < w.heap.size)) :
    Calls Tryd.prog 23 #[stackV s bs, spV want] w fun e w' => e = .returned (.tuple #[.int .i64 (fewestS s want).1, .int .i64 (fewestS s want).2]) ∧ Below w.heap.size w w' := by
  have HBS := Lib.hid hbs
  obtain ⟨ao, cap, hbv, _⟩ := id hbs
  subst hbv
  obtain ⟨l, ⟨fl, fh⟩⟩ := s
  obtain ⟨wl, wh⟩ := want
  unfold stackV spV
  dsimp only at HBS ⊢
  clear hbs
  obtain ⟨n, hn⟩ : ∃ n, n = l.length := ⟨_, rfl⟩
  have HN := Lib.hid hn
  rw [← hn]
  clear hn
  go_enter_defers Tryd.func23, Tryd.ntmps23
  go_wp2_with fail
  rename_i hK0
  refine wp_name (FewW ao n cap fl fh wl wh w) ⟨(by repeat (first | (refine heap_alloc_at _ _ _ ?_; (simp <;> omega); done) | (refine (hget_old _ _ _ ?_).trans ?_; · (simp <;> omega)))), (by repeat (first | (refine heap_alloc_at _ _ _ ?_; (simp <;> omega); done) | (refine (hget_old _ _ _ ?_).trans ?_; · (simp <;> omega)))), (by repeat (first | (refine heap_alloc_at _ _ _ ?_; (simp <;> omega); done) | (refine (hget_old _ _ _ ?_).trans ?_; · (simp <;> omega)))), (((Below.refl _ _).alloc (Nat.le_refl _) _).alloc (by simp) _).alloc (by simp <;> omega) _⟩ ?_
  intro W0 hW0
  refine wp_region_held_drew (S := FewW ao n cap fl fh wl wh w) (by kernel_rfl) (hW0.below (Below.refl _ _).drew) fun hS => ?_
  generalize W0.drew = W1 at hS
  refine wpAnyH_take (i := 0) (v := ?_) rfl (by kernel_rfl) (by kernel_rfl) (by kernel_rfl) (fun c a w h => few_put (by decide) (by decide) h) (Or.inl ⟨by rfl, ?_⟩) hS ?_
  rotate_left
  · intro W hSw
    have s0 : W.cell? ⟨w.heap.size, 0, none⟩ = some (.slice ao n cap) := by rw [cell_of_row _ _ _ _ _ _ hSw.r0]; rfl
    have s1 : W.cell? ⟨w.heap.size, 1, none⟩ = some (.int .i64 fl) := by rw [cell_of_row _ _ _ _ _ _ hSw.r0]; rfl
    have s2 : W.cell? ⟨w.heap.size, 2, none⟩ = some (.int .i64 fh) := by rw [cell_of_row _ _ _ _ _ _ hSw.r0]; rfl
    have s3 : W.cell? ⟨w.heap.size + 1, 0, none⟩ = some (.int .i64 wl) := by rw [cell_of_row _ _ _ _ _ _ hSw.r1]; rfl
    have s4 : W.cell? ⟨w.heap.size + 1, 1, none⟩ = some (.int .i64 wh) := by rw [cell_of_row _ _ _ _ _ _ hSw.r1]; rfl
    go_simp
    try with_reducible rfl
  try simp only [List.getElem_toArray, List.getElem_cons_succ, List.getElem_cons_zero, Act.put, List.setIfInBounds_toArray, List.set_cons_zero, List.set_cons_succ]
  refine wpAnyH_take (i := 1) (v := ?_) rfl (by kernel_rfl) (by kernel_rfl) (by kernel_rfl) (fun c a w h => few_put (by decide) (by decide) h) (Or.inl ⟨by rfl, ?_⟩) hS ?_
  rotate_left
  · intro W hSw
    have s0 : W.cell? ⟨w.heap.size, 0, none⟩ = some (.slice ao n cap) := by rw [cell_of_row _ _ _ _ _ _ hSw.r0]; rfl
    have s1 : W.cell? ⟨w.heap.size, 1, none⟩ = some (.int .i64 fl) := by rw [cell_of_row _ _ _ _ _ _ hSw.r0]; rfl
    have s2 : W.cell? ⟨w.heap.size, 2, none⟩ = some (.int .i64 fh) := by rw [cell_of_row _ _ _ _ _ _ hSw.r0]; rfl
    have s3 : W.cell? ⟨w.heap.size + 1, 0, none⟩ = some (.int .i64 wl) := by rw [cell_of_row _ _ _ _ _ _ hSw.r1]; rfl
    have s4 : W.cell? ⟨w.heap.size + 1, 1, none⟩ = some (.int .i64 wh) := by rw [cell_of_row _ _ _ _ _ _ hSw.r1]; rfl
    go_simp
    try with_reducible rfl
  try simp only [List.getElem_toArray, List.getElem_cons_succ, List.getElem_cons_zero, Act.put, List.setIfInBounds_toArray, List.set_cons_zero, List.set_cons_succ]
  refine wpAnyH_take (i := 4) (v := ?_) rfl (by kernel_rfl) (by kernel_rfl) (by kernel_rfl) (fun c a w h => few_put (by decide) (by decide) h) (Or.inl ⟨by rfl, ?_⟩) hS ?_
  rotate_left
  · intro W hSw
    have s0 : W.cell? ⟨w.heap.size, 0, none⟩ = some (.slice ao n cap) := by rw [cell_of_row _ _ _ _ _ _ hSw.r0]; rfl
    have s1 : W.cell? ⟨w.heap.size, 1, none⟩ = some (.int .i64 fl) := by rw [cell_of_row _ _ _ _ _ _ hSw.r0]; rfl
    have s2 : W.cell? ⟨w.heap.size, 2, none⟩ = some (.int .i64 fh) := by rw [cell_of_row _ _ _ _ _ _ hSw.r0]; rfl
    have s3 : W.cell? ⟨w.heap.size + 1, 0, none⟩ = some (.int .i64 wl) := by rw [cell_of_row _ _ _ _ _ _ hSw.r1]; rfl
    have s4 : W.cell? ⟨w.heap.size + 1, 1, none⟩ = some (.int .i64 wh) := by rw [cell_of_row _ _ _ _ _ _ hSw.r1]; rfl
    go_simp
    try with_reducible rfl
  try simp only [List.getElem_toArray, List.getElem_cons_succ, List.getElem_cons_zero, Act.put, List.setIfInBounds_toArray, List.set_cons_zero, List.set_cons_succ]
  refine wpAnyH_take (i := 5) (v := ?_) rfl (by kernel_rfl) (by kernel_rfl) (by kernel_rfl) (fun c a w h => few_put (by decide) (by decide) h) (Or.inl ⟨by rfl, ?_⟩) hS ?_
  rotate_left
  · intro W hSw
    have s0 : W.cell? ⟨w.heap.size, 0, none⟩ = some (.slice ao n cap) := by rw [cell_of_row _ _ _ _ _ _ hSw.r0]; rfl
    have s1 : W.cell? ⟨w.heap.size, 1, none⟩ = some (.int .i64 fl) := by rw [cell_of_row _ _ _ _ _ _ hSw.r0]; rfl
    have s2 : W.cell? ⟨w.heap.size, 2, none⟩ = some (.int .i64 fh) := by rw [cell_of_row _ _ _ _ _ _ hSw.r0]; rfl
    have s3 : W.cell? ⟨w.heap.size + 1, 0, none⟩ = some (.int .i64 wl) := by rw [cell_of_row _ _ _ _ _ _ hSw.r1]; rfl
    have s4 : W.cell? ⟨w.heap.size + 1, 1, none⟩ = some (.int .i64 wh) := by rw [cell_of_row _ _ _ _ _ _ hSw.r1]; rfl
    go_simp
    try with_reducible rfl
  try simp only [List.getElem_toArray, List.getElem_cons_succ, List.getElem_cons_zero, Act.put, List.setIfInBounds_toArray, List.set_cons_zero, List.set_cons_succ]
  refine wpAnyH_take (i := 6) (v := ?_) rfl (by kernel_rfl) (by kernel_rfl) (by kernel_rfl) (fun c a w h => few_put (by decide) (by decide) h) (Or.inl ⟨by rfl, ?_⟩) hS ?_
  rotate_left
  · intro W hSw
    have s0 : W.cell? ⟨w.heap.size, 0, none⟩ = some (.slice ao n cap) := by rw [cell_of_row _ _ _ _ _ _ hSw.r0]; rfl
    have s1 : W.cell? ⟨w.heap.size, 1, none⟩ = some (.int .i64 fl) := by rw [cell_of_row _ _ _ _ _ _ hSw.r0]; rfl
    have s2 : W.cell? ⟨w.heap.size, 2, none⟩ = some (.int .i64 fh) := by rw [cell_of_row _ _ _ _ _ _ hSw.r0]; rfl
    have s3 : W.cell? ⟨w.heap.size + 1, 0, none⟩ = some (.int .i64 wl) := by rw [cell_of_row _ _ _ _ _ _ hSw.r1]; rfl
    have s4 : W.cell? ⟨w.heap.size + 1, 1, none⟩ = some (.int .i64 wh) := by rw [cell_of_row _ _ _ _ _ _ hSw.r1]; rfl
    go_simp
    try with_reducible rfl
  try simp only [List.getElem_toArray, List.getElem_cons_succ, List.getElem_cons_zero, Act.put, List.setIfInBounds_toArray, List.set_cons_zero, List.set_cons_succ]
  refine wpAnyH_ready (rs := [2, 11]) (by kernel_rfl) (by simp) ?_
  refine AllReadyH.cons rfl (fun K hK => ?_) (AllReadyH.cons rfl (fun K hK => ?_) AllReadyH.nil)
  · skip
    go_simp
    go_at_call 68
    refine (isWant_any (wl, wh) _).mono ?_
    rintro e W2 ⟨rfl, hb2⟩
    dsimp only
    refine hK.out _ _ (hS.below hb2) (fun hS => ?_)
    clear hK
    try simp only [List.getElem_toArray, List.getElem_cons_succ, List.getElem_cons_zero, Act.put, List.setIfInBounds_toArray, List.set_cons_zero, List.set_cons_succ]
    refine wpAnyH_ready (rs := [3, 11]) (by kernel_rfl) (by simp) ?_
    refine AllReadyH.cons rfl (fun K hK => ?_) (AllReadyH.cons rfl (fun K hK => ?_) AllReadyH.nil)
    · skip
      go_simp
      go_at_call 67
      refine (sopen_any ⟨l, (fl, fh)⟩ (.slice ao n cap) (wantOk (wl, wh)) W2 (by rw [HN.out]; exact (HBS.out.later hS.bel.size (fun k hk _ => hS.bel.block k hk)).low)).mono ?_
      rintro e W3 ⟨hb3, hor⟩
      rcases hor with ⟨hne, rfl⟩ | ⟨hz, pp, sv, rfl, hset, hpp⟩
      · dsimp only
        refine sleaf_stop (errS ⟨l, (fl, fh)⟩ (wantOk (wl, wh))) (w.heap.size + 1 + 1) 0 _ W3 (hS.below hb3).r2 (fun W' hkE heE => ?_)
        have e9 : W'.cell? ⟨w.heap.size + 1 + 1, 0, none⟩ = some (.int .i64 (errS ⟨l, (fl, fh)⟩ (wantOk (wl, wh)))) := by rw [cell_of_row _ _ _ _ _ _ heE]; rfl
        exact ⟨_, by simp [results, Tryd.results23, go_sem, e9]; rfl, by rw [fewest_errS hne], (hS.below hb3).bel.trans (hkE.below (hS.below hb3).bel.size (fun k h e => by omega))⟩
      dsimp only
      refine hK.out _ _ (hS.below hb3) (fun hS => ?_)
      clear hK
      try simp only [List.getElem_toArray, List.getElem_cons_succ, List.getElem_cons_zero, Act.put, List.setIfInBounds_toArray, List.set_cons_zero, List.set_cons_succ]
      refine wpAnyH_ready (rs := [7, 11]) (by kernel_rfl) (by simp) ?_
      refine AllReadyH.cons rfl (fun K hK => ?_) (AllReadyH.cons rfl (fun K hK => ?_) AllReadyH.nil)
      · skip
        go_simp
        go_at_call 69
        refine (all_any ⟨l, (fl, fh)⟩ (errS_valid hz) (wl, wh) pp sv W3 hset).mono ?_
        rintro e W4 ⟨⟨f, rfl, hf⟩, hb7⟩
        dsimp only
        refine hK.out _ _ (hS.below hb7) (fun hS => ?_)
        clear hK
        try simp only [List.getElem_toArray, List.getElem_cons_succ, List.getElem_cons_zero, Act.put, List.setIfInBounds_toArray, List.set_cons_zero, List.set_cons_succ]
        refine wpAnyH_take (i := 8) (v := ?_) rfl (by kernel_rfl) (by kernel_rfl) (by kernel_rfl) (fun c a w h => few_put (by decide) (by decide) h) (Or.inl ⟨by rfl, ?_⟩) hS ?_
        rotate_left
        · intro W hSw
          have s0 : W.cell? ⟨w.heap.size, 0, none⟩ = some (.slice ao n cap) := by rw [cell_of_row _ _ _ _ _ _ hSw.r0]; rfl
          have s1 : W.cell? ⟨w.heap.size, 1, none⟩ = some (.int .i64 fl) := by rw [cell_of_row _ _ _ _ _ _ hSw.r0]; rfl
          have s2 : W.cell? ⟨w.heap.size, 2, none⟩ = some (.int .i64 fh) := by rw [cell_of_row _ _ _ _ _ _ hSw.r0]; rfl
          have s3 : W.cell? ⟨w.heap.size + 1, 0, none⟩ = some (.int .i64 wl) := by rw [cell_of_row _ _ _ _ _ _ hSw.r1]; rfl
          have s4 : W.cell? ⟨w.heap.size + 1, 1, none⟩ = some (.int .i64 wh) := by rw [cell_of_row _ _ _ _ _ _ hSw.r1]; rfl
          go_simp
          try with_reducible rfl
        try simp only [List.getElem_toArray, List.getElem_cons_succ, List.getElem_cons_zero, Act.put, List.setIfInBounds_toArray, List.set_cons_zero, List.set_cons_succ]
        refine wpAnyH_take (i := 9) (v := ?_) rfl (by kernel_rfl) (by kernel_rfl) (by kernel_rfl) (fun c a w h => few_put (by decide) (by decide) h) (Or.inl ⟨by rfl, ?_⟩) hS ?_
        rotate_left
        · intro W hSw
          have s0 : W.cell? ⟨w.heap.size, 0, none⟩ = some (.slice ao n cap) := by rw [cell_of_row _ _ _ _ _ _ hSw.r0]; rfl
          have s1 : W.cell? ⟨w.heap.size, 1, none⟩ = some (.int .i64 fl) := by rw [cell_of_row _ _ _ _ _ _ hSw.r0]; rfl
          have s2 : W.cell? ⟨w.heap.size, 2, none⟩ = some (.int .i64 fh) := by rw [cell_of_row _ _ _ _ _ _ hSw.r0]; rfl
          have s3 : W.cell? ⟨w.heap.size + 1, 0, none⟩ = some (.int .i64 wl) := by rw [cell_of_row _ _ _ _ _ _ hSw.r1]; rfl
          have s4 : W.cell? ⟨w.heap.size + 1, 1, none⟩ = some (.int .i64 wh) := by rw [cell_of_row _ _ _ _ _ _ hSw.r1]; rfl
          go_simp
          try with_reducible rfl
        try simp only [List.getElem_toArray, List.getElem_cons_succ, List.getElem_cons_zero, Act.put, List.setIfInBounds_toArray, List.set_cons_zero, List.set_cons_succ]
        refine wpAnyH_take (i := 10) (v := ?_) rfl (by kernel_rfl) (by kernel_rfl) (by kernel_rfl) (fun c a w h => few_put (by decide) (by decide) h) (Or.inl ⟨by rfl, ?_⟩) hS ?_
        rotate_left
        · intro W hSw
          have s0 : W.cell? ⟨w.heap.size, 0, none⟩ = some (.slice ao n cap) := by rw [cell_of_row _ _ _ _ _ _ hSw.r0]; rfl
          have s1 : W.cell? ⟨w.heap.size, 1, none⟩ = some (.int .i64 fl) := by rw [cell_of_row _ _ _ _ _ _ hSw.r0]; rfl
          have s2 : W.cell? ⟨w.heap.size, 2, none⟩ = some (.int .i64 fh) := by rw [cell_of_row _ _ _ _ _ _ hSw.r0]; rfl
          have s3 : W.cell? ⟨w.heap.size + 1, 0, none⟩ = some (.int .i64 wl) := by rw [cell_of_row _ _ _ _ _ _ hSw.r1]; rfl
          have s4 : W.cell? ⟨w.heap.size + 1, 1, none⟩ = some (.int .i64 wh) := by rw [cell_of_row _ _ _ _ _ _ hSw.r1]; rfl
          go_simp
          try with_reducible rfl
        try simp only [List.getElem_toArray, List.getElem_cons_succ, List.getElem_cons_zero, Act.put, List.setIfInBounds_toArray, List.set_cons_zero, List.set_cons_succ]
        refine wpAnyH_ready (rs := [11]) (by kernel_rfl) (by simp) ?_
        refine AllReadyH.cons rfl (fun K hK => ?_) AllReadyH.nil
        go_simp
        obtain ⟨p, hp⟩ : ∃ x, x = W4.heap.size := ⟨_, rfl⟩
        rw [← hp]
        obtain ⟨W5, hW5⟩ : ∃ x, x = W4.alloc (.cells #[.int .i64 0, .int .u64 0, .int .u64 0, .int .u64 0] 107) := ⟨_, rfl⟩
        rw [← hW5]
        have hba : Below W4.heap.size W4 W5 := by rw [hW5]; exact (Below.refl _ _).alloc (Nat.le_refl _) _
        have hrp : W5.heap[p]? = some (.cells #[.int .i64 0, .int .u64 0, .int .u64 0, .int .u64 0] 107 (0, 0)) := by rw [hW5, hp]; exact heap_alloc_at _ _ _ rfl
        have hpw : w.heap.size + 1 + 1 < p := by rw [hp]; exact lt_of_block hS.r2
        refine hK.out _ _ (hS.below hba) (fun hS => ?_)
        clear hK hW5 hp
        try simp only [List.getElem_toArray, List.getElem_cons_succ, List.getElem_cons_zero, Act.put, List.setIfInBounds_toArray, List.set_cons_zero, List.set_cons_succ]
        have hk7 := keeps_setRow W5 p #[.int .i64 f.many, .int .u64 f.least, .int .u64 f.each, .int .u64 f.some]
        have hr7 := setRow_heap W5 p _ #[.int .i64 f.many, .int .u64 f.least, .int .u64 f.each, .int .u64 f.some] _ _ hrp
        have hst := run_store_row (P := Tryd.prog) (o := { dst := none, op := Op.store 107 (.tmp 6) (.tmp 17), type := 0, pos := "", after := #[], guard := none }) (ρ := fun x => match x with | .tmp 6 => .pointer (some ⟨p, 0, none⟩) | _ => encF f) (w := W5) 107 (.tmp 6) (.tmp 17) rfl p #[.int .i64 f.many, .int .u64 f.least, .int .u64 f.each, .int .u64 f.some] rfl rfl 107 _ hrp (by kernel_rfl) rfl (by simp [Value.oneCell'])
        clear hst
        obtain ⟨WZ, hWZ⟩ : ∃ x, x = W5.setRow p #[.int .i64 f.many, .int .u64 f.least, .int .u64 f.each, .int .u64 f.some] := ⟨_, rfl⟩
        rw [← hWZ] at hk7 hr7
        have hSZ : FewW ao n cap fl fh wl wh w WZ := ⟨(hk7.block _ (lt_of_block hS.r0) (by omega)).trans hS.r0, (hk7.block _ (lt_of_block hS.r1) (by omega)).trans hS.r1, (hk7.block _ (lt_of_block hS.r2) (by omega)).trans hS.r2, hS.bel.trans (hk7.below hS.bel.size (fun k h1 h2 => by omega))⟩
        refine wpAnyH_skip (k := 12) (w' := WZ) (by kernel_rfl) rfl rfl ?_ hSZ ?_
        · rw [hWZ]
          exact run_store_row 107 (.tmp 6) (.tmp 17) rfl p #[.int .i64 f.many, .int .u64 f.least, .int .u64 f.each, .int .u64 f.some] rfl rfl 107 _ hrp (by kernel_rfl) rfl (by simp [Value.oneCell'])
        refine wpAnyH_value (k := 13) (w' := WZ) (by kernel_rfl) rfl rfl rfl hSZ ?_
        refine wpAnyH_done (by kernel_rfl) ?_ _
        try simp only [List.getElem_toArray, List.getElem_cons_succ, List.getElem_cons_zero, Act.put, List.setIfInBounds_toArray, List.set_cons_zero, List.set_cons_succ]
        have HSZ := Lib.hid hSZ
        have HR7 := Lib.hid hr7
        have HF := Lib.hid hf
        have HZ := Lib.hid hz
        clear hk7 hr7 hSZ hWZ hS hf hrp hset
        cases hle : leastJ (rightsS ⟨l, (fl, fh)⟩ (wl, wh)) with
        | none =>
          have HLE := Lib.hid hle
          clear hle
          simp only [Option.isSome_none]
          go_wp2_with fail
          refine (sask_no 4 _).mono ?_
          rintro e w9 ⟨rfl, rfl⟩
          dsimp only
          go_wp2_with fail
          refine sleaf_stop (4) (w.heap.size + 1 + 1) 0 _ WZ (HSZ.out).r2 (fun W' hkE heE => ?_)
          have e9 : W'.cell? ⟨w.heap.size + 1 + 1, 0, none⟩ = some (.int .i64 (4)) := by rw [cell_of_row _ _ _ _ _ _ heE]; rfl
          exact ⟨_, by simp [results, Tryd.results23, go_sem, e9]; rfl, by rw [fewest_noneS HZ.out HLE.out], (HSZ.out).bel.trans (hkE.below (HSZ.out).bel.size (fun k h e => by omega))⟩
        | some t =>
          have HLE := Lib.hid hle
          have hft := HF.out t hle
          have ht := least_lt (errS_valid HZ.out) hle
          clear hle
          simp only [Option.isSome_some]
          have q1 : WZ.cell? ⟨p, 1, none⟩ = some (.int .u64 t) := by rw [cell_of_row _ _ _ _ _ _ HR7.out, ← hft]; rfl
          have q2 : WZ.cell? ⟨w.heap.size + 1 + 1, 0, none⟩ = some (.int .i64 0) := by rw [cell_of_row _ _ _ _ _ _ HSZ.out.r2]; rfl
          have q3 : WZ.frozen? ⟨w.heap.size + 1 + 1, 0, none⟩ = false := frozen_of_row _ _ _ _ _ HSZ.out.r2
          have hcv : IntKind.i64.wrap (t : Int) = (t : Int) := IntWalk.i64_in _ (by omega)
          have HFT := Lib.hid hft
          clear hft
          go_wp2_with fail
          refine (sask_ok 4 _).mono ?_
          rintro e w9 ⟨rfl, rfl⟩
          dsimp only
          go_wp2_with fail
          refine sleaf_ret (w.heap.size + 1 + 1) _ _ ?_
          have x9 : (WZ.setCell ⟨w.heap.size + 1 + 1, 0, none⟩ (.int .i64 0)).heap[w.heap.size + 1 + 1]? = some (.cells #[.int .i64 0] 33 (0, 0)) := by
            have := HSZ.out.r2
            simp [World.setCell, Array.getElem?_modify, this]
          have e9 : (WZ.setCell ⟨w.heap.size + 1 + 1, 0, none⟩ (.int .i64 0)).cell? ⟨w.heap.size + 1 + 1, 0, none⟩ = some (.int .i64 0) := by rw [cell_of_row _ _ _ _ _ _ x9]; rfl
          exact ⟨_, by simp [results, Tryd.results23, go_sem, e9]; rfl, by rw [fewest_someS HZ.out HLE.out], HSZ.out.bel.setCell (by simp; try omega) _⟩
      · skip
        go_simp
        obtain ⟨p, hp⟩ : ∃ x, x = W3.heap.size := ⟨_, rfl⟩
        rw [← hp]
        obtain ⟨W4, hW4⟩ : ∃ x, x = W3.alloc (.cells #[.int .i64 0, .int .u64 0, .int .u64 0, .int .u64 0] 107) := ⟨_, rfl⟩
        rw [← hW4]
        have hba : Below W3.heap.size W3 W4 := by rw [hW4]; exact (Below.refl _ _).alloc (Nat.le_refl _) _
        have hrp : W4.heap[p]? = some (.cells #[.int .i64 0, .int .u64 0, .int .u64 0, .int .u64 0] 107 (0, 0)) := by rw [hW4, hp]; exact heap_alloc_at _ _ _ rfl
        have hpw : w.heap.size + 1 + 1 < p := by rw [hp]; exact lt_of_block hS.r2
        refine hK.out _ _ (hS.below hba) (fun hS => ?_)
        clear hK hW4 hp
        try simp only [List.getElem_toArray, List.getElem_cons_succ, List.getElem_cons_zero, Act.put, List.setIfInBounds_toArray, List.set_cons_zero, List.set_cons_succ]
        refine wpAnyH_ready (rs := [7]) (by kernel_rfl) (by simp) ?_
        refine AllReadyH.cons rfl (fun K hK => ?_) AllReadyH.nil
        have hset := hset.later hba
        go_simp
        go_at_call 69
        refine (all_any ⟨l, (fl, fh)⟩ (errS_valid hz) (wl, wh) pp sv W4 hset).mono ?_
        rintro e W5 ⟨⟨f, rfl, hf⟩, hb7⟩
        dsimp only
        refine hK.out _ _ (hS.below hb7) (fun hS => ?_)
        clear hK
        try simp only [List.getElem_toArray, List.getElem_cons_succ, List.getElem_cons_zero, Act.put, List.setIfInBounds_toArray, List.set_cons_zero, List.set_cons_succ]
        have hrp := (hb7.block p (lt_of_block hrp)).trans hrp
        refine wpAnyH_take (i := 8) (v := ?_) rfl (by kernel_rfl) (by kernel_rfl) (by kernel_rfl) (fun c a w h => few_put (by decide) (by decide) h) (Or.inl ⟨by rfl, ?_⟩) hS ?_
        rotate_left
        · intro W hSw
          have s0 : W.cell? ⟨w.heap.size, 0, none⟩ = some (.slice ao n cap) := by rw [cell_of_row _ _ _ _ _ _ hSw.r0]; rfl
          have s1 : W.cell? ⟨w.heap.size, 1, none⟩ = some (.int .i64 fl) := by rw [cell_of_row _ _ _ _ _ _ hSw.r0]; rfl
          have s2 : W.cell? ⟨w.heap.size, 2, none⟩ = some (.int .i64 fh) := by rw [cell_of_row _ _ _ _ _ _ hSw.r0]; rfl
          have s3 : W.cell? ⟨w.heap.size + 1, 0, none⟩ = some (.int .i64 wl) := by rw [cell_of_row _ _ _ _ _ _ hSw.r1]; rfl
          have s4 : W.cell? ⟨w.heap.size + 1, 1, none⟩ = some (.int .i64 wh) := by rw [cell_of_row _ _ _ _ _ _ hSw.r1]; rfl
          go_simp
          try with_reducible rfl
        try simp only [List.getElem_toArray, List.getElem_cons_succ, List.getElem_cons_zero, Act.put, List.setIfInBounds_toArray, List.set_cons_zero, List.set_cons_succ]
        refine wpAnyH_take (i := 9) (v := ?_) rfl (by kernel_rfl) (by kernel_rfl) (by kernel_rfl) (fun c a w h => few_put (by decide) (by decide) h) (Or.inl ⟨by rfl, ?_⟩) hS ?_
        rotate_left
        · intro W hSw
          have s0 : W.cell? ⟨w.heap.size, 0, none⟩ = some (.slice ao n cap) := by rw [cell_of_row _ _ _ _ _ _ hSw.r0]; rfl
          have s1 : W.cell? ⟨w.heap.size, 1, none⟩ = some (.int .i64 fl) := by rw [cell_of_row _ _ _ _ _ _ hSw.r0]; rfl
          have s2 : W.cell? ⟨w.heap.size, 2, none⟩ = some (.int .i64 fh) := by rw [cell_of_row _ _ _ _ _ _ hSw.r0]; rfl
          have s3 : W.cell? ⟨w.heap.size + 1, 0, none⟩ = some (.int .i64 wl) := by rw [cell_of_row _ _ _ _ _ _ hSw.r1]; rfl
          have s4 : W.cell? ⟨w.heap.size + 1, 1, none⟩ = some (.int .i64 wh) := by rw [cell_of_row _ _ _ _ _ _ hSw.r1]; rfl
          go_simp
          try with_reducible rfl
        try simp only [List.getElem_toArray, List.getElem_cons_succ, List.getElem_cons_zero, Act.put, List.setIfInBounds_toArray, List.set_cons_zero, List.set_cons_succ]
        refine wpAnyH_take (i := 10) (v := ?_) rfl (by kernel_rfl) (by kernel_rfl) (by kernel_rfl) (fun c a w h => few_put (by decide) (by decide) h) (Or.inl ⟨by rfl, ?_⟩) hS ?_
        rotate_left
        · intro W hSw
          have s0 : W.cell? ⟨w.heap.size, 0, none⟩ = some (.slice ao n cap) := by rw [cell_of_row _ _ _ _ _ _ hSw.r0]; rfl
          have s1 : W.cell? ⟨w.heap.size, 1, none⟩ = some (.int .i64 fl) := by rw [cell_of_row _ _ _ _ _ _ hSw.r0]; rfl
          have s2 : W.cell? ⟨w.heap.size, 2, none⟩ = some (.int .i64 fh) := by rw [cell_of_row _ _ _ _ _ _ hSw.r0]; rfl
          have s3 : W.cell? ⟨w.heap.size + 1, 0, none⟩ = some (.int .i64 wl) := by rw [cell_of_row _ _ _ _ _ _ hSw.r1]; rfl
          have s4 : W.cell? ⟨w.heap.size + 1, 1, none⟩ = some (.int .i64 wh) := by rw [cell_of_row _ _ _ _ _ _ hSw.r1]; rfl
          go_simp
          try with_reducible rfl
        try simp only [List.getElem_toArray, List.getElem_cons_succ, List.getElem_cons_zero, Act.put, List.setIfInBounds_toArray, List.set_cons_zero, List.set_cons_succ]
        have hk7 := keeps_setRow W5 p #[.int .i64 f.many, .int .u64 f.least, .int .u64 f.each, .int .u64 f.some]
        have hr7 := setRow_heap W5 p _ #[.int .i64 f.many, .int .u64 f.least, .int .u64 f.each, .int .u64 f.some] _ _ hrp
        have hst := run_store_row (P := Tryd.prog) (o := { dst := none, op := Op.store 107 (.tmp 6) (.tmp 17), type := 0, pos := "", after := #[], guard := none }) (ρ := fun x => match x with | .tmp 6 => .pointer (some ⟨p, 0, none⟩) | _ => encF f) (w := W5) 107 (.tmp 6) (.tmp 17) rfl p #[.int .i64 f.many, .int .u64 f.least, .int .u64 f.each, .int .u64 f.some] rfl rfl 107 _ hrp (by kernel_rfl) rfl (by simp [Value.oneCell'])
        clear hst
        obtain ⟨WZ, hWZ⟩ : ∃ x, x = W5.setRow p #[.int .i64 f.many, .int .u64 f.least, .int .u64 f.each, .int .u64 f.some] := ⟨_, rfl⟩
        rw [← hWZ] at hk7 hr7
        have hSZ : FewW ao n cap fl fh wl wh w WZ := ⟨(hk7.block _ (lt_of_block hS.r0) (by omega)).trans hS.r0, (hk7.block _ (lt_of_block hS.r1) (by omega)).trans hS.r1, (hk7.block _ (lt_of_block hS.r2) (by omega)).trans hS.r2, hS.bel.trans (hk7.below hS.bel.size (fun k h1 h2 => by omega))⟩
        refine wpAnyH_skip (k := 12) (w' := WZ) (by kernel_rfl) rfl rfl ?_ hSZ ?_
        · rw [hWZ]
          exact run_store_row 107 (.tmp 6) (.tmp 17) rfl p #[.int .i64 f.many, .int .u64 f.least, .int .u64 f.each, .int .u64 f.some] rfl rfl 107 _ hrp (by kernel_rfl) rfl (by simp [Value.oneCell'])
        refine wpAnyH_value (k := 13) (w' := WZ) (by kernel_rfl) rfl rfl rfl hSZ ?_
        refine wpAnyH_done (by kernel_rfl) ?_ _
        try simp only [List.getElem_toArray, List.getElem_cons_succ, List.getElem_cons_zero, Act.put, List.setIfInBounds_toArray, List.set_cons_zero, List.set_cons_succ]
        have HSZ := Lib.hid hSZ
        have HR7 := Lib.hid hr7
        have HF := Lib.hid hf
        have HZ := Lib.hid hz
        clear hk7 hr7 hSZ hWZ hS hf hrp hset
        cases hle : leastJ (rightsS ⟨l, (fl, fh)⟩ (wl, wh)) with
        | none =>
          have HLE := Lib.hid hle
          clear hle
          simp only [Option.isSome_none]
          go_wp2_with fail
          refine (sask_no 4 _).mono ?_
          rintro e w9 ⟨rfl, rfl⟩
          dsimp only
          go_wp2_with fail
          refine sleaf_stop (4) (w.heap.size + 1 + 1) 0 _ WZ (HSZ.out).r2 (fun W' hkE heE => ?_)
          have e9 : W'.cell? ⟨w.heap.size + 1 + 1, 0, none⟩ = some (.int .i64 (4)) := by rw [cell_of_row _ _ _ _ _ _ heE]; rfl
          exact ⟨_, by simp [results, Tryd.results23, go_sem, e9]; rfl, by rw [fewest_noneS HZ.out HLE.out], (HSZ.out).bel.trans (hkE.below (HSZ.out).bel.size (fun k h e => by omega))⟩
        | some t =>
          have HLE := Lib.hid hle
          have hft := HF.out t hle
          have ht := least_lt (errS_valid HZ.out) hle
          clear hle
          simp only [Option.isSome_some]
          have q1 : WZ.cell? ⟨p, 1, none⟩ = some (.int .u64 t) := by rw [cell_of_row _ _ _ _ _ _ HR7.out, ← hft]; rfl
          have q2 : WZ.cell? ⟨w.heap.size + 1 + 1, 0, none⟩ = some (.int .i64 0) := by rw [cell_of_row _ _ _ _ _ _ HSZ.out.r2]; rfl
          have q3 : WZ.frozen? ⟨w.heap.size + 1 + 1, 0, none⟩ = false := frozen_of_row _ _ _ _ _ HSZ.out.r2
          have hcv : IntKind.i64.wrap (t : Int) = (t : Int) := IntWalk.i64_in _ (by omega)
          have HFT := Lib.hid hft
          clear hft
          go_wp2_with fail
          refine (sask_ok 4 _).mono ?_
          rintro e w9 ⟨rfl, rfl⟩
          dsimp only
          go_wp2_with fail
          refine sleaf_ret (w.heap.size + 1 + 1) _ _ ?_
          have x9 : (WZ.setCell ⟨w.heap.size + 1 + 1, 0, none⟩ (.int .i64 0)).heap[w.heap.size + 1 + 1]? = some (.cells #[.int .i64 0] 33 (0, 0)) := by
            have := HSZ.out.r2
            simp [World.setCell, Array.getElem?_modify, this]
          have e9 : (WZ.setCell ⟨w.heap.size + 1 + 1, 0, none⟩ (.int .i64 0)).cell? ⟨w.heap.size + 1 + 1, 0, none⟩ = some (.int .i64 0) := by rw [cell_of_row _ _ _ _ _ _ x9]; rfl
          exact ⟨_, by simp [results, Tryd.results23, go_sem, e9]; rfl, by rw [fewest_someS HZ.out HLE.out], HSZ.out.bel.setCell (by simp; try omega) _⟩
    · skip
      go_simp
      obtain ⟨p, hp⟩ : ∃ x, x = W2.heap.size := ⟨_, rfl⟩
      rw [← hp]
      obtain ⟨W3, hW3⟩ : ∃ x, x = W2.alloc (.cells #[.int .i64 0, .int .u64 0, .int .u64 0, .int .u64 0] 107) := ⟨_, rfl⟩
      rw [← hW3]
      have hba : Below W2.heap.size W2 W3 := by rw [hW3]; exact (Below.refl _ _).alloc (Nat.le_refl _) _
      have hrp : W3.heap[p]? = some (.cells #[.int .i64 0, .int .u64 0, .int .u64 0, .int .u64 0] 107 (0, 0)) := by rw [hW3, hp]; exact heap_alloc_at _ _ _ rfl
      have hpw : w.heap.size + 1 + 1 < p := by rw [hp]; exact lt_of_block hS.r2
      refine hK.out _ _ (hS.below hba) (fun hS => ?_)
      clear hK hW3 hp
      try simp only [List.getElem_toArray, List.getElem_cons_succ, List.getElem_cons_zero, Act.put, List.setIfInBounds_toArray, List.set_cons_zero, List.set_cons_succ]
      refine wpAnyH_ready (rs := [3]) (by kernel_rfl) (by simp) ?_
      refine AllReadyH.cons rfl (fun K hK => ?_) AllReadyH.nil
      go_simp
      go_at_call 67
      refine (sopen_any ⟨l, (fl, fh)⟩ (.slice ao n cap) (wantOk (wl, wh)) W3 (by rw [HN.out]; exact (HBS.out.later hS.bel.size (fun k hk _ => hS.bel.block k hk)).low)).mono ?_
      rintro e W4 ⟨hb3, hor⟩
      rcases hor with ⟨hne, rfl⟩ | ⟨hz, pp, sv, rfl, hset, hpp⟩
      · dsimp only
        refine sleaf_stop (errS ⟨l, (fl, fh)⟩ (wantOk (wl, wh))) (w.heap.size + 1 + 1) 0 _ W4 (hS.below hb3).r2 (fun W' hkE heE => ?_)
        have e9 : W'.cell? ⟨w.heap.size + 1 + 1, 0, none⟩ = some (.int .i64 (errS ⟨l, (fl, fh)⟩ (wantOk (wl, wh)))) := by rw [cell_of_row _ _ _ _ _ _ heE]; rfl
        exact ⟨_, by simp [results, Tryd.results23, go_sem, e9]; rfl, by rw [fewest_errS hne], (hS.below hb3).bel.trans (hkE.below (hS.below hb3).bel.size (fun k h e => by omega))⟩
      dsimp only
      refine hK.out _ _ (hS.below hb3) (fun hS => ?_)
      clear hK
      try simp only [List.getElem_toArray, List.getElem_cons_succ, List.getElem_cons_zero, Act.put, List.setIfInBounds_toArray, List.set_cons_zero, List.set_cons_succ]
      have hrp := (hb3.block p (lt_of_block hrp)).trans hrp
      refine wpAnyH_ready (rs := [7]) (by kernel_rfl) (by simp) ?_
      refine AllReadyH.cons rfl (fun K hK => ?_) AllReadyH.nil
      go_simp
      go_at_call 69
      refine (all_any ⟨l, (fl, fh)⟩ (errS_valid hz) (wl, wh) pp sv W4 hset).mono ?_
      rintro e W5 ⟨⟨f, rfl, hf⟩, hb7⟩
      dsimp only
      refine hK.out _ _ (hS.below hb7) (fun hS => ?_)
      clear hK
      try simp only [List.getElem_toArray, List.getElem_cons_succ, List.getElem_cons_zero, Act.put, List.setIfInBounds_toArray, List.set_cons_zero, List.set_cons_succ]
      have hrp := (hb7.block p (lt_of_block hrp)).trans hrp
      refine wpAnyH_take (i := 8) (v := ?_) rfl (by kernel_rfl) (by kernel_rfl) (by kernel_rfl) (fun c a w h => few_put (by decide) (by decide) h) (Or.inl ⟨by rfl, ?_⟩) hS ?_
      rotate_left
      · intro W hSw
        have s0 : W.cell? ⟨w.heap.size, 0, none⟩ = some (.slice ao n cap) := by rw [cell_of_row _ _ _ _ _ _ hSw.r0]; rfl
        have s1 : W.cell? ⟨w.heap.size, 1, none⟩ = some (.int .i64 fl) := by rw [cell_of_row _ _ _ _ _ _ hSw.r0]; rfl
        have s2 : W.cell? ⟨w.heap.size, 2, none⟩ = some (.int .i64 fh) := by rw [cell_of_row _ _ _ _ _ _ hSw.r0]; rfl
        have s3 : W.cell? ⟨w.heap.size + 1, 0, none⟩ = some (.int .i64 wl) := by rw [cell_of_row _ _ _ _ _ _ hSw.r1]; rfl
        have s4 : W.cell? ⟨w.heap.size + 1, 1, none⟩ = some (.int .i64 wh) := by rw [cell_of_row _ _ _ _ _ _ hSw.r1]; rfl
        go_simp
        try with_reducible rfl
      try simp only [List.getElem_toArray, List.getElem_cons_succ, List.getElem_cons_zero, Act.put, List.setIfInBounds_toArray, List.set_cons_zero, List.set_cons_succ]
      refine wpAnyH_take (i := 9) (v := ?_) rfl (by kernel_rfl) (by kernel_rfl) (by kernel_rfl) (fun c a w h => few_put (by decide) (by decide) h) (Or.inl ⟨by rfl, ?_⟩) hS ?_
      rotate_left
      · intro W hSw
        have s0 : W.cell? ⟨w.heap.size, 0, none⟩ = some (.slice ao n cap) := by rw [cell_of_row _ _ _ _ _ _ hSw.r0]; rfl
        have s1 : W.cell? ⟨w.heap.size, 1, none⟩ = some (.int .i64 fl) := by rw [cell_of_row _ _ _ _ _ _ hSw.r0]; rfl
        have s2 : W.cell? ⟨w.heap.size, 2, none⟩ = some (.int .i64 fh) := by rw [cell_of_row _ _ _ _ _ _ hSw.r0]; rfl
        have s3 : W.cell? ⟨w.heap.size + 1, 0, none⟩ = some (.int .i64 wl) := by rw [cell_of_row _ _ _ _ _ _ hSw.r1]; rfl
        have s4 : W.cell? ⟨w.heap.size + 1, 1, none⟩ = some (.int .i64 wh) := by rw [cell_of_row _ _ _ _ _ _ hSw.r1]; rfl
        go_simp
        try with_reducible rfl
      try simp only [List.getElem_toArray, List.getElem_cons_succ, List.getElem_cons_zero, Act.put, List.setIfInBounds_toArray, List.set_cons_zero, List.set_cons_succ]
      refine wpAnyH_take (i := 10) (v := ?_) rfl (by kernel_rfl) (by kernel_rfl) (by kernel_rfl) (fun c a w h => few_put (by decide) (by decide) h) (Or.inl ⟨by rfl, ?_⟩) hS ?_
      rotate_left
      · intro W hSw
        have s0 : W.cell? ⟨w.heap.size, 0, none⟩ = some (.slice ao n cap) := by rw [cell_of_row _ _ _ _ _ _ hSw.r0]; rfl
        have s1 : W.cell? ⟨w.heap.size, 1, none⟩ = some (.int .i64 fl) := by rw [cell_of_row _ _ _ _ _ _ hSw.r0]; rfl
        have s2 : W.cell? ⟨w.heap.size, 2, none⟩ = some (.int .i64 fh) := by rw [cell_of_row _ _ _ _ _ _ hSw.r0]; rfl
        have s3 : W.cell? ⟨w.heap.size + 1, 0, none⟩ = some (.int .i64 wl) := by rw [cell_of_row _ _ _ _ _ _ hSw.r1]; rfl
        have s4 : W.cell? ⟨w.heap.size + 1, 1, none⟩ = some (.int .i64 wh) := by rw [cell_of_row _ _ _ _ _ _ hSw.r1]; rfl
        go_simp
        try with_reducible rfl
      try simp only [List.getElem_toArray, List.getElem_cons_succ, List.getElem_cons_zero, Act.put, List.setIfInBounds_toArray, List.set_cons_zero, List.set_cons_succ]
      have hk7 := keeps_setRow W5 p #[.int .i64 f.many, .int .u64 f.least, .int .u64 f.each, .int .u64 f.some]
      have hr7 := setRow_heap W5 p _ #[.int .i64 f.many, .int .u64 f.least, .int .u64 f.each, .int .u64 f.some] _ _ hrp
      have hst := run_store_row (P := Tryd.prog) (o := { dst := none, op := Op.store 107 (.tmp 6) (.tmp 17), type := 0, pos := "", after := #[], guard := none }) (ρ := fun x => match x with | .tmp 6 => .pointer (some ⟨p, 0, none⟩) | _ => encF f) (w := W5) 107 (.tmp 6) (.tmp 17) rfl p #[.int .i64 f.many, .int .u64 f.least, .int .u64 f.each, .int .u64 f.some] rfl rfl 107 _ hrp (by kernel_rfl) rfl (by simp [Value.oneCell'])
      clear hst
      obtain ⟨WZ, hWZ⟩ : ∃ x, x = W5.setRow p #[.int .i64 f.many, .int .u64 f.least, .int .u64 f.each, .int .u64 f.some] := ⟨_, rfl⟩
      rw [← hWZ] at hk7 hr7
      have hSZ : FewW ao n cap fl fh wl wh w WZ := ⟨(hk7.block _ (lt_of_block hS.r0) (by omega)).trans hS.r0, (hk7.block _ (lt_of_block hS.r1) (by omega)).trans hS.r1, (hk7.block _ (lt_of_block hS.r2) (by omega)).trans hS.r2, hS.bel.trans (hk7.below hS.bel.size (fun k h1 h2 => by omega))⟩
      refine wpAnyH_skip (k := 12) (w' := WZ) (by kernel_rfl) rfl rfl ?_ hSZ ?_
      · rw [hWZ]
        exact run_store_row 107 (.tmp 6) (.tmp 17) rfl p #[.int .i64 f.many, .int .u64 f.least, .int .u64 f.each, .int .u64 f.some] rfl rfl 107 _ hrp (by kernel_rfl) rfl (by simp [Value.oneCell'])
      refine wpAnyH_value (k := 13) (w' := WZ) (by kernel_rfl) rfl rfl rfl hSZ ?_
      refine wpAnyH_done (by kernel_rfl) ?_ _
      try simp only [List.getElem_toArray, List.getElem_cons_succ, List.getElem_cons_zero, Act.put, List.setIfInBounds_toArray, List.set_cons_zero, List.set_cons_succ]
      have HSZ := Lib.hid hSZ
      have HR7 := Lib.hid hr7
      have HF := Lib.hid hf
      have HZ := Lib.hid hz
      clear hk7 hr7 hSZ hWZ hS hf hrp hset
      cases hle : leastJ (rightsS ⟨l, (fl, fh)⟩ (wl, wh)) with
      | none =>
        have HLE := Lib.hid hle
        clear hle
        simp only [Option.isSome_none]
        go_wp2_with fail
        refine (sask_no 4 _).mono ?_
        rintro e w9 ⟨rfl, rfl⟩
        dsimp only
        go_wp2_with fail
        refine sleaf_stop (4) (w.heap.size + 1 + 1) 0 _ WZ (HSZ.out).r2 (fun W' hkE heE => ?_)
        have e9 : W'.cell? ⟨w.heap.size + 1 + 1, 0, none⟩ = some (.int .i64 (4)) := by rw [cell_of_row _ _ _ _ _ _ heE]; rfl
        exact ⟨_, by simp [results, Tryd.results23, go_sem, e9]; rfl, by rw [fewest_noneS HZ.out HLE.out], (HSZ.out).bel.trans (hkE.below (HSZ.out).bel.size (fun k h e => by omega))⟩
      | some t =>
        have HLE := Lib.hid hle
        have hft := HF.out t hle
        have ht := least_lt (errS_valid HZ.out) hle
        clear hle
        simp only [Option.isSome_some]
        have q1 : WZ.cell? ⟨p, 1, none⟩ = some (.int .u64 t) := by rw [cell_of_row _ _ _ _ _ _ HR7.out, ← hft]; rfl
        have q2 : WZ.cell? ⟨w.heap.size + 1 + 1, 0, none⟩ = some (.int .i64 0) := by rw [cell_of_row _ _ _ _ _ _ HSZ.out.r2]; rfl
        have q3 : WZ.frozen? ⟨w.heap.size + 1 + 1, 0, none⟩ = false := frozen_of_row _ _ _ _ _ HSZ.out.r2
        have hcv : IntKind.i64.wrap (t : Int) = (t : Int) := IntWalk.i64_in _ (by omega)
        have HFT := Lib.hid hft
        clear hft
        go_wp2_with fail
        refine (sask_ok 4 _).mono ?_
        rintro e w9 ⟨rfl, rfl⟩
        dsimp only
        go_wp2_with fail
        refine sleaf_ret (w.heap.size + 1 + 1) _ _ ?_
        have x9 : (WZ.setCell ⟨w.heap.size + 1 + 1, 0, none⟩ (.int .i64 0)).heap[w.heap.size + 1 + 1]? = some (.cells #[.int .i64 0] 33 (0, 0)) := by
          have := HSZ.out.r2
          simp [World.setCell, Array.getElem?_modify, this]
        have e9 : (WZ.setCell ⟨w.heap.size + 1 + 1, 0, none⟩ (.int .i64 0)).cell? ⟨w.heap.size + 1 + 1, 0, none⟩ = some (.int .i64 0) := by rw [cell_of_row _ _ _ _ _ _ x9]; rfl
        exact ⟨_, by simp [results, Tryd.results23, go_sem, e9]; rfl, by rw [fewest_someS HZ.out HLE.out], HSZ.out.bel.setCell (by simp; try omega) _⟩
  · skip
    go_simp
    obtain ⟨p, hp⟩ : ∃ x, x = W1.heap.size := ⟨_, rfl⟩
    rw [← hp]
    obtain ⟨W2, hW2⟩ : ∃ x, x = W1.alloc (.cells #[.int .i64 0, .int .u64 0, .int .u64 0, .int .u64 0] 107) := ⟨_, rfl⟩
    rw [← hW2]
    have hba : Below W1.heap.size W1 W2 := by rw [hW2]; exact (Below.refl _ _).alloc (Nat.le_refl _) _
    have hrp : W2.heap[p]? = some (.cells #[.int .i64 0, .int .u64 0, .int .u64 0, .int .u64 0] 107 (0, 0)) := by rw [hW2, hp]; exact heap_alloc_at _ _ _ rfl
    have hpw : w.heap.size + 1 + 1 < p := by rw [hp]; exact lt_of_block hS.r2
    refine hK.out _ _ (hS.below hba) (fun hS => ?_)
    clear hK hW2 hp
    try simp only [List.getElem_toArray, List.getElem_cons_succ, List.getElem_cons_zero, Act.put, List.setIfInBounds_toArray, List.set_cons_zero, List.set_cons_succ]
    refine wpAnyH_ready (rs := [2]) (by kernel_rfl) (by simp) ?_
    refine AllReadyH.cons rfl (fun K hK => ?_) AllReadyH.nil
    go_simp
    go_at_call 68
    refine (isWant_any (wl, wh) _).mono ?_
    rintro e W3 ⟨rfl, hb2⟩
    dsimp only
    refine hK.out _ _ (hS.below hb2) (fun hS => ?_)
    clear hK
    try simp only [List.getElem_toArray, List.getElem_cons_succ, List.getElem_cons_zero, Act.put, List.setIfInBounds_toArray, List.set_cons_zero, List.set_cons_succ]
    have hrp := (hb2.block p (lt_of_block hrp)).trans hrp
    refine wpAnyH_ready (rs := [3]) (by kernel_rfl) (by simp) ?_
    refine AllReadyH.cons rfl (fun K hK => ?_) AllReadyH.nil
    go_simp
    go_at_call 67
    refine (sopen_any ⟨l, (fl, fh)⟩ (.slice ao n cap) (wantOk (wl, wh)) W3 (by rw [HN.out]; exact (HBS.out.later hS.bel.size (fun k hk _ => hS.bel.block k hk)).low)).mono ?_
    rintro e W4 ⟨hb3, hor⟩
    rcases hor with ⟨hne, rfl⟩ | ⟨hz, pp, sv, rfl, hset, hpp⟩
    · dsimp only
      refine sleaf_stop (errS ⟨l, (fl, fh)⟩ (wantOk (wl, wh))) (w.heap.size + 1 + 1) 0 _ W4 (hS.below hb3).r2 (fun W' hkE heE => ?_)
      have e9 : W'.cell? ⟨w.heap.size + 1 + 1, 0, none⟩ = some (.int .i64 (errS ⟨l, (fl, fh)⟩ (wantOk (wl, wh)))) := by rw [cell_of_row _ _ _ _ _ _ heE]; rfl
      exact ⟨_, by simp [results, Tryd.results23, go_sem, e9]; rfl, by rw [fewest_errS hne], (hS.below hb3).bel.trans (hkE.below (hS.below hb3).bel.size (fun k h e => by omega))⟩
    dsimp only
    refine hK.out _ _ (hS.below hb3) (fun hS => ?_)
    clear hK
    try simp only [List.getElem_toArray, List.getElem_cons_succ, List.getElem_cons_zero, Act.put, List.setIfInBounds_toArray, List.set_cons_zero, List.set_cons_succ]
    have hrp := (hb3.block p (lt_of_block hrp)).trans hrp
    refine wpAnyH_ready (rs := [7]) (by kernel_rfl) (by simp) ?_
    refine AllReadyH.cons rfl (fun K hK => ?_) AllReadyH.nil
    go_simp
    go_at_call 69
    refine (all_any ⟨l, (fl, fh)⟩ (errS_valid hz) (wl, wh) pp sv W4 hset).mono ?_
    rintro e W5 ⟨⟨f, rfl, hf⟩, hb7⟩
    dsimp only
    refine hK.out _ _ (hS.below hb7) (fun hS => ?_)
    clear hK
    try simp only [List.getElem_toArray, List.getElem_cons_succ, List.getElem_cons_zero, Act.put, List.setIfInBounds_toArray, List.set_cons_zero, List.set_cons_succ]
    have hrp := (hb7.block p (lt_of_block hrp)).trans hrp
    refine wpAnyH_take (i := 8) (v := ?_) rfl (by kernel_rfl) (by kernel_rfl) (by kernel_rfl) (fun c a w h => few_put (by decide) (by decide) h) (Or.inl ⟨by rfl, ?_⟩) hS ?_
    rotate_left
    · intro W hSw
      have s0 : W.cell? ⟨w.heap.size, 0, none⟩ = some (.slice ao n cap) := by rw [cell_of_row _ _ _ _ _ _ hSw.r0]; rfl
      have s1 : W.cell? ⟨w.heap.size, 1, none⟩ = some (.int .i64 fl) := by rw [cell_of_row _ _ _ _ _ _ hSw.r0]; rfl
      have s2 : W.cell? ⟨w.heap.size, 2, none⟩ = some (.int .i64 fh) := by rw [cell_of_row _ _ _ _ _ _ hSw.r0]; rfl
      have s3 : W.cell? ⟨w.heap.size + 1, 0, none⟩ = some (.int .i64 wl) := by rw [cell_of_row _ _ _ _ _ _ hSw.r1]; rfl
      have s4 : W.cell? ⟨w.heap.size + 1, 1, none⟩ = some (.int .i64 wh) := by rw [cell_of_row _ _ _ _ _ _ hSw.r1]; rfl
      go_simp
      try with_reducible rfl
    try simp only [List.getElem_toArray, List.getElem_cons_succ, List.getElem_cons_zero, Act.put, List.setIfInBounds_toArray, List.set_cons_zero, List.set_cons_succ]
    refine wpAnyH_take (i := 9) (v := ?_) rfl (by kernel_rfl) (by kernel_rfl) (by kernel_rfl) (fun c a w h => few_put (by decide) (by decide) h) (Or.inl ⟨by rfl, ?_⟩) hS ?_
    rotate_left
    · intro W hSw
      have s0 : W.cell? ⟨w.heap.size, 0, none⟩ = some (.slice ao n cap) := by rw [cell_of_row _ _ _ _ _ _ hSw.r0]; rfl
      have s1 : W.cell? ⟨w.heap.size, 1, none⟩ = some (.int .i64 fl) := by rw [cell_of_row _ _ _ _ _ _ hSw.r0]; rfl
      have s2 : W.cell? ⟨w.heap.size, 2, none⟩ = some (.int .i64 fh) := by rw [cell_of_row _ _ _ _ _ _ hSw.r0]; rfl
      have s3 : W.cell? ⟨w.heap.size + 1, 0, none⟩ = some (.int .i64 wl) := by rw [cell_of_row _ _ _ _ _ _ hSw.r1]; rfl
      have s4 : W.cell? ⟨w.heap.size + 1, 1, none⟩ = some (.int .i64 wh) := by rw [cell_of_row _ _ _ _ _ _ hSw.r1]; rfl
      go_simp
      try with_reducible rfl
    try simp only [List.getElem_toArray, List.getElem_cons_succ, List.getElem_cons_zero, Act.put, List.setIfInBounds_toArray, List.set_cons_zero, List.set_cons_succ]
    refine wpAnyH_take (i := 10) (v := ?_) rfl (by kernel_rfl) (by kernel_rfl) (by kernel_rfl) (fun c a w h => few_put (by decide) (by decide) h) (Or.inl ⟨by rfl, ?_⟩) hS ?_
    rotate_left
    · intro W hSw
      have s0 : W.cell? ⟨w.heap.size, 0, none⟩ = some (.slice ao n cap) := by rw [cell_of_row _ _ _ _ _ _ hSw.r0]; rfl
      have s1 : W.cell? ⟨w.heap.size, 1, none⟩ = some (.int .i64 fl) := by rw [cell_of_row _ _ _ _ _ _ hSw.r0]; rfl
      have s2 : W.cell? ⟨w.heap.size, 2, none⟩ = some (.int .i64 fh) := by rw [cell_of_row _ _ _ _ _ _ hSw.r0]; rfl
      have s3 : W.cell? ⟨w.heap.size + 1, 0, none⟩ = some (.int .i64 wl) := by rw [cell_of_row _ _ _ _ _ _ hSw.r1]; rfl
      have s4 : W.cell? ⟨w.heap.size + 1, 1, none⟩ = some (.int .i64 wh) := by rw [cell_of_row _ _ _ _ _ _ hSw.r1]; rfl
      go_simp
      try with_reducible rfl
    try simp only [List.getElem_toArray, List.getElem_cons_succ, List.getElem_cons_zero, Act.put, List.setIfInBounds_toArray, List.set_cons_zero, List.set_cons_succ]
    have hk7 := keeps_setRow W5 p #[.int .i64 f.many, .int .u64 f.least, .int .u64 f.each, .int .u64 f.some]
    have hr7 := setRow_heap W5 p _ #[.int .i64 f.many, .int .u64 f.least, .int .u64 f.each, .int .u64 f.some] _ _ hrp
    have hst := run_store_row (P := Tryd.prog) (o := { dst := none, op := Op.store 107 (.tmp 6) (.tmp 17), type := 0, pos := "", after := #[], guard := none }) (ρ := fun x => match x with | .tmp 6 => .pointer (some ⟨p, 0, none⟩) | _ => encF f) (w := W5) 107 (.tmp 6) (.tmp 17) rfl p #[.int .i64 f.many, .int .u64 f.least, .int .u64 f.each, .int .u64 f.some] rfl rfl 107 _ hrp (by kernel_rfl) rfl (by simp [Value.oneCell'])
    clear hst
    obtain ⟨WZ, hWZ⟩ : ∃ x, x = W5.setRow p #[.int .i64 f.many, .int .u64 f.least, .int .u64 f.each, .int .u64 f.some] := ⟨_, rfl⟩
    rw [← hWZ] at hk7 hr7
    have hSZ : FewW ao n cap fl fh wl wh w WZ := ⟨(hk7.block _ (lt_of_block hS.r0) (by omega)).trans hS.r0, (hk7.block _ (lt_of_block hS.r1) (by omega)).trans hS.r1, (hk7.block _ (lt_of_block hS.r2) (by omega)).trans hS.r2, hS.bel.trans (hk7.below hS.bel.size (fun k h1 h2 => by omega))⟩
    refine wpAnyH_skip (k := 12) (w' := WZ) (by kernel_rfl) rfl rfl ?_ hSZ ?_
    · rw [hWZ]
      exact run_store_row 107 (.tmp 6) (.tmp 17) rfl p #[.int .i64 f.many, .int .u64 f.least, .int .u64 f.each, .int .u64 f.some] rfl rfl 107 _ hrp (by kernel_rfl) rfl (by simp [Value.oneCell'])
    refine wpAnyH_value (k := 13) (w' := WZ) (by kernel_rfl) rfl rfl rfl hSZ ?_
    refine wpAnyH_done (by kernel_rfl) ?_ _
    try simp only [List.getElem_toArray, List.getElem_cons_succ, List.getElem_cons_zero, Act.put, List.setIfInBounds_toArray, List.set_cons_zero, List.set_cons_succ]
    have HSZ := Lib.hid hSZ
    have HR7 := Lib.hid hr7
    have HF := Lib.hid hf
    have HZ := Lib.hid hz
    clear hk7 hr7 hSZ hWZ hS hf hrp hset
    cases hle : leastJ (rightsS ⟨l, (fl, fh)⟩ (wl, wh)) with
    | none =>
      have HLE := Lib.hid hle
      clear hle
      simp only [Option.isSome_none]
      go_wp2_with fail
      refine (sask_no 4 _).mono ?_
      rintro e w9 ⟨rfl, rfl⟩
      dsimp only
      go_wp2_with fail
      refine sleaf_stop (4) (w.heap.size + 1 + 1) 0 _ WZ (HSZ.out).r2 (fun W' hkE heE => ?_)
      have e9 : W'.cell? ⟨w.heap.size + 1 + 1, 0, none⟩ = some (.int .i64 (4)) := by rw [cell_of_row _ _ _ _ _ _ heE]; rfl
      exact ⟨_, by simp [results, Tryd.results23, go_sem, e9]; rfl, by rw [fewest_noneS HZ.out HLE.out], (HSZ.out).bel.trans (hkE.below (HSZ.out).bel.size (fun k h e => by omega))⟩
    | some t =>
      have HLE := Lib.hid hle
      have hft := HF.out t hle
      have ht := least_lt (errS_valid HZ.out) hle
      clear hle
      simp only [Option.isSome_some]
      have q1 : WZ.cell? ⟨p, 1, none⟩ = some (.int .u64 t) := by rw [cell_of_row _ _ _ _ _ _ HR7.out, ← hft]; rfl
      have q2 : WZ.cell? ⟨w.heap.size + 1 + 1, 0, none⟩ = some (.int .i64 0) := by rw [cell_of_row _ _ _ _ _ _ HSZ.out.r2]; rfl
      have q3 : WZ.frozen? ⟨w.heap.size + 1 + 1, 0, none⟩ = false := frozen_of_row _ _ _ _ _ HSZ.out.r2
      have hcv : IntKind.i64.wrap (t : Int) = (t : Int) := IntWalk.i64_in _ (by omega)
      have HFT := Lib.hid hft
      clear hft
      go_wp2_with fail
      refine (sask_ok 4 _).mono ?_
      rintro e w9 ⟨rfl, rfl⟩
      dsimp only
      go_wp2_with fail
      refine sleaf_ret (w.heap.size + 1 + 1) _ _ ?_
      have x9 : (WZ.setCell ⟨w.heap.size + 1 + 1, 0, none⟩ (.int .i64 0)).heap[w.heap.size + 1 + 1]? = some (.cells #[.int .i64 0] 33 (0, 0)) := by
        have := HSZ.out.r2
        simp [World.setCell, Array.getElem?_modify, this]
      have e9 : (WZ.setCell ⟨w.heap.size + 1 + 1, 0, none⟩ (.int .i64 0)).cell? ⟨w.heap.size + 1 + 1, 0, none⟩ = some (.int .i64 0) := by rw [cell_of_row _ _ _ _ _ _ x9]; rfl
      exact ⟨_, by simp [results, Tryd.results23, go_sem, e9]; rfl, by rw [fewest_someS HZ.out HLE.out], HSZ.out.bel.setCell (by simp; try omega) _⟩
end Go.Proofs.YtbmfphiecllggaaDoor

/- Whether a stack is right: walked. -/
namespace Go.Proofs.YtbmfphiecllggaaDoor
set_option linter.unusedVariables false
set_option linter.unusedSimpArgs false
open Go.RowKit Go.Shelf
attribute [local go_sem] Oper.semAt_some

set_option maxHeartbeats 4000000 in
theorem isSet_any (s : StackD) (bs : Value) (m : Int) (w : World) (hbs : SpansAt w bs s.bs (fun k => k < w.heap.size)) (h8 : s.bs.length ≤ 8) :
    Calls Tryd.prog 74 #[stackV s bs, .int .i64 m] w fun e w' => e = .returned (.bool (isSetS s m)) ∧ Below w.heap.size w w' := by
  obtain ⟨ao, cap, hbv, _⟩ := id hbs
  subst hbv
  obtain ⟨l, ⟨fl, fh⟩⟩ := s
  have H : ∀ n, n = l.length → Hid (isSetS ⟨l, (fl, fh)⟩ m = (decide (1 ≤ m) && decide (m ≤ 2 ^ n - 1))) := by intro n hn; show _ = _; rw [hn]; rfl
  unfold stackV
  dsimp only at h8 ⊢
  obtain ⟨n, hn⟩ : ∃ n, n = l.length := ⟨_, rfl⟩
  have H := H n hn
  rw [← hn] at h8 ⊢
  clear hbs hn
  have hb : ∀ o, Below w.heap.size w (w.alloc o) := fun o => (Below.refl _ _).alloc (Nat.le_refl _) _
  go_enter Tryd.func74, Tryd.ntmps74
  have hc : n = 0 ∨ n = 1 ∨ n = 2 ∨ n = 3 ∨ n = 4 ∨ n = 5 ∨ n = 6 ∨ n = 7 ∨ n = 8 := by omega
  rcases hc with rfl | rfl | rfl | rfl | rfl | rfl | rfl | rfl | rfl
  all_goals go_wp2_with (first | (go_at_call 89; refine (swithin_any _ _ _ _).mono ?_; rintro e w' ⟨rfl, rfl⟩))
  all_goals go_ret
  all_goals exact ⟨by rw [H.out]; rfl, hb _⟩

def grJ (m k : Int) : Nat → Int
  | 0 => 0
  | 1 => m
  | _ => m + k
/-- What stands while Right comes to how long a stack is. -/
theorem right_results (t1 t2 : Array Value) (h4 : t1.getD 6 undef = t2.getD 6 undef) (h5 : t1.getD 7 undef = t2.getD 7 undef) : results Tryd.f33 t1 = results Tryd.f33 t2 := by
  have : Tryd.f33.results = #[.tmp 6, .cell 7 33] := rfl
  unfold results
  rw [this]
  have h4' : t1[6]?.getD undef = t2[6]?.getD undef := by simpa [Array.getD_eq_getD_getElem?] using h4
  have h5' : t1[7]?.getD undef = t2[7]?.getD undef := by simpa [Array.getD_eq_getD_getElem?] using h5
  simp [h4', h5']
theorem right_put {R : Ending → World → Prop} {c : List PanicEntry} {d : Nat} {v : Value} {a : Act} {w : World} (h4 : d ≠ 6) (h5 : d ≠ 7)
    (h : bodyPostD Tryd.prog Tryd.f33 R (.panic c) (a.put (some d) v) w) : bodyPostD Tryd.prog Tryd.f33 R (.panic c) a w := by
  refine Leaves.congr (fun w v hh => ?_) _ _ _ h
  rw [right_results _ a.tmps] at hh
  · exact hh
  · simp [Act.put, Array.getD_eq_getD_getElem?, Array.getElem?_setIfInBounds, h4]
  · simp [Act.put, Array.getD_eq_getD_getElem?, Array.getElem?_setIfInBounds, h5]
set_option maxRecDepth 100000 in
set_option maxHeartbeats 8000000 in
theorem rightS_any (s : StackD) (bs : Value) (x : Nat) (want : Int × Int) (w : World) (hv : validSt s = true) (h1 : 1 ≤ x) (h2 : x < 2 ^ s.bs.length) (hw : wantOk want = true) (hbs : SpansAt w bs s.bs (fun k => k < w.heap.size)) :
    Calls Tryd.prog 33 #[stackV s bs, .int .i64 x, spV want] w fun e w' => e = .returned (.tuple #[.int .i64 (gradeS s x want), .int .i64 0]) ∧ Below w.heap.size w w' := by
  have HBS := Lib.hid hbs
  have HV := Lib.hid hv
  have HWO := Lib.hid hw
  have hx : x < 256 := Nat.lt_of_lt_of_le h2 (Nat.pow_le_pow_right (by decide) (validSt_parts hv).1)
  have hset' : isSetS s x = true := by
    unfold isSetS
    have hp := Nat.two_pow_pos s.bs.length
    have : ((2 ^ s.bs.length : Nat) : Int) = (2 : Int) ^ s.bs.length := by simp
    simp only [Bool.and_eq_true, decide_eq_true_eq]
    omega
  have HIS := Lib.hid hset'
  have HX := Lib.hid hx
  clear hset' h2 hw hv
  obtain ⟨ao, cap, hbv, _⟩ := id hbs
  subst hbv
  obtain ⟨l, ⟨fl, fh⟩⟩ := s
  obtain ⟨wl, wh⟩ := want
  unfold stackV spV
  dsimp only at HBS ⊢
  clear hbs
  obtain ⟨n, hn⟩ : ∃ n, n = l.length := ⟨_, rfl⟩
  have HN := Lib.hid hn
  rw [← hn]
  clear hn
  have hcv : IntKind.u64.wrap (x : Int) = (x : Int) := IntWalk.u64_in _ (by omega)
  go_enter_defers Tryd.func33, Tryd.ntmps33
  go_wp2_with fail
  rename_i hK0
  refine wp_name (FewW ao n cap fl fh wl wh w) ⟨(by repeat (first | (refine heap_alloc_at _ _ _ ?_; (simp <;> omega); done) | (refine (hget_old _ _ _ ?_).trans ?_; · (simp <;> omega)))), (by repeat (first | (refine heap_alloc_at _ _ _ ?_; (simp <;> omega); done) | (refine (hget_old _ _ _ ?_).trans ?_; · (simp <;> omega)))), (by repeat (first | (refine heap_alloc_at _ _ _ ?_; (simp <;> omega); done) | (refine (hget_old _ _ _ ?_).trans ?_; · (simp <;> omega)))), (((Below.refl _ _).alloc (Nat.le_refl _) _).alloc (by simp) _).alloc (by simp <;> omega) _⟩ ?_
  intro W0 hW0
  refine wp_region_held_drew (S := FewW ao n cap fl fh wl wh w) (by kernel_rfl) (hW0.below (Below.refl _ _).drew) fun hS => ?_
  generalize W0.drew = W1 at hS
  refine wpAnyH_take (i := 0) (v := ?_) rfl (by kernel_rfl) (by kernel_rfl) (by kernel_rfl) (fun c a w h => right_put (by decide) (by decide) h) (Or.inl ⟨by rfl, ?_⟩) hS ?_
  rotate_left
  · intro W hSw
    have s0 : W.cell? ⟨w.heap.size, 0, none⟩ = some (.slice ao n cap) := by rw [cell_of_row _ _ _ _ _ _ hSw.r0]; rfl
    have s1 : W.cell? ⟨w.heap.size, 1, none⟩ = some (.int .i64 fl) := by rw [cell_of_row _ _ _ _ _ _ hSw.r0]; rfl
    have s2 : W.cell? ⟨w.heap.size, 2, none⟩ = some (.int .i64 fh) := by rw [cell_of_row _ _ _ _ _ _ hSw.r0]; rfl
    have s3 : W.cell? ⟨w.heap.size + 1, 0, none⟩ = some (.int .i64 wl) := by rw [cell_of_row _ _ _ _ _ _ hSw.r1]; rfl
    have s4 : W.cell? ⟨w.heap.size + 1, 1, none⟩ = some (.int .i64 wh) := by rw [cell_of_row _ _ _ _ _ _ hSw.r1]; rfl
    go_simp
    try with_reducible rfl
  try simp only [List.getElem_toArray, List.getElem_cons_succ, List.getElem_cons_zero, Act.put, List.setIfInBounds_toArray, List.set_cons_zero, List.set_cons_succ]
  refine wpAnyH_take (i := 1) (v := ?_) rfl (by kernel_rfl) (by kernel_rfl) (by kernel_rfl) (fun c a w h => right_put (by decide) (by decide) h) (Or.inl ⟨by rfl, ?_⟩) hS ?_
  rotate_left
  · intro W hSw
    have s0 : W.cell? ⟨w.heap.size, 0, none⟩ = some (.slice ao n cap) := by rw [cell_of_row _ _ _ _ _ _ hSw.r0]; rfl
    have s1 : W.cell? ⟨w.heap.size, 1, none⟩ = some (.int .i64 fl) := by rw [cell_of_row _ _ _ _ _ _ hSw.r0]; rfl
    have s2 : W.cell? ⟨w.heap.size, 2, none⟩ = some (.int .i64 fh) := by rw [cell_of_row _ _ _ _ _ _ hSw.r0]; rfl
    have s3 : W.cell? ⟨w.heap.size + 1, 0, none⟩ = some (.int .i64 wl) := by rw [cell_of_row _ _ _ _ _ _ hSw.r1]; rfl
    have s4 : W.cell? ⟨w.heap.size + 1, 1, none⟩ = some (.int .i64 wh) := by rw [cell_of_row _ _ _ _ _ _ hSw.r1]; rfl
    go_simp
    try with_reducible rfl
  try simp only [List.getElem_toArray, List.getElem_cons_succ, List.getElem_cons_zero, Act.put, List.setIfInBounds_toArray, List.set_cons_zero, List.set_cons_succ]
  refine wpAnyH_take (i := 2) (v := ?_) rfl (by kernel_rfl) (by kernel_rfl) (by kernel_rfl) (fun c a w h => right_put (by decide) (by decide) h) (Or.inl ⟨by rfl, ?_⟩) hS ?_
  rotate_left
  · intro W hSw
    have s0 : W.cell? ⟨w.heap.size, 0, none⟩ = some (.slice ao n cap) := by rw [cell_of_row _ _ _ _ _ _ hSw.r0]; rfl
    have s1 : W.cell? ⟨w.heap.size, 1, none⟩ = some (.int .i64 fl) := by rw [cell_of_row _ _ _ _ _ _ hSw.r0]; rfl
    have s2 : W.cell? ⟨w.heap.size, 2, none⟩ = some (.int .i64 fh) := by rw [cell_of_row _ _ _ _ _ _ hSw.r0]; rfl
    have s3 : W.cell? ⟨w.heap.size + 1, 0, none⟩ = some (.int .i64 wl) := by rw [cell_of_row _ _ _ _ _ _ hSw.r1]; rfl
    have s4 : W.cell? ⟨w.heap.size + 1, 1, none⟩ = some (.int .i64 wh) := by rw [cell_of_row _ _ _ _ _ _ hSw.r1]; rfl
    go_simp
    try with_reducible rfl
  try simp only [List.getElem_toArray, List.getElem_cons_succ, List.getElem_cons_zero, Act.put, List.setIfInBounds_toArray, List.set_cons_zero, List.set_cons_succ]
  refine wpAnyH_take (i := 9) (v := ?_) rfl (by kernel_rfl) (by kernel_rfl) (by kernel_rfl) (fun c a w h => right_put (by decide) (by decide) h) (Or.inl ⟨by rfl, ?_⟩) hS ?_
  rotate_left
  · intro W hSw
    have s0 : W.cell? ⟨w.heap.size, 0, none⟩ = some (.slice ao n cap) := by rw [cell_of_row _ _ _ _ _ _ hSw.r0]; rfl
    have s1 : W.cell? ⟨w.heap.size, 1, none⟩ = some (.int .i64 fl) := by rw [cell_of_row _ _ _ _ _ _ hSw.r0]; rfl
    have s2 : W.cell? ⟨w.heap.size, 2, none⟩ = some (.int .i64 fh) := by rw [cell_of_row _ _ _ _ _ _ hSw.r0]; rfl
    have s3 : W.cell? ⟨w.heap.size + 1, 0, none⟩ = some (.int .i64 wl) := by rw [cell_of_row _ _ _ _ _ _ hSw.r1]; rfl
    have s4 : W.cell? ⟨w.heap.size + 1, 1, none⟩ = some (.int .i64 wh) := by rw [cell_of_row _ _ _ _ _ _ hSw.r1]; rfl
    go_simp
    try with_reducible rfl
  try simp only [List.getElem_toArray, List.getElem_cons_succ, List.getElem_cons_zero, Act.put, List.setIfInBounds_toArray, List.set_cons_zero, List.set_cons_succ]
  refine wpAnyH_take (i := 10) (v := ?_) rfl (by kernel_rfl) (by kernel_rfl) (by kernel_rfl) (fun c a w h => right_put (by decide) (by decide) h) (Or.inl ⟨by rfl, ?_⟩) hS ?_
  rotate_left
  · intro W hSw
    have s0 : W.cell? ⟨w.heap.size, 0, none⟩ = some (.slice ao n cap) := by rw [cell_of_row _ _ _ _ _ _ hSw.r0]; rfl
    have s1 : W.cell? ⟨w.heap.size, 1, none⟩ = some (.int .i64 fl) := by rw [cell_of_row _ _ _ _ _ _ hSw.r0]; rfl
    have s2 : W.cell? ⟨w.heap.size, 2, none⟩ = some (.int .i64 fh) := by rw [cell_of_row _ _ _ _ _ _ hSw.r0]; rfl
    have s3 : W.cell? ⟨w.heap.size + 1, 0, none⟩ = some (.int .i64 wl) := by rw [cell_of_row _ _ _ _ _ _ hSw.r1]; rfl
    have s4 : W.cell? ⟨w.heap.size + 1, 1, none⟩ = some (.int .i64 wh) := by rw [cell_of_row _ _ _ _ _ _ hSw.r1]; rfl
    go_simp
    try with_reducible rfl
  try simp only [List.getElem_toArray, List.getElem_cons_succ, List.getElem_cons_zero, Act.put, List.setIfInBounds_toArray, List.set_cons_zero, List.set_cons_succ]
  refine wpAnyH_ready (rs := [3, 12]) (by kernel_rfl) (by simp) ?_
  refine AllReadyH.cons rfl (fun K hK => ?_) (AllReadyH.cons rfl (fun K hK => ?_) AllReadyH.nil)
  · skip
    go_simp
    go_at_call 74
    refine (isSet_any ⟨l, (fl, fh)⟩ (.slice ao n cap) x W1 (by rw [HN.out]; exact (HBS.out.later hS.bel.size (fun k hk _ => hS.bel.block k hk)).low) (validSt_parts HV.out).1).mono ?_
    rintro e W2 ⟨rfl, hb3⟩
    rw [HIS.out]
    dsimp only
    refine hK.out _ _ (hS.below hb3) (fun hS => ?_)
    clear hK
    try simp only [List.getElem_toArray, List.getElem_cons_succ, List.getElem_cons_zero, Act.put, List.setIfInBounds_toArray, List.set_cons_zero, List.set_cons_succ]
    refine wpAnyH_take (i := 4) (v := ?_) rfl (by kernel_rfl) (by kernel_rfl) (by kernel_rfl) (fun c a w h => right_put (by decide) (by decide) h) (Or.inl ⟨by rfl, ?_⟩) hS ?_
    rotate_left
    · intro W hSw
      have s0 : W.cell? ⟨w.heap.size, 0, none⟩ = some (.slice ao n cap) := by rw [cell_of_row _ _ _ _ _ _ hSw.r0]; rfl
      have s1 : W.cell? ⟨w.heap.size, 1, none⟩ = some (.int .i64 fl) := by rw [cell_of_row _ _ _ _ _ _ hSw.r0]; rfl
      have s2 : W.cell? ⟨w.heap.size, 2, none⟩ = some (.int .i64 fh) := by rw [cell_of_row _ _ _ _ _ _ hSw.r0]; rfl
      have s3 : W.cell? ⟨w.heap.size + 1, 0, none⟩ = some (.int .i64 wl) := by rw [cell_of_row _ _ _ _ _ _ hSw.r1]; rfl
      have s4 : W.cell? ⟨w.heap.size + 1, 1, none⟩ = some (.int .i64 wh) := by rw [cell_of_row _ _ _ _ _ _ hSw.r1]; rfl
      go_simp
      try with_reducible rfl
    try simp only [List.getElem_toArray, List.getElem_cons_succ, List.getElem_cons_zero, Act.put, List.setIfInBounds_toArray, List.set_cons_zero, List.set_cons_succ]
    refine wpAnyH_take (i := 5) (v := ?_) rfl (by kernel_rfl) (by kernel_rfl) (by kernel_rfl) (fun c a w h => right_put (by decide) (by decide) h) (Or.inl ⟨by rfl, ?_⟩) hS ?_
    rotate_left
    · intro W hSw
      have s0 : W.cell? ⟨w.heap.size, 0, none⟩ = some (.slice ao n cap) := by rw [cell_of_row _ _ _ _ _ _ hSw.r0]; rfl
      have s1 : W.cell? ⟨w.heap.size, 1, none⟩ = some (.int .i64 fl) := by rw [cell_of_row _ _ _ _ _ _ hSw.r0]; rfl
      have s2 : W.cell? ⟨w.heap.size, 2, none⟩ = some (.int .i64 fh) := by rw [cell_of_row _ _ _ _ _ _ hSw.r0]; rfl
      have s3 : W.cell? ⟨w.heap.size + 1, 0, none⟩ = some (.int .i64 wl) := by rw [cell_of_row _ _ _ _ _ _ hSw.r1]; rfl
      have s4 : W.cell? ⟨w.heap.size + 1, 1, none⟩ = some (.int .i64 wh) := by rw [cell_of_row _ _ _ _ _ _ hSw.r1]; rfl
      go_simp
      try with_reducible rfl
    try simp only [List.getElem_toArray, List.getElem_cons_succ, List.getElem_cons_zero, Act.put, List.setIfInBounds_toArray, List.set_cons_zero, List.set_cons_succ]
    refine wpAnyH_ready (rs := [6, 12]) (by kernel_rfl) (by simp) ?_
    refine AllReadyH.cons rfl (fun K hK => ?_) (AllReadyH.cons rfl (fun K hK => ?_) AllReadyH.nil)
    · skip
      go_simp
      go_at_call 68
      refine (isWant_any (wl, wh) _).mono ?_
      rintro e W3 ⟨rfl, hb6⟩
      rw [HWO.out]
      dsimp only
      refine hK.out _ _ (hS.below hb6) (fun hS => ?_)
      clear hK
      try simp only [List.getElem_toArray, List.getElem_cons_succ, List.getElem_cons_zero, Act.put, List.setIfInBounds_toArray, List.set_cons_zero, List.set_cons_succ]
      refine wpAnyH_take (i := 7) (v := ?_) rfl (by kernel_rfl) (by kernel_rfl) (by kernel_rfl) (fun c a w h => right_put (by decide) (by decide) h) (Or.inl ⟨by rfl, ?_⟩) hS ?_
      rotate_left
      · intro W hSw
        have s0 : W.cell? ⟨w.heap.size, 0, none⟩ = some (.slice ao n cap) := by rw [cell_of_row _ _ _ _ _ _ hSw.r0]; rfl
        have s1 : W.cell? ⟨w.heap.size, 1, none⟩ = some (.int .i64 fl) := by rw [cell_of_row _ _ _ _ _ _ hSw.r0]; rfl
        have s2 : W.cell? ⟨w.heap.size, 2, none⟩ = some (.int .i64 fh) := by rw [cell_of_row _ _ _ _ _ _ hSw.r0]; rfl
        have s3 : W.cell? ⟨w.heap.size + 1, 0, none⟩ = some (.int .i64 wl) := by rw [cell_of_row _ _ _ _ _ _ hSw.r1]; rfl
        have s4 : W.cell? ⟨w.heap.size + 1, 1, none⟩ = some (.int .i64 wh) := by rw [cell_of_row _ _ _ _ _ _ hSw.r1]; rfl
        go_simp
        try with_reducible rfl
      try simp only [List.getElem_toArray, List.getElem_cons_succ, List.getElem_cons_zero, Act.put, List.setIfInBounds_toArray, List.set_cons_zero, List.set_cons_succ]
      refine wpAnyH_ready (rs := [8, 12]) (by kernel_rfl) (by simp) ?_
      refine AllReadyH.cons rfl (fun K hK => ?_) (AllReadyH.cons rfl (fun K hK => ?_) AllReadyH.nil)
      · skip
        go_simp
        go_at_call 67
        refine (sopen_any ⟨l, (fl, fh)⟩ (.slice ao n cap) true W3 (by rw [HN.out]; exact (HBS.out.later hS.bel.size (fun k hk _ => hS.bel.block k hk)).low)).mono ?_
        rintro e W4 ⟨hb8, hor⟩
        have he0 : errS ⟨l, (fl, fh)⟩ true = 0 := by unfold errS; rw [HV.out]; rfl
        rcases hor with ⟨hne, rfl⟩ | ⟨hz, pp, sv, rfl, hset, hpp⟩
        · exact absurd he0 hne
        dsimp only
        refine hK.out _ _ (hS.below hb8) (fun hS => ?_)
        clear hK he0
        try simp only [List.getElem_toArray, List.getElem_cons_succ, List.getElem_cons_zero, Act.put, List.setIfInBounds_toArray, List.set_cons_zero, List.set_cons_succ]
        refine wpAnyH_ready (rs := [11, 12]) (by kernel_rfl) (by simp) ?_
        refine AllReadyH.cons rfl (fun K hK => ?_) (AllReadyH.cons rfl (fun K hK => ?_) AllReadyH.nil)
        · skip
          go_simp
          go_at_call 75
          refine (sof_any ⟨l, (fl, fh)⟩ HV.out x HX.out pp sv W4 hset).mono ?_
          rintro e W5 ⟨rfl, hb11⟩
          dsimp only
          refine hK.out _ _ (hS.below hb11) (fun hS => ?_)
          clear hK
          try simp only [List.getElem_toArray, List.getElem_cons_succ, List.getElem_cons_zero, Act.put, List.setIfInBounds_toArray, List.set_cons_zero, List.set_cons_succ]
          refine wpAnyH_ready (rs := [12]) (by kernel_rfl) (by simp) ?_
          refine AllReadyH.cons rfl (fun K hK => ?_) AllReadyH.nil
          go_simp
          obtain ⟨p, hp⟩ : ∃ x, x = W5.heap.size := ⟨_, rfl⟩
          rw [← hp]
          obtain ⟨W6, hW6⟩ : ∃ x, x = W5.alloc (.cells #[.int .i64 0, .int .i64 0, .int .i64 0] 116) := ⟨_, rfl⟩
          rw [← hW6]
          have hba : Below W5.heap.size W5 W6 := by rw [hW6]; exact (Below.refl _ _).alloc (Nat.le_refl _) _
          have hrp : W6.heap[p]? = some (.cells #[.int .i64 0, .int .i64 0, .int .i64 0] 116 (0, 0)) := by rw [hW6, hp]; exact heap_alloc_at _ _ _ rfl
          have hpw : w.heap.size + 1 + 1 < p := by rw [hp]; exact lt_of_block hS.r2
          refine hK.out _ _ (hS.below hba) (fun hS => ?_)
          clear hK hW6 hp
          try simp only [List.getElem_toArray, List.getElem_cons_succ, List.getElem_cons_zero, Act.put, List.setIfInBounds_toArray, List.set_cons_zero, List.set_cons_succ]
          obtain ⟨L, hL⟩ : ∃ L, L = lenS ⟨l, (fl, fh)⟩ x := ⟨_, rfl⟩
          rw [← hL]
          have hk7 := keeps_setRow W6 p #[.int .i64 L.lo, .int .i64 L.hi, .int .i64 L.many]
          have hr7 := setRow_heap W6 p _ #[.int .i64 L.lo, .int .i64 L.hi, .int .i64 L.many] _ _ hrp
          obtain ⟨WZ, hWZ⟩ : ∃ x, x = W6.setRow p #[.int .i64 L.lo, .int .i64 L.hi, .int .i64 L.many] := ⟨_, rfl⟩
          rw [← hWZ] at hk7 hr7
          have hSZ : FewW ao n cap fl fh wl wh w WZ := ⟨(hk7.block _ (lt_of_block hS.r0) (by omega)).trans hS.r0, (hk7.block _ (lt_of_block hS.r1) (by omega)).trans hS.r1, (hk7.block _ (lt_of_block hS.r2) (by omega)).trans hS.r2, hS.bel.trans (hk7.below hS.bel.size (fun k h1 h2 => by omega))⟩
          refine wpAnyH_skip (k := 13) (w' := WZ) (by kernel_rfl) rfl rfl ?_ hSZ ?_
          · rw [hWZ]
            exact run_store_row 116 (.tmp 8) (.tmp 23) rfl p #[.int .i64 L.lo, .int .i64 L.hi, .int .i64 L.many] rfl rfl 116 _ hrp (by kernel_rfl) rfl (by simp [Value.oneCell'])
          refine wpAnyH_done (by kernel_rfl) ?_ _
          try simp only [List.getElem_toArray, List.getElem_cons_succ, List.getElem_cons_zero, Act.put, List.setIfInBounds_toArray, List.set_cons_zero, List.set_cons_succ]
          have HSZ := Lib.hid hSZ
          have HR7 := Lib.hid hr7
          have HLL := Lib.hid hL
          clear hk7 hr7 hSZ hWZ hS hrp hset hL
          have s3 : WZ.cell? ⟨w.heap.size + 1, 0, none⟩ = some (.int .i64 wl) := by rw [cell_of_row _ _ _ _ _ _ HSZ.out.r1]; rfl
          have s4 : WZ.cell? ⟨w.heap.size + 1, 1, none⟩ = some (.int .i64 wh) := by rw [cell_of_row _ _ _ _ _ _ HSZ.out.r1]; rfl
          go_wp2_with fail
          refine wp_name (fun X => X.heap[WZ.heap.size]? = some (.cells #[.iface 119 (.agg #[.int .i64 wl, .int .i64 wh]), .iface 113 (.agg #[.int .i64 wl, .int .i64 wh])] 122 (0, 0)) ∧ Below WZ.heap.size WZ X) ⟨heap_alloc_at _ _ _ rfl, (Below.refl _ _).alloc (Nat.le_refl _) _⟩ ?_
          rintro X ⟨hxs, hbx⟩
          have hpX := (hbx.block p (lt_of_block HR7.out)).trans HR7.out
          have HXS := Lib.hid hxs
          have HPX := Lib.hid hpX
          have HSX := Lib.hid (HSZ.out.below hbx)
          clear hxs hpX hbx s3 s4
          have hmi := method_inside
          have hmm := method_meets
          obtain ⟨m, hm⟩ : ∃ m : Int, m = if meetsJ (wl, wh) L then 1 else 0 := ⟨_, rfl⟩
          obtain ⟨k, hk⟩ : ∃ k : Int, k = if insideJ (wl, wh) L then 1 else 0 := ⟨_, rfl⟩
          have HM := Lib.hid hm
          have HKK := Lib.hid hk
          clear hm hk
          go_loopw [9, 32] (fun gv iv wr => ∃ i : Nat, i ≤ 2 ∧ iv = .int .i64 i ∧ gv = .int .i64 (grJ m k i) ∧ Below X.heap.size X wr) (fun _ iv _ => 2 - (intOf iv).toNat)
          case atStart => exact ⟨0, by omega, rfl, rfl, Below.refl _ _⟩
          case round =>
            obtain ⟨i, hi, rfl, rfl, hb⟩ := hrel
            have hxs := (hb.block _ (lt_of_block HXS.out)).trans HXS.out
            have hpx := (hb.block _ (lt_of_block HPX.out)).trans HPX.out
            have l0 : wr.cell? ⟨p, 0, none⟩ = some (.int .i64 L.lo) := by rw [cell_of_row _ _ _ _ _ _ hpx]; rfl
            have l1 : wr.cell? ⟨p, 1, none⟩ = some (.int .i64 L.hi) := by rw [cell_of_row _ _ _ _ _ _ hpx]; rfl
            have l2 : wr.cell? ⟨p, 2, none⟩ = some (.int .i64 L.many) := by rw [cell_of_row _ _ _ _ _ _ hpx]; rfl
            have a0 : wr.cell? ⟨WZ.heap.size, 0, none⟩ = some (.iface 119 (.agg #[.int .i64 wl, .int .i64 wh])) := by rw [cell_of_row _ _ _ _ _ _ hxs]; rfl
            have a1 : wr.cell? ⟨WZ.heap.size, 1, none⟩ = some (.iface 113 (.agg #[.int .i64 wl, .int .i64 wh])) := by rw [cell_of_row _ _ _ _ _ _ hxs]; rfl
            have HB := Lib.hid hb
            clear hxs hpx hb
            have hcase : i = 0 ∨ i = 1 ∨ i = 2 := by omega
            rcases hcase with rfl | rfl | rfl
            · go_wp2_with fail
              refine (meets_any (wl, wh) L _).mono ?_
              rintro e w5 ⟨rfl, hb5⟩
              dsimp only
              cases hme : meetsJ (wl, wh) L with
              | true =>
                have hm1 : grJ m k 1 = 1 := by show m = 1; rw [HM.out, hme]; rfl
                have HM1 := Lib.hid hm1
                have HB5 := Lib.hid (HB.out.trans (hb5.mono HB.out.size))
                clear hm1 hme hb5
                show _
                simp only [grJ]
                go_wp2
                exact ⟨⟨1, by omega, rfl, by rw [HM1.out], HB5.out⟩, by simp [intOf]⟩
              | false =>
                have hm1 : grJ m k 1 = 0 := by show m = 0; rw [HM.out, hme]; rfl
                have HM1 := Lib.hid hm1
                have HB5 := Lib.hid (HB.out.trans (hb5.mono HB.out.size))
                clear hm1 hme hb5
                simp only [grJ]
                go_wp2
                exact ⟨⟨1, by omega, rfl, by rw [HM1.out], HB5.out⟩, by simp [intOf]⟩
            · go_wp2_with fail
              refine (inside_any (wl, wh) L _).mono ?_
              rintro e w5 ⟨rfl, hb5⟩
              dsimp only
              cases hme : insideJ (wl, wh) L with
              | true =>
                have hm1 : grJ m k 2 = m + 1 := by show m + k = m + 1; rw [HKK.out, hme]; rfl
                have hmw : IntKind.i64.wrap (m + 1) = m + 1 := IntWalk.i64_in _ (by have := HM.out; split at this <;> omega)
                have HM1 := Lib.hid hm1
                have HB5 := Lib.hid (HB.out.trans (hb5.mono HB.out.size))
                clear hm1 hme hb5
                simp only [grJ]
                go_wp2
                exact ⟨⟨2, by omega, rfl, by rw [HM1.out], HB5.out⟩, by simp [intOf]⟩
              | false =>
                have hm1 : grJ m k 2 = m := by show m + k = m; rw [HKK.out, hme]; simp
                have HM1 := Lib.hid hm1
                have HB5 := Lib.hid (HB.out.trans (hb5.mono HB.out.size))
                clear hm1 hme hb5
                simp only [grJ]
                go_wp2
                exact ⟨⟨2, by omega, rfl, by rw [HM1.out], HB5.out⟩, by simp [intOf]⟩
            · have hsw := HSX.out.below HB.out
              have q2 : wr.cell? ⟨w.heap.size + 1 + 1, 0, none⟩ = some (.int .i64 0) := by rw [cell_of_row _ _ _ _ _ _ hsw.r2]; rfl
              have q3 : wr.frozen? ⟨w.heap.size + 1 + 1, 0, none⟩ = false := frozen_of_row _ _ _ _ _ hsw.r2
              have HSW := Lib.hid hsw
              have hg : gradeS ⟨l, (fl, fh)⟩ x (wl, wh) = m + k := by unfold gradeS; rw [← HLL.out, HM.out, HKK.out]
              have HG := Lib.hid hg
              clear hsw hg a0 a1 l0 l1 l2
              simp only [grJ]
              go_wp2_with fail
              refine sleaf_ret (w.heap.size + 1 + 1) _ _ ?_
              have x9 : (wr.setCell ⟨w.heap.size + 1 + 1, 0, none⟩ (.int .i64 0)).heap[w.heap.size + 1 + 1]? = some (.cells #[.int .i64 0] 33 (0, 0)) := by
                have := HSW.out.r2
                simp [World.setCell, Array.getElem?_modify, this]
              have e9 : (wr.setCell ⟨w.heap.size + 1 + 1, 0, none⟩ (.int .i64 0)).cell? ⟨w.heap.size + 1 + 1, 0, none⟩ = some (.int .i64 0) := by rw [cell_of_row _ _ _ _ _ _ x9]; rfl
              exact ⟨_, by simp [results, Tryd.results33, go_sem, e9]; rfl, by rw [HG.out], HSW.out.bel.setCell (by simp; try omega) _⟩
        · skip
          go_simp
          obtain ⟨p, hp⟩ : ∃ x, x = W4.heap.size := ⟨_, rfl⟩
          rw [← hp]
          obtain ⟨W5, hW5⟩ : ∃ x, x = W4.alloc (.cells #[.int .i64 0, .int .i64 0, .int .i64 0] 116) := ⟨_, rfl⟩
          rw [← hW5]
          have hba : Below W4.heap.size W4 W5 := by rw [hW5]; exact (Below.refl _ _).alloc (Nat.le_refl _) _
          have hrp : W5.heap[p]? = some (.cells #[.int .i64 0, .int .i64 0, .int .i64 0] 116 (0, 0)) := by rw [hW5, hp]; exact heap_alloc_at _ _ _ rfl
          have hpw : w.heap.size + 1 + 1 < p := by rw [hp]; exact lt_of_block hS.r2
          refine hK.out _ _ (hS.below hba) (fun hS => ?_)
          clear hK hW5 hp
          try simp only [List.getElem_toArray, List.getElem_cons_succ, List.getElem_cons_zero, Act.put, List.setIfInBounds_toArray, List.set_cons_zero, List.set_cons_succ]
          refine wpAnyH_ready (rs := [11]) (by kernel_rfl) (by simp) ?_
          refine AllReadyH.cons rfl (fun K hK => ?_) AllReadyH.nil
          have hset := hset.later hba
          go_simp
          go_at_call 75
          refine (sof_any ⟨l, (fl, fh)⟩ HV.out x HX.out pp sv W5 hset).mono ?_
          rintro e W6 ⟨rfl, hb11⟩
          dsimp only
          refine hK.out _ _ (hS.below hb11) (fun hS => ?_)
          clear hK
          try simp only [List.getElem_toArray, List.getElem_cons_succ, List.getElem_cons_zero, Act.put, List.setIfInBounds_toArray, List.set_cons_zero, List.set_cons_succ]
          have hrp := (hb11.block p (lt_of_block hrp)).trans hrp
          obtain ⟨L, hL⟩ : ∃ L, L = lenS ⟨l, (fl, fh)⟩ x := ⟨_, rfl⟩
          rw [← hL]
          have hk7 := keeps_setRow W6 p #[.int .i64 L.lo, .int .i64 L.hi, .int .i64 L.many]
          have hr7 := setRow_heap W6 p _ #[.int .i64 L.lo, .int .i64 L.hi, .int .i64 L.many] _ _ hrp
          obtain ⟨WZ, hWZ⟩ : ∃ x, x = W6.setRow p #[.int .i64 L.lo, .int .i64 L.hi, .int .i64 L.many] := ⟨_, rfl⟩
          rw [← hWZ] at hk7 hr7
          have hSZ : FewW ao n cap fl fh wl wh w WZ := ⟨(hk7.block _ (lt_of_block hS.r0) (by omega)).trans hS.r0, (hk7.block _ (lt_of_block hS.r1) (by omega)).trans hS.r1, (hk7.block _ (lt_of_block hS.r2) (by omega)).trans hS.r2, hS.bel.trans (hk7.below hS.bel.size (fun k h1 h2 => by omega))⟩
          refine wpAnyH_skip (k := 13) (w' := WZ) (by kernel_rfl) rfl rfl ?_ hSZ ?_
          · rw [hWZ]
            exact run_store_row 116 (.tmp 8) (.tmp 23) rfl p #[.int .i64 L.lo, .int .i64 L.hi, .int .i64 L.many] rfl rfl 116 _ hrp (by kernel_rfl) rfl (by simp [Value.oneCell'])
          refine wpAnyH_done (by kernel_rfl) ?_ _
          try simp only [List.getElem_toArray, List.getElem_cons_succ, List.getElem_cons_zero, Act.put, List.setIfInBounds_toArray, List.set_cons_zero, List.set_cons_succ]
          have HSZ := Lib.hid hSZ
          have HR7 := Lib.hid hr7
          have HLL := Lib.hid hL
          clear hk7 hr7 hSZ hWZ hS hrp hset hL
          have s3 : WZ.cell? ⟨w.heap.size + 1, 0, none⟩ = some (.int .i64 wl) := by rw [cell_of_row _ _ _ _ _ _ HSZ.out.r1]; rfl
          have s4 : WZ.cell? ⟨w.heap.size + 1, 1, none⟩ = some (.int .i64 wh) := by rw [cell_of_row _ _ _ _ _ _ HSZ.out.r1]; rfl
          go_wp2_with fail
          refine wp_name (fun X => X.heap[WZ.heap.size]? = some (.cells #[.iface 119 (.agg #[.int .i64 wl, .int .i64 wh]), .iface 113 (.agg #[.int .i64 wl, .int .i64 wh])] 122 (0, 0)) ∧ Below WZ.heap.size WZ X) ⟨heap_alloc_at _ _ _ rfl, (Below.refl _ _).alloc (Nat.le_refl _) _⟩ ?_
          rintro X ⟨hxs, hbx⟩
          have hpX := (hbx.block p (lt_of_block HR7.out)).trans HR7.out
          have HXS := Lib.hid hxs
          have HPX := Lib.hid hpX
          have HSX := Lib.hid (HSZ.out.below hbx)
          clear hxs hpX hbx s3 s4
          have hmi := method_inside
          have hmm := method_meets
          obtain ⟨m, hm⟩ : ∃ m : Int, m = if meetsJ (wl, wh) L then 1 else 0 := ⟨_, rfl⟩
          obtain ⟨k, hk⟩ : ∃ k : Int, k = if insideJ (wl, wh) L then 1 else 0 := ⟨_, rfl⟩
          have HM := Lib.hid hm
          have HKK := Lib.hid hk
          clear hm hk
          go_loopw [9, 32] (fun gv iv wr => ∃ i : Nat, i ≤ 2 ∧ iv = .int .i64 i ∧ gv = .int .i64 (grJ m k i) ∧ Below X.heap.size X wr) (fun _ iv _ => 2 - (intOf iv).toNat)
          case atStart => exact ⟨0, by omega, rfl, rfl, Below.refl _ _⟩
          case round =>
            obtain ⟨i, hi, rfl, rfl, hb⟩ := hrel
            have hxs := (hb.block _ (lt_of_block HXS.out)).trans HXS.out
            have hpx := (hb.block _ (lt_of_block HPX.out)).trans HPX.out
            have l0 : wr.cell? ⟨p, 0, none⟩ = some (.int .i64 L.lo) := by rw [cell_of_row _ _ _ _ _ _ hpx]; rfl
            have l1 : wr.cell? ⟨p, 1, none⟩ = some (.int .i64 L.hi) := by rw [cell_of_row _ _ _ _ _ _ hpx]; rfl
            have l2 : wr.cell? ⟨p, 2, none⟩ = some (.int .i64 L.many) := by rw [cell_of_row _ _ _ _ _ _ hpx]; rfl
            have a0 : wr.cell? ⟨WZ.heap.size, 0, none⟩ = some (.iface 119 (.agg #[.int .i64 wl, .int .i64 wh])) := by rw [cell_of_row _ _ _ _ _ _ hxs]; rfl
            have a1 : wr.cell? ⟨WZ.heap.size, 1, none⟩ = some (.iface 113 (.agg #[.int .i64 wl, .int .i64 wh])) := by rw [cell_of_row _ _ _ _ _ _ hxs]; rfl
            have HB := Lib.hid hb
            clear hxs hpx hb
            have hcase : i = 0 ∨ i = 1 ∨ i = 2 := by omega
            rcases hcase with rfl | rfl | rfl
            · go_wp2_with fail
              refine (meets_any (wl, wh) L _).mono ?_
              rintro e w5 ⟨rfl, hb5⟩
              dsimp only
              cases hme : meetsJ (wl, wh) L with
              | true =>
                have hm1 : grJ m k 1 = 1 := by show m = 1; rw [HM.out, hme]; rfl
                have HM1 := Lib.hid hm1
                have HB5 := Lib.hid (HB.out.trans (hb5.mono HB.out.size))
                clear hm1 hme hb5
                show _
                simp only [grJ]
                go_wp2
                exact ⟨⟨1, by omega, rfl, by rw [HM1.out], HB5.out⟩, by simp [intOf]⟩
              | false =>
                have hm1 : grJ m k 1 = 0 := by show m = 0; rw [HM.out, hme]; rfl
                have HM1 := Lib.hid hm1
                have HB5 := Lib.hid (HB.out.trans (hb5.mono HB.out.size))
                clear hm1 hme hb5
                simp only [grJ]
                go_wp2
                exact ⟨⟨1, by omega, rfl, by rw [HM1.out], HB5.out⟩, by simp [intOf]⟩
            · go_wp2_with fail
              refine (inside_any (wl, wh) L _).mono ?_
              rintro e w5 ⟨rfl, hb5⟩
              dsimp only
              cases hme : insideJ (wl, wh) L with
              | true =>
                have hm1 : grJ m k 2 = m + 1 := by show m + k = m + 1; rw [HKK.out, hme]; rfl
                have hmw : IntKind.i64.wrap (m + 1) = m + 1 := IntWalk.i64_in _ (by have := HM.out; split at this <;> omega)
                have HM1 := Lib.hid hm1
                have HB5 := Lib.hid (HB.out.trans (hb5.mono HB.out.size))
                clear hm1 hme hb5
                simp only [grJ]
                go_wp2
                exact ⟨⟨2, by omega, rfl, by rw [HM1.out], HB5.out⟩, by simp [intOf]⟩
              | false =>
                have hm1 : grJ m k 2 = m := by show m + k = m; rw [HKK.out, hme]; simp
                have HM1 := Lib.hid hm1
                have HB5 := Lib.hid (HB.out.trans (hb5.mono HB.out.size))
                clear hm1 hme hb5
                simp only [grJ]
                go_wp2
                exact ⟨⟨2, by omega, rfl, by rw [HM1.out], HB5.out⟩, by simp [intOf]⟩
            · have hsw := HSX.out.below HB.out
              have q2 : wr.cell? ⟨w.heap.size + 1 + 1, 0, none⟩ = some (.int .i64 0) := by rw [cell_of_row _ _ _ _ _ _ hsw.r2]; rfl
              have q3 : wr.frozen? ⟨w.heap.size + 1 + 1, 0, none⟩ = false := frozen_of_row _ _ _ _ _ hsw.r2
              have HSW := Lib.hid hsw
              have hg : gradeS ⟨l, (fl, fh)⟩ x (wl, wh) = m + k := by unfold gradeS; rw [← HLL.out, HM.out, HKK.out]
              have HG := Lib.hid hg
              clear hsw hg a0 a1 l0 l1 l2
              simp only [grJ]
              go_wp2_with fail
              refine sleaf_ret (w.heap.size + 1 + 1) _ _ ?_
              have x9 : (wr.setCell ⟨w.heap.size + 1 + 1, 0, none⟩ (.int .i64 0)).heap[w.heap.size + 1 + 1]? = some (.cells #[.int .i64 0] 33 (0, 0)) := by
                have := HSW.out.r2
                simp [World.setCell, Array.getElem?_modify, this]
              have e9 : (wr.setCell ⟨w.heap.size + 1 + 1, 0, none⟩ (.int .i64 0)).cell? ⟨w.heap.size + 1 + 1, 0, none⟩ = some (.int .i64 0) := by rw [cell_of_row _ _ _ _ _ _ x9]; rfl
              exact ⟨_, by simp [results, Tryd.results33, go_sem, e9]; rfl, by rw [HG.out], HSW.out.bel.setCell (by simp; try omega) _⟩
      · skip
        go_simp
        obtain ⟨p, hp⟩ : ∃ x, x = W3.heap.size := ⟨_, rfl⟩
        rw [← hp]
        obtain ⟨W4, hW4⟩ : ∃ x, x = W3.alloc (.cells #[.int .i64 0, .int .i64 0, .int .i64 0] 116) := ⟨_, rfl⟩
        rw [← hW4]
        have hba : Below W3.heap.size W3 W4 := by rw [hW4]; exact (Below.refl _ _).alloc (Nat.le_refl _) _
        have hrp : W4.heap[p]? = some (.cells #[.int .i64 0, .int .i64 0, .int .i64 0] 116 (0, 0)) := by rw [hW4, hp]; exact heap_alloc_at _ _ _ rfl
        have hpw : w.heap.size + 1 + 1 < p := by rw [hp]; exact lt_of_block hS.r2
        refine hK.out _ _ (hS.below hba) (fun hS => ?_)
        clear hK hW4 hp
        try simp only [List.getElem_toArray, List.getElem_cons_succ, List.getElem_cons_zero, Act.put, List.setIfInBounds_toArray, List.set_cons_zero, List.set_cons_succ]
        refine wpAnyH_ready (rs := [8]) (by kernel_rfl) (by simp) ?_
        refine AllReadyH.cons rfl (fun K hK => ?_) AllReadyH.nil
        go_simp
        go_at_call 67
        refine (sopen_any ⟨l, (fl, fh)⟩ (.slice ao n cap) true W4 (by rw [HN.out]; exact (HBS.out.later hS.bel.size (fun k hk _ => hS.bel.block k hk)).low)).mono ?_
        rintro e W5 ⟨hb8, hor⟩
        have he0 : errS ⟨l, (fl, fh)⟩ true = 0 := by unfold errS; rw [HV.out]; rfl
        rcases hor with ⟨hne, rfl⟩ | ⟨hz, pp, sv, rfl, hset, hpp⟩
        · exact absurd he0 hne
        dsimp only
        refine hK.out _ _ (hS.below hb8) (fun hS => ?_)
        clear hK he0
        try simp only [List.getElem_toArray, List.getElem_cons_succ, List.getElem_cons_zero, Act.put, List.setIfInBounds_toArray, List.set_cons_zero, List.set_cons_succ]
        have hrp := (hb8.block p (lt_of_block hrp)).trans hrp
        refine wpAnyH_ready (rs := [11]) (by kernel_rfl) (by simp) ?_
        refine AllReadyH.cons rfl (fun K hK => ?_) AllReadyH.nil
        go_simp
        go_at_call 75
        refine (sof_any ⟨l, (fl, fh)⟩ HV.out x HX.out pp sv W5 hset).mono ?_
        rintro e W6 ⟨rfl, hb11⟩
        dsimp only
        refine hK.out _ _ (hS.below hb11) (fun hS => ?_)
        clear hK
        try simp only [List.getElem_toArray, List.getElem_cons_succ, List.getElem_cons_zero, Act.put, List.setIfInBounds_toArray, List.set_cons_zero, List.set_cons_succ]
        have hrp := (hb11.block p (lt_of_block hrp)).trans hrp
        obtain ⟨L, hL⟩ : ∃ L, L = lenS ⟨l, (fl, fh)⟩ x := ⟨_, rfl⟩
        rw [← hL]
        have hk7 := keeps_setRow W6 p #[.int .i64 L.lo, .int .i64 L.hi, .int .i64 L.many]
        have hr7 := setRow_heap W6 p _ #[.int .i64 L.lo, .int .i64 L.hi, .int .i64 L.many] _ _ hrp
        obtain ⟨WZ, hWZ⟩ : ∃ x, x = W6.setRow p #[.int .i64 L.lo, .int .i64 L.hi, .int .i64 L.many] := ⟨_, rfl⟩
        rw [← hWZ] at hk7 hr7
        have hSZ : FewW ao n cap fl fh wl wh w WZ := ⟨(hk7.block _ (lt_of_block hS.r0) (by omega)).trans hS.r0, (hk7.block _ (lt_of_block hS.r1) (by omega)).trans hS.r1, (hk7.block _ (lt_of_block hS.r2) (by omega)).trans hS.r2, hS.bel.trans (hk7.below hS.bel.size (fun k h1 h2 => by omega))⟩
        refine wpAnyH_skip (k := 13) (w' := WZ) (by kernel_rfl) rfl rfl ?_ hSZ ?_
        · rw [hWZ]
          exact run_store_row 116 (.tmp 8) (.tmp 23) rfl p #[.int .i64 L.lo, .int .i64 L.hi, .int .i64 L.many] rfl rfl 116 _ hrp (by kernel_rfl) rfl (by simp [Value.oneCell'])
        refine wpAnyH_done (by kernel_rfl) ?_ _
        try simp only [List.getElem_toArray, List.getElem_cons_succ, List.getElem_cons_zero, Act.put, List.setIfInBounds_toArray, List.set_cons_zero, List.set_cons_succ]
        have HSZ := Lib.hid hSZ
        have HR7 := Lib.hid hr7
        have HLL := Lib.hid hL
        clear hk7 hr7 hSZ hWZ hS hrp hset hL
        have s3 : WZ.cell? ⟨w.heap.size + 1, 0, none⟩ = some (.int .i64 wl) := by rw [cell_of_row _ _ _ _ _ _ HSZ.out.r1]; rfl
        have s4 : WZ.cell? ⟨w.heap.size + 1, 1, none⟩ = some (.int .i64 wh) := by rw [cell_of_row _ _ _ _ _ _ HSZ.out.r1]; rfl
        go_wp2_with fail
        refine wp_name (fun X => X.heap[WZ.heap.size]? = some (.cells #[.iface 119 (.agg #[.int .i64 wl, .int .i64 wh]), .iface 113 (.agg #[.int .i64 wl, .int .i64 wh])] 122 (0, 0)) ∧ Below WZ.heap.size WZ X) ⟨heap_alloc_at _ _ _ rfl, (Below.refl _ _).alloc (Nat.le_refl _) _⟩ ?_
        rintro X ⟨hxs, hbx⟩
        have hpX := (hbx.block p (lt_of_block HR7.out)).trans HR7.out
        have HXS := Lib.hid hxs
        have HPX := Lib.hid hpX
        have HSX := Lib.hid (HSZ.out.below hbx)
        clear hxs hpX hbx s3 s4
        have hmi := method_inside
        have hmm := method_meets
        obtain ⟨m, hm⟩ : ∃ m : Int, m = if meetsJ (wl, wh) L then 1 else 0 := ⟨_, rfl⟩
        obtain ⟨k, hk⟩ : ∃ k : Int, k = if insideJ (wl, wh) L then 1 else 0 := ⟨_, rfl⟩
        have HM := Lib.hid hm
        have HKK := Lib.hid hk
        clear hm hk
        go_loopw [9, 32] (fun gv iv wr => ∃ i : Nat, i ≤ 2 ∧ iv = .int .i64 i ∧ gv = .int .i64 (grJ m k i) ∧ Below X.heap.size X wr) (fun _ iv _ => 2 - (intOf iv).toNat)
        case atStart => exact ⟨0, by omega, rfl, rfl, Below.refl _ _⟩
        case round =>
          obtain ⟨i, hi, rfl, rfl, hb⟩ := hrel
          have hxs := (hb.block _ (lt_of_block HXS.out)).trans HXS.out
          have hpx := (hb.block _ (lt_of_block HPX.out)).trans HPX.out
          have l0 : wr.cell? ⟨p, 0, none⟩ = some (.int .i64 L.lo) := by rw [cell_of_row _ _ _ _ _ _ hpx]; rfl
          have l1 : wr.cell? ⟨p, 1, none⟩ = some (.int .i64 L.hi) := by rw [cell_of_row _ _ _ _ _ _ hpx]; rfl
          have l2 : wr.cell? ⟨p, 2, none⟩ = some (.int .i64 L.many) := by rw [cell_of_row _ _ _ _ _ _ hpx]; rfl
          have a0 : wr.cell? ⟨WZ.heap.size, 0, none⟩ = some (.iface 119 (.agg #[.int .i64 wl, .int .i64 wh])) := by rw [cell_of_row _ _ _ _ _ _ hxs]; rfl
          have a1 : wr.cell? ⟨WZ.heap.size, 1, none⟩ = some (.iface 113 (.agg #[.int .i64 wl, .int .i64 wh])) := by rw [cell_of_row _ _ _ _ _ _ hxs]; rfl
          have HB := Lib.hid hb
          clear hxs hpx hb
          have hcase : i = 0 ∨ i = 1 ∨ i = 2 := by omega
          rcases hcase with rfl | rfl | rfl
          · go_wp2_with fail
            refine (meets_any (wl, wh) L _).mono ?_
            rintro e w5 ⟨rfl, hb5⟩
            dsimp only
            cases hme : meetsJ (wl, wh) L with
            | true =>
              have hm1 : grJ m k 1 = 1 := by show m = 1; rw [HM.out, hme]; rfl
              have HM1 := Lib.hid hm1
              have HB5 := Lib.hid (HB.out.trans (hb5.mono HB.out.size))
              clear hm1 hme hb5
              show _
              simp only [grJ]
              go_wp2
              exact ⟨⟨1, by omega, rfl, by rw [HM1.out], HB5.out⟩, by simp [intOf]⟩
            | false =>
              have hm1 : grJ m k 1 = 0 := by show m = 0; rw [HM.out, hme]; rfl
              have HM1 := Lib.hid hm1
              have HB5 := Lib.hid (HB.out.trans (hb5.mono HB.out.size))
              clear hm1 hme hb5
              simp only [grJ]
              go_wp2
              exact ⟨⟨1, by omega, rfl, by rw [HM1.out], HB5.out⟩, by simp [intOf]⟩
          · go_wp2_with fail
            refine (inside_any (wl, wh) L _).mono ?_
            rintro e w5 ⟨rfl, hb5⟩
            dsimp only
            cases hme : insideJ (wl, wh) L with
            | true =>
              have hm1 : grJ m k 2 = m + 1 := by show m + k = m + 1; rw [HKK.out, hme]; rfl
              have hmw : IntKind.i64.wrap (m + 1) = m + 1 := IntWalk.i64_in _ (by have := HM.out; split at this <;> omega)
              have HM1 := Lib.hid hm1
              have HB5 := Lib.hid (HB.out.trans (hb5.mono HB.out.size))
              clear hm1 hme hb5
              simp only [grJ]
              go_wp2
              exact ⟨⟨2, by omega, rfl, by rw [HM1.out], HB5.out⟩, by simp [intOf]⟩
            | false =>
              have hm1 : grJ m k 2 = m := by show m + k = m; rw [HKK.out, hme]; simp
              have HM1 := Lib.hid hm1
              have HB5 := Lib.hid (HB.out.trans (hb5.mono HB.out.size))
              clear hm1 hme hb5
              simp only [grJ]
              go_wp2
              exact ⟨⟨2, by omega, rfl, by rw [HM1.out], HB5.out⟩, by simp [intOf]⟩
          · have hsw := HSX.out.below HB.out
            have q2 : wr.cell? ⟨w.heap.size + 1 + 1, 0, none⟩ = some (.int .i64 0) := by rw [cell_of_row _ _ _ _ _ _ hsw.r2]; rfl
            have q3 : wr.frozen? ⟨w.heap.size + 1 + 1, 0, none⟩ = false := frozen_of_row _ _ _ _ _ hsw.r2
            have HSW := Lib.hid hsw
            have hg : gradeS ⟨l, (fl, fh)⟩ x (wl, wh) = m + k := by unfold gradeS; rw [← HLL.out, HM.out, HKK.out]
            have HG := Lib.hid hg
            clear hsw hg a0 a1 l0 l1 l2
            simp only [grJ]
            go_wp2_with fail
            refine sleaf_ret (w.heap.size + 1 + 1) _ _ ?_
            have x9 : (wr.setCell ⟨w.heap.size + 1 + 1, 0, none⟩ (.int .i64 0)).heap[w.heap.size + 1 + 1]? = some (.cells #[.int .i64 0] 33 (0, 0)) := by
              have := HSW.out.r2
              simp [World.setCell, Array.getElem?_modify, this]
            have e9 : (wr.setCell ⟨w.heap.size + 1 + 1, 0, none⟩ (.int .i64 0)).cell? ⟨w.heap.size + 1 + 1, 0, none⟩ = some (.int .i64 0) := by rw [cell_of_row _ _ _ _ _ _ x9]; rfl
            exact ⟨_, by simp [results, Tryd.results33, go_sem, e9]; rfl, by rw [HG.out], HSW.out.bel.setCell (by simp; try omega) _⟩
    · skip
      go_simp
      obtain ⟨p, hp⟩ : ∃ x, x = W2.heap.size := ⟨_, rfl⟩
      rw [← hp]
      obtain ⟨W3, hW3⟩ : ∃ x, x = W2.alloc (.cells #[.int .i64 0, .int .i64 0, .int .i64 0] 116) := ⟨_, rfl⟩
      rw [← hW3]
      have hba : Below W2.heap.size W2 W3 := by rw [hW3]; exact (Below.refl _ _).alloc (Nat.le_refl _) _
      have hrp : W3.heap[p]? = some (.cells #[.int .i64 0, .int .i64 0, .int .i64 0] 116 (0, 0)) := by rw [hW3, hp]; exact heap_alloc_at _ _ _ rfl
      have hpw : w.heap.size + 1 + 1 < p := by rw [hp]; exact lt_of_block hS.r2
      refine hK.out _ _ (hS.below hba) (fun hS => ?_)
      clear hK hW3 hp
      try simp only [List.getElem_toArray, List.getElem_cons_succ, List.getElem_cons_zero, Act.put, List.setIfInBounds_toArray, List.set_cons_zero, List.set_cons_succ]
      refine wpAnyH_ready (rs := [6]) (by kernel_rfl) (by simp) ?_
      refine AllReadyH.cons rfl (fun K hK => ?_) AllReadyH.nil
      go_simp
      go_at_call 68
      refine (isWant_any (wl, wh) _).mono ?_
      rintro e W4 ⟨rfl, hb6⟩
      rw [HWO.out]
      dsimp only
      refine hK.out _ _ (hS.below hb6) (fun hS => ?_)
      clear hK
      try simp only [List.getElem_toArray, List.getElem_cons_succ, List.getElem_cons_zero, Act.put, List.setIfInBounds_toArray, List.set_cons_zero, List.set_cons_succ]
      refine wpAnyH_take (i := 7) (v := ?_) rfl (by kernel_rfl) (by kernel_rfl) (by kernel_rfl) (fun c a w h => right_put (by decide) (by decide) h) (Or.inl ⟨by rfl, ?_⟩) hS ?_
      rotate_left
      · intro W hSw
        have s0 : W.cell? ⟨w.heap.size, 0, none⟩ = some (.slice ao n cap) := by rw [cell_of_row _ _ _ _ _ _ hSw.r0]; rfl
        have s1 : W.cell? ⟨w.heap.size, 1, none⟩ = some (.int .i64 fl) := by rw [cell_of_row _ _ _ _ _ _ hSw.r0]; rfl
        have s2 : W.cell? ⟨w.heap.size, 2, none⟩ = some (.int .i64 fh) := by rw [cell_of_row _ _ _ _ _ _ hSw.r0]; rfl
        have s3 : W.cell? ⟨w.heap.size + 1, 0, none⟩ = some (.int .i64 wl) := by rw [cell_of_row _ _ _ _ _ _ hSw.r1]; rfl
        have s4 : W.cell? ⟨w.heap.size + 1, 1, none⟩ = some (.int .i64 wh) := by rw [cell_of_row _ _ _ _ _ _ hSw.r1]; rfl
        go_simp
        try with_reducible rfl
      try simp only [List.getElem_toArray, List.getElem_cons_succ, List.getElem_cons_zero, Act.put, List.setIfInBounds_toArray, List.set_cons_zero, List.set_cons_succ]
      have hrp := (hb6.block p (lt_of_block hrp)).trans hrp
      refine wpAnyH_ready (rs := [8]) (by kernel_rfl) (by simp) ?_
      refine AllReadyH.cons rfl (fun K hK => ?_) AllReadyH.nil
      go_simp
      go_at_call 67
      refine (sopen_any ⟨l, (fl, fh)⟩ (.slice ao n cap) true W4 (by rw [HN.out]; exact (HBS.out.later hS.bel.size (fun k hk _ => hS.bel.block k hk)).low)).mono ?_
      rintro e W5 ⟨hb8, hor⟩
      have he0 : errS ⟨l, (fl, fh)⟩ true = 0 := by unfold errS; rw [HV.out]; rfl
      rcases hor with ⟨hne, rfl⟩ | ⟨hz, pp, sv, rfl, hset, hpp⟩
      · exact absurd he0 hne
      dsimp only
      refine hK.out _ _ (hS.below hb8) (fun hS => ?_)
      clear hK he0
      try simp only [List.getElem_toArray, List.getElem_cons_succ, List.getElem_cons_zero, Act.put, List.setIfInBounds_toArray, List.set_cons_zero, List.set_cons_succ]
      have hrp := (hb8.block p (lt_of_block hrp)).trans hrp
      refine wpAnyH_ready (rs := [11]) (by kernel_rfl) (by simp) ?_
      refine AllReadyH.cons rfl (fun K hK => ?_) AllReadyH.nil
      go_simp
      go_at_call 75
      refine (sof_any ⟨l, (fl, fh)⟩ HV.out x HX.out pp sv W5 hset).mono ?_
      rintro e W6 ⟨rfl, hb11⟩
      dsimp only
      refine hK.out _ _ (hS.below hb11) (fun hS => ?_)
      clear hK
      try simp only [List.getElem_toArray, List.getElem_cons_succ, List.getElem_cons_zero, Act.put, List.setIfInBounds_toArray, List.set_cons_zero, List.set_cons_succ]
      have hrp := (hb11.block p (lt_of_block hrp)).trans hrp
      obtain ⟨L, hL⟩ : ∃ L, L = lenS ⟨l, (fl, fh)⟩ x := ⟨_, rfl⟩
      rw [← hL]
      have hk7 := keeps_setRow W6 p #[.int .i64 L.lo, .int .i64 L.hi, .int .i64 L.many]
      have hr7 := setRow_heap W6 p _ #[.int .i64 L.lo, .int .i64 L.hi, .int .i64 L.many] _ _ hrp
      obtain ⟨WZ, hWZ⟩ : ∃ x, x = W6.setRow p #[.int .i64 L.lo, .int .i64 L.hi, .int .i64 L.many] := ⟨_, rfl⟩
      rw [← hWZ] at hk7 hr7
      have hSZ : FewW ao n cap fl fh wl wh w WZ := ⟨(hk7.block _ (lt_of_block hS.r0) (by omega)).trans hS.r0, (hk7.block _ (lt_of_block hS.r1) (by omega)).trans hS.r1, (hk7.block _ (lt_of_block hS.r2) (by omega)).trans hS.r2, hS.bel.trans (hk7.below hS.bel.size (fun k h1 h2 => by omega))⟩
      refine wpAnyH_skip (k := 13) (w' := WZ) (by kernel_rfl) rfl rfl ?_ hSZ ?_
      · rw [hWZ]
        exact run_store_row 116 (.tmp 8) (.tmp 23) rfl p #[.int .i64 L.lo, .int .i64 L.hi, .int .i64 L.many] rfl rfl 116 _ hrp (by kernel_rfl) rfl (by simp [Value.oneCell'])
      refine wpAnyH_done (by kernel_rfl) ?_ _
      try simp only [List.getElem_toArray, List.getElem_cons_succ, List.getElem_cons_zero, Act.put, List.setIfInBounds_toArray, List.set_cons_zero, List.set_cons_succ]
      have HSZ := Lib.hid hSZ
      have HR7 := Lib.hid hr7
      have HLL := Lib.hid hL
      clear hk7 hr7 hSZ hWZ hS hrp hset hL
      have s3 : WZ.cell? ⟨w.heap.size + 1, 0, none⟩ = some (.int .i64 wl) := by rw [cell_of_row _ _ _ _ _ _ HSZ.out.r1]; rfl
      have s4 : WZ.cell? ⟨w.heap.size + 1, 1, none⟩ = some (.int .i64 wh) := by rw [cell_of_row _ _ _ _ _ _ HSZ.out.r1]; rfl
      go_wp2_with fail
      refine wp_name (fun X => X.heap[WZ.heap.size]? = some (.cells #[.iface 119 (.agg #[.int .i64 wl, .int .i64 wh]), .iface 113 (.agg #[.int .i64 wl, .int .i64 wh])] 122 (0, 0)) ∧ Below WZ.heap.size WZ X) ⟨heap_alloc_at _ _ _ rfl, (Below.refl _ _).alloc (Nat.le_refl _) _⟩ ?_
      rintro X ⟨hxs, hbx⟩
      have hpX := (hbx.block p (lt_of_block HR7.out)).trans HR7.out
      have HXS := Lib.hid hxs
      have HPX := Lib.hid hpX
      have HSX := Lib.hid (HSZ.out.below hbx)
      clear hxs hpX hbx s3 s4
      have hmi := method_inside
      have hmm := method_meets
      obtain ⟨m, hm⟩ : ∃ m : Int, m = if meetsJ (wl, wh) L then 1 else 0 := ⟨_, rfl⟩
      obtain ⟨k, hk⟩ : ∃ k : Int, k = if insideJ (wl, wh) L then 1 else 0 := ⟨_, rfl⟩
      have HM := Lib.hid hm
      have HKK := Lib.hid hk
      clear hm hk
      go_loopw [9, 32] (fun gv iv wr => ∃ i : Nat, i ≤ 2 ∧ iv = .int .i64 i ∧ gv = .int .i64 (grJ m k i) ∧ Below X.heap.size X wr) (fun _ iv _ => 2 - (intOf iv).toNat)
      case atStart => exact ⟨0, by omega, rfl, rfl, Below.refl _ _⟩
      case round =>
        obtain ⟨i, hi, rfl, rfl, hb⟩ := hrel
        have hxs := (hb.block _ (lt_of_block HXS.out)).trans HXS.out
        have hpx := (hb.block _ (lt_of_block HPX.out)).trans HPX.out
        have l0 : wr.cell? ⟨p, 0, none⟩ = some (.int .i64 L.lo) := by rw [cell_of_row _ _ _ _ _ _ hpx]; rfl
        have l1 : wr.cell? ⟨p, 1, none⟩ = some (.int .i64 L.hi) := by rw [cell_of_row _ _ _ _ _ _ hpx]; rfl
        have l2 : wr.cell? ⟨p, 2, none⟩ = some (.int .i64 L.many) := by rw [cell_of_row _ _ _ _ _ _ hpx]; rfl
        have a0 : wr.cell? ⟨WZ.heap.size, 0, none⟩ = some (.iface 119 (.agg #[.int .i64 wl, .int .i64 wh])) := by rw [cell_of_row _ _ _ _ _ _ hxs]; rfl
        have a1 : wr.cell? ⟨WZ.heap.size, 1, none⟩ = some (.iface 113 (.agg #[.int .i64 wl, .int .i64 wh])) := by rw [cell_of_row _ _ _ _ _ _ hxs]; rfl
        have HB := Lib.hid hb
        clear hxs hpx hb
        have hcase : i = 0 ∨ i = 1 ∨ i = 2 := by omega
        rcases hcase with rfl | rfl | rfl
        · go_wp2_with fail
          refine (meets_any (wl, wh) L _).mono ?_
          rintro e w5 ⟨rfl, hb5⟩
          dsimp only
          cases hme : meetsJ (wl, wh) L with
          | true =>
            have hm1 : grJ m k 1 = 1 := by show m = 1; rw [HM.out, hme]; rfl
            have HM1 := Lib.hid hm1
            have HB5 := Lib.hid (HB.out.trans (hb5.mono HB.out.size))
            clear hm1 hme hb5
            show _
            simp only [grJ]
            go_wp2
            exact ⟨⟨1, by omega, rfl, by rw [HM1.out], HB5.out⟩, by simp [intOf]⟩
          | false =>
            have hm1 : grJ m k 1 = 0 := by show m = 0; rw [HM.out, hme]; rfl
            have HM1 := Lib.hid hm1
            have HB5 := Lib.hid (HB.out.trans (hb5.mono HB.out.size))
            clear hm1 hme hb5
            simp only [grJ]
            go_wp2
            exact ⟨⟨1, by omega, rfl, by rw [HM1.out], HB5.out⟩, by simp [intOf]⟩
        · go_wp2_with fail
          refine (inside_any (wl, wh) L _).mono ?_
          rintro e w5 ⟨rfl, hb5⟩
          dsimp only
          cases hme : insideJ (wl, wh) L with
          | true =>
            have hm1 : grJ m k 2 = m + 1 := by show m + k = m + 1; rw [HKK.out, hme]; rfl
            have hmw : IntKind.i64.wrap (m + 1) = m + 1 := IntWalk.i64_in _ (by have := HM.out; split at this <;> omega)
            have HM1 := Lib.hid hm1
            have HB5 := Lib.hid (HB.out.trans (hb5.mono HB.out.size))
            clear hm1 hme hb5
            simp only [grJ]
            go_wp2
            exact ⟨⟨2, by omega, rfl, by rw [HM1.out], HB5.out⟩, by simp [intOf]⟩
          | false =>
            have hm1 : grJ m k 2 = m := by show m + k = m; rw [HKK.out, hme]; simp
            have HM1 := Lib.hid hm1
            have HB5 := Lib.hid (HB.out.trans (hb5.mono HB.out.size))
            clear hm1 hme hb5
            simp only [grJ]
            go_wp2
            exact ⟨⟨2, by omega, rfl, by rw [HM1.out], HB5.out⟩, by simp [intOf]⟩
        · have hsw := HSX.out.below HB.out
          have q2 : wr.cell? ⟨w.heap.size + 1 + 1, 0, none⟩ = some (.int .i64 0) := by rw [cell_of_row _ _ _ _ _ _ hsw.r2]; rfl
          have q3 : wr.frozen? ⟨w.heap.size + 1 + 1, 0, none⟩ = false := frozen_of_row _ _ _ _ _ hsw.r2
          have HSW := Lib.hid hsw
          have hg : gradeS ⟨l, (fl, fh)⟩ x (wl, wh) = m + k := by unfold gradeS; rw [← HLL.out, HM.out, HKK.out]
          have HG := Lib.hid hg
          clear hsw hg a0 a1 l0 l1 l2
          simp only [grJ]
          go_wp2_with fail
          refine sleaf_ret (w.heap.size + 1 + 1) _ _ ?_
          have x9 : (wr.setCell ⟨w.heap.size + 1 + 1, 0, none⟩ (.int .i64 0)).heap[w.heap.size + 1 + 1]? = some (.cells #[.int .i64 0] 33 (0, 0)) := by
            have := HSW.out.r2
            simp [World.setCell, Array.getElem?_modify, this]
          have e9 : (wr.setCell ⟨w.heap.size + 1 + 1, 0, none⟩ (.int .i64 0)).cell? ⟨w.heap.size + 1 + 1, 0, none⟩ = some (.int .i64 0) := by rw [cell_of_row _ _ _ _ _ _ x9]; rfl
          exact ⟨_, by simp [results, Tryd.results33, go_sem, e9]; rfl, by rw [HG.out], HSW.out.bel.setCell (by simp; try omega) _⟩
  · skip
    go_simp
    obtain ⟨p, hp⟩ : ∃ x, x = W1.heap.size := ⟨_, rfl⟩
    rw [← hp]
    obtain ⟨W2, hW2⟩ : ∃ x, x = W1.alloc (.cells #[.int .i64 0, .int .i64 0, .int .i64 0] 116) := ⟨_, rfl⟩
    rw [← hW2]
    have hba : Below W1.heap.size W1 W2 := by rw [hW2]; exact (Below.refl _ _).alloc (Nat.le_refl _) _
    have hrp : W2.heap[p]? = some (.cells #[.int .i64 0, .int .i64 0, .int .i64 0] 116 (0, 0)) := by rw [hW2, hp]; exact heap_alloc_at _ _ _ rfl
    have hpw : w.heap.size + 1 + 1 < p := by rw [hp]; exact lt_of_block hS.r2
    refine hK.out _ _ (hS.below hba) (fun hS => ?_)
    clear hK hW2 hp
    try simp only [List.getElem_toArray, List.getElem_cons_succ, List.getElem_cons_zero, Act.put, List.setIfInBounds_toArray, List.set_cons_zero, List.set_cons_succ]
    refine wpAnyH_ready (rs := [3]) (by kernel_rfl) (by simp) ?_
    refine AllReadyH.cons rfl (fun K hK => ?_) AllReadyH.nil
    go_simp
    go_at_call 74
    refine (isSet_any ⟨l, (fl, fh)⟩ (.slice ao n cap) x W2 (by rw [HN.out]; exact (HBS.out.later hS.bel.size (fun k hk _ => hS.bel.block k hk)).low) (validSt_parts HV.out).1).mono ?_
    rintro e W3 ⟨rfl, hb3⟩
    rw [HIS.out]
    dsimp only
    refine hK.out _ _ (hS.below hb3) (fun hS => ?_)
    clear hK
    try simp only [List.getElem_toArray, List.getElem_cons_succ, List.getElem_cons_zero, Act.put, List.setIfInBounds_toArray, List.set_cons_zero, List.set_cons_succ]
    refine wpAnyH_take (i := 4) (v := ?_) rfl (by kernel_rfl) (by kernel_rfl) (by kernel_rfl) (fun c a w h => right_put (by decide) (by decide) h) (Or.inl ⟨by rfl, ?_⟩) hS ?_
    rotate_left
    · intro W hSw
      have s0 : W.cell? ⟨w.heap.size, 0, none⟩ = some (.slice ao n cap) := by rw [cell_of_row _ _ _ _ _ _ hSw.r0]; rfl
      have s1 : W.cell? ⟨w.heap.size, 1, none⟩ = some (.int .i64 fl) := by rw [cell_of_row _ _ _ _ _ _ hSw.r0]; rfl
      have s2 : W.cell? ⟨w.heap.size, 2, none⟩ = some (.int .i64 fh) := by rw [cell_of_row _ _ _ _ _ _ hSw.r0]; rfl
      have s3 : W.cell? ⟨w.heap.size + 1, 0, none⟩ = some (.int .i64 wl) := by rw [cell_of_row _ _ _ _ _ _ hSw.r1]; rfl
      have s4 : W.cell? ⟨w.heap.size + 1, 1, none⟩ = some (.int .i64 wh) := by rw [cell_of_row _ _ _ _ _ _ hSw.r1]; rfl
      go_simp
      try with_reducible rfl
    try simp only [List.getElem_toArray, List.getElem_cons_succ, List.getElem_cons_zero, Act.put, List.setIfInBounds_toArray, List.set_cons_zero, List.set_cons_succ]
    refine wpAnyH_take (i := 5) (v := ?_) rfl (by kernel_rfl) (by kernel_rfl) (by kernel_rfl) (fun c a w h => right_put (by decide) (by decide) h) (Or.inl ⟨by rfl, ?_⟩) hS ?_
    rotate_left
    · intro W hSw
      have s0 : W.cell? ⟨w.heap.size, 0, none⟩ = some (.slice ao n cap) := by rw [cell_of_row _ _ _ _ _ _ hSw.r0]; rfl
      have s1 : W.cell? ⟨w.heap.size, 1, none⟩ = some (.int .i64 fl) := by rw [cell_of_row _ _ _ _ _ _ hSw.r0]; rfl
      have s2 : W.cell? ⟨w.heap.size, 2, none⟩ = some (.int .i64 fh) := by rw [cell_of_row _ _ _ _ _ _ hSw.r0]; rfl
      have s3 : W.cell? ⟨w.heap.size + 1, 0, none⟩ = some (.int .i64 wl) := by rw [cell_of_row _ _ _ _ _ _ hSw.r1]; rfl
      have s4 : W.cell? ⟨w.heap.size + 1, 1, none⟩ = some (.int .i64 wh) := by rw [cell_of_row _ _ _ _ _ _ hSw.r1]; rfl
      go_simp
      try with_reducible rfl
    try simp only [List.getElem_toArray, List.getElem_cons_succ, List.getElem_cons_zero, Act.put, List.setIfInBounds_toArray, List.set_cons_zero, List.set_cons_succ]
    have hrp := (hb3.block p (lt_of_block hrp)).trans hrp
    refine wpAnyH_ready (rs := [6]) (by kernel_rfl) (by simp) ?_
    refine AllReadyH.cons rfl (fun K hK => ?_) AllReadyH.nil
    go_simp
    go_at_call 68
    refine (isWant_any (wl, wh) _).mono ?_
    rintro e W4 ⟨rfl, hb6⟩
    rw [HWO.out]
    dsimp only
    refine hK.out _ _ (hS.below hb6) (fun hS => ?_)
    clear hK
    try simp only [List.getElem_toArray, List.getElem_cons_succ, List.getElem_cons_zero, Act.put, List.setIfInBounds_toArray, List.set_cons_zero, List.set_cons_succ]
    refine wpAnyH_take (i := 7) (v := ?_) rfl (by kernel_rfl) (by kernel_rfl) (by kernel_rfl) (fun c a w h => right_put (by decide) (by decide) h) (Or.inl ⟨by rfl, ?_⟩) hS ?_
    rotate_left
    · intro W hSw
      have s0 : W.cell? ⟨w.heap.size, 0, none⟩ = some (.slice ao n cap) := by rw [cell_of_row _ _ _ _ _ _ hSw.r0]; rfl
      have s1 : W.cell? ⟨w.heap.size, 1, none⟩ = some (.int .i64 fl) := by rw [cell_of_row _ _ _ _ _ _ hSw.r0]; rfl
      have s2 : W.cell? ⟨w.heap.size, 2, none⟩ = some (.int .i64 fh) := by rw [cell_of_row _ _ _ _ _ _ hSw.r0]; rfl
      have s3 : W.cell? ⟨w.heap.size + 1, 0, none⟩ = some (.int .i64 wl) := by rw [cell_of_row _ _ _ _ _ _ hSw.r1]; rfl
      have s4 : W.cell? ⟨w.heap.size + 1, 1, none⟩ = some (.int .i64 wh) := by rw [cell_of_row _ _ _ _ _ _ hSw.r1]; rfl
      go_simp
      try with_reducible rfl
    try simp only [List.getElem_toArray, List.getElem_cons_succ, List.getElem_cons_zero, Act.put, List.setIfInBounds_toArray, List.set_cons_zero, List.set_cons_succ]
    have hrp := (hb6.block p (lt_of_block hrp)).trans hrp
    refine wpAnyH_ready (rs := [8]) (by kernel_rfl) (by simp) ?_
    refine AllReadyH.cons rfl (fun K hK => ?_) AllReadyH.nil
    go_simp
    go_at_call 67
    refine (sopen_any ⟨l, (fl, fh)⟩ (.slice ao n cap) true W4 (by rw [HN.out]; exact (HBS.out.later hS.bel.size (fun k hk _ => hS.bel.block k hk)).low)).mono ?_
    rintro e W5 ⟨hb8, hor⟩
    have he0 : errS ⟨l, (fl, fh)⟩ true = 0 := by unfold errS; rw [HV.out]; rfl
    rcases hor with ⟨hne, rfl⟩ | ⟨hz, pp, sv, rfl, hset, hpp⟩
    · exact absurd he0 hne
    dsimp only
    refine hK.out _ _ (hS.below hb8) (fun hS => ?_)
    clear hK he0
    try simp only [List.getElem_toArray, List.getElem_cons_succ, List.getElem_cons_zero, Act.put, List.setIfInBounds_toArray, List.set_cons_zero, List.set_cons_succ]
    have hrp := (hb8.block p (lt_of_block hrp)).trans hrp
    refine wpAnyH_ready (rs := [11]) (by kernel_rfl) (by simp) ?_
    refine AllReadyH.cons rfl (fun K hK => ?_) AllReadyH.nil
    go_simp
    go_at_call 75
    refine (sof_any ⟨l, (fl, fh)⟩ HV.out x HX.out pp sv W5 hset).mono ?_
    rintro e W6 ⟨rfl, hb11⟩
    dsimp only
    refine hK.out _ _ (hS.below hb11) (fun hS => ?_)
    clear hK
    try simp only [List.getElem_toArray, List.getElem_cons_succ, List.getElem_cons_zero, Act.put, List.setIfInBounds_toArray, List.set_cons_zero, List.set_cons_succ]
    have hrp := (hb11.block p (lt_of_block hrp)).trans hrp
    obtain ⟨L, hL⟩ : ∃ L, L = lenS ⟨l, (fl, fh)⟩ x := ⟨_, rfl⟩
    rw [← hL]
    have hk7 := keeps_setRow W6 p #[.int .i64 L.lo, .int .i64 L.hi, .int .i64 L.many]
    have hr7 := setRow_heap W6 p _ #[.int .i64 L.lo, .int .i64 L.hi, .int .i64 L.many] _ _ hrp
    obtain ⟨WZ, hWZ⟩ : ∃ x, x = W6.setRow p #[.int .i64 L.lo, .int .i64 L.hi, .int .i64 L.many] := ⟨_, rfl⟩
    rw [← hWZ] at hk7 hr7
    have hSZ : FewW ao n cap fl fh wl wh w WZ := ⟨(hk7.block _ (lt_of_block hS.r0) (by omega)).trans hS.r0, (hk7.block _ (lt_of_block hS.r1) (by omega)).trans hS.r1, (hk7.block _ (lt_of_block hS.r2) (by omega)).trans hS.r2, hS.bel.trans (hk7.below hS.bel.size (fun k h1 h2 => by omega))⟩
    refine wpAnyH_skip (k := 13) (w' := WZ) (by kernel_rfl) rfl rfl ?_ hSZ ?_
    · rw [hWZ]
      exact run_store_row 116 (.tmp 8) (.tmp 23) rfl p #[.int .i64 L.lo, .int .i64 L.hi, .int .i64 L.many] rfl rfl 116 _ hrp (by kernel_rfl) rfl (by simp [Value.oneCell'])
    refine wpAnyH_done (by kernel_rfl) ?_ _
    try simp only [List.getElem_toArray, List.getElem_cons_succ, List.getElem_cons_zero, Act.put, List.setIfInBounds_toArray, List.set_cons_zero, List.set_cons_succ]
    have HSZ := Lib.hid hSZ
    have HR7 := Lib.hid hr7
    have HLL := Lib.hid hL
    clear hk7 hr7 hSZ hWZ hS hrp hset hL
    have s3 : WZ.cell? ⟨w.heap.size + 1, 0, none⟩ = some (.int .i64 wl) := by rw [cell_of_row _ _ _ _ _ _ HSZ.out.r1]; rfl
    have s4 : WZ.cell? ⟨w.heap.size + 1, 1, none⟩ = some (.int .i64 wh) := by rw [cell_of_row _ _ _ _ _ _ HSZ.out.r1]; rfl
    go_wp2_with fail
    refine wp_name (fun X => X.heap[WZ.heap.size]? = some (.cells #[.iface 119 (.agg #[.int .i64 wl, .int .i64 wh]), .iface 113 (.agg #[.int .i64 wl, .int .i64 wh])] 122 (0, 0)) ∧ Below WZ.heap.size WZ X) ⟨heap_alloc_at _ _ _ rfl, (Below.refl _ _).alloc (Nat.le_refl _) _⟩ ?_
    rintro X ⟨hxs, hbx⟩
    have hpX := (hbx.block p (lt_of_block HR7.out)).trans HR7.out
    have HXS := Lib.hid hxs
    have HPX := Lib.hid hpX
    have HSX := Lib.hid (HSZ.out.below hbx)
    clear hxs hpX hbx s3 s4
    have hmi := method_inside
    have hmm := method_meets
    obtain ⟨m, hm⟩ : ∃ m : Int, m = if meetsJ (wl, wh) L then 1 else 0 := ⟨_, rfl⟩
    obtain ⟨k, hk⟩ : ∃ k : Int, k = if insideJ (wl, wh) L then 1 else 0 := ⟨_, rfl⟩
    have HM := Lib.hid hm
    have HKK := Lib.hid hk
    clear hm hk
    go_loopw [9, 32] (fun gv iv wr => ∃ i : Nat, i ≤ 2 ∧ iv = .int .i64 i ∧ gv = .int .i64 (grJ m k i) ∧ Below X.heap.size X wr) (fun _ iv _ => 2 - (intOf iv).toNat)
    case atStart => exact ⟨0, by omega, rfl, rfl, Below.refl _ _⟩
    case round =>
      obtain ⟨i, hi, rfl, rfl, hb⟩ := hrel
      have hxs := (hb.block _ (lt_of_block HXS.out)).trans HXS.out
      have hpx := (hb.block _ (lt_of_block HPX.out)).trans HPX.out
      have l0 : wr.cell? ⟨p, 0, none⟩ = some (.int .i64 L.lo) := by rw [cell_of_row _ _ _ _ _ _ hpx]; rfl
      have l1 : wr.cell? ⟨p, 1, none⟩ = some (.int .i64 L.hi) := by rw [cell_of_row _ _ _ _ _ _ hpx]; rfl
      have l2 : wr.cell? ⟨p, 2, none⟩ = some (.int .i64 L.many) := by rw [cell_of_row _ _ _ _ _ _ hpx]; rfl
      have a0 : wr.cell? ⟨WZ.heap.size, 0, none⟩ = some (.iface 119 (.agg #[.int .i64 wl, .int .i64 wh])) := by rw [cell_of_row _ _ _ _ _ _ hxs]; rfl
      have a1 : wr.cell? ⟨WZ.heap.size, 1, none⟩ = some (.iface 113 (.agg #[.int .i64 wl, .int .i64 wh])) := by rw [cell_of_row _ _ _ _ _ _ hxs]; rfl
      have HB := Lib.hid hb
      clear hxs hpx hb
      have hcase : i = 0 ∨ i = 1 ∨ i = 2 := by omega
      rcases hcase with rfl | rfl | rfl
      · go_wp2_with fail
        refine (meets_any (wl, wh) L _).mono ?_
        rintro e w5 ⟨rfl, hb5⟩
        dsimp only
        cases hme : meetsJ (wl, wh) L with
        | true =>
          have hm1 : grJ m k 1 = 1 := by show m = 1; rw [HM.out, hme]; rfl
          have HM1 := Lib.hid hm1
          have HB5 := Lib.hid (HB.out.trans (hb5.mono HB.out.size))
          clear hm1 hme hb5
          show _
          simp only [grJ]
          go_wp2
          exact ⟨⟨1, by omega, rfl, by rw [HM1.out], HB5.out⟩, by simp [intOf]⟩
        | false =>
          have hm1 : grJ m k 1 = 0 := by show m = 0; rw [HM.out, hme]; rfl
          have HM1 := Lib.hid hm1
          have HB5 := Lib.hid (HB.out.trans (hb5.mono HB.out.size))
          clear hm1 hme hb5
          simp only [grJ]
          go_wp2
          exact ⟨⟨1, by omega, rfl, by rw [HM1.out], HB5.out⟩, by simp [intOf]⟩
      · go_wp2_with fail
        refine (inside_any (wl, wh) L _).mono ?_
        rintro e w5 ⟨rfl, hb5⟩
        dsimp only
        cases hme : insideJ (wl, wh) L with
        | true =>
          have hm1 : grJ m k 2 = m + 1 := by show m + k = m + 1; rw [HKK.out, hme]; rfl
          have hmw : IntKind.i64.wrap (m + 1) = m + 1 := IntWalk.i64_in _ (by have := HM.out; split at this <;> omega)
          have HM1 := Lib.hid hm1
          have HB5 := Lib.hid (HB.out.trans (hb5.mono HB.out.size))
          clear hm1 hme hb5
          simp only [grJ]
          go_wp2
          exact ⟨⟨2, by omega, rfl, by rw [HM1.out], HB5.out⟩, by simp [intOf]⟩
        | false =>
          have hm1 : grJ m k 2 = m := by show m + k = m; rw [HKK.out, hme]; simp
          have HM1 := Lib.hid hm1
          have HB5 := Lib.hid (HB.out.trans (hb5.mono HB.out.size))
          clear hm1 hme hb5
          simp only [grJ]
          go_wp2
          exact ⟨⟨2, by omega, rfl, by rw [HM1.out], HB5.out⟩, by simp [intOf]⟩
      · have hsw := HSX.out.below HB.out
        have q2 : wr.cell? ⟨w.heap.size + 1 + 1, 0, none⟩ = some (.int .i64 0) := by rw [cell_of_row _ _ _ _ _ _ hsw.r2]; rfl
        have q3 : wr.frozen? ⟨w.heap.size + 1 + 1, 0, none⟩ = false := frozen_of_row _ _ _ _ _ hsw.r2
        have HSW := Lib.hid hsw
        have hg : gradeS ⟨l, (fl, fh)⟩ x (wl, wh) = m + k := by unfold gradeS; rw [← HLL.out, HM.out, HKK.out]
        have HG := Lib.hid hg
        clear hsw hg a0 a1 l0 l1 l2
        simp only [grJ]
        go_wp2_with fail
        refine sleaf_ret (w.heap.size + 1 + 1) _ _ ?_
        have x9 : (wr.setCell ⟨w.heap.size + 1 + 1, 0, none⟩ (.int .i64 0)).heap[w.heap.size + 1 + 1]? = some (.cells #[.int .i64 0] 33 (0, 0)) := by
          have := HSW.out.r2
          simp [World.setCell, Array.getElem?_modify, this]
        have e9 : (wr.setCell ⟨w.heap.size + 1 + 1, 0, none⟩ (.int .i64 0)).cell? ⟨w.heap.size + 1 + 1, 0, none⟩ = some (.int .i64 0) := by rw [cell_of_row _ _ _ _ _ _ x9]; rfl
        exact ⟨_, by simp [results, Tryd.results33, go_sem, e9]; rfl, by rw [HG.out], HSW.out.bel.setCell (by simp; try omega) _⟩
end Go.Proofs.YtbmfphiecllggaaDoor
