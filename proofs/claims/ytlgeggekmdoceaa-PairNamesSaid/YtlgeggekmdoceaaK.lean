/- What is told of a pair. -/
import Derived.Test.YtlgeggekmdoceaaJ
namespace Go.Proofs.Ytlgeggekmdoceaa
set_option linter.unusedVariables false
set_option linter.unusedSimpArgs false
open Go.RowKit Go.Shelf
attribute [local go_sem] Oper.semAt_some

/-- Numbers of a valid pair. -/
structure OkP (p : PairD) : Prop where
  n1 : 1 ≤ p.bs.length
  n5 : p.bs.length ≤ 5
  m8 : p.rs.length ≤ 8
  bs : ∀ s ∈ p.bs, -20 ≤ s.1 ∧ s.1 ≤ s.2 ∧ s.2 ≤ 20
  zz : -10 ≤ p.zl ∧ p.zl ≤ p.zh ∧ p.zh ≤ 10
  rr : -5 ≤ p.rl ∧ p.rl ≤ p.rh ∧ p.rh ≤ 5
  rs : ∀ r ∈ p.rs, 0 ≤ r.a ∧ r.a < p.bs.length ∧ 0 ≤ r.b ∧ r.b < p.bs.length ∧ 0 ≤ r.m ∧ r.m ≤ 60 ∧ -80 ≤ r.lo ∧ r.lo ≤ r.hi ∧ r.hi ≤ 80
theorem okB_bounds (p : PairD) (h : OkP p) (s : Nat) : ∀ x ∈ boundsL p s, okB x := by
  intro x hx
  unfold boundsL at hx
  rcases List.mem_append.1 hx with hx | hx
  · unfold blocksL at hx
    rw [List.mem_mapIdx] at hx
    obtain ⟨i, hi, rfl⟩ := hx
    simp at hi
    have hb := h.bs _ (List.mem_of_mem_take (List.getElem_mem (l := p.bs.take p.bs.length) (n := i) (by simpa using hi)))
    have := h.n5
    unfold okB blockB
    dsimp only
    refine ⟨by omega, by omega, by omega, by omega, by omega, by omega, by simp, by simp, by simp⟩
  · unfold readsL at hx
    rw [List.mem_filterMap] at hx
    obtain ⟨i, hi, hx⟩ := hx
    split at hx
    · obtain ⟨r, hr, rfl⟩ := Option.map_eq_some_iff.1 hx
      have := h.rs r (List.mem_of_getElem? hr)
      have := h.n5
      unfold okB readB
      dsimp only
      refine ⟨by omega, by omega, by omega, by omega, by omega, by omega, fun _ => by omega, by omega, by omega⟩
    · cases hx
theorem boundsL_length (p : PairD) (h : OkP p) (s : Nat) : (boundsL p s).length ≤ 13 := by
  unfold boundsL
  have h1 := readsL_le p.rs s p.rs.length
  have h2 : (blocksL p.bs p.bs.length).length = p.bs.length := by simp [blocksL]
  have := h.n5
  have := h.m8
  rw [List.length_append]
  omega
/-- The tables of a pair, by the readings of a set. -/
def pairOuts (p : PairD) (s : Nat) : List ((Int × Int) × Tab) := outs (boundsL p s) (comps p.zl p.zh p.rl p.rh)
def allR (p : PairD) : Nat := 2 ^ p.rs.length - 1
theorem allR_lt (p : PairD) (h : p.rs.length ≤ 8) : allR p < 256 := by
  unfold allR
  have : 2 ^ p.rs.length ≤ 2 ^ 8 := Nat.pow_le_pow_right (by decide) h
  omega
theorem comps_ne (zl zh rl rh : Int) (i j : Nat) (hi : i < (comps zl zh rl rh).length) (hj : j < (comps zl zh rl rh).length) (h : (comps zl zh rl rh)[i] = (comps zl zh rl rh)[j]) : i = j := by
  unfold comps at *
  simp only [List.getElem_map, List.getElem_range, Prod.mk.injEq] at h
  have hd1 := Nat.div_add_mod i (wideN rl rh)
  have hd2 := Nat.div_add_mod j (wideN rl rh)
  have e1 : i / wideN rl rh = j / wideN rl rh := by omega
  have e2 : i % wideN rl rh = j % wideN rl rh := by omega
  rw [e1, e2] at hd1
  omega
theorem outs_fst (l : List Bnd) (cs : List (Int × Int)) : (outs l cs).map (·.1) = cs.filter (fun c => diagOk (tabOf l c)) := by
  induction cs with
  | nil => rfl
  | cons c cs ih =>
    have h1 : outs l (c :: cs) = outs l [c] ++ outs l cs := outs_append l [c] cs
    rw [h1, List.map_append, ih, List.filter_cons]
    cases hd : diagOk (tabOf l c) with
    | true => rw [outs_yes l c hd]; rfl
    | false => rw [outs_no l c hd]; rfl
theorem outs_keys (l : List Bnd) (zl zh rl rh : Int) (pre rest : List ((Int × Int) × Tab)) (x : (Int × Int) × Tab) (h : outs l (comps zl zh rl rh) = pre ++ x :: rest) : ∀ y ∈ pre, x.1 ≠ y.1 := by
  have hnd : (comps zl zh rl rh).Nodup := by
    rw [List.nodup_iff_pairwise_ne, List.pairwise_iff_getElem]
    intro i j hi hj hij he
    have := comps_ne zl zh rl rh i j hi hj he
    omega
  have hnd2 : ((outs l (comps zl zh rl rh)).map (·.1)).Nodup := by
    rw [outs_fst]
    exact hnd.filter _
  rw [h, List.map_append, List.nodup_append] at hnd2
  intro y hy he
  exact hnd2.2.2 y.1 (List.mem_map_of_mem hy) x.1 (by simp) he.symm

theorem listAt_of_own2 {w W : World} {base : Nat} {e : TypeId} {v : Value} {n : Nat} {xs : List Value} (h : w.ownsRow base e 1 v n xs) (hb : Below w.heap.size w W) (hn : n ≤ 1000) (Rd : Nat → Prop) (hR : ∀ k, base ≤ k → k < w.heap.size → Rd k) : ListAt W v xs Rd := by
  have hl := own_length h
  rcases h.2 with ⟨h2, h3⟩ | ⟨g, cap, cur, h2, h3, h4, h5, h6, h7, h8⟩
  · subst h3
    exact ⟨none, 0, by rw [h2, hl], by omega, fun i hi => by omega⟩
  · refine ⟨_, cap, by rw [h2, hl], by omega, fun i hi => ⟨g, 0, rfl, hR g h3 (lt_of_block h4), Nat.lt_of_lt_of_le (lt_of_block h4) hb.size, ?_⟩⟩
    rw [Nat.zero_add, cell_of_row W g i cur e (0, 0) ((hb.block g (lt_of_block h4)).trans h4)]
    subst h8
    simp at hi ⊢
theorem bench_set (w : World) (bp : Nat) (bs rs m m' : Value) (zl zh rl rh : Int) (h : w.heap[bp]? = some (benchObj bs rs zl zh rl rh m)) : (w.setCell ⟨bp, 6, none⟩ m').heap[bp]? = some (benchObj bs rs zl zh rl rh m') := by
  unfold benchObj at *
  simp [World.setCell, Array.getElem?_modify, h]
theorem SpansAt.later {w W : World} {v : Value} {l : List (Int × Int)} {Rd : Nat → Prop} (h : SpansAt w v l Rd) (hs : w.heap.size ≤ W.heap.size) (hk : ∀ k, k < w.heap.size → Rd k → W.heap[k]? = w.heap[k]?) : SpansAt W v l Rd := by
  obtain ⟨ao, cap, h1, h2, h3, h4⟩ := h
  refine ⟨ao, cap, h1, h2, h3, fun i hi => ?_⟩
  obtain ⟨b, off, e1, e2, e3, e4, e5⟩ := h4 i hi
  have hb := hk b e3 e2
  exact ⟨b, off, e1, e2, Nat.lt_of_lt_of_le e3 hs, (World.cell?_of_block (w := w) (a := ⟨b, off + i * 2, none⟩) hb).trans e4, (World.cell?_of_block (w := w) (a := ⟨b, off + i * 2 + 1, none⟩) hb).trans e5⟩
theorem ReadsAt.later {w W : World} {v : Value} {l : List RdD} {Rd : Nat → Prop} (h : ReadsAt w v l Rd) (hs : w.heap.size ≤ W.heap.size) (hk : ∀ k, k < w.heap.size → Rd k → W.heap[k]? = w.heap[k]?) : ReadsAt W v l Rd := by
  obtain ⟨ao, cap, h1, h2, h3, h4⟩ := h
  refine ⟨ao, cap, h1, h2, h3, fun i hi => ?_⟩
  obtain ⟨b, off, e1, e2, e3, e4, e5, e6, e7, e8⟩ := h4 i hi
  have hb := hk b e3 e2
  exact ⟨b, off, e1, e2, Nat.lt_of_lt_of_le e3 hs, (World.cell?_of_block (w := w) (a := ⟨b, off + i * 5, none⟩) hb).trans e4, (World.cell?_of_block (w := w) (a := ⟨b, off + i * 5 + 1, none⟩) hb).trans e5,
    (World.cell?_of_block (w := w) (a := ⟨b, off + i * 5 + 2, none⟩) hb).trans e6, (World.cell?_of_block (w := w) (a := ⟨b, off + i * 5 + 3, none⟩) hb).trans e7, (World.cell?_of_block (w := w) (a := ⟨b, off + i * 5 + 4, none⟩) hb).trans e8⟩

set_option maxRecDepth 100000 in
set_option maxHeartbeats 2000000 in
theorem told_any (p : PairD) (hp : OkP p) (bp : Nat) (bs rs : Value) (w : World) (hbp : w.heap[bp]? = some (benchObj bs rs p.zl p.zh p.rl p.rh (.map none))) (Rd : Nat → Prop) (hRd : ∀ k, Rd k → k ≠ bp)
    (hbs : SpansAt w bs p.bs Rd) (hrs : ReadsAt w rs p.rs Rd) :
    Calls Try.prog 50 #[.pointer (some ⟨bp, 0, none⟩)] w fun e w' => Keeps (fun k => k = bp) w w' ∧
      ((pairOuts p (allR p) = [] ∧ e = .panicked [{ v := stopV 10, recovered := false }]) ∨
       (pairOuts p (allR p) ≠ [] ∧ e = .returned (.pointer (some ⟨bp, 0, none⟩)) ∧ ∃ mb, w.heap.size ≤ mb ∧ w'.heap[bp]? = some (benchObj bs rs p.zl p.zh p.rl p.rh (.map (some mb))) ∧
         w'.heap[mb]? = some (.map (entsOf (pairOuts p (allR p))) (pairOuts p (allR p)).length))) := by
  have hlt := lt_of_block hbp
  have hmm := @run_makeMap Try.prog
  obtain ⟨aor, capr, hrsv, _⟩ := id hrs
  obtain ⟨aob, capb, hbsv, _⟩ := id hbs
  subst hbsv hrsv
  have HBS := Lib.hid hbs
  have HRS := Lib.hid hrs
  clear hbs hrs
  have HBP := Lib.hid hbp
  clear hbp
  refine calls_of_wp_marks Try.func50 rfl ?_
  simp only [Try.ntmps50, List.size_toArray, List.length_cons, List.length_nil, Nat.reduceAdd, Nat.reduceSub, Array.replicate_succ, Array.replicate_zero, List.push_toArray, List.append_toArray, List.nil_append, List.cons_append]
  have c6 : w.cell? ⟨bp, 6, none⟩ = some (.map none) := by rw [cell_of_row w bp _ _ _ _ HBP.out]; rfl
  have f6 : w.frozen? ⟨bp, 6, none⟩ = false := frozen_of_row w bp 6 _ _ HBP.out
  go_wp2_with fail
  obtain ⟨W1, hW1⟩ : ∃ W1, W1 = ((w.setCell ⟨bp, 6, none⟩ (.map (some (w.heap.size + 1)))).alloc (boxPtr bp)).alloc (.map #[] 0) := ⟨_, rfl⟩
  rw [show (((w.setCell ⟨bp, 6, none⟩ (.map (some (w.heap.size + 1)))).alloc (.cells #[.pointer (some ⟨bp, 0, none⟩)] 68)).alloc (.map #[] 0)) = W1 from hW1.symm]
  have hsz : W1.heap.size = w.heap.size + 2 := by rw [hW1]; simp
  have hkw : Keeps (fun k => k = bp) w W1 := by rw [hW1]; exact ((Keeps.setCell (Mut := fun k => k = bp) _ _ _ rfl).trans (Keeps.alloc _ _ _)).trans (Keeps.alloc _ _ _)
  have hbx : W1.heap[w.heap.size]? = some (boxPtr bp) := by rw [hW1]; exact (by repeat (first | (refine heap_alloc_at _ _ _ ?_; (simp <;> omega); done) | (refine (hget_old _ _ _ ?_).trans ?_; · (simp <;> omega))))
  have hmb : W1.heap[w.heap.size + 1]? = some (.map #[] 0) := by rw [hW1]; exact (by repeat (first | (refine heap_alloc_at _ _ _ ?_; (simp <;> omega); done) | (refine (hget_old _ _ _ ?_).trans ?_; · (simp <;> omega))))
  have hbp1 : W1.heap[bp]? = some (benchObj (.slice aob p.bs.length capb) (.slice aor p.rs.length capr) p.zl p.zh p.rl p.rh (.map (some (w.heap.size + 1)))) := by
    rw [hW1]
    exact (hget_old _ _ _ (by simp <;> omega)).trans ((hget_old _ _ _ (by simp <;> omega)).trans (bench_set w bp _ _ _ _ _ _ _ _ HBP.out))
  have hbs1 := HBS.out.later (W := W1) (by omega) (fun k h1 h2 => hkw.block k h1 (hRd k h2))
  have hrs1 := HRS.out.later (W := W1) (by omega) (fun k h1 h2 => hkw.block k h1 (hRd k h2))
  have HBS1 := Lib.hid hbs1
  have HRS1 := Lib.hid hrs1
  have HKW := Lib.hid hkw
  have HBX := Lib.hid hbx
  have HMB := Lib.hid hmb
  have HBP1 := Lib.hid hbp1
  clear hW1 hkw hbx hmb hbp1 hbs1 hrs1 c6 f6 hmm
  have hx0 : W1.cell? ⟨w.heap.size, 0, none⟩ = some (.pointer (some ⟨bp, 0, none⟩)) := by rw [cell_of_row W1 _ _ _ _ _ HBX.out]; rfl
  have hab : ∀ r ∈ p.rs, 0 ≤ r.a ∧ 0 ≤ r.b := fun r hr => ⟨(hp.rs r hr).1, (hp.rs r hr).2.2.1⟩
  have HAB := Lib.hid hab
  have HP := Lib.hid hp
  clear hab hp
  go_region_held3 (fun w' => w'.cell? ⟨w.heap.size, 0, none⟩ = some (.pointer (some ⟨bp, 0, none⟩)))
    (first | exact hx0 | exact (hb1.cell (by simp; omega)).trans hx0 | exact (World.cell?_of_block (w := w1) (a := ⟨w.heap.size, 0, none⟩) ((hget_old _ _ _ (by have := hb1.size; simp at this ⊢; omega)).trans (hget_old _ _ _ (by have := hb1.size; simp at this ⊢; omega)))).trans ((hb1.cell (p := ⟨w.heap.size, 0, none⟩) (by simp; omega)).trans hx0))
    (first | (go_at_call 69; refine (every_any bp p.rs.length capr aor _ _ _ _ _ _ HP.out.m8 _ (by exact HBP1.out)).mono ?_; rintro e w1 ⟨rfl, rfl⟩) | (go_at_call 68; refine (bounds_any p bp (allR p) (allR_lt p HP.out.m8) _ _ _ Rd _ (by exact HBP1.out) HP.out.n5 HP.out.m8 (by exact HBS1.out) (by exact HRS1.out) HAB.out).mono ?_; rintro e w1 ⟨lv, rfl, hown, hb1⟩; obtain ⟨lao, lcap, rfl⟩ := own_form hown) | (go_at_call 94; refine (tables_any bp _ _ _ _).mono ?_; rintro e w2 ⟨rfl, rfl⟩))
  clear hx0
  have HOWN := Lib.hid hown
  have HB1 := Lib.hid hb1
  clear hown hb1
  go_wp2_with fail
  obtain ⟨W2, hW2⟩ : ∃ W2, W2 = (w1.alloc (boxPtr bp)).alloc (.cells #[.slice lao (boundsL p (allR p)).length lcap] 87 (0, 0)) := ⟨_, rfl⟩
  rw [← hW2]
  have hb1 := HB1.out
  have hs1 : W1.heap.size ≤ w1.heap.size := by have := hb1.size; simpa using this
  have hsz2 : W2.heap.size = w1.heap.size + 2 := by rw [hW2]; simp
  have hblw : Below w1.heap.size w1 W2 := by rw [hW2]; exact ((Below.refl _ _).alloc (Nat.le_refl _) _).alloc (by simp) _
  have hbl2 : Below W1.heap.size W1 W2 := (⟨hb1.os, hb1.tape, hb1.output, hb1.size, hb1.block⟩ : Below W1.heap.size W1 w1).trans (hblw.mono hs1)
  have hy1 : W2.heap[w1.heap.size]? = some (boxPtr bp) := by rw [hW2]; exact (by repeat (first | (refine heap_alloc_at _ _ _ ?_; (simp <;> omega); done) | (refine (hget_old _ _ _ ?_).trans ?_; · (simp <;> omega))))
  have hy2 : W2.heap[w1.heap.size + 1]? = some (.cells #[.slice lao (boundsL p (allR p)).length lcap] 87 (0, 0)) := by rw [hW2]; exact (by repeat (first | (refine heap_alloc_at _ _ _ ?_; (simp <;> omega); done) | (refine (hget_old _ _ _ ?_).trans ?_; · (simp <;> omega))))
  have HY1 := Lib.hid hy1
  have HY2 := Lib.hid hy2
  have HBL2 := Lib.hid hbl2
  have HBLW := Lib.hid hblw
  clear hW2 hb1 hblw hbl2 hy1 hy2
  have hzz := HP.out.zz
  have hrr := HP.out.rr
  have hokb := okB_bounds p HP.out (allR p)
  have HOKB := Lib.hid hokb
  clear hokb
  refine wp_range (gf := 103) (lb := #[.pointer (some ⟨w1.heap.size, 0, none⟩), .pointer (some ⟨w1.heap.size + 1, 0, none⟩)]) rfl (enters_of Try.func103 (by kernel_rfl) rfl) (encs := fun x : (Int × Int) × Tab => #[.agg #[.int .i64 x.1.1, .int .i64 x.1.2], .agg (tcells x.2)]) (fun _ => rfl)
    (fun k => k ≠ w.heap.size + 1 ∧ k < W2.heap.size) (fun k => k = w.heap.size + 1) ?hRd ?hM (pairOuts p (allR p)) ?hseq
    (fun pre _ Wr => Wr.heap[w.heap.size + 1]? = some (.map (entsOf pre) pre.length) ∧ Keeps (fun k => k = w.heap.size + 1) W2 Wr)
    (fun _ _ _ _ => False)
    ?hI ?hIx ?h0 ?hround ?hdone ?hstop
  case hRd => intro k hk; exact hk.2
  case hM => rintro k rfl; exact ⟨by omega, fun h => h.1 rfl⟩
  case hseq =>
    intro W' hb
    refine tables_seq (boundsL p (allR p)) HOKB.out w1.heap.size (w1.heap.size + 1) bp _ _ _ (.slice lao (boundsL p (allR p)).length lcap) p.zl p.zh p.rl p.rh (by omega) (by omega) (by omega) (by omega) (by omega) (by omega) (fw_range _ HOKB.out _ _ _ _ (by omega) (by omega) (by omega) (by omega)) _ W' ⟨by omega, by omega⟩ ⟨by omega, by omega⟩ ⟨by omega, by omega⟩ ((hb.block _ (by omega)).trans HY1.out) ((hb.block _ (by omega)).trans ((HBL2.out.block _ (by omega)).trans HBP1.out)) ((hb.block _ (by omega)).trans HY2.out) ?_
    have hown := HOWN.out
    refine listAt_of_own2 hown (W := W') (HBLW.out.trans (hb.mono (by omega))) (by have := boundsL_length p HP.out (allR p); omega) _ (fun k hk1 hk2 => ?_)
    simp at hk1
    exact ⟨by omega, by omega⟩
  case hI =>
    rintro s G A B ⟨h1, h2⟩ hk
    exact ⟨(hk.block _ (lt_of_block h1) (by omega)).trans h1, h2.transNew hk (fun i h => h.1)⟩
  case hIx => rintro c s G A B h hk; exact h
  case h0 => exact ⟨(HBL2.out.block _ (by omega)).trans HMB.out, Keeps.refl _ _⟩
  case hround =>
    rintro l pre x rest G Wr hxs ⟨h1, h2⟩ hl1 hl2 hGl
    obtain ⟨⟨z, r⟩, t⟩ := x
    have H1 := Lib.hid h1
    have H2 := Lib.hid h2
    have HXS := Lib.hid hxs
    clear h1 h2 hxs hGl
    gi_wp2_with (first | (refine wpListIn_storeA rfl 84 _ _ rfl (Wr.heap.size + 1) (tcells t) rfl rfl 84 _ (heap_alloc_at _ _ _ (by simp)) (sizeTab _) (by rw [tcells_size]; rfl) (tcells_one _) ?_; intro wy hyr hyk hys; have HYR := Lib.hid hyr; have HYK := Lib.hid hyk; clear hyr hyk))
    have hyk := HYK.out
    have hwy : ∀ k, k < Wr.heap.size → wy.heap[k]? = Wr.heap[k]? := fun k hk => (hyk.block k (by simp; omega) (by omega)).trans ((Below.heap_alloc _ _ _ (by simp; omega)).trans (Below.heap_alloc _ _ _ hk))
    have hcw : wy.heap[Wr.heap.size]? = some (.cells #[.int .i64 z, .int .i64 r] 81 (0, 0)) := (hyk.block _ (by simp <;> omega) (by omega)).trans ((hget_old _ _ _ (by simp)).trans (heap_alloc_at _ _ _ rfl))
    have hsw : Wr.heap.size + 2 = wy.heap.size := by rw [hys]; simp
    have hmut : ∀ M, Keeps M Wr wy := fun M => ⟨hyk.os, hyk.tape, hyk.output, by omega, fun k hk _ => hwy k hk⟩
    refine ⟨hmut _, ?_⟩
    intro W3 hk3 hs3
    have h3 : ∀ k, k < Wr.heap.size → k ≠ l → W3.heap[k]? = Wr.heap[k]? := fun k hk hne => (hk3.block k (by omega) hne).trans (hwy k hk)
    have q0 : W3.heap[w.heap.size]? = some (boxPtr bp) := (h3 _ (by omega) (by omega)).trans ((H2.out.block _ (by omega) (by omega)).trans ((HBL2.out.block _ (by omega)).trans HBX.out))
    have q1 := (h3 bp (by omega) (by omega)).trans ((H2.out.block bp (by omega) (by omega)).trans ((HBL2.out.block bp (by omega)).trans HBP1.out))
    have q2 : W3.heap[Wr.heap.size]? = some (.cells #[.int .i64 z, .int .i64 r] 81 (0, 0)) := (hk3.block _ (by omega) (by omega)).trans hcw
    have q3 : W3.heap[Wr.heap.size + 1]? = some (.cells (tcells t) 84 (0, 0)) := (hk3.block _ (by omega) (by omega)).trans HYR.out
    have q4 := (h3 _ (by omega) (by omega)).trans H1.out
    have d0 : W3.cell? ⟨w.heap.size, 0, none⟩ = some (.pointer (some ⟨bp, 0, none⟩)) := by rw [cell_of_row W3 _ _ _ _ _ q0]; rfl
    have d1 : W3.cell? ⟨bp, 6, none⟩ = some (.map (some (w.heap.size + 1))) := by rw [cell_of_row W3 _ _ _ _ _ q1]; rfl
    have d2 : W3.cell? ⟨Wr.heap.size, 0, none⟩ = some (.int .i64 z) := by rw [cell_of_row W3 _ _ _ _ _ q2]; rfl
    have d3 : W3.cell? ⟨Wr.heap.size, 1, none⟩ = some (.int .i64 r) := by rw [cell_of_row W3 _ _ _ _ _ q2]; rfl
    have HMT := Lib.hid (hmut (fun k => k = w.heap.size + 1))
    have Q3 := Lib.hid q3
    have Q4 := Lib.hid q4
    have HK3 := Lib.hid hk3
    have H3 := Lib.hid h3
    clear hyk hwy hcw hmut hk3 h3 q0 q1 q2 q3 q4
    gi_wp2
    refine region_fixIn 6 (fun W' => W' = W3.drew) (by kernel_rfl) (by kernel_rfl) (by kernel_rfl) rfl ?_
    simp only [List.take_succ_cons, List.take_zero, List.drop_succ_cons, List.drop_zero]
    iterate 5
      refine WF_step ?_ (fun W' hC => ?_) rfl ?_
      rotate_left
      · subst hC
        go_simp
        exact fix_value (P := Try.prog) rfl
      simp only [Act.put, List.setIfInBounds_toArray, List.set_cons_zero, List.set_cons_succ]
    refine WF_step (.agg (tcells t)) (fun W' hC => by subst hC; exact fix_load_row 84 (.tmp 4) rfl (Wr.heap.size + 1) rfl 84 (tcells t) (0, 0) _ Q3.out underTab rfl (sizeTab _) rfl) rfl ?_
    simp only [Act.put, List.setIfInBounds_toArray, List.set_cons_zero, List.set_cons_succ]
    refine WF_nil ?_
    rintro W' rfl
    have hup := update_new (w.heap.size + 1) (entsOf pre) pre.length (z, r) (.agg (tcells t)) W3.drew Q4.out (entsOf_keys pre (z, r) (outs_keys _ _ _ _ _ pre rest ((z, r), t) HXS.out))
    refine wpListIn_done rfl (by intro c h; cases h) (w' := W3.drew.putObj (w.heap.size + 1) (.map ((entsOf pre).push { key := encC (z, r), val := .agg (tcells t), born := pre.length }) (pre.length + 1))) (by
      unfold execOp
      simp only [Act.eval]
      exact (by simpa [Sem.run_bind, encC] using congrArg (fun r => r.andThen fun _ w' => Result.ok Next.skip w') hup)) ?_
    gi_wp2
    have hlm : w.heap.size + 1 < W3.heap.size := by omega
    refine ⟨(Keeps.drew _ _).trans (Keeps.putObj _ _ _ rfl), ?_, ?_⟩
    · rw [entsOf_next, List.length_append]
      exact World.putObj_heap_same hlm
    · exact ((H2.out.trans HMT.out).transNew HK3.out (fun i hi => by omega)).trans ((Keeps.drew _ _).trans (Keeps.putObj _ _ _ rfl))
  case hdone =>
    rintro D G W' ⟨h1, h2⟩ hGD hkk hD hDs
    have q0 : W'.heap[w.heap.size]? = some (boxPtr bp) := (h2.block _ (by omega) (by omega)).trans ((HBL2.out.block _ (by omega)).trans HBX.out)
    have q1 := (h2.block bp (by omega) (by omega)).trans ((HBL2.out.block bp (by omega)).trans HBP1.out)
    have d0 : W'.cell? ⟨w.heap.size, 0, none⟩ = some (.pointer (some ⟨bp, 0, none⟩)) := by rw [cell_of_row W' _ _ _ _ _ q0]; rfl
    have d1 : W'.cell? ⟨bp, 6, none⟩ = some (.map (some (w.heap.size + 1))) := by rw [cell_of_row W' _ _ _ _ _ q1]; rfl
    have hfin : Keeps (fun k => k = bp) w (W'.putObj D (.deferred none)) := by
      have a1 : Keeps (fun k => k = bp) w W2 := HKW.out.trans (Keeps.of_below HBL2.out (fun k h1 h2 => by omega))
      exact (a1.transNew h2 (fun i h => by omega)).transNew (Keeps.putObj (Mut := fun k => k = D) _ _ _ rfl) (fun i h => by omega)
    have Q1 := Lib.hid q1
    have H1 := Lib.hid h1
    have H2 := Lib.hid h2
    have HD := Lib.hid hD
    have HFIN := Lib.hid hfin
    clear q0 q1 h1 h2 hGD hkk hD hfin
    have hlen := fun t ty hu => run_len_map (P := Try.prog) W' t ty (w.heap.size + 1) (entsOf (pairOuts p (allR p))) _ hu H1.out
    go_wp2_with fail
    have hes : (entsOf (pairOuts p (allR p))).size = (pairOuts p (allR p)).length := by simp [entsOf]
    by_cases hne : pairOuts p (allR p) = []
    · have hd : decide (0 < (entsOf (pairOuts p (allR p))).size) = false := by rw [hes, hne]; rfl
      rw [hd]
      refine (must_no 10 W').mono ?_
      rintro e W2' ⟨rfl, rfl⟩
      go_wp2_with fail
      refine ⟨by simp, .inl ⟨_, _, rfl, run_takeDeferred HD.out, ?_⟩⟩
      exact ⟨HFIN.out, .inl ⟨hne, rfl⟩⟩
    · have hd : decide (0 < (entsOf (pairOuts p (allR p))).size) = true := by rw [hes]; simpa using List.length_pos_iff.2 hne
      rw [hd]
      refine (must_ok 10 W').mono ?_
      rintro e W2' ⟨rfl, rfl⟩
      go_wp2_with fail
      refine ⟨by simp, .inl ⟨_, _, rfl, run_takeDeferred HD.out, ?_⟩⟩
      refine ⟨.pointer (some ⟨bp, 0, none⟩), ?_, HFIN.out, .inr ⟨hne, rfl, w.heap.size + 1, by omega, ?_, ?_⟩⟩
      · simp [results, Try.results50, go_sem]
      · exact (World.putObj_heap_other (by omega)).trans Q1.out
      · exact (World.putObj_heap_other (by omega)).trans H1.out
  case hstop => rintro D c pre x rest G W' hxs h; exact h.elim

end Go.Proofs.Ytlgeggekmdoceaa
