/- Texts Bzh, Bzi, Bzj, Bzk, Bzl, Bzm, Bzn in one file; each begins with a word on what it proves. -/
import Derived.RecoverIn
import Derived.Test.YtagjepclobobjaaVg
import Derived.Test.YtagjepclobobjaaVc

/- Package lot: a lot that is looked at, for one block, or for all. -/
namespace Go.Proofs.Ytagjepclobobjaa
set_option linter.unusedVariables false
set_option linter.unusedSimpArgs false
open Go.RowKit Go.Shelf
attribute [local go_sem] Oper.semAt_some

theorem ShopS.rebase {l : LotD} {p : PartsL} {B B2 sp mk ml : Nat} {sv : Value} {W : World} (h : ShopS l p B2 sp mk ml sv W) (hle : B ≤ B2) (hlot : LotAt l p (fun k => k < B) W) : ShopS l p B sp mk ml sv W :=
  ⟨h.obj, hlot, h.known, h.laps, h.sets.mono fun k hk => ⟨by omega, hk.2⟩, by have := h.bs; omega, by have := h.bk; omega, by have := h.bl; omega, h.n1, h.n2, h.n3⟩
/-- A lot that is looked at, in a later world. -/
theorem ShopS.later {l : LotD} {p : PartsL} {B sp mk ml : Nat} {sv : Value} {w W : World} (h : ShopS l p B sp mk ml sv w) (hb : Below w.heap.size w W) : ShopS l p B sp mk ml sv W :=
  ⟨(hb.block _ (lt_of_block h.obj)).trans h.obj, h.lot.later hb.size (fun k h1 _ => hb.block k h1), h.known.of (hb.block _ h.known.lt), h.laps.of (hb.block _ h.laps.lt), h.sets.later hb.size (fun k h1 _ => hb.block k h1), h.bs, h.bk, h.bl, h.n1, h.n2, h.n3⟩
/-- ... where what is kept of asks has grown. -/
theorem ShopS.keepK {l : LotD} {p : PartsL} {B sp mk ml : Nat} {sv : Value} {w W : World} (h : ShopS l p B sp mk ml sv w) (hk : Keeps (fun k => k = mk) w W) (hn : KnownL mk (sureL l) W) : ShopS l p B sp mk ml sv W :=
  ⟨(hk.block _ (lt_of_block h.obj) h.n1).trans h.obj, h.lot.later hk.size (fun k h1 h2 => hk.block k h1 (by have := h.bk; omega)), hn, h.laps.of (hk.block _ h.laps.lt h.n3.symm), h.sets.later hk.size (fun k h1 h2 => hk.block k h1 h2.2.2.1), h.bs, h.bk, h.bl, h.n1, h.n2, h.n3⟩
theorem ShopS.keepL {l : LotD} {p : PartsL} {B sp mk ml : Nat} {sv : Value} {w W : World} (h : ShopS l p B sp mk ml sv w) (hk : Keeps (fun k => k = ml) w W) (hn : KnownL ml (lapsL l) W) : ShopS l p B sp mk ml sv W :=
  ⟨(hk.block _ (lt_of_block h.obj) h.n2).trans h.obj, h.lot.later hk.size (fun k h1 h2 => hk.block k h1 (by have := h.bl; omega)), h.known.of (hk.block _ h.known.lt h.n3), hn, h.sets.later hk.size (fun k h1 h2 => hk.block k h1 h2.2.2.2), h.bs, h.bk, h.bl, h.n1, h.n2, h.n3⟩
structure Small9 (l : LotD) : Prop where
  a : l.lim.length ≤ 1000
  b : l.blocks.length ≤ 1000
  c : l.pays.length ≤ 1000
  d : l.orders.length ≤ 1000
theorem lopen_always (l : LotD) (p : PartsL) (es : List EntD) (ev : Value) (w : World) (hlot : LotAt l p (fun k => k < w.heap.size) w) (hents : EntsAt w ev es (fun k => k < w.heap.size)) (hes9 : es.length ≤ 1000) (h9 : Small9 l) :
    Calls Try.prog 44 #[lotV l p, ev, .func (.func 45) #[] #[]] w (LopenR l p es true w) :=
  lopen_any l p es ev true 45 #[] w hlot hents hes9 ⟨h9.a, h9.b, h9.c, h9.d⟩ (enters_of Try.func45 (by kernel_rfl) rfl) fun sp mk ml sv W hb hs =>
    (lalways_any _ W).mono fun e W' h => ⟨h.1, h.2 ▸ Below.refl _ _⟩
theorem underLot : Try.prog.underlying 32 = some (.struct (Try.prog.fieldsOf 32)) := by kernel_rfl
theorem sizeLot : (Try.prog.info? 32).map (·.size) = some 6 := by kernel_rfl
set_option maxRecDepth 100000 in
set_option maxHeartbeats 2000000 in
theorem lone_any (l : LotD) (p : PartsL) (b : Int) (w : World) (hlot : LotAt l p (fun k => k < w.heap.size) w) (h9 : Small9 l) :
    Calls Try.prog 33 #[lotV l p, .int .i64 b] w (LopenR l p [] (isBlockL l b) w) := by
  have hmf : ∀ fn first cap w, (Instr.makeFunc fn first cap).run Try.prog w = .ok (.func fn first cap) w := fun _ _ _ _ => rfl
  obtain ⟨W2, hW2⟩ : ∃ W, W = (w.alloc (.cells (lotC l p).toArray 32)).alloc (.cells #[.int .i64 b] 3) := ⟨_, rfl⟩
  have y0 : W2.heap[w.heap.size]? = some (lotO l p) := by rw [hW2]; exact (hget_old _ _ _ (by simp)).trans (heap_alloc_at _ _ _ rfl)
  have y1 : W2.heap[w.heap.size + 1]? = some (.cells #[.int .i64 b] 3 (0, 0)) := by rw [hW2]; exact (by repeat (first | (refine heap_alloc_at _ _ _ ?_; (simp <;> omega); done) | (refine (hget_old _ _ _ ?_).trans ?_; · (simp <;> omega))))
  have hb2 : Below w.heap.size w W2 := by rw [hW2]; exact (below_allocG _ _).alloc (by simp) _
  have hlot2 := hlot.later hb2.size (fun k h1 h2 => hb2.block k h2)
  have H0 := Lib.hid y0
  have H1 := Lib.hid y1
  have HB := Lib.hid hb2
  have HL2 := Lib.hid hlot2
  have HLOT := Lib.hid hlot
  clear y0 y1 hb2 hlot2 hlot
  unfold lotV
  go_enter Try.func33, Try.ntmps33
  go_upto_region 1 with fail
  rw [← hW2]
  clear hW2
  go_wp2_with (first | (refine wpList_load_row rfl 32 _ rfl w.heap.size rfl 32 (lotC l p).toArray (0, 0) _ H0.out underLot rfl sizeLot ?_))
  refine (lopen_any l p [] (.slice none 0 0) (isBlockL l b) 72 #[.pointer (some ⟨w.heap.size + 1, 0, none⟩)] W2 HL2.out.low (EntsAt.nil _ _) (by decide) ⟨h9.a, h9.b, h9.c, h9.d⟩ (enters_of Try.func72 (by kernel_rfl) rfl) ?_).mono ?_
  · intro sp mk ml sv W hbW hs
    refine (lone1_any l p mk ml sp (w.heap.size + 1) sv b W hs _ (HL2.out.later hbW.size (fun k h1 _ => hbW.block k h1)).blk h9.b ((hbW.block _ (lt_of_block H1.out)).trans H1.out)).mono ?_
    rintro e W' ⟨rfl, rfl⟩
    exact ⟨by rw [inB_block], Below.refl _ _⟩
  rintro e w3 ⟨hb3, ⟨he, sp, mk, ml, sv, rfl, hS⟩ | ⟨hne, rfl⟩⟩
  · have HS := Lib.hid hS
    have HE := Lib.hid he
    have HB3 := Lib.hid (HB.out.trans (hb3.mono HB.out.size))
    clear hS he hb3
    dsimp only
    go_wp2_with fail
    refine bodyPost_ret (v := .pointer (some ⟨sp, 0, none⟩)) (by simp [results, Try.results33, go_sem]) rfl ⟨HB3.out, .inl ⟨HE.out, sp, mk, ml, sv, rfl, HS.out.rebase HB.out.size (HLOT.out.later HB3.out.size (fun k h1 h2 => HB3.out.block k h2))⟩⟩
  · exact ⟨rfl, HB.out.trans (hb3.mono HB.out.size), .inr ⟨hne, rfl⟩⟩
end Go.Proofs.Ytagjepclobobjaa

/- Package lot: what is surely of a grade; what can be lapped for one. -/
namespace Go.Proofs.Ytagjepclobobjaa
set_option linter.unusedVariables false
set_option linter.unusedSimpArgs false
open Go.RowKit Go.Shelf
attribute [local go_sem] Oper.semAt_some

theorem under_ask : Try.prog.underlying 80 = some (.struct (Try.prog.fieldsOf 80)) := by kernel_rfl
theorem under_amap : Try.prog.underlying 101 = some (.map 80 4) := by kernel_rfl
theorem zeroBool (w : World) : (zeroValue 4).run Try.prog w = .ok (.bool false) w := by kernel_rfl
theorem eqAsk (c d : Int × Int) (w : World) : (Op.equal 80 (encA c) (encA d)).run Try.prog w = .ok (decide (c = d)) w := by
  unfold encA pairV Op.equal Op.maxDepth
  rw [run_equalIn_agg w 9999 80 _ _ under_ask (by kernel_rfl)]
  simp [go_sem, Op.eqFields]
  obtain ⟨a, b⟩ := c
  obtain ⟨a', b'⟩ := d
  by_cases h1 : a = a' <;> by_cases h2 : b = b' <;> simp [h1, h2]
theorem keyAsk : KeyK Try.prog 80 encA where
  under := ⟨_, under_ask⟩
  eq := eqAsk
  chk c e w := by kernel_rfl
  same c := by simp [encA, pairV, Instr.sameBits]
theorem KnownL.look {m : Nat} {f : Nat → Nat → Bool} {W : World} (h : KnownL m f W) (k : Int × Int) : ∃ x b, (b = true → x = f k.1.toNat k.2.toNat) ∧ ∀ W', W'.heap[m]? = W.heap[m]? →
    (Instr.lookup 101 (.map (some m)) (encA k) true).run Try.prog W' = .ok (.tuple #[.bool x, .bool b]) W' := by
  obtain ⟨L, clock, g, h1, h2, h3⟩ := h
  cases hg : g k with
  | none => exact ⟨false, false, fun h => (by cases h), fun W' he => by have := run_getK keyAsk under_amap m L clock g h2 k W' (he.trans h1) _ (zeroBool W'); rw [hg] at this; exact this⟩
  | some v =>
    have hv := h3 k v hg
    exact ⟨f k.1.toNat k.2.toNat, true, fun _ => rfl, fun W' he => by have := run_getK keyAsk under_amap m L clock g h2 k W' (he.trans h1) _ (zeroBool W'); rw [hg, hv] at this; exact this⟩
theorem KnownL.put {m : Nat} {f : Nat → Nat → Bool} {W : World} (h : KnownL m f W) (k : Int × Int) :
    ∃ o, (Instr.mapUpdate 101 (.map (some m)) (encA k) (.bool (f k.1.toNat k.2.toNat))).run Try.prog W = .ok () (W.putObj m o) ∧ KnownL m f (W.putObj m o) := by
  obtain ⟨L, clock, g, h1, h2, h3⟩ := h
  refine ⟨_, run_updK keyAsk under_amap m L clock k _ W h1, (updK k (.bool (f k.1.toNat k.2.toNat)) L clock).1, (updK k (.bool (f k.1.toNat k.2.toNat)) L clock).2, _, ?_, h2.upd k _, ?_⟩
  · have := (Array.getElem?_eq_some_iff.1 h1).1
    simp [World.putObj, this]
  · intro x v hv
    split at hv
    · rename_i e; subst e; cases hv; rfl
    · exact h3 x v hv
/-- A lot that is valid, and of which all blocks have a truth. -/
structure OkL (l : LotD) : Prop where
  v : validL l = true
  t : ∀ b, b < l.blocks.length → truthsG (gradeL l b) ≠ []
theorem OkL.of {l : LotD} {es : List EntD} {v : Bool} (h : errL l es v = 0) : OkL l := by
  unfold errL at h
  split at h
  · rename_i hv
    refine ⟨hv, fun b hb ht => ?_⟩
    split at h
    · split at h
      · split at h
        · cases h
        · rename_i hc
          exact hc (by unfold clashL; rw [List.any_eq_true]; exact ⟨b, List.mem_range.2 hb, by rw [ht]; rfl⟩)
      · cases h
    · cases h
  · cases h
theorem sure_ok {l : LotD} (h : OkL l) {b n : Nat} (hb : b < l.blocks.length) (hn : n < l.lim.length) : ∃ sd, sureD (gradeL l b) (n : Int) = (sd, 0) ∧ (sd = 2 ↔ sureL l b n = true) := by
  have hi : inN (n : Int) 0 (((gradeL l b).lim.length : Int) - 1) = true := by unfold inN; have : (gradeL l b).lim = l.lim := rfl; rw [this]; exact decide_eq_true (by omega)
  refine ⟨if sureG (gradeL l b) n then 2 else if neverG (gradeL l b) n then 0 else 1, ?_, ?_⟩
  · unfold sureD errG
    rw [hi, valid_gradeL h.v hb]
    simp [h.t b hb]
  · unfold sureL
    cases sureG (gradeL l b) n with
    | true => simp
    | false => cases neverG (gradeL l b) n <;> simp
theorem lap_ok {l : LotD} (h : OkL l) {b n : Nat} (hb : b < l.blocks.length) (hn : n < l.lim.length) : ∃ lv le, lapD (gradeL l b) (n : Int) = (lv, le) ∧ (le = 0 ↔ lapsL l b n = true) := by
  have hi : inN (n : Int) 0 (((gradeL l b).lim.length : Int) - 1) = true := by unfold inN; have : (gradeL l b).lim = l.lim := rfl; rw [this]; exact decide_eq_true (by omega)
  have he : errG (gradeL l b) true = 0 := by
    unfold errG
    rw [valid_gradeL h.v hb]
    simp [h.t b hb]
  unfold lapD lapsL
  rw [hi]
  simp only [he, if_true, Int.toNat_natCast]
  cases lapsG (gradeL l b) n with
  | none => exact ⟨0, 4, rfl, by simp⟩
  | some v => exact ⟨v, 0, rfl, by simp⟩
set_option maxRecDepth 100000 in
set_option maxHeartbeats 4000000 in
theorem lsure_any {l : LotD} {p : PartsL} {B sp mk ml : Nat} {sv : Value} (hok : OkL l) (b n : Nat) (hb : b < l.blocks.length) (hn : n < l.lim.length) (w : World) (hS : ShopS l p B sp mk ml sv w) :
    Calls Try.prog 34 #[.pointer (some ⟨sp, 0, none⟩), pairV (b : Int) (n : Int)] w fun e w' => e = .returned (.bool (sureL l b n)) ∧ ShopS l p B sp mk ml sv w' ∧ Keeps (fun k => k = mk) w w' := by
  have HS := Lib.hid hS
  have HOK := Lib.hid hok
  have hlsp0 := lt_of_block hS.obj
  have hlm0 := hS.known.lt
  have hvp := validL_parts hok.v
  have hl4 : l.lim.length ≤ 4 := lim4 (g := ⟨l.lim, zeroPts, l.step⟩) hvp.2.2.2.2.1
  have hb6 := hvp.1
  have hmb : w.heap.size ≠ mk := by omega
  obtain ⟨x, kb, hxb, hlook⟩ := hS.known.look ((b : Int), (n : Int))
  have HXB := Lib.hid hxb
  obtain ⟨W2, hW2⟩ : ∃ W, W = w.alloc (.cells #[.int .i64 (b : Int), .int .i64 (n : Int)] 80) := ⟨_, rfl⟩
  have hx2 : W2.heap[w.heap.size]? = some (.cells #[.int .i64 (b : Int), .int .i64 (n : Int)] 80 (0, 0)) := by rw [hW2]; exact heap_alloc_at _ _ _ rfl
  have hb2 : Below w.heap.size w W2 := by rw [hW2]; exact below_allocG _ _
  have HX := Lib.hid hx2
  have HB2 := Lib.hid hb2
  have HSP := Lib.hid ((hb2.block sp hlsp0).trans hS.obj)
  have HMP := Lib.hid (hb2.block mk hlm0)
  have HLK := Lib.hid hlook
  have hlx := lt_of_block hx2
  have hlsp := lt_of_block HSP.out
  have hlm : mk < W2.heap.size := by have := hb2.size; omega
  clear hxb hlook hx2 hb2 hS hok hvp
  unfold pairV
  go_enter Try.func34, Try.ntmps34
  go_upto_region 1 with fail
  rw [← hW2]
  clear hW2
  refine region_fix 10 (fun W' => Below W2.heap.size W2 W') (by kernel_rfl) (by kernel_rfl) (Below.refl _ _).drew ?_
  simp only [List.take_succ_cons, List.take_zero, List.drop_succ_cons, List.drop_zero]
  iterate 10
    refine WF_step ?_ (fun W' hC => ?_) rfl ?_
    rotate_left
    · obtain ⟨s0, s1, s2, s3, s4, s5, s6, s7, s8⟩ := shop_cells ((hC.block sp hlsp).trans HSP.out)
      obtain ⟨k0, k1⟩ := two_cells ((hC.block w.heap.size hlx).trans HX.out)
      have hlk := HLK.out W' ((hC.block mk hlm).trans HMP.out)
      unfold encA pairV at hlk
      dsimp only at hlk
      go_simp
      exact fix_value hC
    simp only [Act.put, List.setIfInBounds_toArray, List.set_cons_zero, List.set_cons_succ]
  refine WF_nil ?_
  intro W4 hC4
  have hbw4 : Below w.heap.size w W4 := HB2.out.trans (hC4.mono HB2.out.size)
  have HS4 := Lib.hid (HS.out.later hbw4)
  have HX4 := Lib.hid ((hC4.block _ hlx).trans HX.out)
  have HB4 := Lib.hid hbw4
  have HSP4 := Lib.hid ((hC4.block _ hlsp).trans HSP.out)
  have hlx4 := lt_of_block HX4.out
  have hlsp4 := lt_of_block HSP4.out
  clear hC4 hbw4
  cases kb with
  | true =>
    have hx := HXB.out rfl
    go_wp2
    go_ret
    exact ⟨rfl, HS4.out, Keeps.of_below HB4.out (fun k h1 h2 => absurd h2 (by omega))⟩
  | false =>
    clear HXB
    have hlot4 := HS4.out.lot.later (Nat.le_refl _) (fun k h1 h2 => rfl)
    have hq5 := len5 hlot4 hb
    have hcg := fun (W : World) (hb : Below W4.heap.size W4 W) => lgrade_any l p mk ml sp sv b ‹b < l.blocks.length› W ((hb.block _ hlsp4).trans HSP4.out) _ (hlot4.later hb.size (fun k h1 _ => hb.block k h1)) (by omega)
    obtain ⟨q, hq⟩ : ∃ q, q = l.blocks.getD b [] := ⟨_, rfl⟩
    rw [← hq] at hcg
    have hgq : gradeL l b = ⟨l.lim, q, l.step⟩ := by unfold gradeL; rw [hq]
    have hcs := fun (W : World) (hb : Below W4.heap.size W4 W) => gSure_any (gradeL l b) hq5 p.lims (n : Int) W (hlot4.later hb.size (fun k h1 _ => hb.block k h1)).lim.low (by rw [hgq]; dsimp only; omega)
    rw [show (gradeL l b).pts = q by rw [hgq], show (gradeL l b).step = l.step from rfl] at hcs
    obtain ⟨sd, hsd, hsb⟩ := sure_ok HOK.out hb hn; rw [hsd] at hcs; dsimp only at hcs; clear hsd
    clear hq hgq hq5 hlot4
    have HCG := Lib.hid hcg
    have HCS := Lib.hid hcs
    clear hcg hcs
    go_upto_region 3 with fail
    refine region_fix 11 (fun W' => Below W4.heap.size W4 W') (by kernel_rfl) (by kernel_rfl) (Below.refl _ _).drew ?_
    simp only [List.take_succ_cons, List.take_zero, List.drop_succ_cons, List.drop_zero]
    iterate 3
      refine WF_step ?_ (fun W' hC => ?_) rfl ?_
      rotate_left
      · obtain ⟨k0, k1⟩ := two_cells ((hC.block w.heap.size hlx4).trans HX4.out)
        go_simp
        exact fix_value hC
      simp only [Act.put, List.setIfInBounds_toArray, List.set_cons_zero, List.set_cons_succ]
    refine WF_step (gradeV p.lims q l.step) (fun W' hC => ?_) rfl ?_
    · go_simp
      exact fix_enter ((HCG.out W' hC).mono fun e w'' h => ⟨h.1, hC.trans (h.2.mono hC.size)⟩)
    simp only [Act.put, List.setIfInBounds_toArray, List.set_cons_zero, List.set_cons_succ]
    iterate 2
      refine WF_step ?_ (fun W' hC => ?_) rfl ?_
      rotate_left
      · obtain ⟨k0, k1⟩ := two_cells ((hC.block w.heap.size hlx4).trans HX4.out)
        go_simp
        exact fix_value hC
      simp only [Act.put, List.setIfInBounds_toArray, List.set_cons_zero, List.set_cons_succ]
    refine WF_step (.tuple #[.int .i64 sd, .int .i64 0]) (fun W' hC => ?_) rfl ?_
    · go_simp
      exact fix_enter ((HCS.out W' hC).mono fun e w'' h => ⟨h.1, hC.trans (h.2.mono hC.size)⟩)
    simp only [Act.put, List.setIfInBounds_toArray, List.set_cons_zero, List.set_cons_succ]
    iterate 4
      refine WF_step ?_ (fun W' hC => ?_) rfl ?_
      rotate_left
      · go_simp
        exact fix_value hC
      simp only [Act.put, List.setIfInBounds_toArray, List.set_cons_zero, List.set_cons_succ]
    refine WF_nil ?_
    intro W6 hC6
    have HS6 := Lib.hid (HS4.out.later hC6)
    have HB6 := Lib.hid (HB4.out.trans (hC6.mono HB4.out.size))
    have HX6 := Lib.hid ((hC6.block _ hlx4).trans HX4.out)
    have HSP6 := Lib.hid ((hC6.block _ hlsp4).trans HSP4.out)
    have hlx6 := lt_of_block HX6.out
    have hlsp6 := lt_of_block HSP6.out
    clear hC6 HCG HCS
    have hsq : (sd == 2) = sureL l b n := by
      rw [Bool.eq_iff_iff, ← hsb]; simp
    have HSQ := Lib.hid hsq
    clear hsb hsq
    go_upto_region 5 with fail
    rw [HSQ.out]
    refine region_fix 6 (fun W' => Below W6.heap.size W6 W') (by kernel_rfl) (by kernel_rfl) (Below.refl _ _).drew ?_
    simp only [List.take_succ_cons, List.take_zero, List.drop_succ_cons, List.drop_zero]
    iterate 6
      refine WF_step ?_ (fun W' hC => ?_) rfl ?_
      rotate_left
      · obtain ⟨s0, s1, s2, s3, s4, s5, s6, s7, s8⟩ := shop_cells ((hC.block sp hlsp6).trans HSP6.out)
        obtain ⟨k0, k1⟩ := two_cells ((hC.block w.heap.size hlx6).trans HX6.out)
        go_simp
        exact fix_value hC
      simp only [Act.put, List.setIfInBounds_toArray, List.set_cons_zero, List.set_cons_succ]
    refine WF_nil ?_
    intro W7 hC7
    have hS7 := HS6.out.later hC7
    obtain ⟨ob, hput, hkn⟩ := hS7.known.put ((b : Int), (n : Int))
    replace hput : (Instr.mapUpdate 101 (.map (some mk)) (.agg #[.int .i64 (b : Int), .int .i64 (n : Int)]) (.bool (sureL l b n))).run Try.prog W7 = .ok () (W7.putObj mk ob) := hput
    have hk7 : Keeps (fun k => k = mk) W7 (W7.putObj mk ob) := Keeps.putObj _ _ _ rfl
    have HS8 := Lib.hid (hS7.keepK hk7 hkn)
    have HK8 := Lib.hid (((Keeps.of_below (Mut := fun k => k = mk) HB6.out (fun k h1 h2 => absurd h2 (by omega))).trans (Keeps.of_below hC7 (fun k h1 h2 => absurd h2 (by omega)))).trans hk7)
    clear hkn hk7 hC7 hS7
    go_wp2
    go_ret
    exact ⟨rfl, HS8.out, HK8.out⟩
set_option maxRecDepth 100000 in
set_option maxHeartbeats 4000000 in
theorem llaps_any {l : LotD} {p : PartsL} {B sp mk ml : Nat} {sv : Value} (hok : OkL l) (b n : Nat) (hb : b < l.blocks.length) (hn : n < l.lim.length) (w : World) (hS : ShopS l p B sp mk ml sv w) :
    Calls Try.prog 118 #[.pointer (some ⟨sp, 0, none⟩), pairV (b : Int) (n : Int)] w fun e w' => e = .returned (.bool (lapsL l b n)) ∧ ShopS l p B sp mk ml sv w' ∧ Keeps (fun k => k = ml) w w' := by
  have HS := Lib.hid hS
  have HOK := Lib.hid hok
  have hlsp0 := lt_of_block hS.obj
  have hlm0 := hS.laps.lt
  have hvp := validL_parts hok.v
  have hl4 : l.lim.length ≤ 4 := lim4 (g := ⟨l.lim, zeroPts, l.step⟩) hvp.2.2.2.2.1
  have hb6 := hvp.1
  have hmb : w.heap.size ≠ ml := by omega
  obtain ⟨x, kb, hxb, hlook⟩ := hS.laps.look ((b : Int), (n : Int))
  have HXB := Lib.hid hxb
  obtain ⟨W2, hW2⟩ : ∃ W, W = w.alloc (.cells #[.int .i64 (b : Int), .int .i64 (n : Int)] 80) := ⟨_, rfl⟩
  have hx2 : W2.heap[w.heap.size]? = some (.cells #[.int .i64 (b : Int), .int .i64 (n : Int)] 80 (0, 0)) := by rw [hW2]; exact heap_alloc_at _ _ _ rfl
  have hb2 : Below w.heap.size w W2 := by rw [hW2]; exact below_allocG _ _
  have HX := Lib.hid hx2
  have HB2 := Lib.hid hb2
  have HSP := Lib.hid ((hb2.block sp hlsp0).trans hS.obj)
  have HMP := Lib.hid (hb2.block ml hlm0)
  have HLK := Lib.hid hlook
  have hlx := lt_of_block hx2
  have hlsp := lt_of_block HSP.out
  have hlm : ml < W2.heap.size := by have := hb2.size; omega
  clear hxb hlook hx2 hb2 hS hok hvp
  unfold pairV
  go_enter Try.func118, Try.ntmps118
  go_upto_region 1 with fail
  rw [← hW2]
  clear hW2
  refine region_fix 10 (fun W' => Below W2.heap.size W2 W') (by kernel_rfl) (by kernel_rfl) (Below.refl _ _).drew ?_
  simp only [List.take_succ_cons, List.take_zero, List.drop_succ_cons, List.drop_zero]
  iterate 10
    refine WF_step ?_ (fun W' hC => ?_) rfl ?_
    rotate_left
    · obtain ⟨s0, s1, s2, s3, s4, s5, s6, s7, s8⟩ := shop_cells ((hC.block sp hlsp).trans HSP.out)
      obtain ⟨k0, k1⟩ := two_cells ((hC.block w.heap.size hlx).trans HX.out)
      have hlk := HLK.out W' ((hC.block ml hlm).trans HMP.out)
      unfold encA pairV at hlk
      dsimp only at hlk
      go_simp
      exact fix_value hC
    simp only [Act.put, List.setIfInBounds_toArray, List.set_cons_zero, List.set_cons_succ]
  refine WF_nil ?_
  intro W4 hC4
  have hbw4 : Below w.heap.size w W4 := HB2.out.trans (hC4.mono HB2.out.size)
  have HS4 := Lib.hid (HS.out.later hbw4)
  have HX4 := Lib.hid ((hC4.block _ hlx).trans HX.out)
  have HB4 := Lib.hid hbw4
  have HSP4 := Lib.hid ((hC4.block _ hlsp).trans HSP.out)
  have hlx4 := lt_of_block HX4.out
  have hlsp4 := lt_of_block HSP4.out
  clear hC4 hbw4
  cases kb with
  | true =>
    have hx := HXB.out rfl
    go_wp2
    go_ret
    exact ⟨rfl, HS4.out, Keeps.of_below HB4.out (fun k h1 h2 => absurd h2 (by omega))⟩
  | false =>
    clear HXB
    have hlot4 := HS4.out.lot.later (Nat.le_refl _) (fun k h1 h2 => rfl)
    have hq5 := len5 hlot4 hb
    have hcg := fun (W : World) (hb : Below W4.heap.size W4 W) => lgrade_any l p mk ml sp sv b ‹b < l.blocks.length› W ((hb.block _ hlsp4).trans HSP4.out) _ (hlot4.later hb.size (fun k h1 _ => hb.block k h1)) (by omega)
    obtain ⟨q, hq⟩ : ∃ q, q = l.blocks.getD b [] := ⟨_, rfl⟩
    rw [← hq] at hcg
    have hgq : gradeL l b = ⟨l.lim, q, l.step⟩ := by unfold gradeL; rw [hq]
    have hcs := fun (W : World) (hb : Below W4.heap.size W4 W) => gLap_any (gradeL l b) hq5 p.lims (n : Int) W (hlot4.later hb.size (fun k h1 _ => hb.block k h1)).lim.low (by rw [hgq]; dsimp only; omega)
    rw [show (gradeL l b).pts = q by rw [hgq], show (gradeL l b).step = l.step from rfl] at hcs
    obtain ⟨lv, sd, hsd, hsb⟩ := lap_ok HOK.out hb hn; rw [hsd] at hcs; dsimp only at hcs; clear hsd
    clear hq hgq hq5 hlot4
    have HCG := Lib.hid hcg
    have HCS := Lib.hid hcs
    clear hcg hcs
    go_upto_region 3 with fail
    refine region_fix 11 (fun W' => Below W4.heap.size W4 W') (by kernel_rfl) (by kernel_rfl) (Below.refl _ _).drew ?_
    simp only [List.take_succ_cons, List.take_zero, List.drop_succ_cons, List.drop_zero]
    iterate 3
      refine WF_step ?_ (fun W' hC => ?_) rfl ?_
      rotate_left
      · obtain ⟨k0, k1⟩ := two_cells ((hC.block w.heap.size hlx4).trans HX4.out)
        go_simp
        exact fix_value hC
      simp only [Act.put, List.setIfInBounds_toArray, List.set_cons_zero, List.set_cons_succ]
    refine WF_step (gradeV p.lims q l.step) (fun W' hC => ?_) rfl ?_
    · go_simp
      exact fix_enter ((HCG.out W' hC).mono fun e w'' h => ⟨h.1, hC.trans (h.2.mono hC.size)⟩)
    simp only [Act.put, List.setIfInBounds_toArray, List.set_cons_zero, List.set_cons_succ]
    iterate 2
      refine WF_step ?_ (fun W' hC => ?_) rfl ?_
      rotate_left
      · obtain ⟨k0, k1⟩ := two_cells ((hC.block w.heap.size hlx4).trans HX4.out)
        go_simp
        exact fix_value hC
      simp only [Act.put, List.setIfInBounds_toArray, List.set_cons_zero, List.set_cons_succ]
    refine WF_step (.tuple #[.int .i64 lv, .int .i64 sd]) (fun W' hC => ?_) rfl ?_
    · go_simp
      exact fix_enter ((HCS.out W' hC).mono fun e w'' h => ⟨h.1, hC.trans (h.2.mono hC.size)⟩)
    simp only [Act.put, List.setIfInBounds_toArray, List.set_cons_zero, List.set_cons_succ]
    iterate 4
      refine WF_step ?_ (fun W' hC => ?_) rfl ?_
      rotate_left
      · go_simp
        exact fix_value hC
      simp only [Act.put, List.setIfInBounds_toArray, List.set_cons_zero, List.set_cons_succ]
    refine WF_nil ?_
    intro W6 hC6
    have HS6 := Lib.hid (HS4.out.later hC6)
    have HB6 := Lib.hid (HB4.out.trans (hC6.mono HB4.out.size))
    have HX6 := Lib.hid ((hC6.block _ hlx4).trans HX4.out)
    have HSP6 := Lib.hid ((hC6.block _ hlsp4).trans HSP4.out)
    have hlx6 := lt_of_block HX6.out
    have hlsp6 := lt_of_block HSP6.out
    clear hC6 HCG HCS
    have hsq : (sd == 0) = lapsL l b n := by
      rw [Bool.eq_iff_iff, ← hsb]; simp
    have HSQ := Lib.hid hsq
    clear hsb hsq
    go_upto_region 5 with fail
    rw [HSQ.out]
    refine region_fix 6 (fun W' => Below W6.heap.size W6 W') (by kernel_rfl) (by kernel_rfl) (Below.refl _ _).drew ?_
    simp only [List.take_succ_cons, List.take_zero, List.drop_succ_cons, List.drop_zero]
    iterate 6
      refine WF_step ?_ (fun W' hC => ?_) rfl ?_
      rotate_left
      · obtain ⟨s0, s1, s2, s3, s4, s5, s6, s7, s8⟩ := shop_cells ((hC.block sp hlsp6).trans HSP6.out)
        obtain ⟨k0, k1⟩ := two_cells ((hC.block w.heap.size hlx6).trans HX6.out)
        go_simp
        exact fix_value hC
      simp only [Act.put, List.setIfInBounds_toArray, List.set_cons_zero, List.set_cons_succ]
    refine WF_nil ?_
    intro W7 hC7
    have hS7 := HS6.out.later hC7
    obtain ⟨ob, hput, hkn⟩ := hS7.laps.put ((b : Int), (n : Int))
    replace hput : (Instr.mapUpdate 101 (.map (some ml)) (.agg #[.int .i64 (b : Int), .int .i64 (n : Int)]) (.bool (lapsL l b n))).run Try.prog W7 = .ok () (W7.putObj ml ob) := hput
    have hk7 : Keeps (fun k => k = ml) W7 (W7.putObj ml ob) := Keeps.putObj _ _ _ rfl
    have HS8 := Lib.hid (hS7.keepL hk7 hkn)
    have HK8 := Lib.hid (((Keeps.of_below (Mut := fun k => k = ml) HB6.out (fun k h1 h2 => absurd h2 (by omega))).trans (Keeps.of_below hC7 (fun k h1 h2 => absurd h2 (by omega)))).trans hk7)
    clear hkn hk7 hC7 hS7
    go_wp2
    go_ret
    exact ⟨rfl, HS8.out, HK8.out⟩
end Go.Proofs.Ytagjepclobobjaa

/- Package lot: Sells. -/
namespace Go.Proofs.Ytagjepclobobjaa
set_option linter.unusedVariables false
set_option linter.unusedSimpArgs false
open Go.RowKit Go.Shelf
attribute [local go_sem] Oper.semAt_some

theorem find_first {n i : Nat} {q : Nat → Bool} (hi : i < n) (hq : q i = true) (h : ∀ k, k < i → q k = false) : (List.range n).find? q = some i := by
  rw [List.find?_eq_some_iff_getElem]
  refine ⟨hq, i, by simpa using hi, by simp, fun j hj => ?_⟩
  simp [h j hj]
theorem find_none {n : Nat} {q : Nat → Bool} (h : ∀ k, k < n → q k = false) : (List.range n).find? q = none := by
  rw [List.find?_eq_none]
  intro x hx
  rw [h x (List.mem_range.1 hx)]
  decide
theorem isBlock_nat {l : LotD} {b : Int} {es : List EntD} {v : Bool} (h : errL l es v = 0) : v = true ∧ (∀ x ∈ es, isBlockL l x.1 = true ∧ isGradeL l x.2.1 = true) ∧ es.length ≤ 8 := by
  unfold errL at h
  split at h
  · split at h
    · rename_i h8
      split at h
      · rename_i hx
        rw [Bool.and_eq_true, List.all_eq_true] at hx
        exact ⟨hx.1, fun x hm => by have := hx.2 x hm; rw [Bool.and_eq_true] at this; exact this, h8⟩
      · cases h
    · cases h
  · cases h
set_option maxRecDepth 100000 in
set_option maxHeartbeats 4000000 in
theorem lSells_any (l : LotD) (p : PartsL) (b : Int) (w : World) (hlot : LotAt l p (fun k => k < w.heap.size) w) (h9 : Small9 l) :
    Calls Try.prog 9 #[lotV l p, .int .i64 b] w fun e w' => e = .returned (.tuple #[.int .i64 (sellsD l b).1, .int .i64 (sellsD l b).2]) ∧ Below w.heap.size w w' := by
  obtain ⟨al, cl, hvl, _⟩ := id hlot.lim
  obtain ⟨ab, cb, hvb, _⟩ := id hlot.blk
  obtain ⟨ap, cp, hvp, _⟩ := id hlot.pay
  obtain ⟨ao, co, hvo, _⟩ := id hlot.ord
  obtain ⟨nl, hnl⟩ : ∃ n, n = l.lim.length := ⟨_, rfl⟩
  obtain ⟨nb, hnb⟩ : ∃ n, n = l.blocks.length := ⟨_, rfl⟩
  obtain ⟨np, hnp⟩ : ∃ n, n = l.pays.length := ⟨_, rfl⟩
  obtain ⟨no, hno⟩ : ∃ n, n = l.orders.length := ⟨_, rfl⟩
  rw [← hnl] at hvl
  rw [← hnb] at hvb
  rw [← hnp] at hvp
  rw [← hno] at hvo
  have HVL := Lib.hid (And.intro hvl (And.intro hvb (And.intro hvp hvo)))
  have HNL := Lib.hid hnl
  have HNB := Lib.hid hnb
  have HNP := Lib.hid hnp
  have HNO := Lib.hid hno
  have HLOT := Lib.hid hlot
  clear hvl hvb hvp hvo hnl hnb hnp hno hlot
  have hmf : ∀ fn first cap w, (Instr.makeFunc fn first cap).run Try.prog w = .ok (.func fn first cap) w := fun _ _ _ _ => rfl
  obtain ⟨W0, hW0⟩ : ∃ W0, W0 = (w.alloc (.cells (lotC l p).toArray 32)).alloc (.cells #[.int .i64 0] 24) := ⟨_, rfl⟩
  have y0 : W0.heap[w.heap.size]? = some (lotO l p) := by rw [hW0]; unfold lotO; exact (by repeat (first | (refine heap_alloc_at _ _ _ ?_; (simp <;> omega); done) | (refine (hget_old _ _ _ ?_).trans ?_; · (simp <;> omega))))
  have y1 : W0.heap[w.heap.size + 1]? = some (.cells #[.int .i64 0] 24 (0, 0)) := by rw [hW0]; exact (by repeat (first | (refine heap_alloc_at _ _ _ ?_; (simp <;> omega); done) | (refine (hget_old _ _ _ ?_).trans ?_; · (simp <;> omega))))
  have hs0 : W0.heap.size = w.heap.size + (1 + 1) := by rw [hW0]; simp
  have H0 := Lib.hid y0
  have H1 := Lib.hid y1
  have HS0 := Lib.hid hs0
  clear y0 y1 hs0
  have HB := Lib.hid (show Below w.heap.size w W0 by rw [hW0]; exact (below_allocG _ _).alloc (by simp) _)
  unfold lotV
  go_enter_defers Try.func9, Try.ntmps9
  go_upto_region 2 with fail
  rw [← hW0]
  clear hW0
  go_wp2_with (first | (refine wpList_load_row rfl 32 _ rfl w.heap.size rfl 32 (lotC l p).toArray (0, 0) _ H0.out underLot rfl sizeLot ?_))
  refine (lone_any l p b W0 (HLOT.out.later HB.out.size (fun k h1 h2 => HB.out.block k h2)).low h9).mono ?_
  rintro e w3 ⟨hb3, ⟨he, sp, mk, ml, sv, rfl, hS⟩ | ⟨hne, rfl⟩⟩
  rotate_left
  · refine leaf_stop_lSells _ (w.heap.size + 1) 0 _ w3 ((hb3.block _ (lt_of_block H1.out)).trans H1.out) (fun W' hk he9 => ?_)
    have e0 : W'.cell? ⟨w.heap.size + 1, 0, none⟩ = some (.int .i64 (errL l [] (isBlockL l b))) := by rw [cell_of_row _ _ _ _ _ _ he9]; rfl
    refine ⟨.tuple #[.int .i64 0, .int .i64 (errL l [] (isBlockL l b))], by simp [results, Try.results9, go_sem, e0], ?_, (HB.out.trans (hb3.mono HB.out.size)).trans (hk.below (by have := hb3.size; have := HB.out.size; omega) (fun k h e => by omega))⟩
    unfold sellsD; dsimp only; rw [if_neg hne]
  · have hib := (isBlock_nat (b := b) he).1
    obtain ⟨bn, hbn, hbl⟩ : ∃ n : Nat, b = (n : Int) ∧ n < l.blocks.length := by
      unfold isBlockL at hib
      have := of_decide_eq_true hib
      exact ⟨b.toNat, by omega, by omega⟩
    subst hbn
    have hsd : sellsD l (bn : Int) = ((sellsN l bn : Int), 0) := by unfold sellsD; dsimp only; rw [if_pos he, Int.toNat_natCast]
    have hoK := OkL.of he
    have hvp := validL_parts hoK.v
    have hl4 : nl ≤ 4 := by rw [HNL.out]; exact lim4 (g := ⟨l.lim, zeroPts, l.step⟩) hvp.2.2.2.2.1
    have HSD := Lib.hid hsd
    have HOK := Lib.hid hoK
    have HS := Lib.hid hS
    have HB3 := Lib.hid hb3
    have hsz0 := HS0.out
    have hsz3 := hb3.size
    have hx3 := (hb3.block _ (lt_of_block H0.out)).trans H0.out
    have c0 : w3.cell? ⟨w.heap.size, 0, none⟩ = some (.slice al nl cl) := by rw [cell_of_row _ _ _ _ _ _ hx3]; rw [← HVL.out.1]; rfl
    clear he hib hsd hoK hvp hS hb3 hx3
    dsimp only
    go_wp2_with fail
    clear c0
    go_loopw [15] (fun iv wr => ∃ i : Nat, i ≤ nl ∧ iv = .int .i64 i ∧ (∀ j, j < i → sureL l bn j = false) ∧ ShopS l p W0.heap.size sp mk ml sv wr ∧ Below W0.heap.size W0 wr) (fun iv _ => nl - (intOf iv).toNat)
    case atStart => exact ⟨0, Nat.zero_le _, rfl, fun j hj => absurd hj (by omega), HS.out, HB3.out⟩
    case round =>
      obtain ⟨i, hi, rfl, hno, hsr, hbr⟩ := hrel
      have HNO1 := Lib.hid hno
      have HSR := Lib.hid hsr
      have HBR := Lib.hid hbr
      have hszr := hbr.size
      clear hno hsr hbr
      by_cases hlt : i < nl
      · have hw : IntKind.i64.wrap ((i : Int) + 1) = ((i + 1 : Nat) : Int) := by rw [IntWalk.i64_in _ (by omega)]; omega
        have hlti : (i : Int) < (nl : Int) := by omega
        go_wp2_with fail
        refine (lsure_any HOK.out bn i hbl (by rw [← HNL.out]; exact hlt) wr HSR.out).mono ?_
        rintro e w4 ⟨rfl, hs4, hk4⟩
        have hb4 : Below W0.heap.size W0 w4 := HBR.out.trans (hk4.below hszr (fun k h e => by have := HSR.out.bk; omega))
        dsimp only
        have HS4 := Lib.hid hs4
        have HB4 := Lib.hid hb4
        clear hs4 hk4 hb4
        cases hsu : sureL l bn i with
        | true =>
          have HSU := Lib.hid hsu
          have he4 := (HB4.out.block _ (lt_of_block H1.out)).trans H1.out
          have e0 : w4.cell? ⟨w.heap.size + 1, 0, none⟩ = some (.int .i64 0) := by rw [cell_of_row _ _ _ _ _ _ he4]; rfl
          have f0 : w4.frozen? ⟨w.heap.size + 1, 0, none⟩ = false := frozen_of_row _ _ _ _ _ he4
          have HE4 := Lib.hid he4
          clear hsu he4
          go_wp2
          refine leaf_ret_lSells (w.heap.size + 1) _ _ ?_
          have e9 : (w4.setCell ⟨w.heap.size + 1, 0, none⟩ (.int .i64 0)).cell? ⟨w.heap.size + 1, 0, none⟩ = some (.int .i64 0) := by rw [cell_of_row _ _ _ _ _ _ (one_setG HE4.out)]; rfl
          have hsn : sellsN l bn = i := by unfold sellsN; rw [find_first (by rw [← HNL.out]; exact hlt) HSU.out HNO1.out]; rfl
          exact ⟨.tuple #[.int .i64 (i : Int), .int .i64 0], by simp [results, Try.results9, go_sem, e9], by rw [HSD.out, hsn], (HB.out.trans (HB4.out.mono HB.out.size)).setCell (by simp) _⟩
        | false =>
          have HSU := Lib.hid hsu
          clear hsu
          go_wp2_with fail
          go_roundw
          case measure => simp [intOf]; omega
          refine ⟨i + 1, by omega, rfl, fun j hj => ?_, HS4.out, HB4.out⟩
          rcases Nat.lt_succ_iff_lt_or_eq.1 hj with h | h
          · exact HNO1.out j h
          · rw [h]; exact HSU.out
      · have hin : i = nl := by omega
        have hlti : ¬ (i : Int) < (nl : Int) := by omega
        have hsn : sellsN l bn = nl := by unfold sellsN; rw [find_none (fun k hk => HNO1.out k (by rw [hin, HNL.out]; exact hk)), HNL.out]; rfl
        have HSN := Lib.hid hsn
        have hx4 := (HBR.out.block _ (lt_of_block H0.out)).trans H0.out
        have c0 : wr.cell? ⟨w.heap.size, 0, none⟩ = some (.slice al nl cl) := by rw [cell_of_row _ _ _ _ _ _ hx4]; rw [← HVL.out.1]; rfl
        have he4 := (HBR.out.block _ (lt_of_block H1.out)).trans H1.out
        have e0 : wr.cell? ⟨w.heap.size + 1, 0, none⟩ = some (.int .i64 0) := by rw [cell_of_row _ _ _ _ _ _ he4]; rfl
        have f0 : wr.frozen? ⟨w.heap.size + 1, 0, none⟩ = false := frozen_of_row _ _ _ _ _ he4
        have HE4 := Lib.hid he4
        clear hsn hin hx4 he4
        go_wp2
        refine leaf_ret_lSells (w.heap.size + 1) _ _ ?_
        have e9 : (wr.setCell ⟨w.heap.size + 1, 0, none⟩ (.int .i64 0)).cell? ⟨w.heap.size + 1, 0, none⟩ = some (.int .i64 0) := by rw [cell_of_row _ _ _ _ _ _ (one_setG HE4.out)]; rfl
        exact ⟨.tuple #[.int .i64 (nl : Int), .int .i64 0], by simp [results, Try.results9, go_sem, e9], by rw [HSD.out, HSN.out], (HB.out.trans (HBR.out.mono HB.out.size)).setCell (by simp) _⟩
end Go.Proofs.Ytagjepclobobjaa

/- Package lot: what a block is worth. -/
namespace Go.Proofs.Ytagjepclobobjaa
set_option linter.unusedVariables false
set_option linter.unusedSimpArgs false
open Go.RowKit Go.Shelf
attribute [local go_sem] Oper.semAt_some

def worthP (l : LotD) (s i : Nat) : Int × Int := (List.range i).foldl (fun w n => if s.testBit n then (min w.1 (paidL l n), max w.2 (paidL l n)) else w) (100, 0)
theorem worthP_succ (l : LotD) (s i : Nat) : worthP l s (i + 1) = if s.testBit i then (min (worthP l s i).1 (paidL l i), max (worthP l s i).2 (paidL l i)) else worthP l s i := by
  unfold worthP
  rw [List.range_succ, List.foldl_append]
  rfl
theorem two_setG {w : World} {b : Nat} {x y x' y' : Value} {t : TypeId} {fr : Nat × Nat} (h : w.heap[b]? = some (.cells #[x, y] t fr)) : ((w.setCell ⟨b, 0, none⟩ x').setCell ⟨b, 1, none⟩ y').heap[b]? = some (.cells #[x', y'] t fr) := by
  simp [World.setCell, Array.getElem?_modify, h]
theorem bit_and1 : ∀ i : Fin 6, ∀ s : Fin 64, bits BinOp.and IntKind.i64 ((s.val : Int) / 2 ^ i.val) 1 = if s.val.testBit i.val then 1 else 0 := by decide +kernel
set_option maxRecDepth 100000 in
set_option maxHeartbeats 4000000 in
theorem lworth_any {l : LotD} {p : PartsL} {B sp mk ml : Nat} {sv : Value} (hok : OkL l) (s : Nat) (hs : s < 32) (w : World) (hS : ShopS l p B sp mk ml sv w) :
    Calls Try.prog 42 #[.pointer (some ⟨sp, 0, none⟩), .int .i64 (s : Int)] w fun e w' => e = .returned (.agg #[.int .i64 (worthS l s).1, .int .i64 (worthS l s).2]) ∧ Below w.heap.size w w' := by
  have hlot := hS.lot
  obtain ⟨al, cl, hvl, _⟩ := id hlot.lim
  obtain ⟨ab, cb, hvb, _⟩ := id hlot.blk
  obtain ⟨ap, cp, hvp, _⟩ := id hlot.pay
  obtain ⟨ao, co, hvo, _⟩ := id hlot.ord
  obtain ⟨nl, hnl⟩ : ∃ n, n = l.lim.length := ⟨_, rfl⟩
  obtain ⟨nb, hnb⟩ : ∃ n, n = l.blocks.length := ⟨_, rfl⟩
  obtain ⟨np, hnp⟩ : ∃ n, n = l.pays.length := ⟨_, rfl⟩
  obtain ⟨no, hno⟩ : ∃ n, n = l.orders.length := ⟨_, rfl⟩
  rw [← hnl] at hvl
  rw [← hnb] at hvb
  rw [← hnp] at hvp
  rw [← hno] at hvo
  have HVL := Lib.hid (And.intro hvl (And.intro hvb (And.intro hvp hvo)))
  have HNL := Lib.hid hnl
  have HNB := Lib.hid hnb
  have HNP := Lib.hid hnp
  have HNO := Lib.hid hno
  have HLOT := Lib.hid hlot
  clear hvl hvb hvp hvo hnl hnb hnp hno hlot
  have hvp := validL_parts hok.v
  have hl4 : nl ≤ 4 := by rw [HNL.out]; exact lim4 (g := ⟨l.lim, zeroPts, l.step⟩) hvp.2.2.2.2.1
  have hpn : np = nl := by rw [HNP.out, HNL.out]; exact hvp.2.2.2.1
  subst hpn
  obtain ⟨W1, hW1⟩ : ∃ W, W = w.alloc (.cells #[.int .i64 100, .int .i64 0] 37) := ⟨_, rfl⟩
  have hr1 : W1.heap[w.heap.size]? = some (.cells #[.int .i64 100, .int .i64 0] 37 (0, 0)) := by rw [hW1]; exact heap_alloc_at _ _ _ rfl
  have hb1 : Below w.heap.size w W1 := by rw [hW1]; exact below_allocG _ _
  have hs1 : W1.heap.size = w.heap.size + 1 := by rw [hW1]; simp
  have HS := Lib.hid hS
  have HR1 := Lib.hid hr1
  have HB1 := Lib.hid hb1
  have HS1 := Lib.hid hs1
  have hlsp := lt_of_block hS.obj
  have hrow1 := (hb1.block _ hlsp).trans hS.obj
  obtain ⟨c0, _, _, _, _, _, _, _, _⟩ := shop_cells hrow1
  rw [HVL.out.1] at c0
  clear hS hr1 hb1 hs1 hrow1 hvp hok
  go_enter Try.func42, Try.ntmps42
  go_upto_region 2 with fail
  rw [← hW1]
  clear hW1
  go_wp2_with fail
  clear c0
  go_loopw [15] (fun iv wr => ∃ i : Nat, i ≤ np + 1 ∧ iv = .int .i64 i ∧ wr.heap[w.heap.size]? = some (.cells #[.int .i64 (worthP l s i).1, .int .i64 (worthP l s i).2] 37 (0, 0)) ∧ Keeps (fun k => k = w.heap.size) W1 wr) (fun iv _ => np + 1 - (intOf iv).toNat)
  case atStart => exact ⟨0, Nat.zero_le _, rfl, HR1.out, Keeps.refl _ _⟩
  case round =>
    obtain ⟨i, hi, rfl, hrow, hk⟩ := hrel
    have hbr : Below w.heap.size w wr := HB1.out.trans (hk.below (B := w.heap.size) HB1.out.size (fun k h e => by omega))
    have HROW := Lib.hid hrow
    have HK := Lib.hid hk
    have HBR := Lib.hid hbr
    have hspr := (hbr.block _ hlsp).trans HS.out.obj
    obtain ⟨c0, _, _, c3, _, _, _, _, _⟩ := shop_cells hspr
    rw [HVL.out.2.2.1] at c3
    have d0 : wr.cell? ⟨w.heap.size, 0, none⟩ = some (.int .i64 (worthP l s i).1) := by rw [cell_of_row _ _ _ _ _ _ hrow]; rfl
    have d1 : wr.cell? ⟨w.heap.size, 1, none⟩ = some (.int .i64 (worthP l s i).2) := by rw [cell_of_row _ _ _ _ _ _ hrow]; rfl
    have f0 : ∀ k, wr.frozen? ⟨w.heap.size, k, none⟩ = false := fun k => frozen_of_row _ _ _ _ _ hrow
    have hsuc := worthP_succ l s i
    obtain ⟨lo, hlo⟩ : ∃ q, q = (worthP l s i).1 := ⟨_, rfl⟩
    obtain ⟨hg, hhg⟩ : ∃ q, q = (worthP l s i).2 := ⟨_, rfl⟩
    rw [← hlo] at d0
    rw [← hhg] at d1
    rw [← hlo, ← hhg] at hsuc
    have HLO := Lib.hid (And.intro hlo hhg)
    have HSUC := Lib.hid hsuc
    clear hrow hk hbr hspr hlo hhg hsuc c0
    by_cases hlt : i < np + 1
    · have hw : IntKind.i64.wrap ((i : Int) + 1) = ((i + 1 : Nat) : Int) := by rw [IntWalk.i64_in _ (by omega)]; omega
      have hlti : (i : Int) < (np : Int) + 1 := by omega
      have hba := bit_and1 ⟨i, by omega⟩ ⟨s, by omega⟩
      dsimp only at hba
      cases hbt : s.testBit i with
      | false =>
        rw [hbt] at hba
        simp only [Bool.false_eq_true, if_false] at hba
        have HBT := Lib.hid hbt
        clear hbt
        go_wp2_with fail
        go_roundw
        case measure => simp [intOf]; omega
        have hsame : worthP l s (i + 1) = worthP l s i := by rw [HSUC.out, HBT.out]; rfl
        exact ⟨i + 1, by omega, rfl, by rw [hsame]; exact HROW.out, HK.out⟩
      | true =>
        rw [hbt] at hba
        simp only [if_true] at hba
        have HBT := Lib.hid hbt
        clear hbt
        by_cases hlp : i < np
        · have hlpi : (i : Int) < (np : Int) := by omega
          have hi0 : 0 ≤ (i : Int) := by omega
          obtain ⟨ap', cp', hep, _, _, hel⟩ := HLOT.out.pay
          obtain ⟨eb, off, rfl, hgw, hgl, d2⟩ := hel i (by rw [← HNP.out]; exact hlp)
          have hlen : l.pays.length = np := HNP.out.symm
          obtain ⟨x, hx⟩ : ∃ x, x = l.pays[i]'(by rw [hlen]; exact hlp) := ⟨_, rfl⟩
          rw [← hx] at d2
          have hpd : paidL l i = x := by unfold paidL; rw [List.getD_eq_getElem?_getD, List.getElem?_eq_getElem (by rw [hlen]; exact hlp), hx]; rfl
          have HPD := Lib.hid hpd
          have he2 := (HVL.out.2.2.1).symm.trans hep
          rw [hlen] at he2
          injection he2 with he2 _ he3
          subst he2
          replace d2 := (World.cell?_of_block (w := w) (w' := wr) (a := ⟨eb, off + i, none⟩) (HBR.out.block eb hgl)).trans d2
          clear hx hpd hel hep hlen he3
          go_wp2_with fail
          have hn : worthP l s (i + 1) = (min lo x, max hg x) := by rw [HSUC.out, HBT.out, HPD.out]; rfl
          have m1 : (if x < lo then x else lo) = min lo x := by split <;> omega
          have m2 : (if hg < x then x else hg) = max hg x := by split <;> omega
          refine ⟨⟨i + 1, by omega, rfl, ?_, (HK.out.trans (Keeps.setCell wr ⟨w.heap.size, 0, none⟩ _ rfl)).trans (Keeps.setCell _ ⟨w.heap.size, 1, none⟩ _ rfl)⟩, by simp [intOf]; omega⟩
          rw [two_setG HROW.out, hn, m1, m2]
        · have hlpi : ¬ (i : Int) < (np : Int) := by omega
          have hpd : paidL l i = 0 := by unfold paidL; rw [List.getD_eq_getElem?_getD, List.getElem?_eq_none (by rw [← HNP.out]; omega)]; rfl
          have HPD := Lib.hid hpd
          clear hpd
          go_wp2_with fail
          have hn : worthP l s (i + 1) = (min lo (0 : Int), max hg (0 : Int)) := by rw [HSUC.out, HBT.out, HPD.out]; rfl
          have m1 : (if (0 : Int) < lo then (0 : Int) else lo) = min lo (0 : Int) := by split <;> omega
          have m2 : (if hg < (0 : Int) then (0 : Int) else hg) = max hg (0 : Int) := by split <;> omega
          refine ⟨⟨i + 1, by omega, rfl, ?_, (HK.out.trans (Keeps.setCell wr ⟨w.heap.size, 0, none⟩ _ rfl)).trans (Keeps.setCell _ ⟨w.heap.size, 1, none⟩ _ rfl)⟩, by simp [intOf]; omega⟩
          rw [two_setG HROW.out, hn, m1, m2]
    · have hin : i = np + 1 := by omega
      have hlti : ¬ (i : Int) < (np : Int) + 1 := by omega
      have hfin : worthS l s = (lo, hg) := by
        have : worthS l s = worthP l s i := by unfold worthS worthP; rw [hin, HNL.out]
        rw [this, HLO.out.1, HLO.out.2]
      have HFIN := Lib.hid hfin
      clear hin hfin
      go_wp2
      have hrow9 := two_setG (x' := .int .i64 lo) (y' := .int .i64 hg) HROW.out
      obtain ⟨W9, hW9⟩ : ∃ W, W = (wr.setCell ⟨w.heap.size, 0, none⟩ (.int .i64 lo)).setCell ⟨w.heap.size, 1, none⟩ (.int .i64 hg) := ⟨_, rfl⟩
      rw [← hW9] at hrow9 ⊢
      have hb9 : Below w.heap.size w W9 := by rw [hW9]; exact (HBR.out.setCell (by simp) _).setCell (by simp) _
      have e0 : W9.cell? ⟨w.heap.size, 0, none⟩ = some (.int .i64 lo) := by rw [cell_of_row _ _ _ _ _ _ hrow9]; rfl
      have e1 : W9.cell? ⟨w.heap.size, 1, none⟩ = some (.int .i64 hg) := by rw [cell_of_row _ _ _ _ _ _ hrow9]; rfl
      exact bodyPost_ret (v := .agg #[.int .i64 lo, .int .i64 hg]) (by simp [results, Try.results42, go_sem, e0, e1]) rfl ⟨by rw [HFIN.out], hb9⟩
end Go.Proofs.Ytagjepclobobjaa

/- Package lot: Worth, total, the iterator of blocks. -/
namespace Go.Proofs.Ytagjepclobobjaa
set_option linter.unusedVariables false
set_option linter.unusedSimpArgs false
open Go.RowKit Go.Shelf
attribute [local go_sem] Oper.semAt_some

theorem sets_get (l : LotD) (n b : Nat) (h : b < n) : (setsInts l n)[b]'(by simp [setsInts]; exact h) = ((setsL l b : Nat) : Int) := by simp [setsInts]
theorem sets_lt {l : LotD} (h : OkL l) (b : Nat) : setsL l b < 32 := by
  have h1 := grades_lt (gradeL l b)
  have h2 : l.lim.length ≤ 4 := lim4 (g := ⟨l.lim, zeroPts, l.step⟩) (validL_parts h.v).2.2.2.2.1
  have h3 : 2 ^ ((gradeL l b).lim.length + 1) ≤ 2 ^ 5 := Nat.pow_le_pow_right (by decide) (by show l.lim.length + 1 ≤ 5; omega)
  unfold setsL
  omega
set_option maxRecDepth 100000 in
set_option maxHeartbeats 4000000 in
theorem lWorth_any (l : LotD) (p : PartsL) (b : Int) (w : World) (hlot : LotAt l p (fun k => k < w.heap.size) w) (h9 : Small9 l) :
    Calls Try.prog 12 #[lotV l p, .int .i64 b] w fun e w' => e = .returned (.tuple #[.agg #[.int .i64 (worthD l b).1.1, .int .i64 (worthD l b).1.2], .int .i64 (worthD l b).2]) ∧ Below w.heap.size w w' := by
  obtain ⟨al, cl, hvl, _⟩ := id hlot.lim
  obtain ⟨ab, cb, hvb, _⟩ := id hlot.blk
  obtain ⟨ap, cp, hvp, _⟩ := id hlot.pay
  obtain ⟨ao, co, hvo, _⟩ := id hlot.ord
  obtain ⟨nl, hnl⟩ : ∃ n, n = l.lim.length := ⟨_, rfl⟩
  obtain ⟨nb, hnb⟩ : ∃ n, n = l.blocks.length := ⟨_, rfl⟩
  obtain ⟨np, hnp⟩ : ∃ n, n = l.pays.length := ⟨_, rfl⟩
  obtain ⟨no, hno⟩ : ∃ n, n = l.orders.length := ⟨_, rfl⟩
  rw [← hnl] at hvl
  rw [← hnb] at hvb
  rw [← hnp] at hvp
  rw [← hno] at hvo
  have HVL := Lib.hid (And.intro hvl (And.intro hvb (And.intro hvp hvo)))
  have HNL := Lib.hid hnl
  have HNB := Lib.hid hnb
  have HNP := Lib.hid hnp
  have HNO := Lib.hid hno
  have HLOT := Lib.hid hlot
  clear hvl hvb hvp hvo hnl hnb hnp hno hlot
  have hmf : ∀ fn first cap w, (Instr.makeFunc fn first cap).run Try.prog w = .ok (.func fn first cap) w := fun _ _ _ _ => rfl
  obtain ⟨W0, hW0⟩ : ∃ W0, W0 = ((w.alloc (.cells (lotC l p).toArray 32)).alloc (.cells #[.int .i64 0, .int .i64 0] 37)).alloc (.cells #[.int .i64 0] 24) := ⟨_, rfl⟩
  have y0 : W0.heap[w.heap.size]? = some (lotO l p) := by rw [hW0]; unfold lotO; exact (by repeat (first | (refine heap_alloc_at _ _ _ ?_; (simp <;> omega); done) | (refine (hget_old _ _ _ ?_).trans ?_; · (simp <;> omega))))
  have y1 : W0.heap[w.heap.size + 2]? = some (.cells #[.int .i64 0] 24 (0, 0)) := by rw [hW0]; exact (by repeat (first | (refine heap_alloc_at _ _ _ ?_; (simp <;> omega); done) | (refine (hget_old _ _ _ ?_).trans ?_; · (simp <;> omega))))
  have hs0 : W0.heap.size = w.heap.size + (2 + 1) := by rw [hW0]; simp
  have H0 := Lib.hid y0
  have H1 := Lib.hid y1
  have HS0 := Lib.hid hs0
  clear y0 y1 hs0
  have HB := Lib.hid (show Below w.heap.size w W0 by rw [hW0]; exact ((below_allocG _ _).alloc (by simp) _).alloc (by simp <;> omega) _)
  have HX := Lib.hid (show W0.heap[w.heap.size + 1]? = some (.cells #[.int .i64 0, .int .i64 0] 37 (0, 0)) by rw [hW0]; exact (by repeat (first | (refine heap_alloc_at _ _ _ ?_; (simp <;> omega); done) | (refine (hget_old _ _ _ ?_).trans ?_; · (simp <;> omega)))))
  unfold lotV
  go_enter_defers Try.func12, Try.ntmps12
  go_upto_region 2 with fail
  rw [← hW0]
  clear hW0
  go_wp2_with (first | (refine wpList_load_row rfl 32 _ rfl w.heap.size rfl 32 (lotC l p).toArray (0, 0) _ H0.out underLot rfl sizeLot ?_))
  refine (lone_any l p b W0 (HLOT.out.later HB.out.size (fun k h1 h2 => HB.out.block k h2)).low h9).mono ?_
  rintro e w3 ⟨hb3, ⟨he, sp, mk, ml, sv, rfl, hS⟩ | ⟨hne, rfl⟩⟩
  rotate_left
  · refine leaf_stop_lWorth _ (w.heap.size + 2) 0 _ w3 ((hb3.block _ (lt_of_block H1.out)).trans H1.out) (fun W' hk he9 => ?_)
    have hx9 := (hk.block _ (by have := lt_of_block HX.out; have := hb3.size; omega) (by omega)).trans ((hb3.block _ (lt_of_block HX.out)).trans HX.out)
    have e0 : W'.cell? ⟨w.heap.size + 1 + 1, 0, none⟩ = some (.int .i64 (errL l [] (isBlockL l b))) := by rw [cell_of_row _ _ _ _ _ _ he9]; rfl
    obtain ⟨e1, e2⟩ := two_cells hx9
    refine ⟨.tuple #[.agg #[.int .i64 0, .int .i64 0], .int .i64 (errL l [] (isBlockL l b))], by simp [results, Try.results12, go_sem, e0, e1, e2], ?_, (HB.out.trans (hb3.mono HB.out.size)).trans (hk.below (by have := hb3.size; have := HB.out.size; omega) (fun k h e => by omega))⟩
    unfold worthD; dsimp only; rw [if_neg hne]
  · have hib := (isBlock_nat (b := b) he).1
    obtain ⟨bn, hbn, hbl⟩ : ∃ n : Nat, b = (n : Int) ∧ n < l.blocks.length := by
      unfold isBlockL at hib
      have := of_decide_eq_true hib
      exact ⟨b.toNat, by omega, by omega⟩
    subst hbn
    have hsd : worthD l (bn : Int) = (worthN l bn, 0) := by unfold worthD; dsimp only; rw [if_pos he, Int.toNat_natCast]
    have hoK := OkL.of he
    have HSD := Lib.hid hsd
    have HOK := Lib.hid hoK
    have HS := Lib.hid hS
    have HB3 := Lib.hid hb3
    have hsz0 := HS0.out
    have hsz3 := hb3.size
    obtain ⟨_, _, _, _, _, _, _, _, c8⟩ := shop_cells hS.obj
    have hlen : (setsInts l l.blocks.length).length = nb := by simp [setsInts, HNB.out]
    obtain ⟨asv, cs, hsv, _, _, hel⟩ := id hS.sets
    rw [hsv] at c8
    clear hsv
    have hbn : bn < nb := by rw [HNB.out]; exact hbl
    obtain ⟨eb, off, rfl, hgw, hgl, d0⟩ := hel bn (by rw [hlen]; exact hbn)
    rw [sets_get l _ bn hbl] at d0
    rw [hlen] at c8
    have h0b : 0 ≤ (bn : Int) := by omega
    have hbi : (bn : Int) < (nb : Int) := by omega
    clear he hib hsd hoK hS hb3 hel hlen hgw hgl
    have hs32 := sets_lt HOK.out bn
    obtain ⟨st, hst⟩ : ∃ q, q = setsL l bn := ⟨_, rfl⟩
    rw [← hst] at d0 hs32
    have HST := Lib.hid hst
    clear hst
    dsimp only
    go_wp2_with fail
    refine (lworth_any HOK.out st hs32 w3 HS.out).mono ?_
    rintro e w4 ⟨rfl, hb4⟩
    have hb04 : Below W0.heap.size W0 w4 := HB3.out.trans (hb4.mono hsz3)
    have hx4 := (hb04.block _ (lt_of_block HX.out)).trans HX.out
    have he4 := (hb04.block _ (lt_of_block H1.out)).trans H1.out
    obtain ⟨d1, d2⟩ := two_cells hx4
    have f1 : ∀ k, w4.frozen? ⟨w.heap.size + 1, k, none⟩ = false := fun k => frozen_of_row _ _ _ _ _ hx4
    have e0 : w4.cell? ⟨w.heap.size + 1 + 1, 0, none⟩ = some (.int .i64 0) := by rw [cell_of_row _ _ _ _ _ _ he4]; rfl
    have f0 : w4.frozen? ⟨w.heap.size + 1 + 1, 0, none⟩ = false := frozen_of_row _ _ _ _ _ he4
    obtain ⟨lo, hlo⟩ : ∃ q, q = (worthS l st).1 := ⟨_, rfl⟩
    obtain ⟨hg, hhg⟩ : ∃ q, q = (worthS l st).2 := ⟨_, rfl⟩
    rw [← hlo, ← hhg]
    have hval : (worthD l (bn : Int)) = ((lo, hg), 0) := by rw [HSD.out]; unfold worthN; rw [← HST.out, hlo, hhg]
    have HVAL := Lib.hid hval
    have HX4 := Lib.hid hx4
    have HE4 := Lib.hid he4
    have HB4 := Lib.hid hb04
    clear hb4 hb04 hx4 he4 hlo hhg hval d0 c8
    dsimp only
    go_wp2
    refine leaf_ret_lWorth (w.heap.size + 2) _ _ ?_
    obtain ⟨W8, hW8⟩ : ∃ W, W = (w4.setCell ⟨w.heap.size + 1, 0, none⟩ (.int .i64 lo)).setCell ⟨w.heap.size + 1, 1, none⟩ (.int .i64 hg) := ⟨_, rfl⟩
    rw [← hW8]
    have g1 : W8.heap[w.heap.size + 1]? = some (.cells #[.int .i64 lo, .int .i64 hg] 37 (0, 0)) := by rw [hW8]; exact two_setG HX4.out
    have g2 : W8.heap[w.heap.size + 1 + 1]? = some (.cells #[.int .i64 0] 24 (0, 0)) := by rw [hW8]; exact (other_setG _ _ _ _ (by simp)).trans ((other_setG _ _ _ _ (by simp)).trans HE4.out)
    have gb : Below w.heap.size w W8 := by rw [hW8]; exact ((HB.out.trans (HB4.out.mono HB.out.size)).setCell (by simp) _).setCell (by simp) _
    have k1 := (other_setG W8 ⟨w.heap.size + 1 + 1, 0, none⟩ (.int .i64 0) (w.heap.size + 1) (by simp)).trans g1
    obtain ⟨e1, e2⟩ := two_cells k1
    have e9 : (W8.setCell ⟨w.heap.size + 1 + 1, 0, none⟩ (.int .i64 0)).cell? ⟨w.heap.size + 1 + 1, 0, none⟩ = some (.int .i64 0) := by rw [cell_of_row _ _ _ _ _ _ (one_setG g2)]; rfl
    exact ⟨.tuple #[.agg #[.int .i64 lo, .int .i64 hg], .int .i64 0], by simp [results, Try.results12, go_sem, e9, e1, e2], by rw [HVAL.out], gb.setCell (by simp; omega) _⟩
end Go.Proofs.Ytagjepclobobjaa

/- Package lot: total; the iterator of blocks. -/
namespace Go.Proofs.Ytagjepclobobjaa
set_option linter.unusedVariables false
set_option linter.unusedSimpArgs false
open Go.RowKit Go.Shelf
attribute [local go_sem] Oper.semAt_some

def totalP (L : List (Int × Int)) (i : Nat) : Int × Int := (L.take i).foldl addS (0, 0)
theorem totalP_succ (L : List (Int × Int)) (i : Nat) (h : i < L.length) : totalP L (i + 1) = addS (totalP L i) L[i] := by
  unfold totalP
  rw [List.take_succ_eq_append_getElem h, List.foldl_append]
  rfl
theorem totalP_in (L : List (Int × Int)) (hL : ∀ x ∈ L, -1000 ≤ x.1 ∧ x.1 ≤ 1000 ∧ -1000 ≤ x.2 ∧ x.2 ≤ 1000) : ∀ i, i ≤ L.length → -(1000 * i : Int) ≤ (totalP L i).1 ∧ (totalP L i).1 ≤ 1000 * i ∧ -(1000 * i : Int) ≤ (totalP L i).2 ∧ (totalP L i).2 ≤ 1000 * i
  | 0, _ => by simp [totalP]
  | i + 1, h => by
    have ih := totalP_in L hL i (by omega)
    have hx := hL L[i] (List.getElem_mem (by omega))
    rw [totalP_succ L i (by omega)]
    unfold addS
    dsimp only
    push_cast
    omega
set_option maxRecDepth 100000 in
set_option maxHeartbeats 4000000 in
theorem ltotal_any (L : List (Int × Int)) (v : Value) (Rd : Nat → Prop) (hL : ∀ x ∈ L, -1000 ≤ x.1 ∧ x.1 ≤ 1000 ∧ -1000 ≤ x.2 ∧ x.2 ≤ 1000) (h9 : L.length ≤ 1000) (w : World) (h : SpansAt w v L Rd) :
    Calls Try.prog 51 #[v] w fun e w' => e = .returned (.agg #[.int .i64 (L.foldl addS (0, 0)).1, .int .i64 (L.foldl addS (0, 0)).2]) ∧ Below w.heap.size w w' := by
  obtain ⟨av, cv, rfl, _, _, hel⟩ := h
  obtain ⟨np, hnp⟩ : ∃ n, n = L.length := ⟨_, rfl⟩
  rw [← hnp] at h9 ⊢
  have HNP := Lib.hid hnp
  have HEL := Lib.hid hel
  have HL := Lib.hid hL
  obtain ⟨W1, hW1⟩ : ∃ W, W = w.alloc (.cells #[.int .i64 0, .int .i64 0] 37) := ⟨_, rfl⟩
  have hr1 : W1.heap[w.heap.size]? = some (.cells #[.int .i64 0, .int .i64 0] 37 (0, 0)) := by rw [hW1]; exact heap_alloc_at _ _ _ rfl
  have hb1 : Below w.heap.size w W1 := by rw [hW1]; exact below_allocG _ _
  have hs1 : W1.heap.size = w.heap.size + 1 := by rw [hW1]; simp
  have HR1 := Lib.hid hr1
  have HB1 := Lib.hid hb1
  have HS1 := Lib.hid hs1
  clear hr1 hb1 hs1 hnp hel hL
  go_enter Try.func51, Try.ntmps51
  go_upto_region 1 with fail
  rw [← hW1]
  clear hW1
  go_wp2_with fail
  go_loopw [7] (fun iv wr => ∃ i : Nat, i ≤ np ∧ iv = .int .i64 i ∧ wr.heap[w.heap.size]? = some (.cells #[.int .i64 (totalP L i).1, .int .i64 (totalP L i).2] 37 (0, 0)) ∧ Below w.heap.size w wr) (fun iv _ => np - (intOf iv).toNat)
  case atStart => exact ⟨0, Nat.zero_le _, rfl, HR1.out, HB1.out⟩
  case round =>
    obtain ⟨i, hi, rfl, hrow, hbr⟩ := hrel
    have HROW := Lib.hid hrow
    have HBR := Lib.hid hbr
    have hlw := lt_of_block hrow
    have hin9 := totalP_in L HL.out i (by rw [← HNP.out]; exact hi)
    obtain ⟨lo, hlo⟩ : ∃ q, q = (totalP L i).1 := ⟨_, rfl⟩
    obtain ⟨hg, hhg⟩ : ∃ q, q = (totalP L i).2 := ⟨_, rfl⟩
    rw [← hlo, ← hhg] at hin9
    by_cases hlt : i < np
    · have hw : IntKind.i64.wrap ((i : Int) + 1) = ((i + 1 : Nat) : Int) := by rw [IntWalk.i64_in _ (by omega)]; omega
      have hlti : (i : Int) < (np : Int) := by omega
      have hi0 : 0 ≤ (i : Int) := by omega
      have hil : i < L.length := by rw [← HNP.out]; exact hlt
      obtain ⟨eb, off, rfl, hgw, hgl, k0, k1⟩ := HEL.out i hil
      have hxin := HL.out L[i] (List.getElem_mem hil)
      have hsuc := totalP_succ L i hil
      obtain ⟨⟨x, y⟩, hx⟩ : ∃ q, q = L[i] := ⟨_, rfl⟩
      rw [← hx] at k0 k1 hxin hsuc
      dsimp only at k0 k1 hxin
      have hsuc2 : totalP L (i + 1) = (lo + x, hg + y) := by rw [hsuc, hlo, hhg]; rfl
      replace k0 := (World.cell?_of_block (w := w) (w' := wr) (a := ⟨eb, off + i * 2, none⟩) (hbr.block eb hgl)).trans k0
      replace k1 := (World.cell?_of_block (w := w) (w' := wr) (a := ⟨eb, off + i * 2 + 1, none⟩) (hbr.block eb hgl)).trans k1
      have w1 : IntKind.i64.wrap (lo + x) = lo + x := IntWalk.i64_in _ (by omega)
      have w2 : IntKind.i64.wrap (hg + y) = hg + y := IntWalk.i64_in _ (by omega)
      have HSUC := Lib.hid hsuc2
      have HHH := Lib.hid (And.intro hlo hhg)
      clear hsuc hsuc2 hx hrow hbr hlo hhg
      go_upto_region 4 with fail
      obtain ⟨W5, hW5⟩ : ∃ W, W = wr.alloc (.cells #[.int .i64 x, .int .i64 y] 37) := ⟨_, rfl⟩
      rw [← hW5]
      have hr5 : W5.heap[wr.heap.size]? = some (.cells #[.int .i64 x, .int .i64 y] 37 (0, 0)) := by rw [hW5]; exact heap_alloc_at _ _ _ rfl
      have hr6 : W5.heap[w.heap.size]? = some (.cells #[.int .i64 lo, .int .i64 hg] 37 (0, 0)) := by rw [hW5, HHH.out.1, HHH.out.2]; exact (hget_old _ _ _ (by omega)).trans HROW.out
      have hb5 : Below w.heap.size w W5 := by rw [hW5]; exact HBR.out.alloc HBR.out.size _
      obtain ⟨x0, x1⟩ := two_cells hr5
      obtain ⟨s0, s1⟩ := two_cells hr6
      have f0 : ∀ k, W5.frozen? ⟨w.heap.size, k, none⟩ = false := fun k => frozen_of_row _ _ _ _ _ hr6
      have HR6 := Lib.hid hr6
      have HB5 := Lib.hid hb5
      clear hr5 hr6 hb5 hW5 k0 k1
      go_wp2_with fail
      go_roundw
      case measure => simp [intOf]; omega
      exact ⟨i + 1, by omega, rfl, by rw [HSUC.out]; exact two_setG HR6.out, (HB5.out.setCell (by simp) _).setCell (by simp) _⟩
    · have hin : i = np := by omega
      have hlti : ¬ (i : Int) < (np : Int) := by omega
      have hfin : L.foldl addS (0, 0) = (lo, hg) := by
        have : totalP L i = L.foldl addS (0, 0) := by unfold totalP; rw [hin, HNP.out, List.take_length]
        rw [← this, hlo, hhg]
      rw [← hlo, ← hhg] at hrow
      obtain ⟨s0, s1⟩ := two_cells hrow
      have f0 : ∀ k, wr.frozen? ⟨w.heap.size, k, none⟩ = false := fun k => frozen_of_row _ _ _ _ _ hrow
      have HFIN := Lib.hid hfin
      have HR6 := Lib.hid hrow
      clear hin hfin hrow hbr hlo hhg
      go_wp2
      have hrow9 := two_setG (x' := .int .i64 lo) (y' := .int .i64 hg) HR6.out
      obtain ⟨W9, hW9⟩ : ∃ W, W = (wr.setCell ⟨w.heap.size, 0, none⟩ (.int .i64 lo)).setCell ⟨w.heap.size, 1, none⟩ (.int .i64 hg) := ⟨_, rfl⟩
      rw [← hW9] at hrow9 ⊢
      have hb9 : Below w.heap.size w W9 := by rw [hW9]; exact (HBR.out.setCell (by simp) _).setCell (by simp) _
      obtain ⟨e0, e1⟩ := two_cells hrow9
      exact bodyPost_ret (v := .agg #[.int .i64 lo, .int .i64 hg]) (by simp [results, Try.results51, go_sem, e0, e1]) rfl ⟨by rw [HFIN.out], hb9⟩
def boxSh (sp : Nat) : Obj := .cells #[.pointer (some ⟨sp, 0, none⟩)] 76 (0, 0)
theorem lblocks_any (sp : Nat) (w : World) :
    Calls Try.prog 50 #[.pointer (some ⟨sp, 0, none⟩)] w fun e w' => e = .returned (.func (.func 78) #[] #[.pointer (some ⟨w.heap.size, 0, none⟩)]) ∧ w.alloc (boxSh sp) = w' := by
  have hmf : ∀ (fn : Fn) (first cap : Array Value) (w : World), (Instr.makeFunc fn first cap).run Try.prog w = .ok (.func fn first cap) w := fun _ _ _ _ => rfl
  go_enter Try.func50, Try.ntmps50
  go_wp2
  go_ret
  exact ⟨rfl, rfl⟩
/-- The blocks, and the grades that they can have. -/
def blocksG (l : LotD) : List (Nat × Nat) := (List.range l.blocks.length).map fun b => (b, setsL l b)
theorem blocksG_take (l : LotD) (n : Nat) (h : n < l.blocks.length) : (blocksG l).take (n + 1) = (blocksG l).take n ++ [(n, setsL l n)] := by
  have hl : n < (blocksG l).length := by simp [blocksG]; exact h
  rw [List.take_succ_eq_append_getElem hl]
  simp [blocksG]
theorem blocksG_split (l : LotD) (n : Nat) (h : n < l.blocks.length) : blocksG l = (blocksG l).take n ++ (n, setsL l n) :: (blocksG l).drop (n + 1) := by
  have hl : n < (blocksG l).length := by simp [blocksG]; exact h
  have := List.take_append_drop n (blocksG l)
  rw [List.drop_eq_getElem_cons hl] at this
  simp only [blocksG, List.getElem_map, List.getElem_range] at this ⊢
  exact this.symm
set_option maxRecDepth 100000 in
set_option maxHeartbeats 2000000 in
theorem lblocks_seq (l : LotD) (p : PartsL) (mk ml sp bb : Nat) (Rd : Nat → Prop) (sv : Value) (h9 : l.blocks.length ≤ 6) (W : World) (hb : W.heap[bb]? = some (boxSh sp)) (hsp : W.heap[sp]? = some (shopO l p mk ml sv)) (hsets : NumsAt W sv (setsInts l l.blocks.length) Rd) :
    SeqG Try.prog 78 #[.pointer (some ⟨bb, 0, none⟩)] (fun x : Nat × Nat => #[.int .i64 (x.1 : Int), .int .i64 (x.2 : Int)]) (blocksG l) Rd W := by
  intro li Mut J Jx hM hJ hJx hY h0
  have HY := Lib.hid hY
  have HM := Lib.hid hM
  have hlb := lt_of_block hb
  have hls := lt_of_block hsp
  obtain ⟨_, _, _, _, _, _, _, _, c8⟩ := shop_cells hsp
  have cb : W.cell? ⟨bb, 0, none⟩ = some (.pointer (some ⟨sp, 0, none⟩)) := by rw [cell_of_row _ _ _ _ _ _ hb]; rfl
  obtain ⟨asv, cs, hsv, _, _, hel⟩ := id hsets
  obtain ⟨nb, hnb⟩ : ∃ n, n = l.blocks.length := ⟨_, rfl⟩
  have hlen : (setsInts l l.blocks.length).length = nb := by simp [setsInts, hnb]
  rw [hsv, hlen] at c8
  rw [← hnb] at h9
  have HEL := Lib.hid hel
  have HLEN := Lib.hid hlen
  have HNB := Lib.hid hnb
  clear hM hJ hJx hY hb hsp hsv hsets hel hlen hnb
  refine callsIn_wide.1 (callsIn_of_wp (F := Fence.wide) (n := 0) Try.func78 rfl trivial ?_ rfl)
  simp only [Try.ntmps78, List.size_toArray, List.length_cons, List.length_nil, Nat.reduceAdd, Nat.reduceSub, Array.replicate_succ, Array.replicate_zero, List.push_toArray, List.append_toArray, List.nil_append, List.cons_append]
  gi_wp2
  clear c8 cb
  gi_loopw [10] (fun z wr => ∃ (n : Nat) (G : Nat → Prop), n ≤ nb ∧ z = .int .i64 (n : Int) ∧ J ((blocksG l).take n) G wr ∧ Keeps (fun k => Mut k ∨ W.heap.size ≤ k) W wr ∧ (∀ k, G k → W.heap.size ≤ k)) (fun z _ => nb - (intOf z).toNat)
  case atStart => exact ⟨0, fun _ => False, by omega, rfl, by simpa using h0, Keeps.refl _ _, fun _ h => h.elim⟩
  case round =>
    obtain ⟨n, G, hn, rfl, hj, hk, hG⟩ := hrel
    have HK := Lib.hid hk
    have HJJ := Lib.hid hj
    clear hj hk
    by_cases hlt : n < nb
    · have hlti : (n : Int) < (nb : Int) := by omega
      have hn0 : 0 ≤ (n : Int) := by omega
      have hnl : n < l.blocks.length := by rw [← HNB.out]; exact hlt
      have hw : IntKind.i64.wrap ((n : Int) + 1) = ((n + 1 : Nat) : Int) := by rw [IntWalk.i64_in _ (by omega)]; omega
      obtain ⟨eb, off, rfl, hgw, hgl, k0⟩ := HEL.out n (by rw [HLEN.out]; exact hlt)
      rw [sets_get l _ n hnl] at k0
      replace k0 := (World.cell?_of_block (w := W) (w' := wr) (a := ⟨eb, off + n, none⟩) (HK.out.block eb hgl (fun h => h.elim (fun h => (HM.out _ h).2 hgw) (fun h => by omega)))).trans k0
      obtain ⟨fn, tmps, assign, body, hy, hR⟩ := HY.out _ _ _ G wr (blocksG_split l n hnl) HJJ.out HK.out.size hG
      rw [← blocksG_take l n hnl] at hR
      dsimp only at hy
      clear hgw hgl
      gi_wp2
      refine ⟨rfl, hR.mono ?_⟩
      rintro e W3 ⟨hk3, hjj⟩
      have hk3' : Keeps (fun k => Mut k ∨ W.heap.size ≤ k) wr W3 := hk3.mono (fun k _ h => h.elim .inl (fun h => .inr (hG k h)))
      have hG3 : ∀ k, Grow G wr W3 k → W.heap.size ≤ k := fun k h => h.elim (hG k) (fun h => by have := HK.out.size; omega)
      rcases hjj with ⟨rfl, hj3⟩ | ⟨rfl, hj3⟩
      · gi_wp2
        go_roundw
        case rel => exact ⟨n + 1, _, by omega, rfl, hj3, HK.out.trans hk3', hG3⟩
        case measure => simp [intOf]; omega
      · gi_wp2
        refine bodyPost_ret (results_none rfl _ _ _) rfl ?_
        have hj4 : Jx ((blocksG l).take n ++ [(n, setsL l n)]) (Grow G wr W3) W3 := by rw [← blocksG_take l n hnl]; exact hj3
        exact ⟨⟨_, rfl⟩, HK.out.trans hk3', Grow G wr W3, .inr ⟨_, _, _, blocksG_split l n hnl, hj4⟩⟩
    · have hin : n = nb := by omega
      have hlti : ¬ (n : Int) < (nb : Int) := by omega
      have hfin : (blocksG l).take n = blocksG l := List.take_of_length_le (by simp [blocksG]; rw [hin, HNB.out]; exact Nat.le_refl _)
      have HFIN := Lib.hid hfin
      clear hin hfin
      gi_wp2
      go_end0
      refine ⟨⟨_, rfl⟩, HK.out, G, .inl ?_⟩
      rw [← HFIN.out]; exact HJJ.out
end Go.Proofs.Ytagjepclobobjaa

/- Package lot: a stop is caught behind a range over a function. -/
namespace Go.Proofs.Ytagjepclobobjaa
set_option linter.unusedVariables false
set_option linter.unusedSimpArgs false
open Go.RowKit Go.Shelf
attribute [local go_sem] Oper.semAt_some

theorem wpAnyH_operL {P : Program} {md : Region.Mode} {ops : Array Oper} {S : World → Prop} {Q : Exit → Act → World → Prop} {k fuel : Nat} {o : Oper} {listed : Array Bool} {a : Act} {w : World} (hr : Region.ready md ops listed = [k]) (ho : ops[k]? = some o) (hg : Region.wanted o (yielded ops a.tmps) = true)
    (h : o.wp P a w (fun a' w' => S w' ∧ wpAnyH P md ops Q S fuel (listed.setIfInBounds k true) a' w') Q) : wpAnyH P md ops Q S (fuel + 1) listed a w := by
  refine wpAnyH_all hr (by simp) fun i hi => ?_
  obtain rfl : i = k := by simpa using hi
  unfold wpOp
  rw [ho]
  simp only [hg, if_true]
  left
  exact h
theorem callsDInW_of_wpS {P : Program} {f : FuncId} {fn : Func} {c : Code} {args : Array Value} {u : FrameMode} {w : World} {R : Ending → FrameMode → World → Prop} (hf : P.funcs[f]? = some fn) (hb : fn.body = some c)
    (h : ∀ (c₀ : Frame) (cs : List Frame), c₀.mode = u → c.wpS P (bodyPostS P fn c₀ cs R) { tmps := args ++ Array.replicate (fn.ntmps - args.size) undef, defers := [] } (c₀ :: cs) w) : CallsDIn Fence.wide 0 P f args u w R := by
  refine ⟨trivial, fun c₀ cs hu _ => ?_⟩
  have he : Frame.enter P f args .deferred = Frame.at { (default : Frame) with fn := f, kind := .deferred } { tmps := args ++ Array.replicate (fn.ntmps - args.size) undef, defers := [] } [.code c] := by
    simp [Frame.enter, Frame.at, hf, hb]
  obtain ⟨e, a', cs', w', hq, harr⟩ := h c₀ cs hu { (default : Frame) with fn := f, kind := .deferred } [] rfl rfl
  rw [← he] at harr
  cases e with
  | normal =>
    obtain ⟨hd, u', rfl, v, hr, hR⟩ := hq
    exact ⟨.returned v, u', w', _, hR, stepsIn_wide.2 (Steps.trans harr (.one step_end)), rfl, rfl, rfl, hd, fn, hf, hr⟩
  | ret =>
    obtain ⟨hd, u', rfl, v, hr, hR⟩ := hq
    obtain ⟨todo, hs⟩ := harr
    exact ⟨.returned v, u', w', _, hR, stepsIn_wide.2 hs, rfl, rfl, rfl, hd, fn, hf, hr⟩
  | panic chain =>
    obtain ⟨hd, u', rfl, hR⟩ := hq
    obtain ⟨todo, hs⟩ := harr
    exact ⟨.panicked chain, u', w', _, hR, stepsIn_wide.2 hs, rfl, rfl, rfl, hd, fn, hf⟩
  | exit id => exact hq.elim
  | goto l => exact hq.elim
  | outgrown =>
    obtain ⟨u', hR⟩ := hq
    exact ⟨.outgrown, u', w', { (default : Frame) with fn := f, kind := .deferred }, hR, harr.resolve_left (by simp), rfl, rfl, trivial⟩
theorem catchIn_idle_Value (ep : Nat) (w : World) :
    CallsDIn Fence.wide 0 Try.prog 49 #[.pointer (some ⟨ep, 0, none⟩)] .returning w fun e u' w' => e = .returned (.tuple #[]) ∧ u' = .returning ∧ w' = w := by
  refine callsDInW_of_wpS Try.func49 rfl fun c₀ cs hu => ?_
  apply wpS_region
  have hm : c₀ = { c₀ with mode := .returning } := by cases c₀; simp_all
  simp [wpOpsS, go_sem, recoverD, hu, Try.ntmps49, Oper.upon]
  refine (lstopped_nil ep w).mono ?_
  rintro e w' ⟨rfl, rfl⟩
  simp only [bodyPostS]
  exact ⟨trivial, .returning, by rw [← hm], .tuple #[], by simp [results, Try.results49, go_sem], by first | exact ⟨rfl, rfl, rfl⟩ | exact ⟨trivial, rfl, rfl⟩ | simp⟩
theorem catchIn_stop_Value (n : Int) (ep : Nat) (x : Int) (w : World) (hep : w.heap[ep]? = some (.cells #[.int .i64 x] 24 (0, 0))) :
    CallsDIn Fence.wide 0 Try.prog 49 #[.pointer (some ⟨ep, 0, none⟩)] (.panicking [{ v := lstopV n, recovered := false }]) w fun e u' w' => e = .returned (.tuple #[]) ∧ u' = .panicking [{ v := lstopV n, recovered := true }] ∧ Keeps (fun k => k = ep) w w' ∧ w'.heap[ep]? = some (.cells #[.int .i64 n] 24 (0, 0)) := by
  refine callsDInW_of_wpS Try.func49 rfl fun c₀ cs hu => ?_
  apply wpS_region
  simp [wpOpsS, go_sem, recoverD, hu, Try.ntmps49, Oper.upon]
  refine (lstopped_stop n ep x w hep).mono ?_
  rintro e w' ⟨rfl, h1, h2⟩
  simp only [bodyPostS]
  exact ⟨trivial, _, rfl, .tuple #[], by simp [results, Try.results49, go_sem], by first | exact ⟨rfl, rfl, h1, h2⟩ | exact ⟨trivial, rfl, h1, h2⟩ | (simp; exact ⟨h1, h2⟩)⟩
theorem leafM_stop_Value {fn : Func} (n : Int) {R : Ending → World → Prop} (E : Nat) (x : Int) (tmps : Array Value) (w5 : World) (he : w5.heap[E]? = some (.cells #[.int .i64 x] 24 (0, 0)))
    (hR : ∀ W', Keeps (fun k => k = E) w5 W' → W'.heap[E]? = some (.cells #[.int .i64 n] 24 (0, 0)) → ∃ v, (results fn tmps).run Try.prog W' = .ok v W' ∧ R (.returned v) W') :
    LeavesInM Fence.wide 0 Try.prog fn tmps R [{ target := .fn (.func 49) #[.pointer (some ⟨E, 0, none⟩)], args := #[] }] (.panicking [{ v := lstopV n, recovered := false }]) w5 := by
  refine ⟨by simp, .inr ⟨(fun h => by cases h), .func 49, #[.pointer (some ⟨E, 0, none⟩)], 49, #[.pointer (some ⟨E, 0, none⟩)], rfl, by simp [go_sem, invoke], fun g hg => trivial, ?_⟩⟩
  refine CallsDIn.mono (catchIn_stop_Value n E x w5 he) ?_
  rintro e u' w' ⟨rfl, rfl, hk, he'⟩
  exact hR _ hk he'
theorem leafM_ret_Value {fn : Func} {R : Ending → World → Prop} (E : Nat) (tmps : Array Value) (w5 : World) (hR : ∃ v, (results fn tmps).run Try.prog w5 = .ok v w5 ∧ R (.returned v) w5) :
    LeavesInM Fence.wide 0 Try.prog fn tmps R [{ target := .fn (.func 49) #[.pointer (some ⟨E, 0, none⟩)], args := #[] }] .returning w5 := by
  refine ⟨by simp, .inr ⟨(fun h => by cases h), .func 49, #[.pointer (some ⟨E, 0, none⟩)], 49, #[.pointer (some ⟨E, 0, none⟩)], rfl, by simp [go_sem, invoke], fun g hg => trivial, ?_⟩⟩
  refine CallsDIn.mono (catchIn_idle_Value E w5) ?_
  rintro e u' w' ⟨rfl, rfl, rfl⟩
  exact hR
theorem catchIn_idle_Scrap (ep : Nat) (w : World) :
    CallsDIn Fence.wide 0 Try.prog 52 #[.pointer (some ⟨ep, 0, none⟩)] .returning w fun e u' w' => e = .returned (.tuple #[]) ∧ u' = .returning ∧ w' = w := by
  refine callsDInW_of_wpS Try.func52 rfl fun c₀ cs hu => ?_
  apply wpS_region
  have hm : c₀ = { c₀ with mode := .returning } := by cases c₀; simp_all
  simp [wpOpsS, go_sem, recoverD, hu, Try.ntmps52, Oper.upon]
  refine (lstopped_nil ep w).mono ?_
  rintro e w' ⟨rfl, rfl⟩
  simp only [bodyPostS]
  exact ⟨trivial, .returning, by rw [← hm], .tuple #[], by simp [results, Try.results52, go_sem], by first | exact ⟨rfl, rfl, rfl⟩ | exact ⟨trivial, rfl, rfl⟩ | simp⟩
theorem catchIn_stop_Scrap (n : Int) (ep : Nat) (x : Int) (w : World) (hep : w.heap[ep]? = some (.cells #[.int .i64 x] 24 (0, 0))) :
    CallsDIn Fence.wide 0 Try.prog 52 #[.pointer (some ⟨ep, 0, none⟩)] (.panicking [{ v := lstopV n, recovered := false }]) w fun e u' w' => e = .returned (.tuple #[]) ∧ u' = .panicking [{ v := lstopV n, recovered := true }] ∧ Keeps (fun k => k = ep) w w' ∧ w'.heap[ep]? = some (.cells #[.int .i64 n] 24 (0, 0)) := by
  refine callsDInW_of_wpS Try.func52 rfl fun c₀ cs hu => ?_
  apply wpS_region
  simp [wpOpsS, go_sem, recoverD, hu, Try.ntmps52, Oper.upon]
  refine (lstopped_stop n ep x w hep).mono ?_
  rintro e w' ⟨rfl, h1, h2⟩
  simp only [bodyPostS]
  exact ⟨trivial, _, rfl, .tuple #[], by simp [results, Try.results52, go_sem], by first | exact ⟨rfl, rfl, h1, h2⟩ | exact ⟨trivial, rfl, h1, h2⟩ | (simp; exact ⟨h1, h2⟩)⟩
theorem leafM_stop_Scrap {fn : Func} (n : Int) {R : Ending → World → Prop} (E : Nat) (x : Int) (tmps : Array Value) (w5 : World) (he : w5.heap[E]? = some (.cells #[.int .i64 x] 24 (0, 0)))
    (hR : ∀ W', Keeps (fun k => k = E) w5 W' → W'.heap[E]? = some (.cells #[.int .i64 n] 24 (0, 0)) → ∃ v, (results fn tmps).run Try.prog W' = .ok v W' ∧ R (.returned v) W') :
    LeavesInM Fence.wide 0 Try.prog fn tmps R [{ target := .fn (.func 52) #[.pointer (some ⟨E, 0, none⟩)], args := #[] }] (.panicking [{ v := lstopV n, recovered := false }]) w5 := by
  refine ⟨by simp, .inr ⟨(fun h => by cases h), .func 52, #[.pointer (some ⟨E, 0, none⟩)], 52, #[.pointer (some ⟨E, 0, none⟩)], rfl, by simp [go_sem, invoke], fun g hg => trivial, ?_⟩⟩
  refine CallsDIn.mono (catchIn_stop_Scrap n E x w5 he) ?_
  rintro e u' w' ⟨rfl, rfl, hk, he'⟩
  exact hR _ hk he'
theorem leafM_ret_Scrap {fn : Func} {R : Ending → World → Prop} (E : Nat) (tmps : Array Value) (w5 : World) (hR : ∃ v, (results fn tmps).run Try.prog w5 = .ok v w5 ∧ R (.returned v) w5) :
    LeavesInM Fence.wide 0 Try.prog fn tmps R [{ target := .fn (.func 52) #[.pointer (some ⟨E, 0, none⟩)], args := #[] }] .returning w5 := by
  refine ⟨by simp, .inr ⟨(fun h => by cases h), .func 52, #[.pointer (some ⟨E, 0, none⟩)], 52, #[.pointer (some ⟨E, 0, none⟩)], rfl, by simp [go_sem, invoke], fun g hg => trivial, ?_⟩⟩
  refine CallsDIn.mono (catchIn_idle_Scrap E w5) ?_
  rintro e u' w' ⟨rfl, rfl, rfl⟩
  exact hR
end Go.Proofs.Ytagjepclobobjaa
