/- Texts Mm, Md in one file; each begins with a word on what it proves. -/
import Derived.Test.YtlgeggekmdoceaaKx

/- PairMore: the walk, what is told of the pair, and of it with a reading more, and with one that is narrower. -/
namespace Go.Proofs.Ytlgeggekmdoceaa
set_option linter.unusedVariables false
set_option linter.unusedSimpArgs false
open Go.RowKit Go.Shelf
attribute [local go_sem] Oper.semAt_some
/-- What the closure says. -/
theorem moreIn_any (x1 x2 y1 y2 : Int) (h1 : y1 ≤ x1) (h2 : x2 ≤ y2) (w : World) : Calls Try.prog 44 #[.agg #[.int .i64 x1, .int .i64 x2], .agg #[.int .i64 y1, .int .i64 y2]] w fun e w' => e = .returned (.bool true) ∧ Below w.heap.size w w' := by
  have hb : Below w.heap.size w ((w.alloc (.cells #[.int .i64 x1, .int .i64 x2] 24)).alloc (.cells #[.int .i64 y1, .int .i64 y2] 24)) := ((Below.refl _ _).alloc (Nat.le_refl _) _).alloc (by simp) _
  have d1 : decide (y1 ≤ x1) = true := decide_eq_true h1
  have d2 : decide (x2 ≤ y2) = true := decide_eq_true h2
  have HB := Lib.hid hb
  clear hb
  go_enter Try.func44, Try.ntmps44
  go_wp2
  go_ret
  exact ⟨rfl, HB.out⟩
/-- What is told of a pair of which nothing is told less exactly. -/
def ElQ (q : PairD) (an bn mn : Nat) (c1 c2 d1 d2 s1 s2 e wn : Int) (bj : Bool) : Prop := validB q = true →
  ∃ k1 k2 l1 l2 v1 v2 f mq ms, knownV q an = ((k1, k2), f) ∧ differV q an bn = ((l1, l2), f) ∧ showsV q mn = ((v1, v2), f) ∧ wrongV q = ((mq, ms), 0) ∧ wn ≤ mq ∧ (bj = true → mq ≤ wn + 1) ∧
    (f = 10 ∨ f = 0 ∧ e = 0 ∧ c1 ≤ k1 ∧ k2 ≤ c2 ∧ d1 ≤ l1 ∧ l2 ≤ d2 ∧ s1 ≤ v1 ∧ v2 ≤ s2)
theorem elq_of {p q : PairD} {an bn mn : Nat} {c1 c2 d1 d2 s1 s2 e : Int} {bj : Bool} (hal : an < p.bs.length) (hbl : bn < p.bs.length) (hmn : mn < 61) (hk : knownV p an = ((c1, c2), e)) (hd : differV p an bn = ((d1, d2), e)) (hs : showsV p mn = ((s1, s2), e))
    (h : validB q = true → LessT p q ∧ ones (outS p) ≤ ones (outS q) ∧ (bj = true → ones (outS q) ≤ ones (outS p) + 1)) : ElQ q an bn mn c1 c2 d1 d2 s1 s2 e ((ones (outS p) : Nat) : Int) bj := by
  intro hv
  obtain ⟨h1, h2, h3⟩ := h hv
  obtain ⟨t1, t2, t3⟩ := h1.told an bn mn hal hbl (by omega)
  rw [hk, hd, hs] at t3
  obtain ⟨⟨⟨k1, k2⟩, f⟩, hkq⟩ : ∃ x, knownV q an = x := ⟨_, rfl⟩
  obtain ⟨⟨⟨l1, l2⟩, f2⟩, hdq⟩ : ∃ x, differV q an bn = x := ⟨_, rfl⟩
  obtain ⟨⟨⟨v1, v2⟩, f3⟩, hsq⟩ : ∃ x, showsV q mn = x := ⟨_, rfl⟩
  rw [hkq, hdq] at t1
  rw [hkq, hsq] at t2
  rw [hkq, hdq, hsq] at t3
  dsimp only at t1 t2 t3
  subst t1 t2
  refine ⟨k1, k2, l1, l2, v1, v2, f, _, _, hkq, hdq, hsq, wrongV_yes hv, by omega, fun hb => by have := h3 hb; omega, ?_⟩
  rcases t3 with ⟨a, b, ⟨c, d⟩, ⟨e, f⟩, g, h⟩ | a
  · exact .inr ⟨a, b, c, d, e, f, g, h⟩
  · exact .inl a
set_option maxRecDepth 100000 in
set_option maxHeartbeats 8000000 in
theorem more_m (p : PairD) (r : RdD) (an bn mn kn B q8 q9 q10 q11 q12 iy : Nat) (bsv rsv xv yv ub ur tb tr zb zr v28 v29 : Value) (fits : Bool) (hfits : fits = p.bs.all fun s => decide (s.2 + (kn : Int) ≤ 20)) (W0 : World) (hv : validB p = true) (hal : an < p.bs.length) (hbl : bn < p.bs.length) (hmn : mn < 61) (hkn : kn < 12) (hB : B < W0.heap.size)
    (hr0 : W0.heap[B]? = some (.cells (pairRow p bsv rsv) 27 (0, 0))) (hpa : PairAt W0 p bsv rsv) (h28 : SpansAt W0 v28 p.bs (fun k => k < W0.heap.size)) (h29 : ReadsAt W0 v29 p.rs (fun k => k < W0.heap.size))
    (h5 : B5 q8 q9 q10 q11 q12 (pairRow p bsv xv) (pairRow p bsv yv) (pairRow p zb zr) (pairRow p tb tr) (pairRow p ub ur) W0)
    (hxa : PairAt W0 (withR p r) bsv xv) (hya : PairAt W0 (narP p iy) bsv yv) (hza : PairAt W0 (revP p) zb zr) (hta : PairAt W0 (shiftP p kn) tb tr) (hua : PairAt W0 (negP p) ub ur)
    (R : Ending → World → Prop) (hR : ∀ w', Below W0.heap.size W0 w' → R (.returned (.bool true)) w') (K : Act → World → Prop)
    (hK : ∀ a w, Code.wp Try.prog (moreC 13) (bodyPost Try.prog Try.f12 R) a w → K a w) (u0 u1 u2 u3 u4 u6 u21 u23 u24 u25 u26 u27 u70 u71 u72 u73 u74 u75 u76 u77 u78 u79 u80 u81 u82 u83 u84 u85 u86 u87 u88 u89 u90 u91 u92 u93 u94 u95 u96 u97 u98 u99 u100 u101 u102 u103 u104 u105 u106 u107 u108 u109 u110 u111 u112 u113 u114 u115 u116 u117 u118 u119 u120 u121 u122 u123 u124 u125 u126 u127 u128 u129 u130 u131 u132 u133 u134 u135 u136 u137 u138 u139 u140 u141 u142 u143 u144 u145 u146 u147 u148 u149 u150 u151 u152 u153 u154 u155 u156 u157 u158 u159 u160 u161 u162 u163 u164 u165 u166 u167 u168 u169 u170 u171 u172 u173 u174 u175 u176 u177 u178 u179 u180 u181 u182 u183 u184 u185 u186 u187 u188 u189 u190 u191 u192 u193 u194 u195 u196 u197 u198 u199 u200 u201 u202 u203 u204 u205 u206 u207 u208 u209 u210 u211 u212 u213 u214 u215 u216 u217 u218 u219 u220 u221 u222 u223 u224 u225 u226 u227 u228 u229 u230 u231 u232 u233 u234 u235 u236 u237 u238 u239 u240 u241 u242 u243 u244 u245 u246 u247 u248 u249 u250 u251 u252 u253 u254 u255 u256 u257 u258 u259 u260 u261 u262 u263 u264 : Value) :
    Code.wp Try.prog (headC 12) (Exit.then K (bodyPost Try.prog Try.f12 R)) ⟨#[u0, u1, u2, u3, u4, .pointer (some ⟨B, 0, none⟩), u6, undef, undef, undef, .bool false, .int .i64 p.bs.length, .int .i64 kn, .int .i64 an, .int .i64 bn, .int .i64 mn, .pointer (some ⟨q8, 0, none⟩), .pointer (some ⟨q9, 0, none⟩), .pointer (some ⟨q10, 0, none⟩), .pointer (some ⟨q11, 0, none⟩), .pointer (some ⟨q12, 0, none⟩), u21, .bool fits, u23, u24, u25, u26, u27, v28, v29, undef, undef, undef, undef, undef, undef, undef, undef, undef, undef, undef, undef, undef, undef, undef, undef, undef, undef, undef, undef, undef, undef, undef, undef, undef, undef, undef, undef, undef, undef, undef, undef, undef, undef, undef, undef, undef, undef, undef, undef, u70, u71, u72, u73, u74, u75, u76, u77, u78, u79, u80, u81, u82, u83, u84, u85, u86, u87, u88, u89, u90, u91, u92, u93, u94, u95, u96, u97, u98, u99, u100, u101, u102, u103, u104, u105, u106, u107, u108, u109, u110, u111, u112, u113, u114, u115, u116, u117, u118, u119, u120, u121, u122, u123, u124, u125, u126, u127, u128, u129, u130, u131, u132, u133, u134, u135, u136, u137, u138, u139, u140, u141, u142, u143, u144, u145, u146, u147, u148, u149, u150, u151, u152, u153, u154, u155, u156, u157, u158, u159, u160, u161, u162, u163, u164, u165, u166, u167, u168, u169, u170, u171, u172, u173, u174, u175, u176, u177, u178, u179, u180, u181, u182, u183, u184, u185, u186, u187, u188, u189, u190, u191, u192, u193, u194, u195, u196, u197, u198, u199, u200, u201, u202, u203, u204, u205, u206, u207, u208, u209, u210, u211, u212, u213, u214, u215, u216, u217, u218, u219, u220, u221, u222, u223, u224, u225, u226, u227, u228, u229, u230, u231, u232, u233, u234, u235, u236, u237, u238, u239, u240, u241, u242, u243, u244, u245, u246, u247, u248, u249, u250, u251, u252, u253, u254, u255, u256, u257, u258, u259, u260, u261, u262, u263, u264, undef, undef, undef, undef, undef, undef, undef, undef, undef, undef, undef, undef, undef, undef, undef, undef, undef, undef, undef, undef, undef, undef, undef, undef, undef, undef, undef, undef, undef, undef, undef, undef, undef, undef, undef, undef, undef, undef, undef, undef, undef, undef, undef, undef, undef, undef, undef, undef, undef, undef, undef, undef, undef, undef, undef, undef, undef, undef, undef, undef, undef, undef, undef, undef, undef, undef, undef, undef, undef, undef, undef, undef, undef, undef, undef, undef, undef, undef, undef, undef, undef, undef, undef, undef, undef, undef, undef, undef, undef, undef, undef, undef, undef, undef, undef, undef, undef, undef, undef, undef, undef, undef, undef, undef, undef, undef, undef, undef, undef, undef, undef, undef, undef, undef, undef, undef, undef, undef, undef, undef, undef, undef, undef, undef, undef, undef, undef, undef, undef, undef, undef, undef, undef, undef, undef, undef, undef, undef, undef, undef, undef, undef, undef, undef, undef, undef, undef, undef, undef, undef, undef, undef, undef, undef, undef, undef, undef, undef, undef, undef, undef, undef, undef, undef, undef, undef, undef, undef, undef, undef, undef, undef, undef, undef, undef, undef, undef, undef, undef, undef, undef, undef, undef, undef, undef, undef, undef, undef, undef, undef, undef, undef, undef, undef, undef, undef, undef, undef, undef, undef, undef, undef, undef, undef, undef, undef, undef, undef, undef, undef, undef, undef, undef, undef, undef, undef, undef, undef, undef, undef, undef, undef, undef, undef, undef, undef, undef, undef, undef, undef, undef, undef, undef, undef, undef, undef, undef, undef, undef, undef, undef, undef, undef, undef, undef, undef, undef, undef, undef, undef, undef, undef, undef, undef, undef, undef, undef, undef, undef, undef, undef, undef, undef, undef, undef, undef, undef, undef, undef, undef, undef, undef, undef, undef, undef, undef, undef, undef, undef, undef, undef, undef, undef, undef, undef, undef, undef, undef, undef, undef, undef, undef, undef, undef, undef, undef, undef, undef, undef, undef, undef, undef, undef, undef, undef, undef, undef, undef, undef, undef, undef, undef, undef, undef, undef, undef, undef, undef, undef, undef, undef, undef, undef, undef, undef, undef, undef, undef, undef, undef, undef, undef, undef, undef, undef, undef, undef, undef, undef, undef, undef, undef, undef, undef, undef, undef, undef, undef, undef, undef, undef, undef, undef, undef, undef, undef, undef, undef, undef, undef], []⟩ W0 := by
  conv => arg 2; whnf
  have hp := OkP.of p hv
  have hn1 := hp.n1
  have hn5 := hp.n5
  have hm8 := hp.m8
  have rowsOf : ∀ {b : Nat} {x y : Value}, W0.heap[b]? = some (.cells (pairRow p x y) 27 (0, 0)) → Hid (∀ W', Below W0.heap.size W0 W' → (W'.cell? ⟨b, 0, none⟩ = some x ∧ W'.cell? ⟨b, 1, none⟩ = some (.int .i64 p.zl) ∧ W'.cell? ⟨b, 2, none⟩ = some (.int .i64 p.zh) ∧ W'.cell? ⟨b, 3, none⟩ = some (.int .i64 p.rl) ∧ W'.cell? ⟨b, 4, none⟩ = some (.int .i64 p.rh) ∧ W'.cell? ⟨b, 5, none⟩ = some y)) := fun {b x y} h W' hb => by
    have q1 := (hb.block b (lt_of_block h)).trans h
    exact ⟨cell_of_row _ _ 0 _ _ _ q1, cell_of_row _ _ 1 _ _ _ q1, cell_of_row _ _ 2 _ _ _ q1, cell_of_row _ _ 3 _ _ _ q1, cell_of_row _ _ 4 _ _ _ q1, cell_of_row _ _ 5 _ _ _ q1⟩
  have ROWP := rowsOf hr0
  have ROWX := rowsOf h5.b8
  have ROWY := rowsOf h5.b9
  have HPA := Lib.hid hpa
  obtain ⟨⟨⟨c1, c2⟩, e⟩, hk⟩ : ∃ x, knownV p an = x := ⟨_, rfl⟩
  obtain ⟨⟨⟨d1, d2⟩, e2⟩, hd⟩ : ∃ x, differV p an bn = x := ⟨_, rfl⟩
  obtain ⟨⟨⟨s1, s2⟩, e3⟩, hs⟩ : ∃ x, showsV p mn = x := ⟨_, rfl⟩
  obtain ⟨n1, n2, t1, t2, hee, hle, hle2, hnk, htk⟩ : ∃ n1 n2 t1 t2 : Int, (e = e2 ∧ e = e3) ∧ (e = 0 ∧ n1 = -c2 ∧ n2 = -c1 ∧ (-40 ≤ c1 ∧ c1 ≤ 40 ∧ -40 ≤ c2 ∧ c2 ≤ 40) ∨ e = 10 ∧ n1 = 0 ∧ n2 = 0) ∧ (e = 0 ∧ t1 = c1 + kn ∧ t2 = c2 + kn ∨ e = 10 ∧ t1 = c1 ∧ t2 = c2) ∧ knownV (negP p) an = ((n1, n2), e) ∧ (fits = true → knownV (shiftP p kn) an = ((t1, t2), e) ∧ validB (shiftP p kn) = true) := by
    have hb := LessT.told (p := p) (q := p) ⟨hv, hv, rfl, fun t ht => ht⟩ an bn mn hal hbl (by omega)
    rw [hk, hd, hs] at hb
    have hb1 := hb.1
    have hb2 := hb.2.1
    dsimp only at hb1 hb2
    have hvt : fits = true → validB (shiftP p kn) = true := fun hf => by
      rw [hf] at hfits
      have h2 := List.all_eq_true.1 hfits.symm
      exact shiftP_valid hv (k := (kn : Int)) (by omega) (fun s hs => by have := h2 s hs; rw [decide_eq_true_eq] at this; exact this)
    by_cases hn : truA p = []
    · rw [knownV_no hv hn an hal] at hk
      simp only [Prod.mk.injEq] at hk
      obtain ⟨⟨rfl, rfl⟩, rfl⟩ := hk
      refine ⟨0, 0, 0, 0, ⟨hb1, hb2⟩, .inr ⟨rfl, rfl, rfl⟩, .inr ⟨rfl, rfl, rfl⟩, by rw [neg_known hv an hal, if_pos hn], fun hf => ⟨by rw [shift_known hv (hvt hf) an hal, if_pos hn], hvt hf⟩⟩
    · have hc40 := hullD_40 hp hn an 5
      rw [knownV_yes hv hn an hal] at hk
      rw [Prod.mk.injEq] at hk
      obtain ⟨hc, rfl⟩ := hk
      rw [hc] at hc40
      dsimp only at hc40
      refine ⟨-c2, -c1, c1 + kn, c2 + kn, ⟨hb1, hb2⟩, .inl ⟨rfl, rfl, rfl, by omega⟩, .inl ⟨rfl, rfl, rfl⟩, by rw [neg_known hv an hal, if_neg hn, hc], fun hf => ⟨by rw [shift_known hv (hvt hf) an hal, if_neg hn, hc], hvt hf⟩⟩
  obtain ⟨rfl, rfl⟩ := hee
  obtain ⟨wn, hwn⟩ : ∃ x, x = ((ones (outS p) : Nat) : Int) := ⟨_, rfl⟩
  have hwb : 0 ≤ wn ∧ wn ≤ 8 := by
    have h1 := (outS_ok hv).le
    have h2 := allR_lt p hm8
    have h3 := ones_8 ⟨outS p, by omega⟩
    dsimp only at h3
    omega
  have hpw : wrongV p = ((wn, ((outS p : Nat) : Int)), 0) := by rw [wrongV_yes hv, hwn]
  obtain ⟨ws, hws⟩ : ∃ x, x = ((outS p : Nat) : Int) := ⟨_, rfl⟩
  rw [← hws] at hpw
  obtain ⟨hwb1, hwb2⟩ := hwb
  have HPK := Lib.hid (says_known (bs := bsv) (rs := rsv) hk)
  have HPD := Lib.hid (says_differ (bs := bsv) (rs := rsv) hd)
  have HPS := Lib.hid (says_shows (bs := bsv) (rs := rsv) hs)
  have HPW := Lib.hid (says_wrong (bs := bsv) (rs := rsv) hpw)
  unfold Gives pairRow at HPK HPD HPS HPW
  have HEX : Hid (ElQ (withR p r) an bn mn c1 c2 d1 d2 s1 s2 e wn true) := by
    rw [hwn]
    exact elq_of hal hbl hmn hk hd hs fun hw => ⟨withR_less hv hw, (withR_wrong hv hw).1, fun _ => (withR_wrong hv hw).2⟩
  have HEY : Hid (ElQ (narP p iy) an bn mn c1 c2 d1 d2 s1 s2 e wn false) := by
    rw [hwn]
    exact elq_of hal hbl hmn hk hd hs fun hw => ⟨narP_less hv hw, narP_wrong hv hw, fun h => by cases h⟩
  have HEND := Lib.hid (fun W1 b30 b32 b34 (hb : Below W0.heap.size W0 W1) (hbx : BoxL [(b30, c1, c2), (b32, d1, d2), (b34, s1, s2)] W1 W1) =>
    more_g p an bn mn kn (p.bs.length - 1 - an) (p.bs.length - 1 - bn) B q10 q11 q12 b30 b32 b34 bsv rsv ub ur tb tr zb zr v28 v29 fits c1 c2 d1 d2 s1 s2 e n1 n2 t1 t2 wn ((outS (revP p) : Nat) : Int) W1 hm8 hn5 (Nat.lt_of_lt_of_le hB hb.size)
      ((hb.block _ hB).trans hr0) (hpa.later hb).b (hpa.later hb).r (h28.later hb.size (fun k hk _ => hb.block k hk)).low (h29.later hb.size (fun k hk _ => hb.block k hk)).low ((hb.block _ (lt_of_block h5.b12)).trans h5.b12) (hua.later hb)
      ((hb.block _ (lt_of_block h5.b11)).trans h5.b11) (hta.later hb) ((hb.block _ (lt_of_block h5.b10)).trans h5.b10) (hza.later hb) hbx hnk ((neg_differ hv an bn hal hbl).trans hd) (((neg_same hv).shows mn (by omega)).trans hs)
      (fun hf => ⟨(htk hf).1, (shift_differ hv (htk hf).2 an bn hal hbl).trans hd, ((shift_same hv (htk hf).2).shows mn (by omega)).trans hs⟩) hal hbl rfl rfl ((rev_known hv an hal).trans hk) ((rev_differ hv an bn hal hbl).trans hd) (((rev_same hv).shows mn (by omega)).trans hs)
      (by rw [wrongV_yes (revP_valid hv), rev_wrong hv, hwn]) hkn hle hle2 R (fun w' h => hR w' (hb.trans (h.mono hb.size))))
  have HXA := Lib.hid hxa
  have HYA := Lib.hid hya
  have HB := Lib.hid (BoxL.nil W0)
  have l8 := lt_of_block h5.b8
  have l9 := lt_of_block h5.b9
  clear rowsOf hr0 hpa h28 h29 h5 hxa hya hza hta hua hk hd hs hle hle2 hnk htk hfits hpw hws hwn
  obtain ⟨c0, c1', c2', c3, c4, c5⟩ := ROWP.out _ HB.out.2
  go_wp2_with fail
  clear c0 c1' c2' c3 c4 c5
  refine (HPK.out _ (HPA.out.later HB.out.2)).mono ?_
  rintro e' w1 ⟨rfl, hb⟩
  dsimp only
  replace HB := Lib.hid (HB.out.later hb)
  clear hb
  go_upto_region 27 with fail
  have lb30 := HB.out.2.size
  have qb30 := Lib.hid (fun c hc => lt_of_block (HB.out.1 c hc))
  replace HB := Lib.hid (HB.out.alloc (c1) (c2))
  obtain ⟨A1, hA⟩ : ∃ A, A = w1.alloc (.cells #[.int .i64 (c1), .int .i64 (c2)] 24) := ⟨_, rfl⟩
  obtain ⟨b30, hb30⟩ : ∃ b, b = w1.heap.size := ⟨_, rfl⟩
  rw [← hA, ← hb30] at HB ⊢
  rw [← hb30] at lb30 qb30
  clear hA hb30
  conv => arg 2; whnf
  obtain ⟨c0, c1', c2', c3, c4, c5⟩ := ROWP.out _ HB.out.2
  go_wp2_with fail
  clear c0 c1' c2' c3 c4 c5
  refine (HPD.out _ (HPA.out.later HB.out.2)).mono ?_
  rintro e' w2 ⟨rfl, hb⟩
  dsimp only
  replace HB := Lib.hid (HB.out.later hb)
  clear hb
  go_upto_region 28 with fail
  have lb32 := HB.out.2.size
  have qb32 := Lib.hid (fun c hc => lt_of_block (HB.out.1 c hc))
  replace HB := Lib.hid (HB.out.alloc (d1) (d2))
  obtain ⟨A2, hA⟩ : ∃ A, A = w2.alloc (.cells #[.int .i64 (d1), .int .i64 (d2)] 24) := ⟨_, rfl⟩
  obtain ⟨b32, hb32⟩ : ∃ b, b = w2.heap.size := ⟨_, rfl⟩
  rw [← hA, ← hb32] at HB ⊢
  rw [← hb32] at lb32 qb32
  clear hA hb32
  obtain ⟨c0, c1', c2', c3, c4, c5⟩ := ROWP.out _ HB.out.2
  go_wp2_with fail
  clear c0 c1' c2' c3 c4 c5
  refine (HPS.out _ (HPA.out.later HB.out.2)).mono ?_
  rintro e' w3 ⟨rfl, hb⟩
  dsimp only
  replace HB := Lib.hid (HB.out.later hb)
  clear hb
  go_upto_region 29 with fail
  have lb34 := HB.out.2.size
  have qb34 := Lib.hid (fun c hc => lt_of_block (HB.out.1 c hc))
  replace HB := Lib.hid (HB.out.alloc (s1) (s2))
  obtain ⟨A3, hA⟩ : ∃ A, A = w3.alloc (.cells #[.int .i64 (s1), .int .i64 (s2)] 24) := ⟨_, rfl⟩
  obtain ⟨b34, hb34⟩ : ∃ b, b = w3.heap.size := ⟨_, rfl⟩
  rw [← hA, ← hb34] at HB ⊢
  rw [← hb34] at lb34 qb34
  clear hA hb34
  obtain ⟨c0, c1', c2', c3, c4, c5⟩ := ROWP.out _ HB.out.2
  go_wp2_with fail
  clear c0 c1' c2' c3 c4 c5
  refine (HPW.out _ (HPA.out.later HB.out.2)).mono ?_
  rintro e' w4 ⟨rfl, hb⟩
  dsimp only
  replace HB := Lib.hid (HB.out.later hb)
  clear hb
  obtain ⟨c0, c1', c2', c3, c4, c5⟩ := ROWX.out _ HB.out.2
  obtain ⟨f0, f1', f2', f3, f4, f5⟩ := ROWY.out _ HB.out.2
  go_wp2_with fail
  conv => arg 2; whnf
  go_wp2_with fail
  clear c0 c1' c2' c3 c4 c5 f0 f1' f2' f3 f4 f5
  obtain ⟨g, hg⟩ : ∃ g, g = w4.heap.size := ⟨_, rfl⟩
  obtain ⟨W1, hW1⟩ : ∃ W, W = w4.alloc (.cells #[bsv, .int .i64 p.zl, .int .i64 p.zh, .int .i64 p.rl, .int .i64 p.rh, xv, bsv, .int .i64 p.zl, .int .i64 p.zh, .int .i64 p.rl, .int .i64 p.rh, yv] 27) := ⟨_, rfl⟩
  have hrow : W1.heap[g]? = some (.cells #[bsv, .int .i64 p.zl, .int .i64 p.zh, .int .i64 p.rl, .int .i64 p.rh, xv, bsv, .int .i64 p.zl, .int .i64 p.zh, .int .i64 p.rl, .int .i64 p.rh, yv] 27 (0, 0)) := by rw [hW1]; exact heap_alloc_at _ _ _ hg
  have hb4 : Below w4.heap.size w4 W1 := by rw [hW1]; exact (Below.refl _ _).alloc (Nat.le_refl _) _
  rw [← hW1, ← hg]
  replace HB := Lib.hid (HB.out.later hb4)
  have HB01 := Lib.hid HB.out.2
  have HBX : Hid (BoxL [(b34, s1, s2), (b32, d1, d2), (b30, c1, c2)] W1 W1) := ⟨HB.out.1, Below.refl _ _⟩
  have HEL : Hid (∀ j : Nat, j < 2 → ∃ (q : PairD) (qb qr : Value) (bj : Bool), PairAt W1 q qb qr ∧ (((j : Int) == 0) = bj) ∧ ElQ q an bn mn c1 c2 d1 d2 s1 s2 e wn bj ∧ ∀ W', Below W1.heap.size W1 W' → (W'.cell? ⟨g, j * 6, none⟩ = some qb ∧ W'.cell? ⟨g, j * 6 + 1, none⟩ = some (.int .i64 q.zl) ∧ W'.cell? ⟨g, j * 6 + 2, none⟩ = some (.int .i64 q.zh) ∧ W'.cell? ⟨g, j * 6 + 3, none⟩ = some (.int .i64 q.rl) ∧ W'.cell? ⟨g, j * 6 + 4, none⟩ = some (.int .i64 q.rh) ∧ W'.cell? ⟨g, j * 6 + 5, none⟩ = some qr)) := fun j hj => by
    have hgl := lt_of_block hrow
    rcases (show j = 0 ∨ j = 1 by omega) with rfl | rfl
    · refine ⟨withR p r, bsv, xv, true, HXA.out.later HB01.out, rfl, HEX.out, fun W' hb => ?_⟩
      have h1 := (hb.block g hgl).trans hrow
      exact ⟨cell_of_row _ _ 0 _ _ _ h1, cell_of_row _ _ 1 _ _ _ h1, cell_of_row _ _ 2 _ _ _ h1, cell_of_row _ _ 3 _ _ _ h1, cell_of_row _ _ 4 _ _ _ h1, cell_of_row _ _ 5 _ _ _ h1⟩
    · refine ⟨narP p iy, bsv, yv, false, HYA.out.later HB01.out, rfl, HEY.out, fun W' hb => ?_⟩
      have h1 := (hb.block g hgl).trans hrow
      exact ⟨cell_of_row _ _ 6 _ _ _ h1, cell_of_row _ _ 7 _ _ _ h1, cell_of_row _ _ 8 _ _ _ h1, cell_of_row _ _ 9 _ _ _ h1, cell_of_row _ _ 10 _ _ _ h1, cell_of_row _ _ 11 _ _ _ h1⟩
  clear hrow hb4 hW1 hg HB ROWP ROWX ROWY HPA HPK HPD HPS HPW HEX HEY HXA HYA
  go_loopw [306] (fun k wr => ∃ j : Nat, j ≤ 2 ∧ k = .int .i64 j ∧ Below W1.heap.size W1 wr) (fun k _ => 2 - (intOf k).toNat)
  case atStart => exact ⟨0, by omega, rfl, Below.refl _ _⟩
  case round =>
    obtain ⟨j, hj, rfl, hb⟩ := hrel
    have HBR := Lib.hid hb
    by_cases hlj : j < 2
    case neg =>
      have hdj : decide ((j : Int) < 2) = false := decide_eq_false (by omega)
      clear hb
      go_upto_region 44 with fail
      refine HEND.out wr b30 b32 b34 (HB01.out.trans (HBR.out.mono HB01.out.size)) ⟨fun c hc => (HBX.out.later HBR.out).1 c (by simp at hc ⊢; rcases hc with h | h | h <;> simp [h]), Below.refl _ _⟩ _ ?_ _ _ _ _ _ _ _ _ _ _ _ _ _ _ _ _ _ _ _ _ _ _ _ _ _ _ _ _ _ _ _ _ _ _ _ _ _ _ _ _ _ _ _ _ _ _ _ _ _ _ _ _ _ _ _ _ _ _ _ _ _ _ _ _ _ _ _ _ _ _ _ _ _ _ _ _ _ _ _ _ _ _ _ _ _ _ _ _ _ _ _ _ _ _ _ _ _ _ _ _ _ _ _ _ _ _ _ _ _ _ _ _ _ _ _ _ _ _ _ _ _ _ _ _ _ _ _ _ _ _ _ _ _ _ _ _ _ _ _ _ _ _ _ _ _ _ _ _ _ _ _ _ _ _ _ _ _ _ _ _ _ _ _ _ _ _ _ _ _ _ _ _ _ _ _ _ _ _ _ _ _ _ _ _ _ _ _ _ _ _ _ _ _ _ _ _ _ _ _ _ _ _ _ _ _ _ _ _ _ _ _ _ _ _ _ _ _ _ _ _ _ _ _ _ _ _ _ _ _ _ _ _ _ _ _ _ _ _ _ _ _ _ _ _ _ _ _ _ _ _ _ _ _ _ _ _ _ _ _ _ _ _ _ _ _ _ _ _ _ _ _ _ _ _ _ _ _ _ _ _ _ _ _ _ _ _ _ _ _ _ _ _ _ _ _ _ _ _ _ _ _ _ _ _ _ _ _ _ _ _ _ _ _ _ _ _ _ _ _ _ _ _ _ _ _ _ _ _ _ _ _ _ _ _ _ _ _ _ _ _ _ _ _ _ _ _ _ _ _ _ _ _ _ _ _ _ _ _ _ _ _ _ _ _ _
      assumption
    have hdj : decide ((j : Int) < 2) = true := decide_eq_true (by omega)
    have hwj : IntKind.i64.wrap ((j : Int) + 1) = ((j + 1 : Nat) : Int) := by rw [IntWalk.i64_in _ (by omega)]; omega
    obtain ⟨q, qb, qr, bj, hqa, hbj, hel, hro⟩ := HEL.out j hlj
    obtain ⟨aoq, capq, rfl, _⟩ := id hqa.b
    obtain ⟨aor, capr, rfl, _⟩ := id hqa.r
    obtain ⟨k0, k1', k2', k3, k4, k5⟩ := hro wr hb
    have HEQ := Lib.hid hel
    have HBJ := Lib.hid hbj
    have HQ1 := Lib.hid hqa
    clear hel hbj hqa hro hb
    go_wp2_with fail
    clear k0 k1' k2' k3 k4 k5
    obtain ⟨bq, hbq⟩ : ∃ g, g = wr.heap.size := ⟨_, rfl⟩
    obtain ⟨A, hA⟩ : ∃ A, A = wr.alloc (.cells #[(.slice aoq q.bs.length capq), .int .i64 q.zl, .int .i64 q.zh, .int .i64 q.rl, .int .i64 q.rh, (.slice aor q.rs.length capr)] 27) := ⟨_, rfl⟩
    have hbA : Below wr.heap.size wr A := by rw [hA]; exact (Below.refl _ _).alloc (Nat.le_refl _) _
    have hrq : A.heap[bq]? = some (.cells (pairRow q (.slice aoq q.bs.length capq) (.slice aor q.rs.length capr)) 27 (0, 0)) := by rw [hA]; exact heap_alloc_at _ _ _ hbq
    rw [← hA, ← hbq]
    have HB1A := Lib.hid (HBR.out.trans (hbA.mono HBR.out.size))
    have HB : Hid (BoxL [(b34, s1, s2), (b32, d1, d2), (b30, c1, c2)] A A) := ⟨(HBX.out.later HB1A.out).1, Below.refl _ _⟩
    have HQA := Lib.hid (HQ1.out.later HB1A.out)
    have ROWQ : Hid (∀ W', Below A.heap.size A W' → (W'.cell? ⟨bq, 0, none⟩ = some (.slice aoq q.bs.length capq) ∧ W'.cell? ⟨bq, 1, none⟩ = some (.int .i64 q.zl) ∧ W'.cell? ⟨bq, 2, none⟩ = some (.int .i64 q.zh) ∧ W'.cell? ⟨bq, 3, none⟩ = some (.int .i64 q.rl) ∧ W'.cell? ⟨bq, 4, none⟩ = some (.int .i64 q.rh) ∧ W'.cell? ⟨bq, 5, none⟩ = some (.slice aor q.rs.length capr))) := fun W' h => by
      have q1 := (h.block bq (lt_of_block hrq)).trans hrq
      exact ⟨cell_of_row _ _ 0 _ _ _ q1, cell_of_row _ _ 1 _ _ _ q1, cell_of_row _ _ 2 _ _ _ q1, cell_of_row _ _ 3 _ _ _ q1, cell_of_row _ _ 4 _ _ _ q1, cell_of_row _ _ 5 _ _ _ q1⟩
    clear hA hbA hrq hbq
    have HRP := Lib.hid (rpair_any HQA.out)
    unfold pairRow at HRP
    refine HRP.out.mono ?_
    rintro e' w5 ⟨rfl, hb⟩
    replace HB := Lib.hid (HB.out.later hb)
    clear hb HRP
    dsimp only
    cases hvq : validB q with
    | false =>
      go_wp2
      exact ⟨⟨j + 1, by omega, by first | rfl | (congr 1; omega), HB1A.out.trans (HB.out.2.mono HB1A.out.size)⟩, by simp [intOf]; omega⟩
    | true =>
      obtain ⟨k1, k2, l1, l2, v1, v2, f, mq, ms, hk, hd, hs, hw, hm1, hm2, hf⟩ := HEQ.out hvq
      have HQK := Lib.hid (says_known (bs := (.slice aoq q.bs.length capq)) (rs := (.slice aor q.rs.length capr)) hk)
      have HQD := Lib.hid (says_differ (bs := (.slice aoq q.bs.length capq)) (rs := (.slice aor q.rs.length capr)) hd)
      have HQS := Lib.hid (says_shows (bs := (.slice aoq q.bs.length capq)) (rs := (.slice aor q.rs.length capr)) hs)
      have HQW := Lib.hid (says_wrong (bs := (.slice aoq q.bs.length capq)) (rs := (.slice aor q.rs.length capr)) hw)
      have HM2 := Lib.hid hm2
      have HF := Lib.hid hf
      unfold Gives pairRow at HQK HQD HQS HQW
      clear hk hd hs hw hm2 hf hvq
      obtain ⟨c0, c1', c2', c3, c4, c5⟩ := ROWQ.out _ HB.out.2
      go_wp2_with fail
      clear c0 c1' c2' c3 c4 c5
      refine (HQK.out _ (HQA.out.later HB.out.2)).mono ?_
      rintro e' w6 ⟨rfl, hb⟩
      dsimp only
      replace HB := Lib.hid (HB.out.later hb)
      clear hb
      go_upto_region 38 with fail
      have lb42 := HB.out.2.size
      have qb42 := Lib.hid (fun c hc => lt_of_block (HB.out.1 c hc))
      replace HB := Lib.hid (HB.out.alloc (k1) (k2))
      obtain ⟨C1, hA⟩ : ∃ A, A = w6.alloc (.cells #[.int .i64 (k1), .int .i64 (k2)] 24) := ⟨_, rfl⟩
      obtain ⟨b42, hb42⟩ : ∃ b, b = w6.heap.size := ⟨_, rfl⟩
      rw [← hA, ← hb42] at HB ⊢
      rw [← hb42] at lb42 qb42
      clear hA hb42
      obtain ⟨c0, c1', c2', c3, c4, c5⟩ := ROWQ.out _ HB.out.2
      go_wp2_with fail
      clear c0 c1' c2' c3 c4 c5
      refine (HQD.out _ (HQA.out.later HB.out.2)).mono ?_
      rintro e' w7 ⟨rfl, hb⟩
      dsimp only
      replace HB := Lib.hid (HB.out.later hb)
      clear hb
      go_upto_region 39 with fail
      have lb44 := HB.out.2.size
      have qb44 := Lib.hid (fun c hc => lt_of_block (HB.out.1 c hc))
      replace HB := Lib.hid (HB.out.alloc (l1) (l2))
      obtain ⟨C2, hA⟩ : ∃ A, A = w7.alloc (.cells #[.int .i64 (l1), .int .i64 (l2)] 24) := ⟨_, rfl⟩
      obtain ⟨b44, hb44⟩ : ∃ b, b = w7.heap.size := ⟨_, rfl⟩
      rw [← hA, ← hb44] at HB ⊢
      rw [← hb44] at lb44 qb44
      clear hA hb44
      obtain ⟨c0, c1', c2', c3, c4, c5⟩ := ROWQ.out _ HB.out.2
      go_wp2_with fail
      clear c0 c1' c2' c3 c4 c5
      refine (HQS.out _ (HQA.out.later HB.out.2)).mono ?_
      rintro e' w8 ⟨rfl, hb⟩
      dsimp only
      replace HB := Lib.hid (HB.out.later hb)
      clear hb
      go_upto_region 40 with fail
      have lb46 := HB.out.2.size
      have qb46 := Lib.hid (fun c hc => lt_of_block (HB.out.1 c hc))
      replace HB := Lib.hid (HB.out.alloc (v1) (v2))
      obtain ⟨C3, hA⟩ : ∃ A, A = w8.alloc (.cells #[.int .i64 (v1), .int .i64 (v2)] 24) := ⟨_, rfl⟩
      obtain ⟨b46, hb46⟩ : ∃ b, b = w8.heap.size := ⟨_, rfl⟩
      rw [← hA, ← hb46] at HB ⊢
      rw [← hb46] at lb46 qb46
      clear hA hb46
      obtain ⟨c0, c1', c2', c3, c4, c5⟩ := ROWQ.out _ HB.out.2
      go_wp2_with fail
      clear c0 c1' c2' c3 c4 c5
      refine (HQW.out _ (HQA.out.later HB.out.2)).mono ?_
      rintro e' w9 ⟨rfl, hb⟩
      dsimp only
      replace HB := Lib.hid (HB.out.later hb)
      clear hb
      go_upto_region 41 with fail
      have hmw : decide (mq < wn) = false := decide_eq_false (by omega)
      have hw1 : IntKind.i64.wrap (wn + 1) = wn + 1 := IntWalk.i64_in _ (by omega)
      rcases HF.out with rfl | ⟨rfl, rfl, i1, i2, i3, i4, i5, i6⟩
      · have HBJ := HBJ
        cases bj with
        | false =>
          have hbj := HBJ.out
          go_wp2
          exact ⟨⟨j + 1, by omega, by first | rfl | (congr 1; omega), HB1A.out.trans (HB.out.2.mono HB1A.out.size)⟩, by simp [intOf]; omega⟩
        | true =>
          have hbj := HBJ.out
          have hgt : decide (wn + 1 < mq) = false := decide_eq_false (by have := HM2.out rfl; omega)
          go_wp2
          exact ⟨⟨j + 1, by omega, by first | rfl | (congr 1; omega), HB1A.out.trans (HB.out.2.mono HB1A.out.size)⟩, by simp [intOf]; omega⟩
      · cases bj with
        | false =>
          have hbj := HBJ.out
          obtain ⟨x1a, x1b⟩ := HB.out.cell (b := b42) (x := k1) (y := k2) (by simp)
          obtain ⟨x2a, x2b⟩ := HB.out.cell (b := b30) (x := c1) (y := c2) (by simp)
          go_wp2_with fail
          clear x1a x1b x2a x2b
          refine (moreIn_any k1 k2 c1 c2 i1 i2 _).mono ?_
          rintro e' w10 ⟨rfl, hb⟩
          replace HB := Lib.hid (HB.out.later hb)
          clear hb
          dsimp only
          obtain ⟨x1a, x1b⟩ := HB.out.cell (b := b44) (x := l1) (y := l2) (by simp)
          obtain ⟨x2a, x2b⟩ := HB.out.cell (b := b32) (x := d1) (y := d2) (by simp)
          go_wp2_with fail
          clear x1a x1b x2a x2b
          refine (moreIn_any l1 l2 d1 d2 i3 i4 _).mono ?_
          rintro e' w11 ⟨rfl, hb⟩
          replace HB := Lib.hid (HB.out.later hb)
          clear hb
          dsimp only
          obtain ⟨x1a, x1b⟩ := HB.out.cell (b := b46) (x := v1) (y := v2) (by simp)
          obtain ⟨x2a, x2b⟩ := HB.out.cell (b := b34) (x := s1) (y := s2) (by simp)
          go_wp2_with fail
          clear x1a x1b x2a x2b
          refine (moreIn_any v1 v2 s1 s2 i5 i6 _).mono ?_
          rintro e' w12 ⟨rfl, hb⟩
          replace HB := Lib.hid (HB.out.later hb)
          clear hb
          dsimp only
          go_wp2
          exact ⟨⟨j + 1, by omega, by first | rfl | (congr 1; omega), HB1A.out.trans (HB.out.2.mono HB1A.out.size)⟩, by simp [intOf]; omega⟩
        | true =>
          have hbj := HBJ.out
          have hgt : decide (wn + 1 < mq) = false := decide_eq_false (by have := HM2.out rfl; omega)
          obtain ⟨x1a, x1b⟩ := HB.out.cell (b := b42) (x := k1) (y := k2) (by simp)
          obtain ⟨x2a, x2b⟩ := HB.out.cell (b := b30) (x := c1) (y := c2) (by simp)
          go_wp2_with fail
          clear x1a x1b x2a x2b
          refine (moreIn_any k1 k2 c1 c2 i1 i2 _).mono ?_
          rintro e' w10 ⟨rfl, hb⟩
          replace HB := Lib.hid (HB.out.later hb)
          clear hb
          dsimp only
          obtain ⟨x1a, x1b⟩ := HB.out.cell (b := b44) (x := l1) (y := l2) (by simp)
          obtain ⟨x2a, x2b⟩ := HB.out.cell (b := b32) (x := d1) (y := d2) (by simp)
          go_wp2_with fail
          clear x1a x1b x2a x2b
          refine (moreIn_any l1 l2 d1 d2 i3 i4 _).mono ?_
          rintro e' w11 ⟨rfl, hb⟩
          replace HB := Lib.hid (HB.out.later hb)
          clear hb
          dsimp only
          obtain ⟨x1a, x1b⟩ := HB.out.cell (b := b46) (x := v1) (y := v2) (by simp)
          obtain ⟨x2a, x2b⟩ := HB.out.cell (b := b34) (x := s1) (y := s2) (by simp)
          go_wp2_with fail
          clear x1a x1b x2a x2b
          refine (moreIn_any v1 v2 s1 s2 i5 i6 _).mono ?_
          rintro e' w12 ⟨rfl, hb⟩
          replace HB := Lib.hid (HB.out.later hb)
          clear hb
          dsimp only
          go_wp2
          exact ⟨⟨j + 1, by omega, by first | rfl | (congr 1; omega), HB1A.out.trans (HB.out.2.mono HB1A.out.size)⟩, by simp [intOf]; omega⟩

end Go.Proofs.Ytlgeggekmdoceaa

/- PairMore: the walk, the copies of the arguments. -/
namespace Go.Proofs.Ytlgeggekmdoceaa
set_option linter.unusedVariables false
set_option linter.unusedSimpArgs false
open Go.RowKit Go.Shelf
attribute [local go_sem] Oper.semAt_some
/-- What the region of the copies reads. -/
def S25 (B : Nat) (bsv rsv : Value) (W : World) : Prop := W.cell? ⟨B, 0, none⟩ = some bsv ∧ W.cell? ⟨B, 5, none⟩ = some rsv
theorem own_sepM {w : World} {base : Nat} {e e' : TypeId} {size size' : Nat} {v v' : Value} {n n' : Nat} {xs xs' : List Value} (h : w.ownsRow base e size v n xs) (h' : w.ownsRow base e' size' v' n' xs') (hne : e' ≠ e) : v.ownBlock = none ∨ v.ownBlock ≠ v'.ownBlock := by
  rcases h.2 with ⟨h1, _⟩ | ⟨g, cap, cur, h1, _, h3, _⟩
  · left; rw [h1]; rfl
  · right
    intro he
    have : v'.ownBlock = some g := by rw [← he, h1]; rfl
    rcases h'.2 with ⟨k1, _⟩ | ⟨g', cap', cur', k1, _, k3, _⟩
    · rw [k1] at this; cases this
    · have e1 : g' = g := by rw [k1] at this; exact Option.some.inj this
      subst e1
      rw [h3] at k3
      injection k3 with k3
      injection k3 with _ k4 _
      exact hne k4.symm
/-- 'append([]T{}, l...)' of readings, at an operation. -/
theorem wp_copy_reads {o : Oper} {a : Act} {K : Act → World → Prop} {Q : Exit → Act → World → Prop} {w : World} (s x : Operand)
    (ho : o.op = .call { callee := .builtin .append, args := #[s, x], argTypes := #[25, 25] })
    (base g : Nat) (hs : a.eval s = .slice (some ⟨g, 0, none⟩) 0 0) (hown : w.ownsRow base 44 5 (.slice (some ⟨g, 0, none⟩) 0 0) 0 []) (ao : Option Addr) (cap : Nat) (l : List RdD) (hx : a.eval x = .slice ao l.length cap) (Rd : Nat → Prop) (hr : ReadsAt w (.slice ao l.length cap) l Rd) (hl : l.length ≤ 1000) (hb : base ≤ w.heap.size)
    (h : ∀ v' w', w'.ownsRow base 44 5 v' l.length (l.flatMap rdC) → w.grownBy w' (some g) → K (a.put o.dst v') w') : o.wp Try.prog a w K Q := by
  cases ao with
  | none =>
    have h0 : l.length = 0 := by
      obtain ⟨ao', cap', h1, _, _, h4⟩ := hr
      rcases Nat.eq_zero_or_pos l.length with k | k
      · exact k
      · obtain ⟨b, off, e1, _⟩ := h4 0 k
        have e0 : none = ao' := by injection h1
        rw [e1] at e0; cases e0
    have hnil : l = [] := List.length_eq_zero_iff.1 h0
    refine wp_append_nil s x _ ho 44 5 40 _ underReads infoRead g hs _ _ hx h0 rfl (h _ _ ?_ ⟨rfl, rfl, rfl, Nat.le_refl _, fun _ _ _ => rfl⟩)
    rw [hnil]
    exact hown
  | some ad =>
    refine wp_append_at s x _ ho base 44 5 40 _ underReads infoRead rfl (by decide) _ 0 [] hs hown ad l.length cap (l.flatMap rdC) hx (flat_length l) hr.news (rdC_ones l) (by omega) (by decide) hb ?_
    intro v' w' h1 h2 _
    rw [Nat.zero_add, List.nil_append] at h1
    exact h v' w' h1 h2
set_option maxRecDepth 100000 in
set_option maxHeartbeats 8000000 in
theorem more_d (p : PairD) (r : RdD) (an bn mn kn B q8 q9 q10 q11 q12 iy cap2 cap3 capY : Nat) (bsv zb tb ub zr ur : Value) (ao2 ao3 aoY : Option Addr) (fits : Bool) (hfits : fits = p.bs.all fun s => decide (s.2 + (kn : Int) ≤ 20)) (w0 w : World) (hv : validB p = true) (hal : an < p.bs.length) (hbl : bn < p.bs.length) (hmn : mn < 61) (hkn : kn < 12)
    (hB : B < w0.heap.size) (hb0 : Below w0.heap.size w0 w) (hpa : PairAt w0 p bsv (.slice ao2 p.rs.length cap2)) (hr0 : w0.heap[B]? = some (.cells (pairRow p bsv (.slice ao2 p.rs.length cap2)) 27 (0, 0)))
    (h5 : B5 q8 q9 q10 q11 q12 (pairRow p bsv (.slice ao3 (p.rs.length + 1) cap3)) (pairRow p bsv (.slice aoY p.rs.length capY)) (pairRow p zb zr) (pairRow p tb (.slice ao2 p.rs.length cap2)) (pairRow p ub ur) w)
    (hxa : PairAt w (withR p r) bsv (.slice ao3 (p.rs.length + 1) cap3)) (hya : PairAt w (narP p iy) bsv (.slice aoY p.rs.length capY)) (hza : PairAt w (revP p) zb zr) (hta : PairAt w (shiftP p kn) tb (.slice ao2 p.rs.length cap2)) (hua : PairAt w (negP p) ub ur)
    (R : Ending → World → Prop) (hR : ∀ w', Below w0.heap.size w0 w' → R (.returned (.bool true)) w') (u0 u1 u2 u3 u4 u6 u21 u23 u24 u25 u26 u27 u70 u71 u72 u73 u74 u75 u76 u77 u78 u79 u80 u81 u82 u83 u84 u85 u86 u87 u88 u89 u90 u91 u92 u93 u94 u95 u96 u97 u98 u99 u100 u101 u102 u103 u104 u105 u106 u107 u108 u109 u110 u111 u112 u113 u114 u115 u116 u117 u118 u119 u120 u121 u122 u123 u124 u125 u126 u127 u128 u129 u130 u131 u132 u133 u134 u135 u136 u137 u138 u139 u140 u141 u142 u143 u144 u145 u146 u147 u148 u149 u150 u151 u152 u153 u154 u155 u156 u157 u158 u159 u160 u161 u162 u163 u164 u165 u166 u167 u168 u169 u170 u171 u172 u173 u174 u175 u176 u177 u178 u179 u180 u181 u182 u183 u184 u185 u186 u187 u188 u189 u190 u191 u192 u193 u194 u195 u196 u197 u198 u199 u200 u201 u202 u203 u204 u205 u206 u207 u208 u209 u210 u211 u212 u213 u214 u215 u216 u217 u218 u219 u220 u221 u222 u223 u224 u225 u226 u227 u228 u229 u230 u231 u232 u233 u234 u235 u236 u237 u238 u239 u240 u241 u242 u243 u244 u245 u246 u247 u248 u249 u250 u251 u252 u253 u254 u255 u256 : Value) :
    Code.wp Try.prog (moreC 11) (bodyPost Try.prog Try.f12 R) ⟨#[u0, u1, u2, u3, u4, .pointer (some ⟨B, 0, none⟩), u6, undef, undef, undef, .bool false, .int .i64 p.bs.length, .int .i64 kn, .int .i64 an, .int .i64 bn, .int .i64 mn, .pointer (some ⟨q8, 0, none⟩), .pointer (some ⟨q9, 0, none⟩), .pointer (some ⟨q10, 0, none⟩), .pointer (some ⟨q11, 0, none⟩), .pointer (some ⟨q12, 0, none⟩), u21, .bool fits, u23, u24, u25, u26, u27, undef, undef, undef, undef, undef, undef, undef, undef, undef, undef, undef, undef, undef, undef, undef, undef, undef, undef, undef, undef, undef, undef, undef, undef, undef, undef, undef, undef, undef, undef, undef, undef, undef, undef, undef, undef, undef, undef, undef, undef, undef, undef, u70, u71, u72, u73, u74, u75, u76, u77, u78, u79, u80, u81, u82, u83, u84, u85, u86, u87, u88, u89, u90, u91, u92, u93, u94, u95, u96, u97, u98, u99, u100, u101, u102, u103, u104, u105, u106, u107, u108, u109, u110, u111, u112, u113, u114, u115, u116, u117, u118, u119, u120, u121, u122, u123, u124, u125, u126, u127, u128, u129, u130, u131, u132, u133, u134, u135, u136, u137, u138, u139, u140, u141, u142, u143, u144, u145, u146, u147, u148, u149, u150, u151, u152, u153, u154, u155, u156, u157, u158, u159, u160, u161, u162, u163, u164, u165, u166, u167, u168, u169, u170, u171, u172, u173, u174, u175, u176, u177, u178, u179, u180, u181, u182, u183, u184, u185, u186, u187, u188, u189, u190, u191, u192, u193, u194, u195, u196, u197, u198, u199, u200, u201, u202, u203, u204, u205, u206, u207, u208, u209, u210, u211, u212, u213, u214, u215, u216, u217, u218, u219, u220, u221, u222, u223, u224, u225, u226, u227, u228, u229, u230, u231, u232, u233, u234, u235, u236, u237, u238, u239, u240, u241, u242, u243, u244, u245, u246, u247, u248, u249, u250, u251, u252, u253, u254, u255, u256, undef, undef, undef, undef, undef, undef, undef, undef, undef, undef, undef, undef, undef, undef, undef, undef, undef, undef, undef, undef, undef, undef, undef, undef, undef, undef, undef, undef, undef, undef, undef, undef, undef, undef, undef, undef, undef, undef, undef, undef, undef, undef, undef, undef, undef, undef, undef, undef, undef, undef, undef, undef, undef, undef, undef, undef, undef, undef, undef, undef, undef, undef, undef, undef, undef, undef, undef, undef, undef, undef, undef, undef, undef, undef, undef, undef, undef, undef, undef, undef, undef, undef, undef, undef, undef, undef, undef, undef, undef, undef, undef, undef, undef, undef, undef, undef, undef, undef, undef, undef, undef, undef, undef, undef, undef, undef, undef, undef, undef, undef, undef, undef, undef, undef, undef, undef, undef, undef, undef, undef, undef, undef, undef, undef, undef, undef, undef, undef, undef, undef, undef, undef, undef, undef, undef, undef, undef, undef, undef, undef, undef, undef, undef, undef, undef, undef, undef, undef, undef, undef, undef, undef, undef, undef, undef, undef, undef, undef, undef, undef, undef, undef, undef, undef, undef, undef, undef, undef, undef, undef, undef, undef, undef, undef, undef, undef, undef, undef, undef, undef, undef, undef, undef, undef, undef, undef, undef, undef, undef, undef, undef, undef, undef, undef, undef, undef, undef, undef, undef, undef, undef, undef, undef, undef, undef, undef, undef, undef, undef, undef, undef, undef, undef, undef, undef, undef, undef, undef, undef, undef, undef, undef, undef, undef, undef, undef, undef, undef, undef, undef, undef, undef, undef, undef, undef, undef, undef, undef, undef, undef, undef, undef, undef, undef, undef, undef, undef, undef, undef, undef, undef, undef, undef, undef, undef, undef, undef, undef, undef, undef, undef, undef, undef, undef, undef, undef, undef, undef, undef, undef, undef, undef, undef, undef, undef, undef, undef, undef, undef, undef, undef, undef, undef, undef, undef, undef, undef, undef, undef, undef, undef, undef, undef, undef, undef, undef, undef, undef, undef, undef, undef, undef, undef, undef, undef, undef, undef, undef, undef, undef, undef, undef, undef, undef, undef, undef, undef, undef, undef, undef, undef, undef, undef, undef, undef, undef, undef, undef, undef, undef, undef, undef, undef, undef, undef, undef, undef, undef, undef, undef, undef, undef, undef, undef, undef, undef, undef, undef, undef, undef, undef, undef, undef, undef, undef, undef, undef, undef, undef, undef, undef, undef, undef, undef, undef, undef, undef, undef], []⟩ w := by
  conv => arg 2; whnf
  have hp := OkP.of p hv
  have hn1 := hp.n1
  have hn5 := hp.n5
  have hm8 := hp.m8
  obtain ⟨bb, off, cap, rfl, _⟩ := hpa.b.pos (by omega)
  have hbw := hb0.size
  have HPW := Lib.hid (hpa.later hb0)
  have hrw := (hb0.block _ hB).trans hr0
  have HS25 : Hid (∀ W, Below w.heap.size w W → S25 B (.slice (some ⟨bb, off, none⟩) p.bs.length cap) (.slice ao2 p.rs.length cap2) W) := fun W h => by
    have h1 := (h.block B (by omega)).trans hrw
    exact ⟨cell_of_row _ _ 0 _ _ _ h1, cell_of_row _ _ 5 _ _ _ h1⟩
  have HEND := Lib.hid (fun v28 v29 W (hb : Below w.heap.size w W) (h29 : ReadsAt W v29 p.rs (fun k => k < W.heap.size)) (h28 : SpansAt W v28 p.bs (fun k => k < W.heap.size)) =>
    more_m p r an bn mn kn B q8 q9 q10 q11 q12 iy _ _ _ _ ub ur tb _ zb zr v28 v29 fits hfits W hv hal hbl hmn hkn (by have := hb.size; omega) ((hb.block _ (by omega)).trans hrw) (HPW.out.later hb) h28 h29
      ⟨(hb.block _ (lt_of_block h5.b8)).trans h5.b8, (hb.block _ (lt_of_block h5.b9)).trans h5.b9, (hb.block _ (lt_of_block h5.b10)).trans h5.b10, (hb.block _ (lt_of_block h5.b11)).trans h5.b11, (hb.block _ (lt_of_block h5.b12)).trans h5.b12⟩
      (hxa.later hb) (hya.later hb) (hza.later hb) (hta.later hb) (hua.later hb) R (fun w' h => hR w' (hb0.trans ((hb.mono hbw).trans (h.mono (by have := hb.size; omega))))))
  have HBW : Hid (Below w.heap.size w w.drew) := (Below.refl _ _).drew
  have hS := HS25.out _ HBW.out
  clear hpa hr0 h5 hxa hya hza hta hua hb0 hrw hfits
  go_wp2_with fail
  refine wp_region_tail 8 #[false, false, false, false, false, false, false, false, true, true] (S25 B (.slice (some ⟨bb, off, none⟩) p.bs.length cap) (.slice ao2 p.rs.length cap2)) (by kernel_rfl) (by kernel_rfl) (by rfl) hS fun hS => ?_
  refine wpAnyH_take (i := 1) (v := ?_) rfl (by kernel_rfl) (by kernel_rfl) (by kernel_rfl) (fun _ _ _ h => h) (Or.inl ⟨by rfl, ?_⟩) hS ?_
  rotate_left
  · (intro W hSw; obtain ⟨hq1, hq2⟩ := hSw; go_simp; try with_reducible rfl)
  try simp only [List.getElem_toArray, List.getElem_cons_succ, List.getElem_cons_zero, Act.put, List.setIfInBounds_toArray, List.set_cons_zero, List.set_cons_succ]
  refine wpAnyH_take (i := 2) (v := ?_) rfl (by kernel_rfl) (by kernel_rfl) (by kernel_rfl) (fun _ _ _ h => h) (Or.inl ⟨by rfl, ?_⟩) hS ?_
  rotate_left
  · (intro W hSw; obtain ⟨hq1, hq2⟩ := hSw; go_simp; try with_reducible rfl)
  try simp only [List.getElem_toArray, List.getElem_cons_succ, List.getElem_cons_zero, Act.put, List.setIfInBounds_toArray, List.set_cons_zero, List.set_cons_succ]
  refine wpAnyH_take (i := 5) (v := ?_) rfl (by kernel_rfl) (by kernel_rfl) (by kernel_rfl) (fun _ _ _ h => h) (Or.inl ⟨by rfl, ?_⟩) hS ?_
  rotate_left
  · (intro W hSw; obtain ⟨hq1, hq2⟩ := hSw; go_simp; try with_reducible rfl)
  try simp only [List.getElem_toArray, List.getElem_cons_succ, List.getElem_cons_zero, Act.put, List.setIfInBounds_toArray, List.set_cons_zero, List.set_cons_succ]
  refine wpAnyH_take (i := 6) (v := ?_) rfl (by kernel_rfl) (by kernel_rfl) (by kernel_rfl) (fun _ _ _ h => h) (Or.inl ⟨by rfl, ?_⟩) hS ?_
  rotate_left
  · (intro W hSw; obtain ⟨hq1, hq2⟩ := hSw; go_simp; try with_reducible rfl)
  try simp only [List.getElem_toArray, List.getElem_cons_succ, List.getElem_cons_zero, Act.put, List.setIfInBounds_toArray, List.set_cons_zero, List.set_cons_succ]
  refine wpAnyH_ready (rs := [0, 4]) (by kernel_rfl) (by simp) ?_
  refine AllReadyH.cons rfl (fun K hK => ?_) (AllReadyH.cons rfl (fun K hK => ?_) AllReadyH.nil)
  · skip
    go_simp
    have HE0 : Hid (World.ownsRow (w.drew.alloc (.cells #[] 24)) w.heap.size 24 2 (.slice (some ⟨w.heap.size, 0, none⟩) 0 0) 0 []) := own_none (heap_alloc_at w.drew (.cells #[] 24) _ (by first | rfl | simp)) (by first | exact HBW.out.size | omega)
    first | (replace HE4 := Lib.hid (HE4.out.alloc (.cells #[] 24))) | skip
    replace HBW := Lib.hid (HBW.out.alloc HBW.out.size (.cells #[] 24))
    refine hK.out _ _ (HS25.out _ HBW.out) (fun hS => ?_)
    clear hK K
    try simp only [List.getElem_toArray, List.getElem_cons_succ, List.getElem_cons_zero, Act.put, List.setIfInBounds_toArray, List.set_cons_zero, List.set_cons_succ]
    refine wpAnyH_ready (rs := [3, 4]) (by kernel_rfl) (by simp) ?_
    refine AllReadyH.cons rfl (fun K hK => ?_) (AllReadyH.cons rfl (fun K hK => ?_) AllReadyH.nil)
    · skip
      rw [if_pos (by rfl)]
      refine wp_append_at (.tmp 257) (.tmp 259) 22 rfl w.heap.size 24 2 16 _ underSpans infoSpans rfl (by decide) _ 0 [] rfl HE0.out ⟨bb, off, none⟩ p.bs.length cap (p.bs.flatMap spC) rfl (spC_length _) (HPW.out.later HBW.out).b.news (spC_ones _) (by omega) (by decide) HBW.out.size ?_
      intro v1 w1 hown1 hg1 _
      rw [Nat.zero_add, List.nil_append] at hown1
      first | (replace HE4 := Lib.hid (HE4.out.kept hg1 (own_sepM HE4.out HE0.out (by decide)))) | skip
      replace HBW := Lib.hid (HBW.out.trans ((Below.refl _ _).grown hg1 HBW.out.size (own_base HE0.out)))
      have HO1 := Lib.hid hown1
      clear hown1 hg1
      refine hK.out _ _ (HS25.out _ HBW.out) (fun hS => ?_)
      clear hK K
      try simp only [List.getElem_toArray, List.getElem_cons_succ, List.getElem_cons_zero, Act.put, List.setIfInBounds_toArray, List.set_cons_zero, List.set_cons_succ]
      refine wpAnyH_ready (rs := [4]) (by kernel_rfl) (by simp) ?_
      refine AllReadyH.cons rfl (fun K hK => ?_) AllReadyH.nil
      go_simp
      have HE4 : Hid (World.ownsRow (w1.alloc (.cells #[] 44)) w.heap.size 44 5 (.slice (some ⟨w1.heap.size, 0, none⟩) 0 0) 0 []) := own_none (heap_alloc_at w1 (.cells #[] 44) _ (by first | rfl | simp)) (by first | exact HBW.out.size | omega)
      first | (replace HE0 := Lib.hid (HE0.out.alloc (.cells #[] 44))) | skip
      first | (replace HO1 := Lib.hid (HO1.out.alloc (.cells #[] 44))) | skip
      replace HBW := Lib.hid (HBW.out.alloc HBW.out.size (.cells #[] 44))
      refine hK.out _ _ (HS25.out _ HBW.out) (fun hS => ?_)
      clear hK K
      try simp only [List.getElem_toArray, List.getElem_cons_succ, List.getElem_cons_zero, Act.put, List.setIfInBounds_toArray, List.set_cons_zero, List.set_cons_succ]
      refine wpAnyH_ready (rs := [7]) (by kernel_rfl) (by simp) ?_
      refine AllReadyH.cons rfl (fun K hK => ?_) AllReadyH.nil
      rw [if_pos (by rfl)]
      refine wp_copy_reads (.tmp 261) (.tmp 263) rfl w.heap.size _ rfl HE4.out ao2 cap2 p.rs rfl _ (HPW.out.later HBW.out).r (by omega) HBW.out.size ?_
      intro v7 w7 hown7 hg7
      have HO1' := Lib.hid (HO1.out.kept hg7 (own_sepM HO1.out HE4.out (by decide)))
      have HBW' := Lib.hid (HBW.out.trans ((Below.refl _ _).grown hg7 HBW.out.size (fun k hk => by injection hk with hk; subst hk; exact own_base HE4.out _ rfl)))
      refine hK.out _ _ (HS25.out _ HBW'.out) (fun hS => ?_)
      clear hK K
      try simp only [List.getElem_toArray, List.getElem_cons_succ, List.getElem_cons_zero, Act.put, List.setIfInBounds_toArray, List.set_cons_zero, List.set_cons_succ]
      refine wpAnyH_done (by kernel_rfl) ?_ _
      unfold TailQ
      simp only [List.drop_succ_cons, List.drop_zero]
      go_upto_region 26 with fail
      refine HEND.out _ _ _ HBW'.out (readsAt_of_owns hown7).low (spansAt_of_owns HO1'.out).low _ ?_ _ _ _ _ _ _ _ _ _ _ _ _ _ _ _ _ _ _ _ _ _ _ _ _ _ _ _ _ _ _ _ _ _ _ _ _ _ _ _ _ _ _ _ _ _ _ _ _ _ _ _ _ _ _ _ _ _ _ _ _ _ _ _ _ _ _ _ _ _ _ _ _ _ _ _ _ _ _ _ _ _ _ _ _ _ _ _ _ _ _ _ _ _ _ _ _ _ _ _ _ _ _ _ _ _ _ _ _ _ _ _ _ _ _ _ _ _ _ _ _ _ _ _ _ _ _ _ _ _ _ _ _ _ _ _ _ _ _ _ _ _ _ _ _ _ _ _ _ _ _ _ _ _ _ _ _ _ _ _ _ _ _ _ _ _ _ _ _ _ _ _ _ _ _ _ _ _ _ _ _ _ _ _ _ _ _ _ _ _ _ _ _ _ _ _ _ _ _ _ _ _ _ _ _ _ _ _
      assumption
    · skip
      go_simp
      have HE4 : Hid (World.ownsRow ((w.drew.alloc (.cells #[] 24)).alloc (.cells #[] 44)) w.heap.size 44 5 (.slice (some ⟨w.heap.size + 1, 0, none⟩) 0 0) 0 []) := own_none (heap_alloc_at (w.drew.alloc (.cells #[] 24)) (.cells #[] 44) _ (by first | rfl | simp)) (by first | exact HBW.out.size | omega)
      first | (replace HE0 := Lib.hid (HE0.out.alloc (.cells #[] 44))) | skip
      first | (replace HO1 := Lib.hid (HO1.out.alloc (.cells #[] 44))) | skip
      replace HBW := Lib.hid (HBW.out.alloc HBW.out.size (.cells #[] 44))
      refine hK.out _ _ (HS25.out _ HBW.out) (fun hS => ?_)
      clear hK K
      try simp only [List.getElem_toArray, List.getElem_cons_succ, List.getElem_cons_zero, Act.put, List.setIfInBounds_toArray, List.set_cons_zero, List.set_cons_succ]
      refine wpAnyH_ready (rs := [3]) (by kernel_rfl) (by simp) ?_
      refine AllReadyH.cons rfl (fun K hK => ?_) AllReadyH.nil
      rw [if_pos (by rfl)]
      refine wp_append_at (.tmp 257) (.tmp 259) 22 rfl w.heap.size 24 2 16 _ underSpans infoSpans rfl (by decide) _ 0 [] rfl HE0.out ⟨bb, off, none⟩ p.bs.length cap (p.bs.flatMap spC) rfl (spC_length _) (HPW.out.later HBW.out).b.news (spC_ones _) (by omega) (by decide) HBW.out.size ?_
      intro v1 w1 hown1 hg1 _
      rw [Nat.zero_add, List.nil_append] at hown1
      first | (replace HE4 := Lib.hid (HE4.out.kept hg1 (own_sepM HE4.out HE0.out (by decide)))) | skip
      replace HBW := Lib.hid (HBW.out.trans ((Below.refl _ _).grown hg1 HBW.out.size (own_base HE0.out)))
      have HO1 := Lib.hid hown1
      clear hown1 hg1
      refine hK.out _ _ (HS25.out _ HBW.out) (fun hS => ?_)
      clear hK K
      try simp only [List.getElem_toArray, List.getElem_cons_succ, List.getElem_cons_zero, Act.put, List.setIfInBounds_toArray, List.set_cons_zero, List.set_cons_succ]
      refine wpAnyH_ready (rs := [7]) (by kernel_rfl) (by simp) ?_
      refine AllReadyH.cons rfl (fun K hK => ?_) AllReadyH.nil
      rw [if_pos (by rfl)]
      refine wp_copy_reads (.tmp 261) (.tmp 263) rfl w.heap.size _ rfl HE4.out ao2 cap2 p.rs rfl _ (HPW.out.later HBW.out).r (by omega) HBW.out.size ?_
      intro v7 w7 hown7 hg7
      have HO1' := Lib.hid (HO1.out.kept hg7 (own_sepM HO1.out HE4.out (by decide)))
      have HBW' := Lib.hid (HBW.out.trans ((Below.refl _ _).grown hg7 HBW.out.size (fun k hk => by injection hk with hk; subst hk; exact own_base HE4.out _ rfl)))
      refine hK.out _ _ (HS25.out _ HBW'.out) (fun hS => ?_)
      clear hK K
      try simp only [List.getElem_toArray, List.getElem_cons_succ, List.getElem_cons_zero, Act.put, List.setIfInBounds_toArray, List.set_cons_zero, List.set_cons_succ]
      refine wpAnyH_done (by kernel_rfl) ?_ _
      unfold TailQ
      simp only [List.drop_succ_cons, List.drop_zero]
      go_upto_region 26 with fail
      refine HEND.out _ _ _ HBW'.out (readsAt_of_owns hown7).low (spansAt_of_owns HO1'.out).low _ ?_ _ _ _ _ _ _ _ _ _ _ _ _ _ _ _ _ _ _ _ _ _ _ _ _ _ _ _ _ _ _ _ _ _ _ _ _ _ _ _ _ _ _ _ _ _ _ _ _ _ _ _ _ _ _ _ _ _ _ _ _ _ _ _ _ _ _ _ _ _ _ _ _ _ _ _ _ _ _ _ _ _ _ _ _ _ _ _ _ _ _ _ _ _ _ _ _ _ _ _ _ _ _ _ _ _ _ _ _ _ _ _ _ _ _ _ _ _ _ _ _ _ _ _ _ _ _ _ _ _ _ _ _ _ _ _ _ _ _ _ _ _ _ _ _ _ _ _ _ _ _ _ _ _ _ _ _ _ _ _ _ _ _ _ _ _ _ _ _ _ _ _ _ _ _ _ _ _ _ _ _ _ _ _ _ _ _ _ _ _ _ _ _ _ _ _ _ _ _ _ _ _ _ _ _ _ _ _
      assumption
  · skip
    go_simp
    have HE4 : Hid (World.ownsRow (w.drew.alloc (.cells #[] 44)) w.heap.size 44 5 (.slice (some ⟨w.heap.size, 0, none⟩) 0 0) 0 []) := own_none (heap_alloc_at w.drew (.cells #[] 44) _ (by first | rfl | simp)) (by first | exact HBW.out.size | omega)
    first | (replace HE0 := Lib.hid (HE0.out.alloc (.cells #[] 44))) | skip
    first | (replace HO1 := Lib.hid (HO1.out.alloc (.cells #[] 44))) | skip
    replace HBW := Lib.hid (HBW.out.alloc HBW.out.size (.cells #[] 44))
    refine hK.out _ _ (HS25.out _ HBW.out) (fun hS => ?_)
    clear hK K
    try simp only [List.getElem_toArray, List.getElem_cons_succ, List.getElem_cons_zero, Act.put, List.setIfInBounds_toArray, List.set_cons_zero, List.set_cons_succ]
    refine wpAnyH_ready (rs := [0]) (by kernel_rfl) (by simp) ?_
    refine AllReadyH.cons rfl (fun K hK => ?_) AllReadyH.nil
    go_simp
    have HE0 : Hid (World.ownsRow ((w.drew.alloc (.cells #[] 44)).alloc (.cells #[] 24)) w.heap.size 24 2 (.slice (some ⟨w.heap.size + 1, 0, none⟩) 0 0) 0 []) := own_none (heap_alloc_at (w.drew.alloc (.cells #[] 44)) (.cells #[] 24) _ (by first | rfl | simp)) (by first | exact HBW.out.size | omega)
    first | (replace HE4 := Lib.hid (HE4.out.alloc (.cells #[] 24))) | skip
    replace HBW := Lib.hid (HBW.out.alloc HBW.out.size (.cells #[] 24))
    refine hK.out _ _ (HS25.out _ HBW.out) (fun hS => ?_)
    clear hK K
    try simp only [List.getElem_toArray, List.getElem_cons_succ, List.getElem_cons_zero, Act.put, List.setIfInBounds_toArray, List.set_cons_zero, List.set_cons_succ]
    refine wpAnyH_ready (rs := [3]) (by kernel_rfl) (by simp) ?_
    refine AllReadyH.cons rfl (fun K hK => ?_) AllReadyH.nil
    rw [if_pos (by rfl)]
    refine wp_append_at (.tmp 257) (.tmp 259) 22 rfl w.heap.size 24 2 16 _ underSpans infoSpans rfl (by decide) _ 0 [] rfl HE0.out ⟨bb, off, none⟩ p.bs.length cap (p.bs.flatMap spC) rfl (spC_length _) (HPW.out.later HBW.out).b.news (spC_ones _) (by omega) (by decide) HBW.out.size ?_
    intro v1 w1 hown1 hg1 _
    rw [Nat.zero_add, List.nil_append] at hown1
    first | (replace HE4 := Lib.hid (HE4.out.kept hg1 (own_sepM HE4.out HE0.out (by decide)))) | skip
    replace HBW := Lib.hid (HBW.out.trans ((Below.refl _ _).grown hg1 HBW.out.size (own_base HE0.out)))
    have HO1 := Lib.hid hown1
    clear hown1 hg1
    refine hK.out _ _ (HS25.out _ HBW.out) (fun hS => ?_)
    clear hK K
    try simp only [List.getElem_toArray, List.getElem_cons_succ, List.getElem_cons_zero, Act.put, List.setIfInBounds_toArray, List.set_cons_zero, List.set_cons_succ]
    refine wpAnyH_ready (rs := [7]) (by kernel_rfl) (by simp) ?_
    refine AllReadyH.cons rfl (fun K hK => ?_) AllReadyH.nil
    rw [if_pos (by rfl)]
    refine wp_copy_reads (.tmp 261) (.tmp 263) rfl w.heap.size _ rfl HE4.out ao2 cap2 p.rs rfl _ (HPW.out.later HBW.out).r (by omega) HBW.out.size ?_
    intro v7 w7 hown7 hg7
    have HO1' := Lib.hid (HO1.out.kept hg7 (own_sepM HO1.out HE4.out (by decide)))
    have HBW' := Lib.hid (HBW.out.trans ((Below.refl _ _).grown hg7 HBW.out.size (fun k hk => by injection hk with hk; subst hk; exact own_base HE4.out _ rfl)))
    refine hK.out _ _ (HS25.out _ HBW'.out) (fun hS => ?_)
    clear hK K
    try simp only [List.getElem_toArray, List.getElem_cons_succ, List.getElem_cons_zero, Act.put, List.setIfInBounds_toArray, List.set_cons_zero, List.set_cons_succ]
    refine wpAnyH_done (by kernel_rfl) ?_ _
    unfold TailQ
    simp only [List.drop_succ_cons, List.drop_zero]
    go_upto_region 26 with fail
    refine HEND.out _ _ _ HBW'.out (readsAt_of_owns hown7).low (spansAt_of_owns HO1'.out).low _ ?_ _ _ _ _ _ _ _ _ _ _ _ _ _ _ _ _ _ _ _ _ _ _ _ _ _ _ _ _ _ _ _ _ _ _ _ _ _ _ _ _ _ _ _ _ _ _ _ _ _ _ _ _ _ _ _ _ _ _ _ _ _ _ _ _ _ _ _ _ _ _ _ _ _ _ _ _ _ _ _ _ _ _ _ _ _ _ _ _ _ _ _ _ _ _ _ _ _ _ _ _ _ _ _ _ _ _ _ _ _ _ _ _ _ _ _ _ _ _ _ _ _ _ _ _ _ _ _ _ _ _ _ _ _ _ _ _ _ _ _ _ _ _ _ _ _ _ _ _ _ _ _ _ _ _ _ _ _ _ _ _ _ _ _ _ _ _ _ _ _ _ _ _ _ _ _ _ _ _ _ _ _ _ _ _ _ _ _ _ _ _ _ _ _ _ _ _ _ _ _ _ _ _ _ _ _ _ _
    assumption

end Go.Proofs.Ytlgeggekmdoceaa
