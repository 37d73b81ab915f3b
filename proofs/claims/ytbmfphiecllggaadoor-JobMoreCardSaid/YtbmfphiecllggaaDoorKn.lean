/- Texts Cl, Cm, Cg in one file; each begins with a word on what it proves. -/
import Derived.Test.YtbmfphiecllggaaDoorKm

/- JobMore, walked: the loop over both other jobs. -/
namespace Go.Proofs.YtbmfphiecllggaaDoor
set_option linter.unusedVariables false
set_option linter.unusedSimpArgs false
open Go.RowKit Go.Shelf
attribute [local go_sem] Oper.semAt_some
theorem half8 {α : Type} (a b c d a' b' c' d' : α) (k : Nat) (hk : k < 2) : (#[a, b, c, d, a', b', c', d'] : Array α)[k * 4]? = some (if k = 0 then a else a') ∧ (#[a, b, c, d, a', b', c', d'] : Array α)[k * 4 + 1]? = some (if k = 0 then b else b') ∧
    (#[a, b, c, d, a', b', c', d'] : Array α)[k * 4 + 2]? = some (if k = 0 then c else c') ∧ (#[a, b, c, d, a', b', c', d'] : Array α)[k * 4 + 3]? = some (if k = 0 then d else d') := by
  rcases (show k = 0 ∨ k = 1 by omega) with rfl | rfl <;> exact ⟨rfl, rfl, rfl, rfl⟩
set_option maxRecDepth 100000 in
set_option maxHeartbeats 8000000 in
theorem jm_k (j z : JobD) (B gx gy fb nb nw nx mx np nq cap cap2 kx kw ky k14 k15 c20 c27 : Nat) (ao ao2 ax aw ay a14 a15 a20 a27 : Option Addr) (fl fh pe mb re l1 l2 : Int) (w : World) (hv : validJb j = true)
    (hB : w.heap[B]? = some (.cells #[.slice ao nb cap, .int .i64 fl, .int .i64 fh, .slice ao2 nw cap2] 28 (0, 0)))
    (hX : w.heap[gx]? = some (.cells #[.slice ax nx kx, .int .i64 fl, .int .i64 fh, .slice aw mx kw] 28 (0, 0)))
    (hY : w.heap[gy]? = some (.cells #[.slice ao nb cap, .int .i64 fl, .int .i64 fh, .slice ay nw ky] 28 (0, 0)))
    (hF : w.heap[fb]? = some (.cells #[.func (.func 24) #[] #[]] 47 (0, 0)))
    (hnb : nb = j.st.bs.length) (hnw : nw = j.ws.length) (hnx : nx = z.st.bs.length) (hmx : mx = z.ws.length) (hfl : j.st.film = (fl, fh)) (hfz : z.st.film = (fl, fh))
    (hbs : SpansAt w (.slice ao nb cap) j.st.bs (fun k => k < w.heap.size)) (hws : SpansAt w (.slice ao2 nw cap2) j.ws (fun k => k < w.heap.size))
    (hxb : SpansAt w (.slice ax nx kx) z.st.bs (fun k => k < w.heap.size)) (hxw : SpansAt w (.slice aw mx kw) z.ws (fun k => k < w.heap.size)) (hyw : SpansAt w (.slice ay nw ky) j.ws.reverse (fun k => k < w.heap.size))
    (h14 : SpansAt w (.slice a14 nb k14) j.st.bs (fun k => k < w.heap.size)) (h15 : SpansAt w (.slice a15 nw k15) j.ws (fun k => k < w.heap.size))
    (hnp : np = (planD j).1.length) (h20 : NumsAt w (.slice a20 np c20) ((planD j).1.map fun s : Nat => (s : Int)) (fun k => k < w.heap.size))
    (hnq : nq = (roundsD j).1.length) (h27 : NumsAt w (.slice a27 nq c27) ((roundsD j).1.map fun s : Nat => (s : Int)) (fun k => k < w.heap.size))
    (hpe : pe = (planD j).2) (hmb : mb = (mostD j).1.1) (hre : re = (roundsD j).2) (hl1 : l1 = (lendD j).1) (hl2 : l2 = (lendD j).2)
    (hto : ToJ j z) (htz : TabZ w) (R : Ending → World → Prop) (hR : ∀ w', Below w.heap.size w w' → R (.returned (.bool true)) w') (u0 u1 u2 u3 u5 u6 u7 u9 u12 u13 u16 u18 u21 u22 u23 u25 u26 u44 u45 u46 u47 u48 u49 u50 u51 u52 u53 u54 u55 u56 u57 u58 u59 u60 u61 u62 u63 u64 u65 u66 u67 u68 u69 u70 u71 u72 u73 u74 u75 u76 u77 u78 u79 u80 u81 u82 u83 u84 u85 u86 u87 u88 u89 u90 u91 u92 u93 u94 u95 u96 u97 u98 u99 u100 u101 u102 u103 u104 u105 u106 u107 u108 u109 u110 u111 u112 u113 u114 u115 u116 u117 u118 u119 u120 u121 u122 u123 u124 u125 u126 u127 u128 u129 u130 u131 u132 u133 u134 u135 u136 u137 u138 u139 u140 u141 u142 u143 u144 u145 u146 u147 u148 u149 u150 u151 u152 u153 u154 u155 u156 u157 u158 u159 u160 u161 u162 u163 u164 u165 u166 u167 u168 u169 u170 u171 u172 u173 u174 u175 u176 u177 u178 u179 u180 u181 u182 u183 u184 u185 u186 u187 u188 u189 : Value) :
    Code.wp Tryd.prog (moreM 18) (bodyPost Tryd.prog Tryd.f10 R) ⟨#[u0, u1, u2, u3, .pointer (some ⟨B, 0, none⟩), u5, u6, u7, .bool false, u9, .pointer (some ⟨gx, 0, none⟩), .pointer (some ⟨gy, 0, none⟩), u12, u13, .slice a14 nb k14, .slice a15 nw k15, u16, .func (.func 39) #[] #[.pointer (some ⟨fb, 0, none⟩)], u18, .int .i64 pe, .slice a20 np c20, u21, u22, u23, .int .i64 mb, u25, u26, .slice a27 nq c27, .int .i64 re, .int .i64 l1, .int .i64 l2, undef, undef, undef, undef, undef, undef, undef, undef, undef, undef, undef, undef, undef, u44, u45, u46, u47, u48, u49, u50, u51, u52, u53, u54, u55, u56, u57, u58, u59, u60, u61, u62, u63, u64, u65, u66, u67, u68, u69, u70, u71, u72, u73, u74, u75, u76, u77, u78, u79, u80, u81, u82, u83, u84, u85, u86, u87, u88, u89, u90, u91, u92, u93, u94, u95, u96, u97, u98, u99, u100, u101, u102, u103, u104, u105, u106, u107, u108, u109, u110, u111, u112, u113, u114, u115, u116, u117, u118, u119, u120, u121, u122, u123, u124, u125, u126, u127, u128, u129, u130, u131, u132, u133, u134, u135, u136, u137, u138, u139, u140, u141, u142, u143, u144, u145, u146, u147, u148, u149, u150, u151, u152, u153, u154, u155, u156, u157, u158, u159, u160, u161, u162, u163, u164, u165, u166, u167, u168, u169, u170, u171, u172, u173, u174, u175, u176, u177, u178, u179, u180, u181, u182, u183, u184, u185, u186, u187, u188, u189, undef, undef, undef, undef, undef, undef, undef, undef, undef, undef, undef, undef, undef, undef, undef, undef, undef, undef, undef, undef, undef, undef, undef, undef, undef, undef, undef, undef, undef, undef, undef, undef, undef, undef, undef, undef, undef, undef, undef, undef, undef, undef, undef, undef, undef, undef, undef, undef, undef, undef, undef, undef, undef, undef, undef, undef, undef, undef, undef, undef, undef, undef, undef, undef, undef, undef, undef, undef, undef, undef, undef, undef, undef, undef, undef, undef, undef, undef, undef, undef, undef, undef, undef, undef, undef, undef, undef, undef, undef, undef, undef, undef, undef, undef, undef, undef, undef, undef, undef, undef, undef, undef, undef, undef, undef, undef, undef, undef, undef, undef, undef, undef, undef, undef, undef, undef, undef, undef, undef, undef, undef, undef, undef, undef, undef, undef, undef, undef, undef, undef, undef, undef, undef, undef, undef, undef, undef, undef, undef, undef, undef, undef, undef, undef, undef, undef, undef, undef, undef, undef], []⟩ w := by
  conv => arg 2; whnf
  refine wp_cutM 1 (t := moreM 19) (by kernel_rfl) ?_
  simp only [cutM]
  have HV := Lib.hid hv
  have HNB := Lib.hid hnb
  have HNW := Lib.hid hnw
  have HNX := Lib.hid (And.intro hnx hmx)
  have HBS := Lib.hid hbs
  have HWS := Lib.hid hws
  have HTO := Lib.hid hto
  have HTZ := Lib.hid htz
  have h1z := htz.lt
  have HRR := Lib.hid hR
  have HJR := Lib.hid hB
  have HFR := Lib.hid hF
  have H14 := Lib.hid (And.intro h14 h15)
  have hnw4 : nw ≤ 4 := by rw [hnw]; exact (validJb_parts hv).2.1
  have hnb8 : nb ≤ 8 := by rw [hnb]; exact (validSt_parts (validJb_parts hv).1).1
  have HPS := Lib.hid (planD_small hv)
  have HRS := Lib.hid (roundsD_small hv)
  have HPN := Lib.hid hnp
  have HQN := Lib.hid hnq
  have H20 := Lib.hid h20
  have H27 := Lib.hid h27
  have HPE := Lib.hid hpe
  have HMB := Lib.hid hmb
  have HRE := Lib.hid hre
  have HLE := Lib.hid (And.intro hl1 hl2)
  have HXS := Lib.hid (And.intro hxb hxw)
  have HYS := Lib.hid hyw
  have HXV := Lib.hid (show jobV z (.slice ax nx kx) (.slice aw mx kw) = .agg #[.slice ax nx kx, .int .i64 fl, .int .i64 fh, .slice aw mx kw] by unfold jobV; rw [hfz])
  have HYV := Lib.hid (show jobV ⟨j.st, j.ws.reverse⟩ (.slice ao nb cap) (.slice ay nw ky) = .agg #[.slice ao nb cap, .int .i64 fl, .int .i64 fh, .slice ay nw ky] by unfold jobV; rw [hfl])
  have c0 : w.cell? ⟨gx, 0, none⟩ = some (.slice ax nx kx) := by rw [cell_of_row _ _ _ _ _ _ hX]; rfl
  have c1 : w.cell? ⟨gx, 1, none⟩ = some (.int .i64 fl) := by rw [cell_of_row _ _ _ _ _ _ hX]; rfl
  have c2 : w.cell? ⟨gx, 2, none⟩ = some (.int .i64 fh) := by rw [cell_of_row _ _ _ _ _ _ hX]; rfl
  have c3 : w.cell? ⟨gx, 3, none⟩ = some (.slice aw mx kw) := by rw [cell_of_row _ _ _ _ _ _ hX]; rfl
  have c4 : w.cell? ⟨gy, 0, none⟩ = some (.slice ao nb cap) := by rw [cell_of_row _ _ _ _ _ _ hY]; rfl
  have c5 : w.cell? ⟨gy, 1, none⟩ = some (.int .i64 fl) := by rw [cell_of_row _ _ _ _ _ _ hY]; rfl
  have c6 : w.cell? ⟨gy, 2, none⟩ = some (.int .i64 fh) := by rw [cell_of_row _ _ _ _ _ _ hY]; rfl
  have c7 : w.cell? ⟨gy, 3, none⟩ = some (.slice ay nw ky) := by rw [cell_of_row _ _ _ _ _ _ hY]; rfl
  clear hv hB hX hY hF hnb hnw hnx hmx hfl hfz hbs hws hxb hxw hyw h14 h15 hnp h20 hnq h27 hpe hmb hre hl1 hl2 hto htz hR
  go_wp2_with fail
  have HY1 := Lib.hid (heap_alloc_at w (.cells #[.slice ax nx kx, .int .i64 fl, .int .i64 fh, .slice aw mx kw, .slice ao nb cap, .int .i64 fl, .int .i64 fh, .slice ay nw ky] 28) _ rfl)
  have HBw1 := Lib.hid (Below.alloc' w (.cells #[.slice ax nx kx, .int .i64 fl, .int .i64 fh, .slice aw mx kw, .slice ao nb cap, .int .i64 fl, .int .i64 fh, .slice ay nw ky] 28))
  have hs1 : (w.alloc (.cells #[.slice ax nx kx, .int .i64 fl, .int .i64 fh, .slice aw mx kw, .slice ao nb cap, .int .i64 fl, .int .i64 fh, .slice ay nw ky] 28)).heap.size = w.heap.size + 1 := by simp
  obtain ⟨W1, hW1⟩ : ∃ W, W = w.alloc (.cells #[.slice ax nx kx, .int .i64 fl, .int .i64 fh, .slice aw mx kw, .slice ao nb cap, .int .i64 fl, .int .i64 fh, .slice ay nw ky] 28) := ⟨_, rfl⟩
  rw [← hW1] at HY1 HBw1 hs1 ⊢
  clear hW1 c0 c1 c2 c3 c4 c5 c6 c7
  go_loopw [194] (fun iv wr => ∃ k : Nat, k ≤ 2 ∧ iv = .int .i64 k ∧ Below W1.heap.size W1 wr) (fun iv _ => 2 - (intOf iv).toNat)
  case atStart => exact ⟨0, by decide, rfl, Below.refl _ _⟩
  case round =>
    obtain ⟨k, hk, rfl, hb⟩ := hrel
    have HK := Lib.hid hb
    clear hb
    by_cases hlt : k < 2
    · have hw : IntKind.i64.wrap ((k : Int) + 1) = ((k + 1 : Nat) : Int) := by rw [IntWalk.i64_in _ (by omega)]; omega
      have hlti : (k : Int) < 2 := by omega
      have hi0 : 0 ≤ (k : Int) := by omega
      have HBwr := Lib.hid (HBw1.out.trans (HK.out.mono HBw1.out.size))
      obtain ⟨zk, ab, ac, n1, kb, n2, kc, hz0, hz3, hz4, hz5, hz6, hz7⟩ : ∃ (zk : JobD) (ab ac : Option Addr) (n1 kb n2 kc : Nat), (if k = 0 then (.slice ax nx kx : Value) else .slice ao nb cap) = .slice ab n1 kb ∧ (if k = 0 then (.slice aw mx kw : Value) else .slice ay nw ky) = .slice ac n2 kc ∧
          jobV zk (.slice ab n1 kb) (.slice ac n2 kc) = .agg #[.slice ab n1 kb, .int .i64 fl, .int .i64 fh, .slice ac n2 kc] ∧ SpansAt w (.slice ab n1 kb) zk.st.bs (fun k => k < w.heap.size) ∧ SpansAt w (.slice ac n2 kc) zk.ws (fun k => k < w.heap.size) ∧ (validJb zk = true → FinJ j zk k) := by
        rcases (show k = 0 ∨ k = 1 by omega) with rfl | rfl
        · exact ⟨z, ax, aw, nx, kx, mx, kw, rfl, rfl, HXV.out, HXS.out.1, HXS.out.2, fun h => fin_0 HTO.out HV.out h⟩
        · exact ⟨⟨j.st, j.ws.reverse⟩, ao, ay, nb, cap, nw, ky, rfl, rfl, HYV.out, HBS.out, HYS.out, fun _ => fin_1 HV.out⟩
      have hr8 := (HK.out.block _ (lt_of_block HY1.out)).trans HY1.out
      obtain ⟨e0, e1, e2, e3⟩ := half8 (.slice ax nx kx : Value) (.int .i64 fl) (.int .i64 fh) (.slice aw mx kw) (.slice ao nb cap) (.int .i64 fl) (.int .i64 fh) (.slice ay nw ky) k hlt
      rw [hz0] at e0
      rw [ite_self] at e1 e2
      rw [hz3] at e3
      have d0 : wr.cell? ⟨w.heap.size, k * 4, none⟩ = some (.slice ab n1 kb) := by rw [cell_of_row _ _ _ _ _ _ hr8]; exact e0
      have d1 : wr.cell? ⟨w.heap.size, k * 4 + 1, none⟩ = some (.int .i64 fl) := by rw [cell_of_row _ _ _ _ _ _ hr8]; exact e1
      have d2 : wr.cell? ⟨w.heap.size, k * 4 + 2, none⟩ = some (.int .i64 fh) := by rw [cell_of_row _ _ _ _ _ _ hr8]; exact e2
      have d3 : wr.cell? ⟨w.heap.size, k * 4 + 3, none⟩ = some (.slice ac n2 kc) := by rw [cell_of_row _ _ _ _ _ _ hr8]; exact e3
      have HZV := Lib.hid hz4
      have HFI := Lib.hid hz7
      have HZW := Lib.hid (And.intro (hz5.later HBwr.out.size (fun k h1 _ => HBwr.out.block k h1)) (hz6.later HBwr.out.size (fun k h1 _ => HBwr.out.block k h1)))
      clear hz0 hz3 hz4 hz5 hz6 hz7 hr8 e0 e1 e2 e3
      go_upto_region 34 with (refine wpList_store_row rfl 28 _ _ rfl wr.heap.size #[.slice ab n1 kb, .int .i64 fl, .int .i64 fh, .slice ac n2 kc] rfl rfl 28 _ (heap_alloc_at _ _ _ rfl) (by kernel_rfl) rfl (by simp [Value.oneCell']) ?_)
      obtain ⟨gz, hgz⟩ : ∃ y, y = wr.heap.size := ⟨_, rfl⟩
      refine wp_name (fun W => W.heap[gz]? = some (.cells #[.slice ab n1 kb, .int .i64 fl, .int .i64 fh, .slice ac n2 kc] 28 (0, 0)) ∧ Below wr.heap.size wr W) ⟨by rw [hgz]; exact setRow_heap _ _ _ _ _ _ (heap_alloc_at _ _ _ rfl), ((Keeps.alloc (fun k => wr.heap.size ≤ k) _ _).trans ((keeps_setRow _ _ _).mono (fun k _ e => by omega))).below (Nat.le_refl _) (fun k h e => by omega)⟩ ?_
      rintro W3 ⟨hzr, hb⟩
      rw [← hgz]
      have HZR := Lib.hid hzr
      have H3 := Lib.hid hb
      have HB3W3 := Lib.hid (Below.refl W3.heap.size W3)
      have HZB := Lib.hid (And.intro ((HZW.out.1.low9).later hb.size (fun k h1 h2 => hb.block k h1)).low9 ((HZW.out.2.low9).later hb.size (fun k h1 h2 => hb.block k h1)).low9)
      have HTZ3 := Lib.hid (HTZ.out.below (HBwr.out.trans (hb.mono HBwr.out.size)) h1z)
      have h3z := HTZ3.out.lt
      clear hgz hzr hb d0 d1 d2 d3
      have q9 := (HB3W3.out.block gz (lt_of_block HZR.out)).trans HZR.out
      have c0 : W3.cell? ⟨gz, 0, none⟩ = some (.slice ab n1 kb) := by rw [cell_of_row _ _ _ _ _ _ q9]; rfl
      have c1 : W3.cell? ⟨gz, 1, none⟩ = some (.int .i64 fl) := by rw [cell_of_row _ _ _ _ _ _ q9]; rfl
      have c2 : W3.cell? ⟨gz, 2, none⟩ = some (.int .i64 fh) := by rw [cell_of_row _ _ _ _ _ _ q9]; rfl
      have c3 : W3.cell? ⟨gz, 3, none⟩ = some (.slice ac n2 kc) := by rw [cell_of_row _ _ _ _ _ _ q9]; rfl
      clear q9
      go_wp2_with fail
      have hc := r12job_any zk (.slice ab n1 kb) (.slice ac n2 kc) W3 HZB.out.1 HZB.out.2
      rw [HZV.out] at hc
      refine hc.mono ?_
      rintro e W4 ⟨rfl, hb⟩
      clear hc
      dsimp only
      have HB3W4 := Lib.hid (HB3W3.out.trans (hb.mono HB3W3.out.size))
      clear hb c0 c1 c2 c3
      cases hzv : validJb zk with
      | false =>
        clear hzv
        go_wp2_with fail
        exact ⟨⟨k + 1, hlt, by push_cast; rfl, HK.out.trans ((H3.out.trans (HB3W4.out.mono H3.out.size)).mono HK.out.size)⟩, by simp [intOf]; omega⟩
      | true =>
        have HZ := Lib.hid hzv
        have HFJ := Lib.hid (HFI.out hzv)
        clear hzv HFI
        have q9 := (HB3W4.out.block gz (lt_of_block HZR.out)).trans HZR.out
        have c0 : W4.cell? ⟨gz, 0, none⟩ = some (.slice ab n1 kb) := by rw [cell_of_row _ _ _ _ _ _ q9]; rfl
        have c1 : W4.cell? ⟨gz, 1, none⟩ = some (.int .i64 fl) := by rw [cell_of_row _ _ _ _ _ _ q9]; rfl
        have c2 : W4.cell? ⟨gz, 2, none⟩ = some (.int .i64 fh) := by rw [cell_of_row _ _ _ _ _ _ q9]; rfl
        have c3 : W4.cell? ⟨gz, 3, none⟩ = some (.slice ac n2 kc) := by rw [cell_of_row _ _ _ _ _ _ q9]; rfl
        clear q9
        go_wp2_with fail
        have hc := Plan_any zk (.slice ab n1 kb) (.slice ac n2 kc) W4 (HZB.out.1.later HB3W4.out.size (fun k h1 _ => HB3W4.out.block k h1)).low9 (HZB.out.2.later HB3W4.out.size (fun k h1 _ => HB3W4.out.block k h1)).low9 (HTZ3.out.below HB3W4.out h3z)
        rw [HZV.out] at hc
        refine hc.mono ?_
        rintro e W5 ⟨v5, rfl, hn5, hb⟩
        clear hc c0 c1 c2 c3
        dsimp only at hn5 ⊢
        have HB3W5 := Lib.hid (HB3W4.out.trans (hb.mono HB3W4.out.size))
        clear hb
        obtain ⟨p2, hp2⟩ : ∃ y, y = (planD zk).1 := ⟨_, rfl⟩
        obtain ⟨pe2, hpe2⟩ : ∃ y, y = (planD zk).2 := ⟨_, rfl⟩
        have hs2 := planD_small HZ.out
        rw [← hp2] at hn5 hs2
        rw [← hpe2]
        have HP2 := Lib.hid (And.intro hp2 hpe2)
        have HS2 := Lib.hid hs2
        obtain ⟨n33, hn33⟩ : ∃ n, n = p2.length := ⟨_, rfl⟩
        obtain ⟨a33, c33, h33, _⟩ := id hn5
        rw [List.length_map, ← hn33] at h33
        subst h33
        have HN33 := Lib.hid hn33
        have HN5 := Lib.hid hn5.low9
        clear hn5 hp2 hpe2 hs2 hn33
        have q9 := (HB3W5.out.block gz (lt_of_block HZR.out)).trans HZR.out
        have c0 : W5.cell? ⟨gz, 0, none⟩ = some (.slice ab n1 kb) := by rw [cell_of_row _ _ _ _ _ _ q9]; rfl
        have c1 : W5.cell? ⟨gz, 1, none⟩ = some (.int .i64 fl) := by rw [cell_of_row _ _ _ _ _ _ q9]; rfl
        have c2 : W5.cell? ⟨gz, 2, none⟩ = some (.int .i64 fh) := by rw [cell_of_row _ _ _ _ _ _ q9]; rfl
        have c3 : W5.cell? ⟨gz, 3, none⟩ = some (.slice ac n2 kc) := by rw [cell_of_row _ _ _ _ _ _ q9]; rfl
        clear q9
        go_wp2_with fail
        have hc := Most_any zk (.slice ab n1 kb) (.slice ac n2 kc) W5 (HZB.out.1.later HB3W5.out.size (fun k h1 _ => HB3W5.out.block k h1)).low9 (HZB.out.2.later HB3W5.out.size (fun k h1 _ => HB3W5.out.block k h1)).low9 (HTZ3.out.below HB3W5.out h3z)
        rw [HZV.out] at hc
        refine hc.mono ?_
        rintro e W6 ⟨rfl, hb⟩
        clear hc c0 c1 c2 c3
        dsimp only
        have HB3W6 := Lib.hid (HB3W5.out.trans (hb.mono HB3W5.out.size))
        have HN6 := Lib.hid (HN5.out.later hb.size (fun k h _ => hb.block k h)).low9
        clear hb HN5
        rw [most_zero HZ.out]
        obtain ⟨mb2, hmb2⟩ : ∃ y, y = (mostD zk).1.1 := ⟨_, rfl⟩
        obtain ⟨ms2, hms2⟩ : ∃ y, y = (mostD zk).1.2 := ⟨_, rfl⟩
        rw [← hmb2, ← hms2]
        have HM2 := Lib.hid hmb2
        clear hmb2 hms2
        have q9 := (HB3W6.out.block gz (lt_of_block HZR.out)).trans HZR.out
        have c0 : W6.cell? ⟨gz, 0, none⟩ = some (.slice ab n1 kb) := by rw [cell_of_row _ _ _ _ _ _ q9]; rfl
        have c1 : W6.cell? ⟨gz, 1, none⟩ = some (.int .i64 fl) := by rw [cell_of_row _ _ _ _ _ _ q9]; rfl
        have c2 : W6.cell? ⟨gz, 2, none⟩ = some (.int .i64 fh) := by rw [cell_of_row _ _ _ _ _ _ q9]; rfl
        have c3 : W6.cell? ⟨gz, 3, none⟩ = some (.slice ac n2 kc) := by rw [cell_of_row _ _ _ _ _ _ q9]; rfl
        clear q9
        go_wp2_with fail
        have hc := Rounds_any zk (.slice ab n1 kb) (.slice ac n2 kc) W6 (HZB.out.1.later HB3W6.out.size (fun k h1 _ => HB3W6.out.block k h1)).low9 (HZB.out.2.later HB3W6.out.size (fun k h1 _ => HB3W6.out.block k h1)).low9 (HTZ3.out.below HB3W6.out h3z)
        rw [HZV.out] at hc
        refine hc.mono ?_
        rintro e W7 ⟨v7, rfl, hn7, hb⟩
        clear hc c0 c1 c2 c3
        dsimp only at hn7 ⊢
        have HB3W7 := Lib.hid (HB3W6.out.trans (hb.mono HB3W6.out.size))
        have HN7 := Lib.hid (HN6.out.later hb.size (fun k h _ => hb.block k h)).low9
        clear hb HN6
        obtain ⟨r2, hr2⟩ : ∃ y, y = (roundsD zk).1 := ⟨_, rfl⟩
        obtain ⟨re2, hre2⟩ : ∃ y, y = (roundsD zk).2 := ⟨_, rfl⟩
        have hs2 := roundsD_small HZ.out
        rw [← hr2] at hn7 hs2
        rw [← hre2]
        have HR2 := Lib.hid (And.intro hr2 hre2)
        have HT2 := Lib.hid hs2
        obtain ⟨n38, hn38⟩ : ∃ n, n = r2.length := ⟨_, rfl⟩
        obtain ⟨a38, c38, h38, _⟩ := id hn7
        rw [List.length_map, ← hn38] at h38
        subst h38
        have HN38 := Lib.hid hn38
        have HQ7 := Lib.hid hn7.low9
        clear hn7 hr2 hre2 hs2 hn38
        have q9 := (HB3W7.out.block gz (lt_of_block HZR.out)).trans HZR.out
        have c0 : W7.cell? ⟨gz, 0, none⟩ = some (.slice ab n1 kb) := by rw [cell_of_row _ _ _ _ _ _ q9]; rfl
        have c1 : W7.cell? ⟨gz, 1, none⟩ = some (.int .i64 fl) := by rw [cell_of_row _ _ _ _ _ _ q9]; rfl
        have c2 : W7.cell? ⟨gz, 2, none⟩ = some (.int .i64 fh) := by rw [cell_of_row _ _ _ _ _ _ q9]; rfl
        have c3 : W7.cell? ⟨gz, 3, none⟩ = some (.slice ac n2 kc) := by rw [cell_of_row _ _ _ _ _ _ q9]; rfl
        clear q9
        go_wp2_with fail
        have hc := Lend_any zk (.slice ab n1 kb) (.slice ac n2 kc) W7 (HZB.out.1.later HB3W7.out.size (fun k h1 _ => HB3W7.out.block k h1)).low9 (HZB.out.2.later HB3W7.out.size (fun k h1 _ => HB3W7.out.block k h1)).low9 (HTZ3.out.below HB3W7.out h3z)
        rw [HZV.out] at hc
        refine hc.mono ?_
        rintro e W8 ⟨rfl, hb⟩
        clear hc c0 c1 c2 c3
        dsimp only
        have HB3W8 := Lib.hid (HB3W7.out.trans (hb.mono HB3W7.out.size))
        have HN8 := Lib.hid (HN7.out.later hb.size (fun k h _ => hb.block k h)).low9
        have HQ8 := Lib.hid (HQ7.out.later hb.size (fun k h _ => hb.block k h)).low9
        clear hb HN7 HQ7
        obtain ⟨s2, hs2⟩ : ∃ y, y = (lendD zk).1 := ⟨_, rfl⟩
        obtain ⟨t2, ht2⟩ : ∃ y, y = (lendD zk).2 := ⟨_, rfl⟩
        rw [← hs2, ← ht2]
        have HL2 := Lib.hid (And.intro hs2 ht2)
        clear hs2 ht2
        have HW8 := Lib.hid (H3.out.trans (HB3W8.out.mono H3.out.size))
        have HBB := Lib.hid (HBwr.out.trans (HW8.out.mono HBwr.out.size))
        have H20r := Lib.hid (H20.out.later HBB.out.size (fun k h _ => HBB.out.block k h)).low9
        have H27r := Lib.hid (H27.out.later HBB.out.size (fun k h _ => HBB.out.block k h)).low9
        have HF8 := Lib.hid ((HBB.out.block _ (lt_of_block HFR.out)).trans HFR.out)
        obtain ⟨pl, hpl⟩ : ∃ y, y = (planD j).1 := ⟨_, rfl⟩
        obtain ⟨rl, hrl⟩ : ∃ y, y = (roundsD j).1 := ⟨_, rfl⟩
        have HPL := Lib.hid hpl
        have HRL := Lib.hid hrl
        go_upto_region 39 with fail
        refine region_cut [some 223, some 224, some 225, some 226, some 227, some 228, some 229, some 230, some 231, some 232, some 233, some 234, some 235, some 236, some 237, some 238, some 239, some 240, some 241, some 242, some 243, some 244, some 245, some 246, some 247, some 248, some 249, some 250, some 251, some 252, some 253, some 254, some 255, some 256, some 257, some 258, some 259, some 260, some 261] (Rcut xs39 W8) ?_ ?_
        · have hq := HFJ.out.rounds
          have hp := HFJ.out.plan
          have hm := HFJ.out.most
          rw [← HPE.out, ← HP2.out.2, ← HP2.out.1, ← HPL.out] at hp
          rw [← HRE.out, ← HR2.out.2, ← HR2.out.1, ← HRL.out] at hq
          rw [← HMB.out, ← HM2.out] at hm
          exact jm_39 pl p2 rl r2 fb np n33 nq n38 c20 c33 c27 c38 a20 a33 a27 a38 pe pe2 mb mb2 re re2 W8 HF8.out (by rw [HPN.out, HPL.out]) HN33.out (by rw [HQN.out, HRL.out]) HN38.out ⟨by rw [HPN.out]; exact HPS.out.1, by rw [HPL.out]; exact HPS.out.2.1⟩ ⟨by rw [HN33.out]; exact HS2.out.1, HS2.out.2.1⟩ ⟨by rw [HRL.out]; exact HRS.out.1, by rw [HRL.out]; exact HRS.out.2.1⟩ ⟨HT2.out.1, HT2.out.2.1⟩
            (by rw [HPL.out]; exact H20r.out) HN8.out (by rw [HRL.out]; exact H27r.out) HQ8.out hm hp hq _ (by kernel_rfl) _ _ _ _ _ _ _ _ _ _ _ _ _ _ _ _ _ _ _ _ _ _ _ _ _ _ _ _ _ _ _ _ _ _ _ _ _ _ _ _ _ _ _ _ _ _ _ _ _ _ _ _ _ _ _ _ _ _ _ _ _ _ _ _ _ _ _ _ _ _ _ _ _ _ _ _ _ _ _ _ _ _ _ _ _ _ _ _ _ _ _ _ _ _ _ _ _ _ _ _ _ _ _ _ _ _ _ _ _ _ _ _ _ _ _ _ _ _ _ _ _ _ _ _ _ _ _ _ _ _ _ _ _ _ _ _ _ _ _ _ _ _ _ _ _ _ _ _ _ _ _ _ _ _ _ _ _ _ _ _ _ _ _ _ _ _ _ _ _ _ _ _ _ _ _ _ _ _ _ _ _ _ _ _ _ _ _ _ _ _ _ _ _ _ _ _ _ _ _ _ _ _ _ _ _ _ _ _ _ _ _ _ _ _ _ _ _ _ _ _ _ _ _ _ _ _ _ _ _ _ _ _ _ _ _ _ _ _ _ _ _ _ _ _ _ _ _ _ _ _ _ _ _ _ _ _ _ _ _ _ _ _ _ _ _ _ _ _ _ _ _ _ _ _ _ _ _ _ _ _ _ _ _ _ _ _ _ _ _ _ _ _ _ _ _ _ _ _ _ _ _ _ _ _ _ _ _ _ _ _ _ _ _ _ _ _ _ _ _ _ _ _ _ _ _ _ _ _
        · rintro xs W9 ⟨f, rfl, rfl⟩
          unfold xs39
          simp only [PutAll, Act.put, List.setIfInBounds_toArray, List.set_cons_zero, List.set_cons_succ]
          go_upto_region 41 with fail
          refine region_cut [some 262, some 263, some 264, some 265, some 266, some 267, some 268, some 269, some 270, some 271, some 272, some 273, some 274, some 275, some 276, some 277, some 278, some 279, some 280, some 281, some 282, some 283, some 284, some 285, some 286, some 287, some 288, some 289, some 290, some 291, some 292, some 293, some 294, some 295, some 296, some 297, some 298, some 299, some 300, some 301, some 302, some 303, some 304] (Rcut xs41 W9) ?_ ?_
          · by_cases hk1 : k = 1
            · obtain ⟨g1, g2, g3, g4, g5, g6⟩ := HFJ.out.same hk1
              rw [← HM2.out, ← HMB.out] at g1
              rw [← HP2.out.2, ← HPE.out] at g2
              rw [← HP2.out.1, ← HPL.out] at g3
              rw [← HR2.out.2, ← HRE.out] at g4
              rw [← HR2.out.1, ← HRL.out] at g5
              have g7 : s2 = l1 := by rw [HL2.out.1, HLE.out.1, g6]
              have g8 : t2 = l2 := by rw [HL2.out.2, HLE.out.2, g6]
              rw [g1, g2, g4, g7, g8]
              exact jm_41 pl p2 rl r2 fb np n33 nq n38 c20 c33 c27 c38 a20 a33 a27 a38 pe mb re l1 l2 W9 HF8.out (by rw [HPN.out, HPL.out]) HN33.out (by rw [HQN.out, HRL.out]) HN38.out ⟨by rw [HPN.out]; exact HPS.out.1, by rw [HPL.out]; exact HPS.out.2.1⟩ ⟨by rw [HN33.out]; exact HS2.out.1, HS2.out.2.1⟩ ⟨by rw [HRL.out]; exact HRS.out.1, by rw [HRL.out]; exact HRS.out.2.1⟩ ⟨HT2.out.1, HT2.out.2.1⟩
                (by rw [HPL.out]; exact H20r.out) HN8.out (by rw [HRL.out]; exact H27r.out) HQ8.out g3 g5 k hk1 _ (by kernel_rfl) _ _ _ _ _ _ _ _ _ _ _ _ _ _ _ _ _ _ _ _ _ _ _ _ _ _ _ _ _ _ _ _ _ _ _ _ _ _ _ _ _ _ _ _ _ _ _ _ _ _ _ _ _ _ _ _ _ _ _ _ _ _ _ _ _ _ _ _ _ _ _ _ _ _ _ _ _ _ _ _ _ _ _ _ _ _ _ _ _ _ _ _ _ _ _ _ _ _ _ _ _ _ _ _ _ _ _ _ _ _ _ _ _ _ _ _ _ _ _ _ _ _ _ _ _ _ _ _ _ _ _ _ _ _ _ _ _ _ _ _ _ _ _ _ _ _ _ _ _ _ _ _ _ _ _ _ _ _ _ _ _ _ _ _ _ _ _ _ _ _ _ _ _ _ _ _ _ _ _ _ _ _ _ _ _ _ _ _ _ _ _ _ _ _ _ _ _ _ _ _ _ _ _ _ _ _ _ _ _ _ _ _ _ _ _ _ _ _ _ _ _ _ _ _ _ _ _ _ _ _ _ _ _ _ _ _ _ _ _ _ _ _ _ _ _ _ _ _ _ _ _ _ _ _ _ _ _ _ _ _ _ _ _ _ _ _ _ _ _ _ _ _ _ _ _ _ _ _ _ _ _ _ _ _ _ _ _ _ _ _ _ _ _ _ _ _ _ _ _ _ _ _ _ _ _ _ _ _ _ _ _ _ _ _ _ _ _ _ _ _ _ _ _ _
            · exact jm_40 k hk1 W9 _ (by kernel_rfl) _ _ _ _ _ _ _ _ _ _ _ _ _ _ _ _ _ _ _ _ _ _ _ _ _ _ _ _ _ _ _ _ _ _ _ _ _ _ _ _ _ _ _ _ _ _ _ _ _ _ _ _ _ _ _ _ _ _ _ _ _ _ _ _ _ _ _ _ _ _ _ _ _ _ _ _ _ _ _ _ _ _ _ _ _ _ _ _ _ _ _ _ _ _ _ _ _ _ _ _ _ _ _ _ _ _ _ _ _ _ _ _ _ _ _ _ _ _ _ _ _ _ _ _ _ _ _ _ _ _ _ _ _ _ _ _ _ _ _ _ _ _ _ _ _ _ _ _ _ _ _ _ _ _ _ _ _ _ _ _ _ _ _ _ _ _ _ _ _ _ _ _ _ _ _ _ _ _ _ _ _ _ _ _ _ _ _ _ _ _ _ _ _ _ _ _ _ _ _ _ _ _ _ _ _ _ _ _ _ _ _ _ _ _ _ _ _ _ _ _ _ _ _ _ _ _ _ _ _ _ _ _ _ _ _ _ _ _ _ _ _ _ _ _ _ _ _ _ _ _ _ _ _ _ _ _ _ _ _ _ _ _ _ _ _ _ _ _ _ _ _ _ _ _ _ _ _ _ _ _ _ _ _ _ _ _ _ _ _ _ _ _ _ _ _ _ _ _ _ _ _ _ _ _ _ _ _ _ _ _ _ _ _ _ _ _ _ _ _ _ _ _ _ _ _ _ _ _ _ _ _ _ _ _ _ _ _ _ _
          · rintro xs W10 ⟨f2, rfl, rfl⟩
            unfold xs41
            simp only [PutAll, Act.put, List.setIfInBounds_toArray, List.set_cons_zero, List.set_cons_succ]
            go_wp2_with fail
            exact ⟨⟨k + 1, hlt, by push_cast; rfl, HK.out.trans (HW8.out.mono HK.out.size)⟩, by simp [intOf]; omega⟩
    · have hin : k = 2 := by omega
      subst hin
      clear hlt
      go_wp2_with fail
      have hb := HBw1.out.trans (HK.out.mono HBw1.out.size)
      exact jm_l j B nb nw cap cap2 k14 k15 ao ao2 a14 a15 fl fh wr hnb8 hnw4 ((hb.block _ (lt_of_block HJR.out)).trans HJR.out) HNB.out HNW.out (HBS.out.later hb.size (fun k h1 _ => hb.block k h1)).low9 (HWS.out.later hb.size (fun k h1 _ => hb.block k h1)).low9
        (H14.out.1.later hb.size (fun k h1 _ => hb.block k h1)).low9 (H14.out.2.later hb.size (fun k h1 _ => hb.block k h1)).low9 (HTZ.out.below hb h1z) R (fun w' h => HRR.out w' (hb.trans (h.mono hb.size))) _ _ _ _ _ _ _ _ _ _ _ _ _ _ _ _ _ _ _ _ _ _ _ _ _ _ _ _ _ _ _ _ _ _ _ _ _ _ _ _ _ _ _ _ _ _ _ _ _ _ _ _ _ _ _ _ _ _ _ _ _ _ _ _ _ _ _ _ _ _ _ _ _ _ _ _ _ _ _ _ _ _ _ _ _ _ _ _ _ _ _ _ _ _ _ _ _ _ _ _ _ _ _ _ _ _ _ _ _ _ _ _ _ _ _ _ _ _ _ _ _ _ _ _ _ _ _ _ _ _ _ _ _ _ _ _ _ _ _ _ _ _ _ _ _ _ _ _ _ _ _ _ _ _ _ _ _ _ _ _ _ _ _ _ _ _ _ _ _ _ _ _ _ _ _ _ _ _ _ _ _ _ _ _ _ _ _ _ _ _ _ _ _ _ _ _ _ _ _ _ _ _ _ _ _ _ _ _ _ _ _ _ _ _ _ _ _ _ _ _ _ _ _ _ _ _ _ _ _ _ _ _ _ _ _ _ _ _ _ _ _ _ _ _ _ _ _ _ _ _ _ _ _ _ _ _ _ _ _ _ _ _ _ _ _ _ _ _ _ _ _ _ _ _ _ _ _ _ _ _ _ _ _ _ _ _ _ _ _ _ _ _ _ _ _ _ _ _ _ _ _ _ _
end Go.Proofs.YtbmfphiecllggaaDoor

/- JobMore, walked: what is told of the first job once more, and all else of it. -/
namespace Go.Proofs.YtbmfphiecllggaaDoor
set_option linter.unusedVariables false
set_option linter.unusedSimpArgs false
open Go.RowKit Go.Shelf
attribute [local go_sem] Oper.semAt_some
set_option maxRecDepth 100000 in
set_option maxHeartbeats 8000000 in
theorem jm_i (j z : JobD) (B gx gy fb nb nw nx mx np cap cap2 kx kw ky k14 k15 c20 : Nat) (ao ao2 ax aw ay a14 a15 a20 : Option Addr) (fl fh pe : Int) (w : World) (hv : validJb j = true)
    (hB : w.heap[B]? = some (.cells #[.slice ao nb cap, .int .i64 fl, .int .i64 fh, .slice ao2 nw cap2] 28 (0, 0)))
    (hX : w.heap[gx]? = some (.cells #[.slice ax nx kx, .int .i64 fl, .int .i64 fh, .slice aw mx kw] 28 (0, 0)))
    (hY : w.heap[gy]? = some (.cells #[.slice ao nb cap, .int .i64 fl, .int .i64 fh, .slice ay nw ky] 28 (0, 0)))
    (hF : w.heap[fb]? = some (.cells #[.func (.func 24) #[] #[]] 47 (0, 0)))
    (hnb : nb = j.st.bs.length) (hnw : nw = j.ws.length) (hnx : nx = z.st.bs.length) (hmx : mx = z.ws.length) (hfl : j.st.film = (fl, fh)) (hfz : z.st.film = (fl, fh))
    (hbs : SpansAt w (.slice ao nb cap) j.st.bs (fun k => k < w.heap.size)) (hws : SpansAt w (.slice ao2 nw cap2) j.ws (fun k => k < w.heap.size))
    (hxb : SpansAt w (.slice ax nx kx) z.st.bs (fun k => k < w.heap.size)) (hxw : SpansAt w (.slice aw mx kw) z.ws (fun k => k < w.heap.size)) (hyw : SpansAt w (.slice ay nw ky) j.ws.reverse (fun k => k < w.heap.size))
    (h14 : SpansAt w (.slice a14 nb k14) j.st.bs (fun k => k < w.heap.size)) (h15 : SpansAt w (.slice a15 nw k15) j.ws (fun k => k < w.heap.size))
    (hnp : np = (planD j).1.length) (h20 : NumsAt w (.slice a20 np c20) ((planD j).1.map fun s : Nat => (s : Int)) (fun k => k < w.heap.size))
    (hpe : pe = (planD j).2)
    (hto : ToJ j z) (htz : TabZ w) (R : Ending → World → Prop) (hR : ∀ w', Below w.heap.size w w' → R (.returned (.bool true)) w') (u0 u1 u2 u3 u5 u6 u7 u9 u12 u13 u16 u18 u21 u44 u45 u46 u47 u48 u49 u50 u51 u52 u53 u54 u55 u56 u57 u58 u59 u60 u61 u62 u63 u64 u65 u66 u67 u68 u69 u70 u71 u72 u73 u74 u75 u76 u77 u78 u79 u80 u81 u82 u83 u84 u85 u86 u87 u88 u89 u90 u91 u92 u93 u94 u95 u96 u97 u98 u99 u100 u101 u102 u103 u104 u105 u106 u107 u108 u109 u110 u111 u112 u113 u114 u115 u116 u117 u118 u119 u120 u121 u122 u123 u124 u125 u126 u127 u128 u129 u130 u131 u132 u133 u134 u135 u136 u137 u138 u139 u140 u141 u142 u143 u144 u145 u146 u147 u148 u149 u150 u151 u152 u153 u154 u155 : Value) :
    Code.wp Tryd.prog (moreM 13) (bodyPost Tryd.prog Tryd.f10 R) ⟨#[u0, u1, u2, u3, .pointer (some ⟨B, 0, none⟩), u5, u6, u7, .bool false, u9, .pointer (some ⟨gx, 0, none⟩), .pointer (some ⟨gy, 0, none⟩), u12, u13, .slice a14 nb k14, .slice a15 nw k15, u16, .func (.func 39) #[] #[.pointer (some ⟨fb, 0, none⟩)], u18, .int .i64 pe, .slice a20 np c20, u21, undef, undef, undef, undef, undef, undef, undef, undef, undef, undef, undef, undef, undef, undef, undef, undef, undef, undef, undef, undef, undef, undef, u44, u45, u46, u47, u48, u49, u50, u51, u52, u53, u54, u55, u56, u57, u58, u59, u60, u61, u62, u63, u64, u65, u66, u67, u68, u69, u70, u71, u72, u73, u74, u75, u76, u77, u78, u79, u80, u81, u82, u83, u84, u85, u86, u87, u88, u89, u90, u91, u92, u93, u94, u95, u96, u97, u98, u99, u100, u101, u102, u103, u104, u105, u106, u107, u108, u109, u110, u111, u112, u113, u114, u115, u116, u117, u118, u119, u120, u121, u122, u123, u124, u125, u126, u127, u128, u129, u130, u131, u132, u133, u134, u135, u136, u137, u138, u139, u140, u141, u142, u143, u144, u145, u146, u147, u148, u149, u150, u151, u152, u153, u154, u155, undef, undef, undef, undef, undef, undef, undef, undef, undef, undef, undef, undef, undef, undef, undef, undef, undef, undef, undef, undef, undef, undef, undef, undef, undef, undef, undef, undef, undef, undef, undef, undef, undef, undef, undef, undef, undef, undef, undef, undef, undef, undef, undef, undef, undef, undef, undef, undef, undef, undef, undef, undef, undef, undef, undef, undef, undef, undef, undef, undef, undef, undef, undef, undef, undef, undef, undef, undef, undef, undef, undef, undef, undef, undef, undef, undef, undef, undef, undef, undef, undef, undef, undef, undef, undef, undef, undef, undef, undef, undef, undef, undef, undef, undef, undef, undef, undef, undef, undef, undef, undef, undef, undef, undef, undef, undef, undef, undef, undef, undef, undef, undef, undef, undef, undef, undef, undef, undef, undef, undef, undef, undef, undef, undef, undef, undef, undef, undef, undef, undef, undef, undef, undef, undef, undef, undef, undef, undef, undef, undef, undef, undef, undef, undef, undef, undef, undef, undef, undef, undef, undef, undef, undef, undef, undef, undef, undef, undef, undef, undef, undef, undef, undef, undef, undef, undef, undef, undef, undef, undef, undef, undef, undef, undef, undef, undef, undef, undef, undef, undef, undef, undef, undef, undef], []⟩ w := by
  conv => arg 2; whnf
  refine wp_cutM 5 (t := moreM 18) (by kernel_rfl) ?_
  simp only [cutM]
  have HV := Lib.hid hv
  have HJR := Lib.hid hB
  have HXR := Lib.hid hX
  have HYR := Lib.hid hY
  have HFR := Lib.hid hF
  have HNB := Lib.hid hnb
  have HNW := Lib.hid hnw
  have HNX := Lib.hid (And.intro hnx hmx)
  have HFL := Lib.hid (And.intro hfl hfz)
  have HBS := Lib.hid hbs
  have HWS := Lib.hid hws
  have HXS := Lib.hid (And.intro hxb hxw)
  have HYS := Lib.hid hyw
  have H14 := Lib.hid (And.intro h14 h15)
  have HPN := Lib.hid hnp
  have HPE := Lib.hid hpe
  have H20 := Lib.hid h20
  have HTO := Lib.hid hto
  have HTZ := Lib.hid htz
  have h1z := htz.lt
  have HRR := Lib.hid hR
  have HPS := Lib.hid (planD_small hv)
  have HRS := Lib.hid (roundsD_small hv)
  have HJV := Lib.hid (show jobV j (.slice ao nb cap) (.slice ao2 nw cap2) = .agg #[.slice ao nb cap, .int .i64 fl, .int .i64 fh, .slice ao2 nw cap2] by unfold jobV; rw [hfl])
  have HBw := Lib.hid (Below.refl w.heap.size w)
  clear hv hB hX hY hF hnb hnw hnx hmx hfl hfz hbs hws hxb hxw hyw h14 h15 hnp hpe h20 hto htz hR
  have q9 := (HBw.out.block B (lt_of_block HJR.out)).trans HJR.out
  have c0 : w.cell? ⟨B, 0, none⟩ = some (.slice ao nb cap) := by rw [cell_of_row _ _ _ _ _ _ q9]; rfl
  have c1 : w.cell? ⟨B, 1, none⟩ = some (.int .i64 fl) := by rw [cell_of_row _ _ _ _ _ _ q9]; rfl
  have c2 : w.cell? ⟨B, 2, none⟩ = some (.int .i64 fh) := by rw [cell_of_row _ _ _ _ _ _ q9]; rfl
  have c3 : w.cell? ⟨B, 3, none⟩ = some (.slice ao2 nw cap2) := by rw [cell_of_row _ _ _ _ _ _ q9]; rfl
  clear q9
  go_wp2_with fail
  have hc := Plan_any j (.slice ao nb cap) (.slice ao2 nw cap2) w (HBS.out.later HBw.out.size (fun k h1 _ => HBw.out.block k h1)).low9 (HWS.out.later HBw.out.size (fun k h1 _ => HBw.out.block k h1)).low9 (HTZ.out.below HBw.out h1z)
  rw [HJV.out] at hc
  refine hc.mono ?_
  rintro e w2 ⟨v2, rfl, hn2, hb⟩
  clear hc c0 c1 c2 c3
  dsimp only at hn2 ⊢
  rw [← HPE.out]
  obtain ⟨a22, c22, h22, _⟩ := id hn2
  rw [List.length_map, ← HPN.out] at h22
  subst h22
  have HBw2 := Lib.hid (HBw.out.trans (hb.mono HBw.out.size))
  have HN2 := Lib.hid hn2.low9
  clear hb hn2
  have q9 := (HBw2.out.block B (lt_of_block HJR.out)).trans HJR.out
  have c0 : w2.cell? ⟨B, 0, none⟩ = some (.slice ao nb cap) := by rw [cell_of_row _ _ _ _ _ _ q9]; rfl
  have c1 : w2.cell? ⟨B, 1, none⟩ = some (.int .i64 fl) := by rw [cell_of_row _ _ _ _ _ _ q9]; rfl
  have c2 : w2.cell? ⟨B, 2, none⟩ = some (.int .i64 fh) := by rw [cell_of_row _ _ _ _ _ _ q9]; rfl
  have c3 : w2.cell? ⟨B, 3, none⟩ = some (.slice ao2 nw cap2) := by rw [cell_of_row _ _ _ _ _ _ q9]; rfl
  clear q9
  go_wp2_with fail
  have hc := Most_any j (.slice ao nb cap) (.slice ao2 nw cap2) w2 (HBS.out.later HBw2.out.size (fun k h1 _ => HBw2.out.block k h1)).low9 (HWS.out.later HBw2.out.size (fun k h1 _ => HBw2.out.block k h1)).low9 (HTZ.out.below HBw2.out h1z)
  rw [HJV.out] at hc
  refine hc.mono ?_
  rintro e w3 ⟨rfl, hb⟩
  clear hc c0 c1 c2 c3
  dsimp only
  rw [most_zero HV.out]
  obtain ⟨mb, hmb⟩ : ∃ y, y = (mostD j).1.1 := ⟨_, rfl⟩
  obtain ⟨ms, hms⟩ : ∃ y, y = (mostD j).1.2 := ⟨_, rfl⟩
  rw [← hmb, ← hms]
  have HMB := Lib.hid hmb
  clear hmb hms
  have HBw3 := Lib.hid (HBw2.out.trans (hb.mono HBw2.out.size))
  have HN3 := Lib.hid (HN2.out.later hb.size (fun k h _ => hb.block k h)).low9
  clear hb HN2
  have q9 := (HBw3.out.block B (lt_of_block HJR.out)).trans HJR.out
  have c0 : w3.cell? ⟨B, 0, none⟩ = some (.slice ao nb cap) := by rw [cell_of_row _ _ _ _ _ _ q9]; rfl
  have c1 : w3.cell? ⟨B, 1, none⟩ = some (.int .i64 fl) := by rw [cell_of_row _ _ _ _ _ _ q9]; rfl
  have c2 : w3.cell? ⟨B, 2, none⟩ = some (.int .i64 fh) := by rw [cell_of_row _ _ _ _ _ _ q9]; rfl
  have c3 : w3.cell? ⟨B, 3, none⟩ = some (.slice ao2 nw cap2) := by rw [cell_of_row _ _ _ _ _ _ q9]; rfl
  clear q9
  go_wp2_with fail
  have hc := Rounds_any j (.slice ao nb cap) (.slice ao2 nw cap2) w3 (HBS.out.later HBw3.out.size (fun k h1 _ => HBw3.out.block k h1)).low9 (HWS.out.later HBw3.out.size (fun k h1 _ => HBw3.out.block k h1)).low9 (HTZ.out.below HBw3.out h1z)
  rw [HJV.out] at hc
  refine hc.mono ?_
  rintro e w4 ⟨v4, rfl, hn4, hb⟩
  clear hc c0 c1 c2 c3
  dsimp only at hn4 ⊢
  obtain ⟨re, hre⟩ : ∃ y, y = (roundsD j).2 := ⟨_, rfl⟩
  obtain ⟨nq, hnq⟩ : ∃ y, y = (roundsD j).1.length := ⟨_, rfl⟩
  rw [← hre]
  obtain ⟨a27, c27, h27, _⟩ := id hn4
  rw [List.length_map, ← hnq] at h27
  subst h27
  have HQN := Lib.hid (And.intro hnq hre)
  have HQ4 := Lib.hid hn4.low9
  have HBw4 := Lib.hid (HBw3.out.trans (hb.mono HBw3.out.size))
  have HN4 := Lib.hid (HN3.out.later hb.size (fun k h _ => hb.block k h)).low9
  clear hb hn4 HN3 hnq hre
  have q9 := (HBw4.out.block B (lt_of_block HJR.out)).trans HJR.out
  have c0 : w4.cell? ⟨B, 0, none⟩ = some (.slice ao nb cap) := by rw [cell_of_row _ _ _ _ _ _ q9]; rfl
  have c1 : w4.cell? ⟨B, 1, none⟩ = some (.int .i64 fl) := by rw [cell_of_row _ _ _ _ _ _ q9]; rfl
  have c2 : w4.cell? ⟨B, 2, none⟩ = some (.int .i64 fh) := by rw [cell_of_row _ _ _ _ _ _ q9]; rfl
  have c3 : w4.cell? ⟨B, 3, none⟩ = some (.slice ao2 nw cap2) := by rw [cell_of_row _ _ _ _ _ _ q9]; rfl
  clear q9
  go_wp2_with fail
  have hc := Lend_any j (.slice ao nb cap) (.slice ao2 nw cap2) w4 (HBS.out.later HBw4.out.size (fun k h1 _ => HBw4.out.block k h1)).low9 (HWS.out.later HBw4.out.size (fun k h1 _ => HBw4.out.block k h1)).low9 (HTZ.out.below HBw4.out h1z)
  rw [HJV.out] at hc
  refine hc.mono ?_
  rintro e w5 ⟨rfl, hb⟩
  clear hc c0 c1 c2 c3
  dsimp only
  obtain ⟨l1, hl1⟩ : ∃ y, y = (lendD j).1 := ⟨_, rfl⟩
  obtain ⟨l2, hl2⟩ : ∃ y, y = (lendD j).2 := ⟨_, rfl⟩
  rw [← hl1, ← hl2]
  have HLE := Lib.hid (And.intro hl1 hl2)
  clear hl1 hl2
  have HBw5 := Lib.hid (HBw4.out.trans (hb.mono HBw4.out.size))
  have HN5 := Lib.hid (HN4.out.later hb.size (fun k h _ => hb.block k h)).low9
  have HQ5 := Lib.hid (HQ4.out.later hb.size (fun k h _ => hb.block k h)).low9
  have H25 := Lib.hid (H20.out.later HBw5.out.size (fun k h _ => HBw5.out.block k h)).low9
  clear hb HN4 HQ4
  go_wp2_with fail
  refine (r12ints_any ((planD j).1.map fun s : Nat => (s : Int)) ((planD j).1.map fun s : Nat => (s : Int)) (.slice a22 np c22) (.slice a20 np c20) _ _ (by rw [List.length_map]; have := HPS.out.1; omega) (by rw [List.length_map]; have := HPS.out.1; omega) w5 HN5.out H25.out).mono ?_
  rintro e w6 ⟨rfl, hb⟩
  dsimp only
  rw [decide_eq_true rfl]
  have HBw6 := Lib.hid (HBw5.out.trans (hb.mono HBw5.out.size))
  have HQ6 := Lib.hid (HQ5.out.later hb.size (fun k h _ => hb.block k h)).low9
  have H26 := Lib.hid (H25.out.later hb.size (fun k h _ => hb.block k h)).low9
  clear hb HN5 HQ5 H25
  go_wp2_with fail
  have hb := HBw6.out
  exact jm_k j z B gx gy fb nb nw nx mx np nq cap cap2 kx kw ky k14 k15 c20 c27 ao ao2 ax aw ay a14 a15 a20 a27 fl fh pe mb re l1 l2 w6 HV.out ((hb.block _ (lt_of_block HJR.out)).trans HJR.out) ((hb.block _ (lt_of_block HXR.out)).trans HXR.out) ((hb.block _ (lt_of_block HYR.out)).trans HYR.out) ((hb.block _ (lt_of_block HFR.out)).trans HFR.out)
    HNB.out HNW.out HNX.out.1 HNX.out.2 HFL.out.1 HFL.out.2 (HBS.out.later hb.size (fun k h1 _ => hb.block k h1)).low9 (HWS.out.later hb.size (fun k h1 _ => hb.block k h1)).low9 (HXS.out.1.later hb.size (fun k h1 _ => hb.block k h1)).low9 (HXS.out.2.later hb.size (fun k h1 _ => hb.block k h1)).low9 (HYS.out.later hb.size (fun k h1 _ => hb.block k h1)).low9
    (H14.out.1.later hb.size (fun k h1 _ => hb.block k h1)).low9 (H14.out.2.later hb.size (fun k h1 _ => hb.block k h1)).low9 HPN.out H26.out HQN.out.1 HQ6.out HPE.out HMB.out HQN.out.2 HLE.out.1 HLE.out.2 HTO.out (HTZ.out.below hb h1z) R (fun w' h => HRR.out w' (hb.trans (h.mono hb.size))) _ _ _ _ _ _ _ _ _ _ _ _ _ _ _ _ _ _ _ _ _ _ _ _ _ _ _ _ _ _ _ _ _ _ _ _ _ _ _ _ _ _ _ _ _ _ _ _ _ _ _ _ _ _ _ _ _ _ _ _ _ _ _ _ _ _ _ _ _ _ _ _ _ _ _ _ _ _ _ _ _ _ _ _ _ _ _ _ _ _ _ _ _ _ _ _ _ _ _ _ _ _ _ _ _ _ _ _ _ _ _ _ _ _ _ _ _ _ _ _ _ _ _ _ _ _ _ _ _ _ _ _ _ _ _ _ _ _ _ _ _ _ _ _ _ _ _ _ _ _ _ _ _ _ _ _ _ _ _ _ _ _ _
end Go.Proofs.YtbmfphiecllggaaDoor

/- JobMore, walked: the last part, from the copies on. -/
namespace Go.Proofs.YtbmfphiecllggaaDoor
set_option linter.unusedVariables false
set_option linter.unusedSimpArgs false
open Go.RowKit Go.Shelf
attribute [local go_sem] Oper.semAt_some
set_option maxRecDepth 100000 in
set_option maxHeartbeats 8000000 in
theorem jm_h (j z : JobD) (B gx gy nb nw nx mx cap cap2 kx kw ky k14 k15 : Nat) (ao ao2 ax aw ay a14 a15 : Option Addr) (fl fh : Int) (w : World) (hv : validJb j = true)
    (hB : w.heap[B]? = some (.cells #[.slice ao nb cap, .int .i64 fl, .int .i64 fh, .slice ao2 nw cap2] 28 (0, 0)))
    (hX : w.heap[gx]? = some (.cells #[.slice ax nx kx, .int .i64 fl, .int .i64 fh, .slice aw mx kw] 28 (0, 0)))
    (hY : w.heap[gy]? = some (.cells #[.slice ao nb cap, .int .i64 fl, .int .i64 fh, .slice ay nw ky] 28 (0, 0)))
    (hnb : nb = j.st.bs.length) (hnw : nw = j.ws.length) (hnx : nx = z.st.bs.length) (hmx : mx = z.ws.length) (hfl : j.st.film = (fl, fh)) (hfz : z.st.film = (fl, fh))
    (hbs : SpansAt w (.slice ao nb cap) j.st.bs (fun k => k < w.heap.size)) (hws : SpansAt w (.slice ao2 nw cap2) j.ws (fun k => k < w.heap.size))
    (hxb : SpansAt w (.slice ax nx kx) z.st.bs (fun k => k < w.heap.size)) (hxw : SpansAt w (.slice aw mx kw) z.ws (fun k => k < w.heap.size)) (hyw : SpansAt w (.slice ay nw ky) j.ws.reverse (fun k => k < w.heap.size))
    (h14 : SpansAt w (.slice a14 nb k14) j.st.bs (fun k => k < w.heap.size)) (h15 : SpansAt w (.slice a15 nw k15) j.ws (fun k => k < w.heap.size))
    (hto : ToJ j z) (htz : TabZ w) (R : Ending → World → Prop) (hR : ∀ w', Below w.heap.size w w' → R (.returned (.bool true)) w') (u0 u1 u2 u3 u5 u12 u13 u44 u45 u46 u47 u48 u49 u50 u51 u52 u53 u54 u55 u56 u57 u58 u59 u60 u61 u62 u63 u64 u65 u66 u67 u68 u69 u70 u71 u72 u73 u74 u75 u76 u77 u78 u79 u80 u81 u82 u83 u84 u85 u86 u87 u88 u89 u90 u91 u92 u93 u94 u95 u96 u97 u98 u99 u100 u101 u102 u103 u104 u105 u106 u107 u108 u109 u110 u111 u112 u113 u114 u115 u116 u117 u118 u119 u120 u121 u122 u123 u124 u125 u126 u127 u128 u129 u130 u131 u132 u133 u134 u135 u136 u137 : Value) :
    Code.wp Tryd.prog (moreM 8) (bodyPost Tryd.prog Tryd.f10 R) ⟨#[u0, u1, u2, u3, .pointer (some ⟨B, 0, none⟩), u5, undef, undef, .bool false, .int .i64 nw, .pointer (some ⟨gx, 0, none⟩), .pointer (some ⟨gy, 0, none⟩), u12, u13, .slice a14 nb k14, .slice a15 nw k15, undef, undef, undef, undef, undef, undef, undef, undef, undef, undef, undef, undef, undef, undef, undef, undef, undef, undef, undef, undef, undef, undef, undef, undef, undef, undef, undef, undef, u44, u45, u46, u47, u48, u49, u50, u51, u52, u53, u54, u55, u56, u57, u58, u59, u60, u61, u62, u63, u64, u65, u66, u67, u68, u69, u70, u71, u72, u73, u74, u75, u76, u77, u78, u79, u80, u81, u82, u83, u84, u85, u86, u87, u88, u89, u90, u91, u92, u93, u94, u95, u96, u97, u98, u99, u100, u101, u102, u103, u104, u105, u106, u107, u108, u109, u110, u111, u112, u113, u114, u115, u116, u117, u118, u119, u120, u121, u122, u123, u124, u125, u126, u127, u128, u129, u130, u131, u132, u133, u134, u135, u136, u137, undef, undef, undef, undef, undef, undef, undef, undef, undef, undef, undef, undef, undef, undef, undef, undef, undef, undef, undef, undef, undef, undef, undef, undef, undef, undef, undef, undef, undef, undef, undef, undef, undef, undef, undef, undef, undef, undef, undef, undef, undef, undef, undef, undef, undef, undef, undef, undef, undef, undef, undef, undef, undef, undef, undef, undef, undef, undef, undef, undef, undef, undef, undef, undef, undef, undef, undef, undef, undef, undef, undef, undef, undef, undef, undef, undef, undef, undef, undef, undef, undef, undef, undef, undef, undef, undef, undef, undef, undef, undef, undef, undef, undef, undef, undef, undef, undef, undef, undef, undef, undef, undef, undef, undef, undef, undef, undef, undef, undef, undef, undef, undef, undef, undef, undef, undef, undef, undef, undef, undef, undef, undef, undef, undef, undef, undef, undef, undef, undef, undef, undef, undef, undef, undef, undef, undef, undef, undef, undef, undef, undef, undef, undef, undef, undef, undef, undef, undef, undef, undef, undef, undef, undef, undef, undef, undef, undef, undef, undef, undef, undef, undef, undef, undef, undef, undef, undef, undef, undef, undef, undef, undef, undef, undef, undef, undef, undef, undef, undef, undef, undef, undef, undef, undef, undef, undef, undef, undef, undef, undef, undef, undef, undef, undef, undef, undef, undef, undef, undef, undef, undef, undef], []⟩ w := by
  conv => arg 2; whnf
  refine wp_cutM 5 (t := moreM 13) (by kernel_rfl) ?_
  simp only [cutM]
  have HV := Lib.hid hv
  have HJR := Lib.hid hB
  have HXR := Lib.hid hX
  have HYR := Lib.hid hY
  have HNB := Lib.hid hnb
  have HNW := Lib.hid hnw
  have HNX := Lib.hid (And.intro hnx hmx)
  have HBS := Lib.hid hbs
  have HWS := Lib.hid hws
  have HXS := Lib.hid (And.intro hxb hxw)
  have HYS := Lib.hid hyw
  have H14 := Lib.hid h14
  have H15 := Lib.hid h15
  have HTO := Lib.hid hto
  have HTZ := Lib.hid htz
  have h1z := htz.lt
  have HRR := Lib.hid hR
  have HLT := Lib.hid (And.intro (lt_of_block hB) (And.intro (lt_of_block hX) (lt_of_block hY)))
  have hnw4 : nw ≤ 4 := by rw [hnw]; exact (validJb_parts hv).2.1
  have hnb8 : nb ≤ 8 := by rw [hnb]; exact (validSt_parts (validJb_parts hv).1).1
  have HJV := Lib.hid (show jobV j (.slice ao nb cap) (.slice ao2 nw cap2) = .agg #[.slice ao nb cap, .int .i64 fl, .int .i64 fh, .slice ao2 nw cap2] by unfold jobV; rw [hfl])
  have HXV := Lib.hid (show jobV z (.slice ax nx kx) (.slice aw mx kw) = .agg #[.slice ax nx kx, .int .i64 fl, .int .i64 fh, .slice aw mx kw] by unfold jobV; rw [hfz])
  have HYV := Lib.hid (show jobV ⟨j.st, j.ws.reverse⟩ (.slice ao nb cap) (.slice ay nw ky) = .agg #[.slice ao nb cap, .int .i64 fl, .int .i64 fh, .slice ay nw ky] by unfold jobV; rw [hfl])
  have HFL := Lib.hid (And.intro hfl hfz)
  clear hv hB hX hY hnb hnw hnx hmx hfl hfz hbs hws hxb hxw hyw h14 h15 hto htz hR
  go_upto_region 18 with fail
  obtain ⟨fb, hfb⟩ : ∃ y, y = w.heap.size := ⟨_, rfl⟩
  refine wp_name (fun W => W.heap[fb]? = some (.cells #[.func (.func 24) #[] #[]] 47 (0, 0)) ∧ Below w.heap.size w W) ⟨heap_alloc_at _ _ _ hfb, Below.alloc' _ _⟩ ?_
  rintro w2 ⟨hfr, hb⟩
  rw [← hfb]
  have HFB := Lib.hid hfr
  have HBw2 := Lib.hid hb
  clear hfb hfr hb
  have q9 := (HBw2.out.block B HLT.out.1).trans HJR.out
  have c0 : w2.cell? ⟨B, 0, none⟩ = some (.slice ao nb cap) := by rw [cell_of_row _ _ _ _ _ _ q9]; rfl
  have c1 : w2.cell? ⟨B, 1, none⟩ = some (.int .i64 fl) := by rw [cell_of_row _ _ _ _ _ _ q9]; rfl
  have c2 : w2.cell? ⟨B, 2, none⟩ = some (.int .i64 fh) := by rw [cell_of_row _ _ _ _ _ _ q9]; rfl
  have c3 : w2.cell? ⟨B, 3, none⟩ = some (.slice ao2 nw cap2) := by rw [cell_of_row _ _ _ _ _ _ q9]; rfl
  clear q9
  go_wp2_with fail
  have hc := Plan_own9 j (.slice ao nb cap) (.slice ao2 nw cap2) w2 (HBS.out.later HBw2.out.size (fun k h1 _ => HBw2.out.block k h1)).low9 (HWS.out.later HBw2.out.size (fun k h1 _ => HBw2.out.block k h1)).low9 (HTZ.out.below HBw2.out h1z)
  obtain ⟨⟨pl, pe⟩, hpd⟩ : ∃ y, y = planD j := ⟨_, rfl⟩
  unfold PlanO at hc
  rw [HJV.out, ← hpd] at hc
  refine hc.mono ?_
  rintro e w3 ⟨v, rfl, hpv, hal, hb⟩
  clear hc c0 c1 c2 c3
  dsimp only at hpv hal ⊢
  have hpl4 : pl.length ≤ 4 := by
    have := planD_len HV.out
    rw [← hpd] at this
    exact this
  obtain ⟨np, hnp⟩ : ∃ n, n = pl.length := ⟨_, rfl⟩
  rw [← hnp] at hpl4 hal
  obtain ⟨ap, cp, hve, _⟩ := id hpv
  rw [List.length_map, ← hnp] at hve
  subst hve
  have HPD := Lib.hid (And.intro hpd hnp)
  have HPV3 := Lib.hid hpv
  have HAL := Lib.hid hal
  have HB23 := Lib.hid hb
  have HBw3 := Lib.hid (HBw2.out.trans (hb.mono HBw2.out.size))
  clear hpv hal hb hpd hnp
  go_wp2_with (first | (
    refine wpList_plain rfl fun _ hK => wp_copy_nuM (.tmp 144) (.tmp 145) rfl w3.heap.size w3.heap.size rfl (heap_alloc_at _ _ _ rfl) (Nat.le_refl _) ap cp np (pl.map fun s : Nat => (s : Int)) (by rw [List.length_map]; exact HPD.out.2) rfl _ (HPV3.out.later (by simp) (fun k h _ => hget_old _ _ _ (Nat.ne_of_lt h))) (by omega) (by simp) ?_
    intro v4 w4 ho4 hg4 _
    have hn4 := nums_of_own (l := pl.map fun s : Nat => (s : Int)) (by rw [List.length_map]; exact HPD.out.2) ho4
    obtain ⟨a20, c20, hv4, _⟩ := id hn4
    rw [List.length_map, ← HPD.out.2] at hv4
    subst hv4
    have hk4 : Keeps (fun k => w3.heap.size ≤ k) w3 w4 := ((Keeps.alloc _ _ _).mono (fun k h1 h2 => h2)).trans ((keeps_grown hg4).mono fun k _ e => by simp only [Option.some.injEq] at e; omega)
    have hb4 : Below w3.heap.size w3 w4 := hk4.below (Nat.le_refl _) (fun k h e => by omega)
    have H4 := Lib.hid (And.intro hn4 hb4)
    clear ho4 hg4 hn4 hk4 hb4
    refine hK _ _ ?_
    clear hK))
  have HN4 := Lib.hid H4.out.1.low9
  have HBw4 := Lib.hid (HBw3.out.trans (H4.out.2.mono HBw3.out.size))
  have hal4 : pl = [] ∨ ∃ (b : Nat) (row : Array Value), (.slice ap np cp : Value) = .slice (some ⟨b, 0, none⟩) np np ∧ w2.heap.size ≤ b ∧ b < w3.heap.size ∧ np ≤ row.size ∧ w4.heap[b]? = some (.cells row 3 (0, 0)) := by
    rcases HAL.out with h | ⟨b, row, h1, h2, h3⟩
    · exact .inl h
    · refine .inr ⟨b, row, h1, h2, lt_of_block h3, ?_, (H4.out.2.block b (lt_of_block h3)).trans h3⟩
      rcases Nat.eq_zero_or_pos np with h0 | h0
      · omega
      · obtain ⟨ao', cp', e1, _, _, e2⟩ := HPV3.out
        obtain ⟨b', off', e3, _, _, e4⟩ := e2 (np - 1) (by rw [List.length_map, ← HPD.out.2]; omega)
        have e5 : some (⟨b, 0, none⟩ : Addr) = ao' := by rw [h1] at e1; injection e1
        rw [e3] at e5
        injection e5 with e5
        injection e5 with e5 e6 _
        subst e5 e6
        rw [cell_of_row _ _ _ _ _ _ h3] at e4
        have := (Array.getElem?_eq_some_iff.1 e4).1
        omega
  have HAL4 := Lib.hid hal4
  clear hal4
  go_loopw [149] (fun iv wr => ∃ i : Nat, i ≤ np ∧ iv = .int .i64 i ∧ Keeps (fun k => w2.heap.size ≤ k ∧ k < w3.heap.size) w4 wr ∧ (pl = [] ∨ ∃ (b : Nat) (row : Array Value), (.slice ap np cp : Value) = .slice (some ⟨b, 0, none⟩) np np ∧ w2.heap.size ≤ b ∧ b < w3.heap.size ∧ np ≤ row.size ∧ wr.heap[b]? = some (.cells row 3 (0, 0)))) (fun iv _ => np - (intOf iv).toNat)
  case atStart => exact ⟨0, Nat.zero_le _, rfl, Keeps.refl _ _, HAL4.out⟩
  case round =>
    obtain ⟨i, hi, rfl, hk, hal⟩ := hrel
    have HK4 := Lib.hid hk
    clear hk
    by_cases hlt : i < np
    · have hw : IntKind.i64.wrap ((i : Int) + 1) = ((i + 1 : Nat) : Int) := by rw [IntWalk.i64_in _ (by omega)]; omega
      have hlti : (i : Int) < (np : Int) := by omega
      have hi0 : 0 ≤ (i : Int) := by omega
      rcases hal with h | ⟨b, row, h1, h2, h3, h4, h5⟩
      · exfalso
        have := HPD.out.2
        rw [h] at this
        simp at this
        omega
      · injection h1 with h1 _ h1c
        subst h1 h1c
        obtain ⟨u, hc⟩ : ∃ u, wr.cell? ⟨b, i, none⟩ = some u := ⟨row[i]'(by omega), by rw [cell_of_row _ _ _ _ _ _ h5, Array.getElem?_eq_getElem]⟩
        have hf : wr.frozen? ⟨b, i, none⟩ = false := frozen_of_row _ _ _ _ _ h5
        have HR5 := Lib.hid (And.intro h2 (And.intro h3 (And.intro h4 h5)))
        clear h2 h3 h4 h5
        go_wp2_with fail
        refine ⟨⟨i + 1, hlt, by push_cast; rfl, HK4.out.trans (Keeps.setCell _ _ _ ⟨HR5.out.1, HR5.out.2.1⟩), .inr ⟨b, _, rfl, HR5.out.1, HR5.out.2.1, ?_, cells_setM HR5.out.2.2.2⟩⟩, by simp [intOf]; omega⟩
        simp only [Array.size_setIfInBounds]
        exact HR5.out.2.2.1
    · have hin : np = i := by omega
      subst hin
      have hlti : ¬ (np : Int) < (np : Int) := by omega
      have HBwr := Lib.hid (HBw4.out.trans (HK4.out.below HBw4.out.size (fun k h e => by have := HBw2.out.size; omega)))
      have HN4r := Lib.hid (H4.out.1.later HK4.out.size (fun k h e => HK4.out.block k h (fun e2 => by omega))).low9
      have l2 := lt_of_block HFB.out
      have l3 : fb < w3.heap.size := Nat.lt_of_lt_of_le l2 HB23.out.size
      have HFr := Lib.hid ((HK4.out.block fb (Nat.lt_of_lt_of_le l3 H4.out.2.size) (fun e => by omega)).trans ((H4.out.2.block fb l3).trans ((HB23.out.block fb l2).trans HFB.out)))
      clear hal hlt HAL HAL4 HK4 l2 l3
      have HN4s := Lib.hid HN4r.low9
      go_wp2_with fail
      have hb := HBwr.out
      exact jm_i j z B gx gy fb nb nw nx mx np cap cap2 kx kw ky k14 k15 c20 ao ao2 ax aw ay a14 a15 a20 fl fh pe wr HV.out ((hb.block _ HLT.out.1).trans HJR.out) ((hb.block _ HLT.out.2.1).trans HXR.out) ((hb.block _ HLT.out.2.2).trans HYR.out) HFr.out
        HNB.out HNW.out HNX.out.1 HNX.out.2 HFL.out.1 HFL.out.2 (HBS.out.later hb.size (fun k h1 _ => hb.block k h1)).low9 (HWS.out.later hb.size (fun k h1 _ => hb.block k h1)).low9 (HXS.out.1.later hb.size (fun k h1 _ => hb.block k h1)).low9 (HXS.out.2.later hb.size (fun k h1 _ => hb.block k h1)).low9 (HYS.out.later hb.size (fun k h1 _ => hb.block k h1)).low9
        (H14.out.later hb.size (fun k h1 _ => hb.block k h1)).low9 (H15.out.later hb.size (fun k h1 _ => hb.block k h1)).low9 (by have := HPD.out; rw [this.2, ← this.1]) (by have := HPD.out.1; rw [← this]; exact HN4s.out) (by have := HPD.out.1; rw [← this]) HTO.out (HTZ.out.below hb h1z) R (fun w' h => HRR.out w' (hb.trans (h.mono hb.size))) _ _ _ _ _ _ _ _ _ _ _ _ _ _ _ _ _ _ _ _ _ _ _ _ _ _ _ _ _ _ _ _ _ _ _ _ _ _ _ _ _ _ _ _ _ _ _ _ _ _ _ _ _ _ _ _ _ _ _ _ _ _ _ _ _ _ _ _ _ _ _ _ _ _ _ _ _ _ _ _ _ _ _ _ _ _ _ _ _ _ _ _ _ _ _ _ _ _ _ _ _ _ _ _ _ _ _ _ _ _ _ _ _ _ _ _ _ _ _ _ _ _ _ _ _
end Go.Proofs.YtbmfphiecllggaaDoor
