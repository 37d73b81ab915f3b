/- Texts Me, Mc, Mb, Ma, Mz in one file; each begins with a word on what it proves. -/
import Derived.Test.YtlgeggekmdoceaaKy

/- PairMore: the walk, the loop over the readings (under way). -/
namespace Go.Proofs.Ytlgeggekmdoceaa
set_option linter.unusedVariables false
set_option linter.unusedSimpArgs false
open Go.RowKit Go.Shelf
attribute [local go_sem] Oper.semAt_some
/-- What a region that makes a reading reads: the readings so far, and a reading. -/
def S22 (g b : Nat) (zr : Value) (r : RdD) (W : World) : Prop :=
  W.cell? ⟨g, 5, none⟩ = some zr ∧ W.cell? ⟨b, 0, none⟩ = some (.int .i64 r.a) ∧ W.cell? ⟨b, 1, none⟩ = some (.int .i64 r.b) ∧ W.cell? ⟨b, 2, none⟩ = some (.int .i64 r.m) ∧ W.cell? ⟨b, 3, none⟩ = some (.int .i64 r.lo) ∧ W.cell? ⟨b, 4, none⟩ = some (.int .i64 r.hi)
theorem ReadsAt.elemsM {W0 : World} {ao : Option Addr} {cap : Nat} {rs : List RdD} {Rd : Nat → Prop} (h : ReadsAt W0 (.slice ao rs.length cap) rs Rd) (h0 : 0 < rs.length) :
    ∃ bb off, ao = some ⟨bb, off, none⟩ ∧ bb < W0.heap.size ∧ ∀ W' : World, W'.heap[bb]? = W0.heap[bb]? → ∀ i (hi : i < rs.length), W'.cell? ⟨bb, off + i * 5, none⟩ = some (.int .i64 rs[i].a) ∧ W'.cell? ⟨bb, off + i * 5 + 1, none⟩ = some (.int .i64 rs[i].b) ∧ W'.cell? ⟨bb, off + i * 5 + 2, none⟩ = some (.int .i64 rs[i].m) ∧ W'.cell? ⟨bb, off + i * 5 + 3, none⟩ = some (.int .i64 rs[i].lo) ∧ W'.cell? ⟨bb, off + i * 5 + 4, none⟩ = some (.int .i64 rs[i].hi) := by
  obtain ⟨ao', cap', e1, _, _, h4⟩ := h
  have e3 : ao = ao' := by injection e1
  obtain ⟨bb, off, e2, _, hb, _⟩ := h4 0 h0
  refine ⟨bb, off, e3.trans e2, hb, fun W' hbw i hi => ?_⟩
  obtain ⟨b2, o2, f2, _, hb2, f3, f4, f5, f6, f7⟩ := h4 i hi
  have f8 := Option.some.inj (e2.symm.trans f2)
  have fb : b2 = bb := (congrArg Addr.block f8).symm
  have fo : o2 = off := (congrArg (fun x : Addr => x.off) f8).symm
  subst fb fo
  exact ⟨(World.cell?_of_block (w := W0) (a := ⟨b2, o2 + i * 5, none⟩) hbw).trans f3, (World.cell?_of_block (w := W0) (a := ⟨b2, o2 + i * 5 + 1, none⟩) hbw).trans f4, (World.cell?_of_block (w := W0) (a := ⟨b2, o2 + i * 5 + 2, none⟩) hbw).trans f5, (World.cell?_of_block (w := W0) (a := ⟨b2, o2 + i * 5 + 3, none⟩) hbw).trans f6, (World.cell?_of_block (w := W0) (a := ⟨b2, o2 + i * 5 + 4, none⟩) hbw).trans f7⟩
def rowM (r : RdD) : Array Value := #[.int .i64 r.a, .int .i64 r.b, .int .i64 r.m, .int .i64 r.lo, .int .i64 r.hi]
/-- What holds when some readings have been gone through. -/
structure L2 (p : PairD) (q8 q9 q10 q11 q12 : Nat) (xv yv rv bsv zb tb ub : Value) (w0 w : World) (zr ur : Value) (j : Nat) (wr : World) : Prop where
  b5 : B5 q8 q9 q10 q11 q12 (pairRow p bsv xv) (pairRow p bsv yv) (pairRow p zb zr) (pairRow p tb rv) (pairRow p ub ur) wr
  oz : wr.ownsRow w.heap.size 44 5 zr j (((revP p).rs.take j).flatMap rdC)
  ou : wr.ownsRow w.heap.size 44 5 ur j (((negP p).rs.take j).flatMap rdC)
  zu : Dis zr ur
  st : ∀ k, k < w.heap.size → R5 q8 q9 q10 q11 q12 k → wr.heap[k]? = w.heap[k]?
  bl : Below w0.heap.size w0 wr
  sz : w.heap.size ≤ wr.heap.size
theorem revR_at (p : PairD) (j : Nat) (hj : j < (revP p).rs.length) (h : j < p.rs.length) : (revP p).rs[j] = revR p.bs.length (p.rs[p.rs.length - 1 - j]'(by omega)) := by simp [revP]
theorem negR_at (p : PairD) (j : Nat) (hj : j < (negP p).rs.length) (h : j < p.rs.length) : (negP p).rs[j] = swapR p.rs[j] := by simp [negP]
theorem at_eqR (l : List RdD) (a b : Nat) (h : a = b) (ha : a < l.length) (hb : b < l.length) : l[a] = l[b] := by subst h; rfl
set_option maxRecDepth 100000 in
set_option maxHeartbeats 8000000 in
theorem more_e (p : PairD) (r : RdD) (an bn mn kn B q8 q9 q10 q11 q12 iy cap2 cap3 capY : Nat) (bsv zb tb ub : Value) (ao2 ao3 aoY : Option Addr) (fits : Bool) (hfits : fits = p.bs.all fun s => decide (s.2 + (kn : Int) ≤ 20)) (w0 w : World) (hv : validB p = true) (hal : an < p.bs.length) (hbl : bn < p.bs.length) (hmn : mn < 61) (hkn : kn < 12)
    (hB : B < w0.heap.size) (hb0 : Below w0.heap.size w0 w) (hpa : PairAt w0 p bsv (.slice ao2 p.rs.length cap2)) (hr0 : w0.heap[B]? = some (.cells (pairRow p bsv (.slice ao2 p.rs.length cap2)) 27 (0, 0)))
    (hq : Q5 w0.heap.size w.heap.size q8 q9 q10 q11 q12) (h5 : B5 q8 q9 q10 q11 q12 (pairRow p bsv (.slice ao3 (p.rs.length + 1) cap3)) (pairRow p bsv (.slice aoY p.rs.length capY)) (pairRow p zb (.slice none 0 0)) (pairRow p tb (.slice ao2 p.rs.length cap2)) (pairRow p ub (.slice none 0 0)) w)
    (hxr : ReadsAt w (.slice ao3 (p.rs.length + 1) cap3) (p.rs ++ [r]) (R5 q8 q9 q10 q11 q12)) (hyr : ReadsAt w (.slice aoY p.rs.length capY) (narP p iy).rs (R5 q8 q9 q10 q11 q12))
    (hzs : SpansAt w zb (revP p).bs (R5 q8 q9 q10 q11 q12)) (hts : SpansAt w tb (shiftP p kn).bs (R5 q8 q9 q10 q11 q12)) (hus : SpansAt w ub (negP p).bs (R5 q8 q9 q10 q11 q12))
    (R : Ending → World → Prop) (hR : ∀ w', Below w0.heap.size w0 w' → R (.returned (.bool true)) w') (K1 K : Act → World → Prop)
    (hK1 : ∀ a w, Code.wp Try.prog (dropC 1 (headC 10)) (Exit.then K (bodyPost Try.prog Try.f12 R)) a w → K1 a w) (hK : ∀ a w, Code.wp Try.prog (moreC 11) (bodyPost Try.prog Try.f12 R) a w → K a w) (u0 u1 u2 u3 u4 u6 u21 u23 u24 u70 u71 u72 u73 u74 u75 u76 u77 u78 u79 u80 u81 u82 u83 u84 u85 u86 u87 u88 u89 u90 u91 u92 u93 u94 u95 u96 u97 u98 u99 u100 u101 u102 u103 u104 u105 u106 u107 u108 u109 u110 u111 u112 u113 u114 u115 u116 u117 u118 u119 u120 u121 u122 u123 u124 u125 u126 u127 u128 u129 u130 u131 u132 u133 u134 u135 u136 u137 u138 u139 u140 u141 u142 u143 u144 u145 u146 u147 u148 u149 u150 u151 u152 u153 u154 u155 u156 u157 u158 u159 u160 u161 u162 u163 u164 u165 u166 u167 u168 u169 u170 u171 u172 u173 u174 u175 u176 u177 u178 u179 u180 u181 u182 u183 u184 u185 u186 u187 u188 u189 u190 u191 u192 u193 u194 u195 : Value) :
    Code.wp Try.prog (headOf (headC 10)) (Exit.then K1 (Exit.then K (bodyPost Try.prog Try.f12 R))) ⟨#[u0, u1, u2, u3, u4, .pointer (some ⟨B, 0, none⟩), u6, undef, undef, undef, .bool false, .int .i64 p.bs.length, .int .i64 kn, .int .i64 an, .int .i64 bn, .int .i64 mn, .pointer (some ⟨q8, 0, none⟩), .pointer (some ⟨q9, 0, none⟩), .pointer (some ⟨q10, 0, none⟩), .pointer (some ⟨q11, 0, none⟩), .pointer (some ⟨q12, 0, none⟩), u21, .bool fits, u23, u24, undef, undef, undef, undef, undef, undef, undef, undef, undef, undef, undef, undef, undef, undef, undef, undef, undef, undef, undef, undef, undef, undef, undef, undef, undef, undef, undef, undef, undef, undef, undef, undef, undef, undef, undef, undef, undef, undef, undef, undef, undef, undef, undef, undef, undef, u70, u71, u72, u73, u74, u75, u76, u77, u78, u79, u80, u81, u82, u83, u84, u85, u86, u87, u88, u89, u90, u91, u92, u93, u94, u95, u96, u97, u98, u99, u100, u101, u102, u103, u104, u105, u106, u107, u108, u109, u110, u111, u112, u113, u114, u115, u116, u117, u118, u119, u120, u121, u122, u123, u124, u125, u126, u127, u128, u129, u130, u131, u132, u133, u134, u135, u136, u137, u138, u139, u140, u141, u142, u143, u144, u145, u146, u147, u148, u149, u150, u151, u152, u153, u154, u155, u156, u157, u158, u159, u160, u161, u162, u163, u164, u165, u166, u167, u168, u169, u170, u171, u172, u173, u174, u175, u176, u177, u178, u179, u180, u181, u182, u183, u184, u185, u186, u187, u188, u189, u190, u191, u192, u193, u194, u195, undef, undef, undef, undef, undef, undef, undef, undef, undef, undef, undef, undef, undef, undef, undef, undef, undef, undef, undef, undef, undef, undef, undef, undef, undef, undef, undef, undef, undef, undef, undef, undef, undef, undef, undef, undef, undef, undef, undef, undef, undef, undef, undef, undef, undef, undef, undef, undef, undef, undef, undef, undef, undef, undef, undef, undef, undef, undef, undef, undef, undef, undef, undef, undef, undef, undef, undef, undef, undef, undef, undef, undef, undef, undef, undef, undef, undef, undef, undef, undef, undef, undef, undef, undef, undef, undef, undef, undef, undef, undef, undef, undef, undef, undef, undef, undef, undef, undef, undef, undef, undef, undef, undef, undef, undef, undef, undef, undef, undef, undef, undef, undef, undef, undef, undef, undef, undef, undef, undef, undef, undef, undef, undef, undef, undef, undef, undef, undef, undef, undef, undef, undef, undef, undef, undef, undef, undef, undef, undef, undef, undef, undef, undef, undef, undef, undef, undef, undef, undef, undef, undef, undef, undef, undef, undef, undef, undef, undef, undef, undef, undef, undef, undef, undef, undef, undef, undef, undef, undef, undef, undef, undef, undef, undef, undef, undef, undef, undef, undef, undef, undef, undef, undef, undef, undef, undef, undef, undef, undef, undef, undef, undef, undef, undef, undef, undef, undef, undef, undef, undef, undef, undef, undef, undef, undef, undef, undef, undef, undef, undef, undef, undef, undef, undef, undef, undef, undef, undef, undef, undef, undef, undef, undef, undef, undef, undef, undef, undef, undef, undef, undef, undef, undef, undef, undef, undef, undef, undef, undef, undef, undef, undef, undef, undef, undef, undef, undef, undef, undef, undef, undef, undef, undef, undef, undef, undef, undef, undef, undef, undef, undef, undef, undef, undef, undef, undef, undef, undef, undef, undef, undef, undef, undef, undef, undef, undef, undef, undef, undef, undef, undef, undef, undef, undef, undef, undef, undef, undef, undef, undef, undef, undef, undef, undef, undef, undef, undef, undef, undef, undef, undef, undef, undef, undef, undef, undef, undef, undef, undef, undef, undef, undef, undef, undef, undef, undef, undef, undef, undef, undef, undef, undef, undef, undef, undef, undef, undef, undef, undef, undef, undef, undef, undef, undef, undef, undef, undef, undef, undef, undef, undef, undef, undef, undef, undef, undef, undef, undef, undef, undef, undef, undef, undef, undef, undef, undef, undef, undef, undef, undef, undef, undef, undef, undef, undef, undef, undef, undef, undef, undef, undef, undef, undef, undef, undef, undef, undef, undef, undef, undef, undef, undef, undef, undef, undef, undef, undef, undef, undef, undef, undef, undef, undef, undef, undef, undef, undef, undef, undef, undef, undef, undef, undef, undef, undef, undef, undef, undef, undef, undef, undef, undef, undef, undef, undef, undef, undef, undef, undef, undef, undef, undef, undef, undef, undef, undef, undef, undef, undef], []⟩ w := by
  conv => arg 2; whnf
  have hp := OkP.of p hv
  have hn1 := hp.n1
  have hn5 := hp.n5
  have hm8 := hp.m8
  have hge := hq.ge
  have hlt := hq.lt
  have r5 : w.cell? ⟨B, 5, none⟩ = some (.slice ao2 p.rs.length cap2) := cell_of_row _ _ 5 _ _ _ ((hb0.block _ hB).trans hr0)
  have hst : L2 p q8 q9 q10 q11 q12 (.slice ao3 (p.rs.length + 1) cap3) (.slice aoY p.rs.length capY) (.slice ao2 p.rs.length cap2) bsv zb tb ub w0 w (.slice none 0 0) (.slice none 0 0) 0 w :=
    ⟨h5, World.ownsRow_nil _ _ _ _, World.ownsRow_nil _ _ _ _, (fun k h => by cases h), fun _ _ _ => rfl, hb0, Nat.le_refl _⟩
  have HST := Lib.hid hst
  have HPA := Lib.hid hpa
  have HR0 := Lib.hid hr0
  have HQ := Lib.hid hq
  have HX := Lib.hid hxr
  have HY := Lib.hid hyr
  have HZS := Lib.hid hzs
  have HTS := Lib.hid hts
  have HUS := Lib.hid hus
  have HFI := Lib.hid hfits
  have h00 : w0.heap.size ≤ w.heap.size := hb0.size
  clear hst hpa hr0 hxr hyr h5 hb0 hzs hts hus hq hfits
  go_wp2_with fail
  conv => arg 2; whnf
  go_wp2_with fail
  clear r5
  go_loopw [199] (fun k wr => ∃ j : Nat, j ≤ p.rs.length ∧ k = .int .i64 j ∧ ∃ zr ur, L2 p q8 q9 q10 q11 q12 (.slice ao3 (p.rs.length + 1) cap3) (.slice aoY p.rs.length capY) (.slice ao2 p.rs.length cap2) bsv zb tb ub w0 w zr ur j wr) (fun k _ => p.rs.length - (intOf k).toNat)
  case atStart => exact ⟨0, by omega, rfl, _, _, HST.out⟩
  case round =>
    clear HST
    obtain ⟨j, hj, rfl, zr, ur, hst⟩ := hrel
    have HST := Lib.hid hst
    clear hst
    by_cases hlj : j < p.rs.length
    case neg =>
      have hd : decide ((j : Int) < (p.rs.length : Int)) = false := decide_eq_false (by omega)
      have hjn : j = p.rs.length := by omega
      have hz := readsAt_of_owns (l := (revP p).rs) (w := wr) (base := w.heap.size) (e := 44) (v := zr) (by
        have h1 := HST.out.oz
        rw [hjn, List.take_of_length_le (by rw [revP_rs]; exact Nat.le_refl _)] at h1
        rw [revP_rs]; exact h1)
      have hu := readsAt_of_owns (l := (negP p).rs) (w := wr) (base := w.heap.size) (e := 44) (v := ur) (by
        have h1 := HST.out.ou
        rw [hjn, List.take_of_length_le (by rw [negP_rs]; exact Nat.le_refl _)] at h1
        rw [negP_rs]; exact h1)
      have hsz := HST.out.sz
      have hxx := HX.out.later hsz (fun k hk hr => HST.out.st k hk hr)
      have hyy := HY.out.later hsz (fun k hk hr => HST.out.st k hk hr)
      have hzz := HZS.out.later hsz (fun k hk hr => HST.out.st k hk hr)
      have htt := HTS.out.later hsz (fun k hk hr => HST.out.st k hk hr)
      have huu := HUS.out.later hsz (fun k hk hr => HST.out.st k hk hr)
      have hpw := HPA.out.later HST.out.bl
      go_upto_region 25 with fail
      refine more_d p r an bn mn kn B q8 q9 q10 q11 q12 iy cap2 cap3 capY bsv zb tb ub zr ur ao2 ao3 aoY fits HFI.out w0 wr hv hal hbl hmn hkn hB HST.out.bl HPA.out HR0.out HST.out.b5 (PairAt.of hpw.b hxx) (PairAt.of hpw.b hyy) (PairAt.of hzz hz) (PairAt.of htt hpw.r) (PairAt.of huu hu) R hR _ _ _ _ _ _ _ _ _ _ _ _ _ _ _ _ _ _ _ _ _ _ _ _ _ _ _ _ _ _ _ _ _ _ _ _ _ _ _ _ _ _ _ _ _ _ _ _ _ _ _ _ _ _ _ _ _ _ _ _ _ _ _ _ _ _ _ _ _ _ _ _ _ _ _ _ _ _ _ _ _ _ _ _ _ _ _ _ _ _ _ _ _ _ _ _ _ _ _ _ _ _ _ _ _ _ _ _ _ _ _ _ _ _ _ _ _ _ _ _ _ _ _ _ _ _ _ _ _ _ _ _ _ _ _ _ _ _ _ _ _ _ _ _ _ _ _ _ _ _ _ _ _ _ _ _ _ _ _ _ _ _ _ _ _ _ _ _ _ _ _ _ _ _ _ _ _ _ _ _ _ _ _ _ _ _ _ _ _ _ _ _ _ _ _ _ _ _ _
    have hd : decide ((j : Int) < (p.rs.length : Int)) = true := decide_eq_true (by omega)
    obtain ⟨rb, roff, hao2, hrb, hre⟩ := ReadsAt.elemsM HPA.out.r (by omega)
    subst hao2
    obtain ⟨ro, hro⟩ : ∃ x, x = p.rs[j] := ⟨_, rfl⟩
    obtain ⟨e, he⟩ : ∃ e, e = p.rs.length - 1 - j := ⟨_, rfl⟩
    have hel : e < p.rs.length := by omega
    obtain ⟨rk, hrk⟩ : ∃ x, x = p.rs[e] := ⟨_, rfl⟩
    have hrkb := hp.rs _ (List.getElem_mem hel)
    rw [← hrk] at hrkb
    have hsz := HST.out.sz
    have hrbw : ∀ W, Below wr.heap.size wr W → W.heap[rb]? = w0.heap[rb]? := fun W h => (h.block rb (by omega)).trans (HST.out.bl.block _ hrb)
    obtain ⟨o0, o1, o2, o3, o4⟩ := hre wr (HST.out.bl.block _ hrb) j hlj
    have hk0 : ∀ o, (wr.alloc o).cell? ⟨rb, roff + e * 5, none⟩ = some (.int .i64 rk.a) ∧ (wr.alloc o).cell? ⟨rb, roff + e * 5 + 1, none⟩ = some (.int .i64 rk.b) ∧ (wr.alloc o).cell? ⟨rb, roff + e * 5 + 2, none⟩ = some (.int .i64 rk.m) ∧ (wr.alloc o).cell? ⟨rb, roff + e * 5 + 3, none⟩ = some (.int .i64 rk.lo) ∧ (wr.alloc o).cell? ⟨rb, roff + e * 5 + 4, none⟩ = some (.int .i64 rk.hi) := fun o => by
      have h1 := hre (wr.alloc o) (hrbw _ ((Below.refl _ _).alloc (Nat.le_refl _) _)) e hel
      rw [← hrk] at h1; exact h1
    have b5 : ∀ o, (wr.alloc o).cell? ⟨B, 5, none⟩ = some (.slice (some ⟨rb, roff, none⟩) p.rs.length cap2) := fun o => cell_of_row _ _ 5 _ _ _ ((Below.heap_alloc _ _ _ (by omega)).trans ((HST.out.bl.block _ hB).trans HR0.out))
    have k0 := fun o => (hk0 o).1
    have k1 := fun o => (hk0 o).2.1
    have k2 := fun o => (hk0 o).2.2.1
    have k3 := fun o => (hk0 o).2.2.2.1
    have k4 := fun o => (hk0 o).2.2.2.2
    rw [← hro] at o0 o1 o2 o3 o4
    have hw1 : IntKind.i64.wrap ((p.rs.length : Int) - 1) = (p.rs.length : Int) - 1 := IntWalk.i64_in _ (by omega)
    have hw2 : IntKind.i64.wrap ((p.rs.length : Int) - 1 - (j : Int)) = (e : Int) := by rw [IntWalk.i64_in _ (by omega)]; omega
    have hw3 : IntKind.i64.wrap ((p.bs.length : Int) - 1) = (p.bs.length : Int) - 1 := IntWalk.i64_in _ (by omega)
    have hw4 : IntKind.i64.wrap ((p.bs.length : Int) - 1 - rk.a) = (p.bs.length : Int) - 1 - rk.a := IntWalk.i64_in _ (by omega)
    have hw5 : IntKind.i64.wrap ((p.bs.length : Int) - 1 - rk.b) = (p.bs.length : Int) - 1 - rk.b := IntWalk.i64_in _ (by omega)
    have hwj : IntKind.i64.wrap ((j : Int) + 1) = ((j + 1 : Nat) : Int) := by rw [IntWalk.i64_in _ (by omega)]; omega
    have HE := Lib.hid he
    have HRO := Lib.hid hro
    have HRK := Lib.hid hrk
    have HRE := Lib.hid hre
    clear he hro hrk hre hk0 hrkb hrbw
    go_wp2_with fail
    obtain ⟨A, hA⟩ : ∃ A, A = (wr.alloc (.cells (rowM ro) 44)).alloc (.cells (rowM rk) 44) := ⟨_, rfl⟩
    have hAb : Below wr.heap.size wr A := by rw [hA]; exact ((Below.refl _ _).alloc (Nat.le_refl _) _).alloc (by simp) _
    have hsA : A.heap.size = wr.heap.size + 2 := by rw [hA]; simp
    have hbo : A.heap[wr.heap.size]? = some (.cells (rowM ro) 44 (0, 0)) := by rw [hA]; exact (Below.heap_alloc (wr.alloc _) _ _ (by simp)).trans (heap_alloc_at _ _ _ rfl)
    have hbk : A.heap[wr.heap.size + 1]? = some (.cells (rowM rk) 44 (0, 0)) := by rw [hA]; exact heap_alloc_at _ _ _ (by simp)
    unfold rowM at hA
    rw [← hA]
    have hb5A := HST.out.b5.later HQ.out (hAb.mono HST.out.sz)
    have hne : ∀ g, (g < w.heap.size ∨ wr.heap.size ≤ g) → zr.ownBlock ≠ some g ∧ ur.ownBlock ≠ some g := fun g hg => by
      refine ⟨fun h => ?_, fun h => ?_⟩
      · have h1 := own_base HST.out.oz _ h; have h2 := HST.out.oz.lt _ h; omega
      · have h1 := own_base HST.out.ou _ h; have h2 := HST.out.ou.lt _ h; omega
    have hold : ∀ W, Old3 zr ur ur A W → ∀ g, (g < w.heap.size ∨ g = wr.heap.size ∨ g = wr.heap.size + 1) → W.heap[g]? = A.heap[g]? := fun W h g hg => by
      have h1 := hne g (by omega)
      exact h.2 g (by omega) h1.1 h1.2 h1.2
    have hS22 : ∀ W, Old3 zr ur ur A W → S22 q10 (wr.heap.size + 1) zr rk W := fun W h => by
      have hk := (hold W h (wr.heap.size + 1) (by omega)).trans hbk
      exact ⟨cell_of_row _ _ 5 _ _ _ ((hold W h q10 (by omega)).trans hb5A.b10), cell_of_row _ _ 0 _ _ _ hk, cell_of_row _ _ 1 _ _ _ hk, cell_of_row _ _ 2 _ _ _ hk, cell_of_row _ _ 3 _ _ _ hk, cell_of_row _ _ 4 _ _ _ hk⟩
    have HSA := Lib.hid hsA
    have HOLD := Lib.hid hold
    have HS22 := Lib.hid hS22
    have HB5A := Lib.hid hb5A
    have HBO := Lib.hid hbo
    have old0 : Old3 zr ur ur A A.drew := (Old3.refl _ _ _ _).below (Below.refl _ _).drew
    have HOL := Lib.hid old0
    have HOZ := Lib.hid (show A.drew.ownsRow _ _ _ _ _ _ from own_below HST.out.oz hAb.drew)
    have HOU := Lib.hid (show A.drew.ownsRow _ _ _ _ _ _ from own_below HST.out.ou hAb.drew)
    have HBL := Lib.hid (HST.out.bl.trans ((hAb.drew).mono HST.out.bl.size))
    have HSZ : Hid (w.heap.size ≤ A.drew.heap.size) := Nat.le_trans HST.out.sz (by show wr.heap.size ≤ A.heap.size; omega)
    have hS := hS22 _ old0
    clear hold hS22 hb5A old0 hA hbo hbk hne hsA o0 o1 o2 o3 o4 k0 k1 k2 k3 k4 b5 hw1 hw2
    refine wp_region_tail 23 #[false, false, false, false, false, false, false, false, false, false, false, false, false, false, false, false, false, false, false, false, false, false, false, true, true] (S22 q10 (wr.heap.size + 1) zr rk) (by kernel_rfl) (by kernel_rfl) (by rfl) hS fun hS => ?_
    refine wpAnyH_take (i := 0) (v := ?_) rfl (by kernel_rfl) (by kernel_rfl) (by kernel_rfl) (fun _ _ _ h => h) (Or.inl ⟨by rfl, ?_⟩) hS ?_
    rotate_left
    · (intro W hSw; obtain ⟨hq1, hq2, hq3, hq4, hq5, hq6⟩ := hSw; go_simp; try with_reducible rfl)
    try simp only [List.getElem_toArray, List.getElem_cons_succ, List.getElem_cons_zero, Act.put, List.setIfInBounds_toArray, List.set_cons_zero, List.set_cons_succ]
    refine wpAnyH_take (i := 1) (v := ?_) rfl (by kernel_rfl) (by kernel_rfl) (by kernel_rfl) (fun _ _ _ h => h) (Or.inl ⟨by rfl, ?_⟩) hS ?_
    rotate_left
    · (intro W hSw; obtain ⟨hq1, hq2, hq3, hq4, hq5, hq6⟩ := hSw; go_simp; try with_reducible rfl)
    try simp only [List.getElem_toArray, List.getElem_cons_succ, List.getElem_cons_zero, Act.put, List.setIfInBounds_toArray, List.set_cons_zero, List.set_cons_succ]
    refine wpAnyH_take (i := 2) (v := ?_) rfl (by kernel_rfl) (by kernel_rfl) (by kernel_rfl) (fun _ _ _ h => h) (Or.inl ⟨by rfl, ?_⟩) hS ?_
    rotate_left
    · (intro W hSw; obtain ⟨hq1, hq2, hq3, hq4, hq5, hq6⟩ := hSw; go_simp; try with_reducible rfl)
    try simp only [List.getElem_toArray, List.getElem_cons_succ, List.getElem_cons_zero, Act.put, List.setIfInBounds_toArray, List.set_cons_zero, List.set_cons_succ]
    refine wpAnyH_take (i := 3) (v := ?_) rfl (by kernel_rfl) (by kernel_rfl) (by kernel_rfl) (fun _ _ _ h => h) (Or.inl ⟨by rfl, ?_⟩) hS ?_
    rotate_left
    · (intro W hSw; obtain ⟨hq1, hq2, hq3, hq4, hq5, hq6⟩ := hSw; go_simp; try with_reducible rfl)
    try simp only [List.getElem_toArray, List.getElem_cons_succ, List.getElem_cons_zero, Act.put, List.setIfInBounds_toArray, List.set_cons_zero, List.set_cons_succ]
    refine wpAnyH_take (i := 4) (v := ?_) rfl (by kernel_rfl) (by kernel_rfl) (by kernel_rfl) (fun _ _ _ h => h) (Or.inl ⟨by rfl, ?_⟩) hS ?_
    rotate_left
    · (intro W hSw; obtain ⟨hq1, hq2, hq3, hq4, hq5, hq6⟩ := hSw; go_simp; try with_reducible rfl)
    try simp only [List.getElem_toArray, List.getElem_cons_succ, List.getElem_cons_zero, Act.put, List.setIfInBounds_toArray, List.set_cons_zero, List.set_cons_succ]
    refine wpAnyH_take (i := 5) (v := ?_) rfl (by kernel_rfl) (by kernel_rfl) (by kernel_rfl) (fun _ _ _ h => h) (Or.inl ⟨by rfl, ?_⟩) hS ?_
    rotate_left
    · (intro W hSw; obtain ⟨hq1, hq2, hq3, hq4, hq5, hq6⟩ := hSw; go_simp; try with_reducible rfl)
    try simp only [List.getElem_toArray, List.getElem_cons_succ, List.getElem_cons_zero, Act.put, List.setIfInBounds_toArray, List.set_cons_zero, List.set_cons_succ]
    refine wpAnyH_take (i := 6) (v := ?_) rfl (by kernel_rfl) (by kernel_rfl) (by kernel_rfl) (fun _ _ _ h => h) (Or.inl ⟨by rfl, ?_⟩) hS ?_
    rotate_left
    · (intro W hSw; obtain ⟨hq1, hq2, hq3, hq4, hq5, hq6⟩ := hSw; go_simp; try with_reducible rfl)
    try simp only [List.getElem_toArray, List.getElem_cons_succ, List.getElem_cons_zero, Act.put, List.setIfInBounds_toArray, List.set_cons_zero, List.set_cons_succ]
    refine wpAnyH_take (i := 7) (v := ?_) rfl (by kernel_rfl) (by kernel_rfl) (by kernel_rfl) (fun _ _ _ h => h) (Or.inl ⟨by rfl, ?_⟩) hS ?_
    rotate_left
    · (intro W hSw; obtain ⟨hq1, hq2, hq3, hq4, hq5, hq6⟩ := hSw; go_simp; try with_reducible rfl)
    try simp only [List.getElem_toArray, List.getElem_cons_succ, List.getElem_cons_zero, Act.put, List.setIfInBounds_toArray, List.set_cons_zero, List.set_cons_succ]
    refine wpAnyH_take (i := 8) (v := ?_) rfl (by kernel_rfl) (by kernel_rfl) (by kernel_rfl) (fun _ _ _ h => h) (Or.inl ⟨by rfl, ?_⟩) hS ?_
    rotate_left
    · (intro W hSw; obtain ⟨hq1, hq2, hq3, hq4, hq5, hq6⟩ := hSw; go_simp; try with_reducible rfl)
    try simp only [List.getElem_toArray, List.getElem_cons_succ, List.getElem_cons_zero, Act.put, List.setIfInBounds_toArray, List.set_cons_zero, List.set_cons_succ]
    refine wpAnyH_take (i := 9) (v := ?_) rfl (by kernel_rfl) (by kernel_rfl) (by kernel_rfl) (fun _ _ _ h => h) (Or.inl ⟨by rfl, ?_⟩) hS ?_
    rotate_left
    · (intro W hSw; obtain ⟨hq1, hq2, hq3, hq4, hq5, hq6⟩ := hSw; go_simp; try with_reducible rfl)
    try simp only [List.getElem_toArray, List.getElem_cons_succ, List.getElem_cons_zero, Act.put, List.setIfInBounds_toArray, List.set_cons_zero, List.set_cons_succ]
    refine wpAnyH_take (i := 10) (v := ?_) rfl (by kernel_rfl) (by kernel_rfl) (by kernel_rfl) (fun _ _ _ h => h) (Or.inl ⟨by rfl, ?_⟩) hS ?_
    rotate_left
    · (intro W hSw; obtain ⟨hq1, hq2, hq3, hq4, hq5, hq6⟩ := hSw; go_simp; try with_reducible rfl)
    try simp only [List.getElem_toArray, List.getElem_cons_succ, List.getElem_cons_zero, Act.put, List.setIfInBounds_toArray, List.set_cons_zero, List.set_cons_succ]
    refine wpAnyH_take (i := 11) (v := ?_) rfl (by kernel_rfl) (by kernel_rfl) (by kernel_rfl) (fun _ _ _ h => h) (Or.inl ⟨by rfl, ?_⟩) hS ?_
    rotate_left
    · (intro W hSw; obtain ⟨hq1, hq2, hq3, hq4, hq5, hq6⟩ := hSw; go_simp; try with_reducible rfl)
    try simp only [List.getElem_toArray, List.getElem_cons_succ, List.getElem_cons_zero, Act.put, List.setIfInBounds_toArray, List.set_cons_zero, List.set_cons_succ]
    refine wpAnyH_take (i := 12) (v := ?_) rfl (by kernel_rfl) (by kernel_rfl) (by kernel_rfl) (fun _ _ _ h => h) (Or.inl ⟨by rfl, ?_⟩) hS ?_
    rotate_left
    · (intro W hSw; obtain ⟨hq1, hq2, hq3, hq4, hq5, hq6⟩ := hSw; go_simp; try with_reducible rfl)
    try simp only [List.getElem_toArray, List.getElem_cons_succ, List.getElem_cons_zero, Act.put, List.setIfInBounds_toArray, List.set_cons_zero, List.set_cons_succ]
    refine wpAnyH_take (i := 13) (v := ?_) rfl (by kernel_rfl) (by kernel_rfl) (by kernel_rfl) (fun _ _ _ h => h) (Or.inl ⟨by rfl, ?_⟩) hS ?_
    rotate_left
    · (intro W hSw; obtain ⟨hq1, hq2, hq3, hq4, hq5, hq6⟩ := hSw; go_simp; try with_reducible rfl)
    try simp only [List.getElem_toArray, List.getElem_cons_succ, List.getElem_cons_zero, Act.put, List.setIfInBounds_toArray, List.set_cons_zero, List.set_cons_succ]
    refine wpAnyH_take (i := 14) (v := ?_) rfl (by kernel_rfl) (by kernel_rfl) (by kernel_rfl) (fun _ _ _ h => h) (Or.inl ⟨by rfl, ?_⟩) hS ?_
    rotate_left
    · (intro W hSw; obtain ⟨hq1, hq2, hq3, hq4, hq5, hq6⟩ := hSw; go_simp; try with_reducible rfl)
    try simp only [List.getElem_toArray, List.getElem_cons_succ, List.getElem_cons_zero, Act.put, List.setIfInBounds_toArray, List.set_cons_zero, List.set_cons_succ]
    refine wpAnyH_take (i := 15) (v := ?_) rfl (by kernel_rfl) (by kernel_rfl) (by kernel_rfl) (fun _ _ _ h => h) (Or.inl ⟨by rfl, ?_⟩) hS ?_
    rotate_left
    · (intro W hSw; obtain ⟨hq1, hq2, hq3, hq4, hq5, hq6⟩ := hSw; go_simp; try with_reducible rfl)
    try simp only [List.getElem_toArray, List.getElem_cons_succ, List.getElem_cons_zero, Act.put, List.setIfInBounds_toArray, List.set_cons_zero, List.set_cons_succ]
    refine wpAnyH_take (i := 16) (v := ?_) rfl (by kernel_rfl) (by kernel_rfl) (by kernel_rfl) (fun _ _ _ h => h) (Or.inl ⟨by rfl, ?_⟩) hS ?_
    rotate_left
    · (intro W hSw; obtain ⟨hq1, hq2, hq3, hq4, hq5, hq6⟩ := hSw; go_simp; try with_reducible rfl)
    try simp only [List.getElem_toArray, List.getElem_cons_succ, List.getElem_cons_zero, Act.put, List.setIfInBounds_toArray, List.set_cons_zero, List.set_cons_succ]
    refine wpAnyH_take (i := 17) (v := ?_) rfl (by kernel_rfl) (by kernel_rfl) (by kernel_rfl) (fun _ _ _ h => h) (Or.inl ⟨by rfl, ?_⟩) hS ?_
    rotate_left
    · (intro W hSw; obtain ⟨hq1, hq2, hq3, hq4, hq5, hq6⟩ := hSw; go_simp; try with_reducible rfl)
    try simp only [List.getElem_toArray, List.getElem_cons_succ, List.getElem_cons_zero, Act.put, List.setIfInBounds_toArray, List.set_cons_zero, List.set_cons_succ]
    refine wpAnyH_take (i := 18) (v := ?_) rfl (by kernel_rfl) (by kernel_rfl) (by kernel_rfl) (fun _ _ _ h => h) (Or.inl ⟨by rfl, ?_⟩) hS ?_
    rotate_left
    · (intro W hSw; obtain ⟨hq1, hq2, hq3, hq4, hq5, hq6⟩ := hSw; go_simp; try with_reducible rfl)
    try simp only [List.getElem_toArray, List.getElem_cons_succ, List.getElem_cons_zero, Act.put, List.setIfInBounds_toArray, List.set_cons_zero, List.set_cons_succ]
    refine wpAnyH_take (i := 19) (v := ?_) rfl (by kernel_rfl) (by kernel_rfl) (by kernel_rfl) (fun _ _ _ h => h) (Or.inl ⟨by rfl, ?_⟩) hS ?_
    rotate_left
    · (intro W hSw; obtain ⟨hq1, hq2, hq3, hq4, hq5, hq6⟩ := hSw; go_simp; try with_reducible rfl)
    try simp only [List.getElem_toArray, List.getElem_cons_succ, List.getElem_cons_zero, Act.put, List.setIfInBounds_toArray, List.set_cons_zero, List.set_cons_succ]
    refine wpAnyH_ready (rs := [20]) (by kernel_rfl) (by simp) ?_
    refine AllReadyH.cons rfl (fun K hK => ?_) AllReadyH.nil
    go_simp
    go_at_call 32
    refine (lread_any ⟨(p.bs.length : Int) - 1 - rk.a, (p.bs.length : Int) - 1 - rk.b, rk.m, rk.lo, rk.hi⟩ _).mono ?_
    rintro e' w20 ⟨rfl, hb⟩
    replace HOL := Lib.hid (HOL.out.below hb)
    replace HOZ := Lib.hid (own_below HOZ.out hb)
    replace HOU := Lib.hid (own_below HOU.out hb)
    replace HBL := Lib.hid (HBL.out.trans (hb.mono HBL.out.size))
    replace HSZ : Hid (w.heap.size ≤ w20.heap.size) := Nat.le_trans HSZ.out hb.size
    clear hb hS
    unfold readV
    refine hK.out _ _ (HS22.out _ HOL.out) (fun hS => ?_)
    clear hK K
    try simp only [List.getElem_toArray, List.getElem_cons_succ, List.getElem_cons_zero, Act.put, List.setIfInBounds_toArray, List.set_cons_zero, List.set_cons_succ]
    have HOL20 := HOL
    refine wpAnyH_ready (rs := [21]) (by kernel_rfl) (by simp) ?_
    refine AllReadyH.cons rfl (fun K hK => ?_) AllReadyH.nil
    go_simp
    refine hK.out _ _ (HS22.out _ (HOL.out.below ((Below.refl _ _).alloc (Nat.le_refl _) _))) (fun hS' => ?_)
    clear hK K hS
    replace HOL := Lib.hid (HOL.out.below ((Below.refl _ _).alloc (Nat.le_refl _) (.cells #[.int .i64 ((p.bs.length : Int) - 1 - rk.a), .int .i64 ((p.bs.length : Int) - 1 - rk.b), .int .i64 rk.m, .int .i64 rk.lo, .int .i64 rk.hi] 44)))
    replace HOZ := Lib.hid (HOZ.out.alloc (.cells #[.int .i64 ((p.bs.length : Int) - 1 - rk.a), .int .i64 ((p.bs.length : Int) - 1 - rk.b), .int .i64 rk.m, .int .i64 rk.lo, .int .i64 rk.hi] 44))
    replace HOU := Lib.hid (HOU.out.alloc (.cells #[.int .i64 ((p.bs.length : Int) - 1 - rk.a), .int .i64 ((p.bs.length : Int) - 1 - rk.b), .int .i64 rk.m, .int .i64 rk.lo, .int .i64 rk.hi] 44))
    replace HBL := Lib.hid (HBL.out.alloc HBL.out.size (.cells #[.int .i64 ((p.bs.length : Int) - 1 - rk.a), .int .i64 ((p.bs.length : Int) - 1 - rk.b), .int .i64 rk.m, .int .i64 rk.lo, .int .i64 rk.hi] 44))
    replace HSZ := Lib.hid (Nat.le_trans HSZ.out (((Below.refl _ _).alloc (Nat.le_refl _) (.cells #[.int .i64 ((p.bs.length : Int) - 1 - rk.a), .int .i64 ((p.bs.length : Int) - 1 - rk.b), .int .i64 rk.m, .int .i64 rk.lo, .int .i64 rk.hi] 44)).size))
    have hS := hS'
    clear hS'
    try simp only [List.getElem_toArray, List.getElem_cons_succ, List.getElem_cons_zero, Act.put, List.setIfInBounds_toArray, List.set_cons_zero, List.set_cons_succ]
    refine wpAnyH_ready (rs := [22]) (by kernel_rfl) (by simp) ?_
    refine AllReadyH.cons rfl (fun K hK => ?_) AllReadyH.nil
    rw [if_pos (by rfl)]
    refine wp_append_at (.tmp 215) (.tmp 235) 25 rfl w.heap.size 44 5 40 _ underReads infoRead rfl (by decide) zr j _ rfl HOZ.out _ 1 1 (rdC ⟨(p.bs.length : Int) - 1 - rk.a, (p.bs.length : Int) - 1 - rk.b, rk.m, rk.lo, rk.hi⟩) rfl rfl (news_block (cs := #[.int .i64 ((p.bs.length : Int) - 1 - rk.a), .int .i64 ((p.bs.length : Int) - 1 - rk.b), .int .i64 rk.m, .int .i64 rk.lo, .int .i64 rk.hi]) (t := 44) (fr := (0, 0)) (heap_alloc_at _ _ _ rfl)) (by simp [rdC, Value.oneCell']) (by omega) (by decide) (by have := HSZ.out; simp at this; simp; omega) ?_
    intro zr2 w22 hown1 hg1 hat1
    have hbl1 : Below w.heap.size _ w22 := (Below.refl _ _).grown hg1 (by have := HSZ.out; simp at this; simp; omega) (own_base HOZ.out)
    have HZU := Lib.hid ((HST.out.zu.symm.next hat1 (fun k h => (HOU.out.lt _ h).2)).symm)
    have HZB : Hid (zr2.ownBlock = zr.ownBlock ∨ zr2.ownBlock = some (w20.heap.size + 1)) := by
      rcases hat1 with e | e
      · exact .inl e
      · exact .inr (by rw [e]; simp)
    have hs20 : A.heap.size ≤ w20.heap.size := HOL20.out.1
    replace HOU := Lib.hid (HOU.out.kept hg1 HST.out.zu.symm.sep)
    replace HOZ := Lib.hid hown1
    replace HOL := Lib.hid (HOL.out.grown hg1 (.inl rfl))
    replace HBL := Lib.hid (HBL.out.trans (hbl1.mono h00))
    replace HSZ : Hid (w.heap.size ≤ w22.heap.size) := Nat.le_trans HSZ.out hbl1.size
    clear hg1 hat1 hown1 hbl1 hS
    refine hK.out _ _ (HS22.out _ HOL.out) (fun hS => ?_)
    clear hK K
    try simp only [List.getElem_toArray, List.getElem_cons_succ, List.getElem_cons_zero, Act.put, List.setIfInBounds_toArray, List.set_cons_zero, List.set_cons_succ]
    refine wpAnyH_done (by kernel_rfl) ?_ _
    unfold TailQ
    simp only [List.drop_succ_cons, List.drop_zero]
    obtain ⟨gz, cz, rfl⟩ := own_pos HOZ.out
    have hb5 : B5 q8 q9 q10 q11 q12 _ _ _ _ _ w22 := ⟨(HOLD.out w22 HOL.out q8 (by omega)).trans HB5A.out.b8, (HOLD.out w22 HOL.out q9 (by omega)).trans HB5A.out.b9, (HOLD.out w22 HOL.out q10 (by omega)).trans HB5A.out.b10, (HOLD.out w22 HOL.out q11 (by omega)).trans HB5A.out.b11, (HOLD.out w22 HOL.out q12 (by omega)).trans HB5A.out.b12⟩
    have fz := fun k => frozen_of_row _ _ k _ _ hb5.b10
    have z5 : w22.cell? ⟨q10, 5, none⟩ = some zr := cell_of_row _ _ 5 _ _ _ hb5.b10
    have HB5 := Lib.hid hb5
    clear hb5 hS
    go_upto_region 23 with fail
    clear fz z5
    obtain ⟨A2, hA2⟩ : ∃ u, u = w22.setCell ⟨q10, 5, none⟩ (.slice (some ⟨gz, 0, none⟩) (j + 1) cz) := ⟨_, rfl⟩
    have h5n := HB5.out.set10 HQ.out 5 (.slice (some ⟨gz, 0, none⟩) (j + 1) cz)
    have hkA : Keeps (fun k => k = q10) w22 A2 := by rw [hA2]; exact Keeps.setCell (Mut := fun k => k = q10) w22 ⟨q10, 5, none⟩ _ rfl
    rw [← hA2] at h5n ⊢
    have hs22 := HOL.out.1
    have hsA := HSA.out
    have hsA2 : A2.heap.size = w22.heap.size := by rw [hA2]; simp
    have hbo2 : A2.heap[wr.heap.size]? = some (.cells (rowM ro) 44 (0, 0)) := (hkA.block _ (by omega) (by omega)).trans ((HOLD.out w22 HOL.out _ (.inr (.inl rfl))).trans HBO.out)
    replace HOZ := Lib.hid (own_thruM HOZ.out hkA (by omega))
    replace HOU := Lib.hid (own_thruM HOU.out hkA (by omega))
    replace HBL := Lib.hid (HBL.out.trans (hkA.below HBL.out.size (fun k hk h => by omega)))
    have hne : ∀ g, (g < w.heap.size ∨ g = wr.heap.size) → (Value.slice (some ⟨gz, 0, none⟩) (j + 1) cz).ownBlock ≠ some g ∧ ur.ownBlock ≠ some g := fun g hg => by
      refine ⟨fun h => ?_, fun h => ?_⟩
      · have h1 := own_base HOZ.out _ h
        rcases hg with hg | hg
        · omega
        · rcases HZB.out with e | e
          · have h2 := HST.out.oz.lt _ (e.symm.trans h); omega
          · rw [e] at h; injection h with h; omega
      · have h1 := own_base HST.out.ou _ h; have h2 := HST.out.ou.lt _ h; omega
    have hold2 : ∀ W, Old3 (.slice (some ⟨gz, 0, none⟩) (j + 1) cz) ur ur A2 W → ∀ g, (g < w.heap.size ∨ g = wr.heap.size) → W.heap[g]? = A2.heap[g]? := fun W h g hg => by
      have h1 := hne g (by omega)
      exact h.2 g (by omega) h1.1 h1.2 h1.2
    have hS23 : ∀ W, Old3 (.slice (some ⟨gz, 0, none⟩) (j + 1) cz) ur ur A2 W → S22 q12 wr.heap.size ur ro W := fun W h => by
      have hk := (hold2 W h wr.heap.size (by omega)).trans hbo2
      exact ⟨cell_of_row _ _ 5 _ _ _ ((hold2 W h q12 (by omega)).trans h5n.b12), cell_of_row _ _ 0 _ _ _ hk, cell_of_row _ _ 1 _ _ _ hk, cell_of_row _ _ 2 _ _ _ hk, cell_of_row _ _ 3 _ _ _ hk, cell_of_row _ _ 4 _ _ _ hk⟩
    have HOLW := HOL
    have old0 : Old3 (.slice (some ⟨gz, 0, none⟩) (j + 1) cz) ur ur A2 A2.drew := (Old3.refl _ _ _ _).below (Below.refl _ _).drew
    have HKA := Lib.hid hkA
    have HS23 := Lib.hid hS23
    have HOLD2 := Lib.hid hold2
    have H5N := Lib.hid h5n
    clear HOL
    have HOL := Lib.hid old0
    replace HOZ := Lib.hid (show A2.drew.ownsRow _ _ _ _ _ _ from own_below HOZ.out (Below.refl _ _).drew)
    replace HOU := Lib.hid (show A2.drew.ownsRow _ _ _ _ _ _ from own_below HOU.out (Below.refl _ _).drew)
    replace HBL := Lib.hid (HBL.out.trans (((Below.refl A2.heap.size A2).drew).mono HBL.out.size))
    replace HSZ : Hid (w.heap.size ≤ A2.drew.heap.size) := Nat.le_trans HSZ.out (by show w22.heap.size ≤ A2.heap.size; omega)
    have hS := hS23 _ old0
    have HSA2 := Lib.hid hsA2
    clear hold2 hS23 h5n hA2 hkA hbo2 hne old0 hsA hs22 hsA2 hw3 hw4 hw5
    refine wp_region_tail 17 #[false, false, false, false, false, false, false, false, false, false, false, false, false, false, false, false, false, true, true] (S22 q12 wr.heap.size ur ro) (by kernel_rfl) (by kernel_rfl) (by rfl) hS fun hS => ?_
    refine wpAnyH_take (i := 0) (v := ?_) rfl (by kernel_rfl) (by kernel_rfl) (by kernel_rfl) (fun _ _ _ h => h) (Or.inl ⟨by rfl, ?_⟩) hS ?_
    rotate_left
    · (intro W hSw; obtain ⟨hq1, hq2, hq3, hq4, hq5, hq6⟩ := hSw; go_simp; try with_reducible rfl)
    try simp only [List.getElem_toArray, List.getElem_cons_succ, List.getElem_cons_zero, Act.put, List.setIfInBounds_toArray, List.set_cons_zero, List.set_cons_succ]
    refine wpAnyH_take (i := 1) (v := ?_) rfl (by kernel_rfl) (by kernel_rfl) (by kernel_rfl) (fun _ _ _ h => h) (Or.inl ⟨by rfl, ?_⟩) hS ?_
    rotate_left
    · (intro W hSw; obtain ⟨hq1, hq2, hq3, hq4, hq5, hq6⟩ := hSw; go_simp; try with_reducible rfl)
    try simp only [List.getElem_toArray, List.getElem_cons_succ, List.getElem_cons_zero, Act.put, List.setIfInBounds_toArray, List.set_cons_zero, List.set_cons_succ]
    refine wpAnyH_take (i := 2) (v := ?_) rfl (by kernel_rfl) (by kernel_rfl) (by kernel_rfl) (fun _ _ _ h => h) (Or.inl ⟨by rfl, ?_⟩) hS ?_
    rotate_left
    · (intro W hSw; obtain ⟨hq1, hq2, hq3, hq4, hq5, hq6⟩ := hSw; go_simp; try with_reducible rfl)
    try simp only [List.getElem_toArray, List.getElem_cons_succ, List.getElem_cons_zero, Act.put, List.setIfInBounds_toArray, List.set_cons_zero, List.set_cons_succ]
    refine wpAnyH_take (i := 3) (v := ?_) rfl (by kernel_rfl) (by kernel_rfl) (by kernel_rfl) (fun _ _ _ h => h) (Or.inl ⟨by rfl, ?_⟩) hS ?_
    rotate_left
    · (intro W hSw; obtain ⟨hq1, hq2, hq3, hq4, hq5, hq6⟩ := hSw; go_simp; try with_reducible rfl)
    try simp only [List.getElem_toArray, List.getElem_cons_succ, List.getElem_cons_zero, Act.put, List.setIfInBounds_toArray, List.set_cons_zero, List.set_cons_succ]
    refine wpAnyH_take (i := 4) (v := ?_) rfl (by kernel_rfl) (by kernel_rfl) (by kernel_rfl) (fun _ _ _ h => h) (Or.inl ⟨by rfl, ?_⟩) hS ?_
    rotate_left
    · (intro W hSw; obtain ⟨hq1, hq2, hq3, hq4, hq5, hq6⟩ := hSw; go_simp; try with_reducible rfl)
    try simp only [List.getElem_toArray, List.getElem_cons_succ, List.getElem_cons_zero, Act.put, List.setIfInBounds_toArray, List.set_cons_zero, List.set_cons_succ]
    refine wpAnyH_take (i := 5) (v := ?_) rfl (by kernel_rfl) (by kernel_rfl) (by kernel_rfl) (fun _ _ _ h => h) (Or.inl ⟨by rfl, ?_⟩) hS ?_
    rotate_left
    · (intro W hSw; obtain ⟨hq1, hq2, hq3, hq4, hq5, hq6⟩ := hSw; go_simp; try with_reducible rfl)
    try simp only [List.getElem_toArray, List.getElem_cons_succ, List.getElem_cons_zero, Act.put, List.setIfInBounds_toArray, List.set_cons_zero, List.set_cons_succ]
    refine wpAnyH_take (i := 6) (v := ?_) rfl (by kernel_rfl) (by kernel_rfl) (by kernel_rfl) (fun _ _ _ h => h) (Or.inl ⟨by rfl, ?_⟩) hS ?_
    rotate_left
    · (intro W hSw; obtain ⟨hq1, hq2, hq3, hq4, hq5, hq6⟩ := hSw; go_simp; try with_reducible rfl)
    try simp only [List.getElem_toArray, List.getElem_cons_succ, List.getElem_cons_zero, Act.put, List.setIfInBounds_toArray, List.set_cons_zero, List.set_cons_succ]
    refine wpAnyH_take (i := 7) (v := ?_) rfl (by kernel_rfl) (by kernel_rfl) (by kernel_rfl) (fun _ _ _ h => h) (Or.inl ⟨by rfl, ?_⟩) hS ?_
    rotate_left
    · (intro W hSw; obtain ⟨hq1, hq2, hq3, hq4, hq5, hq6⟩ := hSw; go_simp; try with_reducible rfl)
    try simp only [List.getElem_toArray, List.getElem_cons_succ, List.getElem_cons_zero, Act.put, List.setIfInBounds_toArray, List.set_cons_zero, List.set_cons_succ]
    refine wpAnyH_take (i := 8) (v := ?_) rfl (by kernel_rfl) (by kernel_rfl) (by kernel_rfl) (fun _ _ _ h => h) (Or.inl ⟨by rfl, ?_⟩) hS ?_
    rotate_left
    · (intro W hSw; obtain ⟨hq1, hq2, hq3, hq4, hq5, hq6⟩ := hSw; go_simp; try with_reducible rfl)
    try simp only [List.getElem_toArray, List.getElem_cons_succ, List.getElem_cons_zero, Act.put, List.setIfInBounds_toArray, List.set_cons_zero, List.set_cons_succ]
    refine wpAnyH_take (i := 9) (v := ?_) rfl (by kernel_rfl) (by kernel_rfl) (by kernel_rfl) (fun _ _ _ h => h) (Or.inl ⟨by rfl, ?_⟩) hS ?_
    rotate_left
    · (intro W hSw; obtain ⟨hq1, hq2, hq3, hq4, hq5, hq6⟩ := hSw; go_simp; try with_reducible rfl)
    try simp only [List.getElem_toArray, List.getElem_cons_succ, List.getElem_cons_zero, Act.put, List.setIfInBounds_toArray, List.set_cons_zero, List.set_cons_succ]
    refine wpAnyH_take (i := 10) (v := ?_) rfl (by kernel_rfl) (by kernel_rfl) (by kernel_rfl) (fun _ _ _ h => h) (Or.inl ⟨by rfl, ?_⟩) hS ?_
    rotate_left
    · (intro W hSw; obtain ⟨hq1, hq2, hq3, hq4, hq5, hq6⟩ := hSw; go_simp; try with_reducible rfl)
    try simp only [List.getElem_toArray, List.getElem_cons_succ, List.getElem_cons_zero, Act.put, List.setIfInBounds_toArray, List.set_cons_zero, List.set_cons_succ]
    refine wpAnyH_take (i := 11) (v := ?_) rfl (by kernel_rfl) (by kernel_rfl) (by kernel_rfl) (fun _ _ _ h => h) (Or.inl ⟨by rfl, ?_⟩) hS ?_
    rotate_left
    · (intro W hSw; obtain ⟨hq1, hq2, hq3, hq4, hq5, hq6⟩ := hSw; go_simp; try with_reducible rfl)
    try simp only [List.getElem_toArray, List.getElem_cons_succ, List.getElem_cons_zero, Act.put, List.setIfInBounds_toArray, List.set_cons_zero, List.set_cons_succ]
    refine wpAnyH_take (i := 12) (v := ?_) rfl (by kernel_rfl) (by kernel_rfl) (by kernel_rfl) (fun _ _ _ h => h) (Or.inl ⟨by rfl, ?_⟩) hS ?_
    rotate_left
    · (intro W hSw; obtain ⟨hq1, hq2, hq3, hq4, hq5, hq6⟩ := hSw; go_simp; try with_reducible rfl)
    try simp only [List.getElem_toArray, List.getElem_cons_succ, List.getElem_cons_zero, Act.put, List.setIfInBounds_toArray, List.set_cons_zero, List.set_cons_succ]
    refine wpAnyH_take (i := 13) (v := ?_) rfl (by kernel_rfl) (by kernel_rfl) (by kernel_rfl) (fun _ _ _ h => h) (Or.inl ⟨by rfl, ?_⟩) hS ?_
    rotate_left
    · (intro W hSw; obtain ⟨hq1, hq2, hq3, hq4, hq5, hq6⟩ := hSw; go_simp; try with_reducible rfl)
    try simp only [List.getElem_toArray, List.getElem_cons_succ, List.getElem_cons_zero, Act.put, List.setIfInBounds_toArray, List.set_cons_zero, List.set_cons_succ]
    refine wpAnyH_ready (rs := [14]) (by kernel_rfl) (by simp) ?_
    refine AllReadyH.cons rfl (fun K hK => ?_) AllReadyH.nil
    go_simp
    go_at_call 32
    refine (lread_any ⟨ro.b, ro.a, ro.m, ro.lo, ro.hi⟩ _).mono ?_
    rintro e' w23 ⟨rfl, hb⟩
    replace HOL := Lib.hid (HOL.out.below hb)
    replace HOZ := Lib.hid (own_below HOZ.out hb)
    replace HOU := Lib.hid (own_below HOU.out hb)
    replace HBL := Lib.hid (HBL.out.trans (hb.mono HBL.out.size))
    replace HSZ : Hid (w.heap.size ≤ w23.heap.size) := Nat.le_trans HSZ.out hb.size
    clear hb hS
    unfold readV
    refine hK.out _ _ (HS23.out _ HOL.out) (fun hS => ?_)
    clear hK K
    try simp only [List.getElem_toArray, List.getElem_cons_succ, List.getElem_cons_zero, Act.put, List.setIfInBounds_toArray, List.set_cons_zero, List.set_cons_succ]
    refine wpAnyH_ready (rs := [15]) (by kernel_rfl) (by simp) ?_
    refine AllReadyH.cons rfl (fun K hK => ?_) AllReadyH.nil
    go_simp
    refine hK.out _ _ (HS23.out _ (HOL.out.below ((Below.refl _ _).alloc (Nat.le_refl _) _))) (fun hS' => ?_)
    clear hK K hS
    replace HOL := Lib.hid (HOL.out.below ((Below.refl _ _).alloc (Nat.le_refl _) (.cells #[.int .i64 ro.b, .int .i64 ro.a, .int .i64 ro.m, .int .i64 ro.lo, .int .i64 ro.hi] 44)))
    replace HOZ := Lib.hid (HOZ.out.alloc (.cells #[.int .i64 ro.b, .int .i64 ro.a, .int .i64 ro.m, .int .i64 ro.lo, .int .i64 ro.hi] 44))
    replace HOU := Lib.hid (HOU.out.alloc (.cells #[.int .i64 ro.b, .int .i64 ro.a, .int .i64 ro.m, .int .i64 ro.lo, .int .i64 ro.hi] 44))
    replace HBL := Lib.hid (HBL.out.alloc HBL.out.size (.cells #[.int .i64 ro.b, .int .i64 ro.a, .int .i64 ro.m, .int .i64 ro.lo, .int .i64 ro.hi] 44))
    replace HSZ := Lib.hid (Nat.le_trans HSZ.out (((Below.refl _ _).alloc (Nat.le_refl _) (.cells #[.int .i64 ro.b, .int .i64 ro.a, .int .i64 ro.m, .int .i64 ro.lo, .int .i64 ro.hi] 44)).size))
    have hS := hS'
    clear hS'
    try simp only [List.getElem_toArray, List.getElem_cons_succ, List.getElem_cons_zero, Act.put, List.setIfInBounds_toArray, List.set_cons_zero, List.set_cons_succ]
    refine wpAnyH_ready (rs := [16]) (by kernel_rfl) (by simp) ?_
    refine AllReadyH.cons rfl (fun K hK => ?_) AllReadyH.nil
    rw [if_pos (by rfl)]
    refine wp_append_at (.tmp 239) (.tmp 253) 25 rfl w.heap.size 44 5 40 _ underReads infoRead rfl (by decide) ur j _ rfl HOU.out _ 1 1 (rdC ⟨ro.b, ro.a, ro.m, ro.lo, ro.hi⟩) rfl rfl (news_block (cs := #[.int .i64 ro.b, .int .i64 ro.a, .int .i64 ro.m, .int .i64 ro.lo, .int .i64 ro.hi]) (t := 44) (fr := (0, 0)) (heap_alloc_at _ _ _ rfl)) (by simp [rdC, Value.oneCell']) (by omega) (by decide) (by have := HSZ.out; simp at this; simp; omega) ?_
    intro ur2 w24 hown1 hg1 hat1
    have hbl1 : Below w.heap.size _ w24 := (Below.refl _ _).grown hg1 (by have := HSZ.out; simp at this; simp; omega) (own_base HOU.out)
    have HZU2 := Lib.hid (HZU.out.next hat1 (fun k h => (HOZ.out.lt _ h).2))
    replace HOZ := Lib.hid (HOZ.out.kept hg1 HZU.out.sep)
    replace HOU := Lib.hid hown1
    replace HOL := Lib.hid (HOL.out.grown hg1 (.inr (.inl rfl)))
    replace HBL := Lib.hid (HBL.out.trans (hbl1.mono h00))
    replace HSZ : Hid (w.heap.size ≤ w24.heap.size) := Nat.le_trans HSZ.out hbl1.size
    clear hg1 hat1 hown1 hbl1 hS
    refine hK.out _ _ (HS23.out _ HOL.out) (fun hS => ?_)
    clear hK K
    try simp only [List.getElem_toArray, List.getElem_cons_succ, List.getElem_cons_zero, Act.put, List.setIfInBounds_toArray, List.set_cons_zero, List.set_cons_succ]
    refine wpAnyH_done (by kernel_rfl) ?_ _
    unfold TailQ
    simp only [List.drop_succ_cons, List.drop_zero]
    obtain ⟨gu, cu, rfl⟩ := own_pos HOU.out
    have hb5 : B5 q8 q9 q10 q11 q12 _ _ _ _ _ w24 := ⟨(HOLD2.out w24 HOL.out q8 (by omega)).trans H5N.out.b8, (HOLD2.out w24 HOL.out q9 (by omega)).trans H5N.out.b9, (HOLD2.out w24 HOL.out q10 (by omega)).trans H5N.out.b10, (HOLD2.out w24 HOL.out q11 (by omega)).trans H5N.out.b11, (HOLD2.out w24 HOL.out q12 (by omega)).trans H5N.out.b12⟩
    have HB5B := Lib.hid hb5
    have fu := fun k => frozen_of_row _ _ k _ _ hb5.b12
    have u5' : w24.cell? ⟨q12, 5, none⟩ = some ur := cell_of_row _ _ 5 _ _ _ hb5.b12
    have hk25 : ∀ v, Keeps (fun k => k = q12) w24 (w24.setCell ⟨q12, 5, none⟩ v) := fun v => Keeps.setCell (Mut := fun k => k = q12) w24 ⟨q12, 5, none⟩ _ rfl
    have hnext : L2 p q8 q9 q10 q11 q12 (.slice ao3 (p.rs.length + 1) cap3) (.slice aoY p.rs.length capY) (.slice (some ⟨rb, roff, none⟩) p.rs.length cap2) bsv zb tb ub w0 w (.slice (some ⟨gz, 0, none⟩) (j + 1) cz) (.slice (some ⟨gu, 0, none⟩) (j + 1) cu) (j + 1) (w24.setCell ⟨q12, 5, none⟩ (.slice (some ⟨gu, 0, none⟩) (j + 1) cu)) := by
      have hzl : j < (revP p).rs.length := by rw [revP_rs]; exact hlj
      have hul : j < (negP p).rs.length := by rw [negP_rs]; exact hlj
      have ez : (revP p).rs[j] = ⟨(p.bs.length : Int) - 1 - rk.a, (p.bs.length : Int) - 1 - rk.b, rk.m, rk.lo, rk.hi⟩ := by
        rw [revR_at p j hzl hlj, at_eqR p.rs _ _ HE.out.symm (by omega) hel, ← HRK.out]; rfl
      have eu : (negP p).rs[j] = ⟨ro.b, ro.a, ro.m, ro.lo, ro.hi⟩ := by
        rw [negR_at p j hul hlj, ← HRO.out]; rfl
      have hoz2 := own_thruM HOZ.out (hk25 (.slice (some ⟨gu, 0, none⟩) (j + 1) cu)) (by omega)
      have hou2 := own_thruM HOU.out (hk25 (.slice (some ⟨gu, 0, none⟩) (j + 1) cu)) (by omega)
      rw [show ((revP p).rs.take j).flatMap rdC ++ rdC ⟨(p.bs.length : Int) - 1 - rk.a, (p.bs.length : Int) - 1 - rk.b, rk.m, rk.lo, rk.hi⟩ = ((revP p).rs.take (j + 1)).flatMap rdC by rw [List.take_succ_eq_append_getElem hzl, List.flatMap_append, ez]; simp] at hoz2
      rw [show ((negP p).rs.take j).flatMap rdC ++ rdC ⟨ro.b, ro.a, ro.m, ro.lo, ro.hi⟩ = ((negP p).rs.take (j + 1)).flatMap rdC by rw [List.take_succ_eq_append_getElem hul, List.flatMap_append, eu]; simp] at hou2
      refine ⟨HB5B.out.set12 HQ.out 5 _, hoz2, hou2, HZU2.out, fun k hk hr => ?_, HBL.out.trans ((hk25 _).below HBL.out.size (fun k hk h => by omega)), Nat.le_trans HSZ.out (hk25 _).size⟩
      obtain ⟨e1, e2, e3, e4, e5⟩ := id hr
      have h1 := HOLW.out.1
      have h2 := HSA.out
      have h3 := HSA2.out
      have h4 := HOL.out.1
      exact ((hk25 _).block k (by omega) e5).trans ((HOLD2.out w24 HOL.out k (.inl hk)).trans ((HKA.out.block k (by omega) e3).trans ((HOLD.out w22 HOLW.out k (.inl hk)).trans ((hAb.block k (by omega)).trans (HST.out.st k hk hr)))))
    have HNX := Lib.hid hnext
    clear hb5 hS hnext hk25
    go_wp2
    exact ⟨⟨j + 1, by omega, by first | rfl | (congr 1; omega), _, _, HNX.out⟩, by simp [intOf]; omega⟩

end Go.Proofs.Ytlgeggekmdoceaa

/- PairMore: the walk, the loop over the blocks (under way). -/
namespace Go.Proofs.Ytlgeggekmdoceaa
set_option linter.unusedVariables false
set_option linter.unusedSimpArgs false
open Go.RowKit Go.Shelf
attribute [local go_sem] Oper.semAt_some
/-- What the region that makes three blocks reads. -/
def S15 (q10 q11 q12 B bb off e sb n cap : Nat) (zb tb ub : Value) (r1 r2 s1 s2 : Int) (W : World) : Prop :=
  W.cell? ⟨q10, 0, none⟩ = some zb ∧ W.cell? ⟨B, 0, none⟩ = some (.slice (some ⟨bb, off, none⟩) n cap) ∧ W.cell? ⟨bb, off + e * 2, none⟩ = some (.int .i64 r1) ∧ W.cell? ⟨bb, off + e * 2 + 1, none⟩ = some (.int .i64 r2) ∧ W.cell? ⟨q11, 0, none⟩ = some tb ∧ W.cell? ⟨sb, 0, none⟩ = some (.int .i64 s1) ∧ W.cell? ⟨sb, 1, none⟩ = some (.int .i64 s2) ∧ W.cell? ⟨q12, 0, none⟩ = some ub
/-- The first blocks, with a number more, fit. -/
def fitK (p : PairD) (kn j : Nat) : Bool := (p.bs.take j).all fun s => decide (s.2 + (kn : Int) ≤ 20)
theorem fitK_next (p : PairD) (kn j : Nat) (hj : j < p.bs.length) : fitK p kn (j + 1) = (fitK p kn j && decide (p.bs[j].2 + (kn : Int) ≤ 20)) := by
  unfold fitK
  rw [List.take_succ_eq_append_getElem hj, List.all_append]
  simp
/-- What holds when some blocks have been gone through. -/
structure L1 (p : PairD) (r : RdD) (kn q8 q9 q10 q11 q12 : Nat) (bsv xv yv rv : Value) (yr : List RdD) (w0 : World) (n : Nat) (zb tb ub : Value) (j : Nat) (w : World) : Prop where
  b5 : B5 q8 q9 q10 q11 q12 (pairRow p bsv xv) (pairRow p bsv yv) (pairRow p zb (.slice none 0 0)) (pairRow p tb rv) (pairRow p ub (.slice none 0 0)) w
  oz : w.ownsRow n 24 2 zb j (((revP p).bs.take j).flatMap spC)
  ot : w.ownsRow n 24 2 tb j (((shiftP p kn).bs.take j).flatMap spC)
  ou : w.ownsRow n 24 2 ub j (((negP p).bs.take j).flatMap spC)
  zt : Dis zb tb
  zu : Dis zb ub
  tu : Dis tb ub
  x : ReadsAt w xv (p.rs ++ [r]) (fun k => k < n ∧ R5 q8 q9 q10 q11 q12 k)
  y : ReadsAt w yv yr (fun k => k < n ∧ R5 q8 q9 q10 q11 q12 k)
  bl : Below w0.heap.size w0 w
  sz : n ≤ w.heap.size
set_option maxRecDepth 100000 in
set_option maxHeartbeats 8000000 in
theorem more_c (p : PairD) (r : RdD) (an bn mn kn B q8 q9 q10 q11 q12 iy cap2 cap3 capY : Nat) (bsv : Value) (ao2 ao3 aoY : Option Addr) (w0 w : World) (hv : validB p = true) (hal : an < p.bs.length) (hbl : bn < p.bs.length) (hmn : mn < 61) (hkn : kn < 12)
    (hB : B < w0.heap.size) (hb0 : Below w0.heap.size w0 w) (hpa : PairAt w0 p bsv (.slice ao2 p.rs.length cap2)) (hr0 : w0.heap[B]? = some (.cells (pairRow p bsv (.slice ao2 p.rs.length cap2)) 27 (0, 0)))
    (hq : Q5 w0.heap.size w.heap.size q8 q9 q10 q11 q12) (h5 : B5 q8 q9 q10 q11 q12 (pairRow p bsv (.slice ao3 (p.rs.length + 1) cap3)) (pairRow p bsv (.slice aoY p.rs.length capY)) (pairRow p bsv (.slice ao2 p.rs.length cap2)) (pairRow p bsv (.slice ao2 p.rs.length cap2)) (pairRow p bsv (.slice ao2 p.rs.length cap2)) w)
    (hxr : ReadsAt w (.slice ao3 (p.rs.length + 1) cap3) (p.rs ++ [r]) (R5 q8 q9 q10 q11 q12)) (hyr : ReadsAt w (.slice aoY p.rs.length capY) (narP p iy).rs (R5 q8 q9 q10 q11 q12))
    (R : Ending → World → Prop) (hR : ∀ w', Below w0.heap.size w0 w' → R (.returned (.bool true)) w') (K : Act → World → Prop) (hK : ∀ a w, Code.wp Try.prog (moreC 8) (bodyPost Try.prog Try.f12 R) a w → K a w) (u0 u1 u2 u3 u4 u6 u21 u70 u71 u72 u73 u74 u75 u76 u77 u78 u79 u80 u81 u82 u83 u84 u85 u86 u87 u88 u89 u90 u91 u92 u93 u94 u95 u96 u97 u98 u99 u100 u101 u102 u103 u104 u105 u106 u107 u108 u109 u110 u111 u112 u113 u114 u115 u116 u117 u118 u119 u120 u121 u122 u123 u124 u125 u126 u127 u128 u129 u130 u131 u132 u133 u134 : Value) :
    Code.wp Try.prog (headC 7) (Exit.then K (bodyPost Try.prog Try.f12 R)) ⟨#[u0, u1, u2, u3, u4, .pointer (some ⟨B, 0, none⟩), u6, undef, undef, undef, .bool false, .int .i64 p.bs.length, .int .i64 kn, .int .i64 an, .int .i64 bn, .int .i64 mn, .pointer (some ⟨q8, 0, none⟩), .pointer (some ⟨q9, 0, none⟩), .pointer (some ⟨q10, 0, none⟩), .pointer (some ⟨q11, 0, none⟩), .pointer (some ⟨q12, 0, none⟩), u21, undef, undef, undef, undef, undef, undef, undef, undef, undef, undef, undef, undef, undef, undef, undef, undef, undef, undef, undef, undef, undef, undef, undef, undef, undef, undef, undef, undef, undef, undef, undef, undef, undef, undef, undef, undef, undef, undef, undef, undef, undef, undef, undef, undef, undef, undef, undef, undef, u70, u71, u72, u73, u74, u75, u76, u77, u78, u79, u80, u81, u82, u83, u84, u85, u86, u87, u88, u89, u90, u91, u92, u93, u94, u95, u96, u97, u98, u99, u100, u101, u102, u103, u104, u105, u106, u107, u108, u109, u110, u111, u112, u113, u114, u115, u116, u117, u118, u119, u120, u121, u122, u123, u124, u125, u126, u127, u128, u129, u130, u131, u132, u133, u134, undef, undef, undef, undef, undef, undef, undef, undef, undef, undef, undef, undef, undef, undef, undef, undef, undef, undef, undef, undef, undef, undef, undef, undef, undef, undef, undef, undef, undef, undef, undef, undef, undef, undef, undef, undef, undef, undef, undef, undef, undef, undef, undef, undef, undef, undef, undef, undef, undef, undef, undef, undef, undef, undef, undef, undef, undef, undef, undef, undef, undef, undef, undef, undef, undef, undef, undef, undef, undef, undef, undef, undef, undef, undef, undef, undef, undef, undef, undef, undef, undef, undef, undef, undef, undef, undef, undef, undef, undef, undef, undef, undef, undef, undef, undef, undef, undef, undef, undef, undef, undef, undef, undef, undef, undef, undef, undef, undef, undef, undef, undef, undef, undef, undef, undef, undef, undef, undef, undef, undef, undef, undef, undef, undef, undef, undef, undef, undef, undef, undef, undef, undef, undef, undef, undef, undef, undef, undef, undef, undef, undef, undef, undef, undef, undef, undef, undef, undef, undef, undef, undef, undef, undef, undef, undef, undef, undef, undef, undef, undef, undef, undef, undef, undef, undef, undef, undef, undef, undef, undef, undef, undef, undef, undef, undef, undef, undef, undef, undef, undef, undef, undef, undef, undef, undef, undef, undef, undef, undef, undef, undef, undef, undef, undef, undef, undef, undef, undef, undef, undef, undef, undef, undef, undef, undef, undef, undef, undef, undef, undef, undef, undef, undef, undef, undef, undef, undef, undef, undef, undef, undef, undef, undef, undef, undef, undef, undef, undef, undef, undef, undef, undef, undef, undef, undef, undef, undef, undef, undef, undef, undef, undef, undef, undef, undef, undef, undef, undef, undef, undef, undef, undef, undef, undef, undef, undef, undef, undef, undef, undef, undef, undef, undef, undef, undef, undef, undef, undef, undef, undef, undef, undef, undef, undef, undef, undef, undef, undef, undef, undef, undef, undef, undef, undef, undef, undef, undef, undef, undef, undef, undef, undef, undef, undef, undef, undef, undef, undef, undef, undef, undef, undef, undef, undef, undef, undef, undef, undef, undef, undef, undef, undef, undef, undef, undef, undef, undef, undef, undef, undef, undef, undef, undef, undef, undef, undef, undef, undef, undef, undef, undef, undef, undef, undef, undef, undef, undef, undef, undef, undef, undef, undef, undef, undef, undef, undef, undef, undef, undef, undef, undef, undef, undef, undef, undef, undef, undef, undef, undef, undef, undef, undef, undef, undef, undef, undef, undef, undef, undef, undef, undef, undef, undef, undef, undef, undef, undef, undef, undef, undef, undef, undef, undef, undef, undef, undef, undef, undef, undef, undef, undef, undef, undef, undef, undef, undef, undef, undef, undef, undef, undef, undef, undef, undef, undef, undef, undef, undef, undef, undef, undef, undef, undef, undef, undef, undef, undef, undef, undef, undef, undef, undef, undef, undef, undef, undef, undef, undef, undef, undef, undef, undef, undef, undef, undef, undef, undef, undef, undef, undef, undef, undef, undef, undef, undef, undef, undef, undef, undef, undef, undef, undef, undef, undef, undef, undef, undef, undef, undef, undef, undef, undef, undef, undef, undef, undef, undef, undef, undef, undef, undef, undef, undef, undef, undef, undef, undef, undef, undef, undef, undef, undef, undef, undef, undef, undef, undef, undef, undef, undef], []⟩ w := by
  conv => arg 2; whnf
  have hp := OkP.of p hv
  have hn1 := hp.n1
  have hn5 := hp.n5
  obtain ⟨ao, cap, hbe, _⟩ := id hpa.b
  subst hbe
  obtain ⟨bb, off, hao, hbb, hel⟩ := SpansAt.elemsM hpa.b (by omega)
  subst hao
  unfold pairRow at h5 hr0
  have fz := fun k => frozen_of_row _ _ k _ _ h5.b10
  have ft := fun k => frozen_of_row _ _ k _ _ h5.b11
  have fu := fun k => frozen_of_row _ _ k _ _ h5.b12
  have z0 := cell_of_row _ _ 0 _ _ _ h5.b10
  have z5 := cell_of_row _ _ 5 _ _ _ h5.b10
  have t0 := cell_of_row _ _ 0 _ _ _ h5.b11
  have u0 := cell_of_row _ _ 0 _ _ _ h5.b12
  have u5 := cell_of_row _ _ 5 _ _ _ h5.b12
  have hne1 : q10 ≠ q11 := hq.n10.1
  have hne2 : q10 ≠ q12 := hq.n10.2.1
  have hne3 : q11 ≠ q12 := hq.n10.2.2
  have HPA := Lib.hid hpa
  have HR0 := Lib.hid hr0
  have HQ := Lib.hid hq
  have HX := Lib.hid hxr
  have HY := Lib.hid hyr
  have H5 := Lib.hid h5
  have HB := Lib.hid hb0
  have HEL := Lib.hid hel
  clear hpa hr0 hq hxr hyr h5 hb0 hel
  go_upto_region 11 with fail
  conv => arg 2; whnf
  clear fz ft fu z0 z5 t0 u0 u5 hne1 hne2 hne3
  obtain ⟨w1, hw1⟩ : ∃ u, u = (((((w.setCell ⟨q10, 0, none⟩ (.slice none 0 0)).setCell ⟨q10, 5, none⟩ (.slice none 0 0)).setCell ⟨q11, 0, none⟩ (.slice none 0 0)).setCell ⟨q12, 0, none⟩ (.slice none 0 0)).setCell ⟨q12, 5, none⟩ (.slice none 0 0)) := ⟨_, rfl⟩
  have h5b := ((((H5.out.set10 HQ.out 0 (.slice none 0 0)).set10 HQ.out 5 (.slice none 0 0)).set11 HQ.out 0 (.slice none 0 0)).set12 HQ.out 0 (.slice none 0 0)).set12 HQ.out 5 (.slice none 0 0)
  have hk1 : Keeps (fun k => k = q10 ∨ k = q11 ∨ k = q12) w w1 := by
    rw [hw1]
    exact ((((Keeps.setCell (Mut := fun k => k = q10 ∨ k = q11 ∨ k = q12) w ⟨q10, 0, none⟩ _ (.inl rfl)).trans (Keeps.setCell (Mut := fun k => k = q10 ∨ k = q11 ∨ k = q12) _ ⟨q10, 5, none⟩ _ (.inl rfl))).trans (Keeps.setCell (Mut := fun k => k = q10 ∨ k = q11 ∨ k = q12) _ ⟨q11, 0, none⟩ _ (.inr (.inl rfl)))).trans (Keeps.setCell (Mut := fun k => k = q10 ∨ k = q11 ∨ k = q12) _ ⟨q12, 0, none⟩ _ (.inr (.inr rfl)))).trans (Keeps.setCell (Mut := fun k => k = q10 ∨ k = q11 ∨ k = q12) _ ⟨q12, 5, none⟩ _ (.inr (.inr rfl)))
  rw [← hw1] at h5b ⊢
  have hsz : w1.heap.size = w.heap.size := by rw [hw1]; simp
  have hge := HQ.out.ge
  have hlt := HQ.out.lt
  have hb1 : Below w0.heap.size w0 w1 := HB.out.trans (hk1.below HB.out.size (fun k hk h => by omega))
  have hx1 : ReadsAt w1 (.slice ao3 (p.rs.length + 1) cap3) (p.rs ++ [r]) (fun k => k < w1.heap.size ∧ R5 q8 q9 q10 q11 q12 k) := by
    have h1 := HX.out.later hk1.size (fun k hk hr => hk1.block k hk (by obtain ⟨e1, e2, e3, e4, e5⟩ := hr; omega))
    exact h1.rdM (fun k hk hr => ⟨hk, hr⟩)
  have hy1 : ReadsAt w1 (.slice aoY p.rs.length capY) (narP p iy).rs (fun k => k < w1.heap.size ∧ R5 q8 q9 q10 q11 q12 k) := by
    have h1 := HY.out.later hk1.size (fun k hk hr => hk1.block k hk (by obtain ⟨e1, e2, e3, e4, e5⟩ := hr; omega))
    exact h1.rdM (fun k hk hr => ⟨hk, hr⟩)
  have hq1 : Q5 w0.heap.size w1.heap.size q8 q9 q10 q11 q12 := ⟨hge, by omega, HQ.out.n8, HQ.out.n9, HQ.out.n10⟩
  have hst : L1 p r kn q8 q9 q10 q11 q12 (.slice (some ⟨bb, off, none⟩) p.bs.length cap) (.slice ao3 (p.rs.length + 1) cap3) (.slice aoY p.rs.length capY) (.slice ao2 p.rs.length cap2) (narP p iy).rs w0 w1.heap.size (.slice none 0 0) (.slice none 0 0) (.slice none 0 0) 0 w1 :=
    ⟨h5b, World.ownsRow_nil _ _ _ _, World.ownsRow_nil _ _ _ _, World.ownsRow_nil _ _ _ _, (fun k h => by cases h), (fun k h => by cases h), (fun k h => by cases h), hx1, hy1, hb1, Nat.le_refl _⟩
  have HST := Lib.hid hst
  have HQ1 := Lib.hid hq1
  have r0 := cell_of_row _ _ 0 _ _ _ ((hb1.block _ hB).trans HR0.out)
  clear hst hq1 h5b hx1 hy1 hk1 hw1 H5 HX HY HB HQ
  go_wp2_with fail
  clear r0
  go_loopw [22, 143] (fun f k wr => ∃ j : Nat, j ≤ p.bs.length ∧ k = .int .i64 j ∧ f = .bool (fitK p kn j) ∧ ∃ zb tb ub, L1 p r kn q8 q9 q10 q11 q12 (.slice (some ⟨bb, off, none⟩) p.bs.length cap) (.slice ao3 (p.rs.length + 1) cap3) (.slice aoY p.rs.length capY) (.slice ao2 p.rs.length cap2) (narP p iy).rs w0 w1.heap.size zb tb ub j wr) (fun _ k _ => p.bs.length - (intOf k).toNat)
  case atStart => exact ⟨0, by omega, rfl, rfl, _, _, _, HST.out⟩
  case round =>
    clear HST
    obtain ⟨j, hj, rfl, rfl, zb, tb, ub, hst⟩ := hrel
    have HST := Lib.hid hst
    clear hst
    by_cases hlj : j < p.bs.length
    case neg =>
      have hd : decide ((j : Int) < (p.bs.length : Int)) = false := decide_eq_false (by omega)
      have hjn : j = p.bs.length := by omega
      have hz := spansAt_of_owns (l := (revP p).bs) (w := wr) (base := w1.heap.size) (e := 24) (v := zb) (by
        have h1 := HST.out.oz
        rw [hjn, List.take_of_length_le (by rw [revP_bs]; exact Nat.le_refl _)] at h1
        rw [revP_bs]; exact h1)
      have ht := spansAt_of_owns (l := (shiftP p kn).bs) (w := wr) (base := w1.heap.size) (e := 24) (v := tb) (by
        have h1 := HST.out.ot
        rw [hjn, List.take_of_length_le (by rw [shiftP_bs]; exact Nat.le_refl _)] at h1
        rw [shiftP_bs]; exact h1)
      have hu := spansAt_of_owns (l := (negP p).bs) (w := wr) (base := w1.heap.size) (e := 24) (v := ub) (by
        have h1 := HST.out.ou
        rw [hjn, List.take_of_length_le (by rw [negP_bs]; exact Nat.le_refl _)] at h1
        rw [negP_bs]; exact h1)
      have hr5 : ∀ k, w1.heap.size ≤ k → R5 q8 q9 q10 q11 q12 k := fun k hk => by have h1 := HQ1.out.lt; exact ⟨by omega, by omega, by omega, by omega, by omega⟩
      have hqr : Q5 w0.heap.size wr.heap.size q8 q9 q10 q11 q12 := ⟨HQ1.out.ge, by have h1 := HQ1.out.lt; have h2 := HST.out.sz; omega, HQ1.out.n8, HQ1.out.n9, HQ1.out.n10⟩
      have hfk : fitK p kn j = p.bs.all fun s => decide (s.2 + (kn : Int) ≤ 20) := by unfold fitK; rw [hjn, List.take_length]
      go_upto_region 18 with fail
      refine more_e p r an bn mn kn B q8 q9 q10 q11 q12 iy cap2 cap3 capY _ zb tb ub ao2 ao3 aoY (fitK p kn j) hfk w0 wr hv hal hbl hmn hkn hB HST.out.bl HPA.out HR0.out hqr HST.out.b5 (HST.out.x.rdM fun k _ h => h.2) (HST.out.y.rdM fun k _ h => h.2) (hz.mono fun k h => hr5 k h) (ht.mono fun k h => hr5 k h) (hu.mono fun k h => hr5 k h) R hR _ _ (by assumption) (by assumption) _ _ _ _ _ _ _ _ _ _ _ _ _ _ _ _ _ _ _ _ _ _ _ _ _ _ _ _ _ _ _ _ _ _ _ _ _ _ _ _ _ _ _ _ _ _ _ _ _ _ _ _ _ _ _ _ _ _ _ _ _ _ _ _ _ _ _ _ _ _ _ _ _ _ _ _ _ _ _ _ _ _ _ _ _ _ _ _ _ _ _ _ _ _ _ _ _ _ _ _ _ _ _ _ _ _ _ _ _ _ _ _ _ _ _ _ _ _ _ _ _ _ _ _ _ _ _ _ _ _ _ _ _ _ _
    have hd : decide ((j : Int) < (p.bs.length : Int)) = true := decide_eq_true (by omega)
    obtain ⟨s1, s2, hsv⟩ : ∃ s1 s2, p.bs[j] = (s1, s2) := ⟨_, _, rfl⟩
    have hsE := HEL.out wr (HST.out.bl.block _ hbb) j hlj
    rw [hsv] at hsE
    obtain ⟨e0, e1⟩ := hsE
    go_wp2_with fail
    obtain ⟨A, hA⟩ : ∃ A, A = wr.alloc (.cells #[.int .i64 s1, .int .i64 s2] 24) := ⟨_, rfl⟩
    have hAb : Below wr.heap.size wr A := by rw [hA]; exact (Below.refl _ _).alloc (Nat.le_refl _) _
    have hsA : A.heap.size = wr.heap.size + 1 := by rw [hA]; simp
    have hbox : A.heap[wr.heap.size]? = some (.cells #[.int .i64 s1, .int .i64 s2] 24 (0, 0)) := by rw [hA]; exact heap_alloc_at _ _ _ rfl
    rw [← hA]
    obtain ⟨e, he⟩ : ∃ e, e = p.bs.length - 1 - j := ⟨_, rfl⟩
    have hel : e < p.bs.length := by omega
    obtain ⟨r1, r2, hrv⟩ : ∃ r1 r2, p.bs[e] = (r1, r2) := ⟨_, _, rfl⟩
    have hs20 := hp.bs _ (List.getElem_mem hlj)
    rw [hsv] at hs20
    dsimp only at hs20
    obtain ⟨hs20A, hs20B, hs20C⟩ := hs20
    have hw1 : IntKind.i64.wrap ((p.bs.length : Int) - 1) = (p.bs.length : Int) - 1 := IntWalk.i64_in _ (by omega)
    have hw2 : IntKind.i64.wrap ((p.bs.length : Int) - 1 - (j : Int)) = (e : Int) := by rw [IntWalk.i64_in _ (by omega)]; omega
    have hw3 : IntKind.i64.wrap (s1 + (kn : Int)) = s1 + kn := IntWalk.i64_in _ (by omega)
    have hw4 : IntKind.i64.wrap (s2 + (kn : Int)) = s2 + kn := IntWalk.i64_in _ (by omega)
    have hw5 : IntKind.i64.wrap (-s2) = -s2 := IntWalk.i64_in _ (by omega)
    have hw6 : IntKind.i64.wrap (-s1) = -s1 := IntWalk.i64_in _ (by omega)
    have h00 : w0.heap.size ≤ w1.heap.size := by have h1 := HQ1.out.ge; have h2 := HQ1.out.lt; omega
    have hne : ∀ g, (g < w1.heap.size ∨ wr.heap.size ≤ g) → zb.ownBlock ≠ some g ∧ tb.ownBlock ≠ some g ∧ ub.ownBlock ≠ some g := fun g hg => by
      refine ⟨fun h => ?_, fun h => ?_, fun h => ?_⟩
      · have h1 := own_base HST.out.oz _ h; have h2 := HST.out.oz.lt _ h; omega
      · have h1 := own_base HST.out.ot _ h; have h2 := HST.out.ot.lt _ h; omega
      · have h1 := own_base HST.out.ou _ h; have h2 := HST.out.ou.lt _ h; omega
    have hold : ∀ W, Old3 zb tb ub A W → ∀ g, (g < w1.heap.size ∨ g = wr.heap.size) → W.heap[g]? = A.heap[g]? := fun W h g hg => by
      have h1 := hne g (by omega)
      have h2 := HST.out.sz
      exact h.2 g (by omega) h1.1 h1.2.1 h1.2.2
    have hS15 : ∀ W, Old3 zb tb ub A W → S15 q10 q11 q12 B bb off e wr.heap.size p.bs.length cap zb tb ub r1 r2 s1 s2 W := fun W h => by
      have hb5 := HST.out.b5.later HQ1.out (hAb.mono HST.out.sz)
      have hlt := HQ1.out.lt
      refine ⟨?_, ?_, ?_, ?_, ?_, ?_, ?_, ?_⟩
      · exact cell_of_row _ _ 0 _ _ _ ((hold W h q10 (by omega)).trans hb5.b10)
      · exact cell_of_row _ _ 0 _ _ _ ((hold W h B (by omega)).trans ((hAb.block B (by have := HST.out.sz; omega)).trans ((HST.out.bl.block _ hB).trans HR0.out)))
      · have h1 := (HEL.out W ((hold W h bb (by omega)).trans ((hAb.block bb (by have := HST.out.sz; omega)).trans (HST.out.bl.block _ hbb))) e hel).1
        rw [hrv] at h1; exact h1
      · have h1 := (HEL.out W ((hold W h bb (by omega)).trans ((hAb.block bb (by have := HST.out.sz; omega)).trans (HST.out.bl.block _ hbb))) e hel).2
        rw [hrv] at h1; exact h1
      · exact cell_of_row _ _ 0 _ _ _ ((hold W h q11 (by omega)).trans hb5.b11)
      · exact cell_of_row _ _ 0 _ _ _ ((hold W h wr.heap.size (.inr rfl)).trans hbox)
      · exact cell_of_row _ _ 1 _ _ _ ((hold W h wr.heap.size (.inr rfl)).trans hbox)
      · exact cell_of_row _ _ 0 _ _ _ ((hold W h q12 (by omega)).trans hb5.b12)
    have HOLD := Lib.hid hold
    have HS15 := Lib.hid hS15
    have HNE := Lib.hid hne
    have old0 : Old3 zb tb ub A A.drew := (Old3.refl _ _ _ _).below (Below.refl _ _).drew
    have HOL := Lib.hid old0
    have HOZ := Lib.hid (show A.drew.ownsRow _ _ _ _ _ _ from own_below HST.out.oz hAb.drew)
    have HOT := Lib.hid (show A.drew.ownsRow _ _ _ _ _ _ from own_below HST.out.ot hAb.drew)
    have HOU := Lib.hid (show A.drew.ownsRow _ _ _ _ _ _ from own_below HST.out.ou hAb.drew)
    have HBL := Lib.hid (HST.out.bl.trans ((hAb.drew).mono HST.out.bl.size))
    have HSZ : Hid (w1.heap.size ≤ A.drew.heap.size) := Nat.le_trans HST.out.sz (by show wr.heap.size ≤ A.heap.size; omega)
    have hS := hS15 _ old0
    have HE := Lib.hid he
    have HRV := Lib.hid hrv
    have HSV := Lib.hid hsv
    have HSA := Lib.hid hsA
    clear hold hS15 hne old0 hA e0 e1 he hrv hsv hsA
    refine wp_region_tail 37 #[false, false, false, false, false, false, false, false, false, false, false, false, false, false, false, false, false, false, false, false, false, false, false, false, false, false, false, false, false, false, false, false, false, false, false, false, false, true, true, true, true, true] (S15 q10 q11 q12 B bb off e wr.heap.size p.bs.length cap zb tb ub r1 r2 s1 s2) (by kernel_rfl) (by kernel_rfl) (by rfl) hS fun hS => ?_
    refine wpAnyH_take (i := 0) (v := ?_) rfl (by kernel_rfl) (by kernel_rfl) (by kernel_rfl) (fun _ _ _ h => h) (Or.inl ⟨by rfl, ?_⟩) hS ?_
    rotate_left
    · (intro W hSw; obtain ⟨hq1, hq2, hq3, hq4, hq5, hq6, hq7, hq8⟩ := hSw; go_simp; try with_reducible rfl)
    try simp only [List.getElem_toArray, List.getElem_cons_succ, List.getElem_cons_zero, Act.put, List.setIfInBounds_toArray, List.set_cons_zero, List.set_cons_succ]
    refine wpAnyH_take (i := 1) (v := ?_) rfl (by kernel_rfl) (by kernel_rfl) (by kernel_rfl) (fun _ _ _ h => h) (Or.inl ⟨by rfl, ?_⟩) hS ?_
    rotate_left
    · (intro W hSw; obtain ⟨hq1, hq2, hq3, hq4, hq5, hq6, hq7, hq8⟩ := hSw; go_simp; try with_reducible rfl)
    try simp only [List.getElem_toArray, List.getElem_cons_succ, List.getElem_cons_zero, Act.put, List.setIfInBounds_toArray, List.set_cons_zero, List.set_cons_succ]
    refine wpAnyH_take (i := 2) (v := ?_) rfl (by kernel_rfl) (by kernel_rfl) (by kernel_rfl) (fun _ _ _ h => h) (Or.inl ⟨by rfl, ?_⟩) hS ?_
    rotate_left
    · (intro W hSw; obtain ⟨hq1, hq2, hq3, hq4, hq5, hq6, hq7, hq8⟩ := hSw; go_simp; try with_reducible rfl)
    try simp only [List.getElem_toArray, List.getElem_cons_succ, List.getElem_cons_zero, Act.put, List.setIfInBounds_toArray, List.set_cons_zero, List.set_cons_succ]
    refine wpAnyH_take (i := 3) (v := ?_) rfl (by kernel_rfl) (by kernel_rfl) (by kernel_rfl) (fun _ _ _ h => h) (Or.inl ⟨by rfl, ?_⟩) hS ?_
    rotate_left
    · (intro W hSw; obtain ⟨hq1, hq2, hq3, hq4, hq5, hq6, hq7, hq8⟩ := hSw; go_simp; try with_reducible rfl)
    try simp only [List.getElem_toArray, List.getElem_cons_succ, List.getElem_cons_zero, Act.put, List.setIfInBounds_toArray, List.set_cons_zero, List.set_cons_succ]
    refine wpAnyH_take (i := 4) (v := ?_) rfl (by kernel_rfl) (by kernel_rfl) (by kernel_rfl) (fun _ _ _ h => h) (Or.inl ⟨by rfl, ?_⟩) hS ?_
    rotate_left
    · (intro W hSw; obtain ⟨hq1, hq2, hq3, hq4, hq5, hq6, hq7, hq8⟩ := hSw; go_simp; try with_reducible rfl)
    try simp only [List.getElem_toArray, List.getElem_cons_succ, List.getElem_cons_zero, Act.put, List.setIfInBounds_toArray, List.set_cons_zero, List.set_cons_succ]
    refine wpAnyH_take (i := 5) (v := ?_) rfl (by kernel_rfl) (by kernel_rfl) (by kernel_rfl) (fun _ _ _ h => h) (Or.inl ⟨by rfl, ?_⟩) hS ?_
    rotate_left
    · (intro W hSw; obtain ⟨hq1, hq2, hq3, hq4, hq5, hq6, hq7, hq8⟩ := hSw; go_simp; try with_reducible rfl)
    try simp only [List.getElem_toArray, List.getElem_cons_succ, List.getElem_cons_zero, Act.put, List.setIfInBounds_toArray, List.set_cons_zero, List.set_cons_succ]
    refine wpAnyH_take (i := 6) (v := ?_) rfl (by kernel_rfl) (by kernel_rfl) (by kernel_rfl) (fun _ _ _ h => h) (Or.inl ⟨by rfl, ?_⟩) hS ?_
    rotate_left
    · (intro W hSw; obtain ⟨hq1, hq2, hq3, hq4, hq5, hq6, hq7, hq8⟩ := hSw; go_simp; try with_reducible rfl)
    try simp only [List.getElem_toArray, List.getElem_cons_succ, List.getElem_cons_zero, Act.put, List.setIfInBounds_toArray, List.set_cons_zero, List.set_cons_succ]
    refine wpAnyH_take (i := 7) (v := ?_) rfl (by kernel_rfl) (by kernel_rfl) (by kernel_rfl) (fun _ _ _ h => h) (Or.inl ⟨by rfl, ?_⟩) hS ?_
    rotate_left
    · (intro W hSw; obtain ⟨hq1, hq2, hq3, hq4, hq5, hq6, hq7, hq8⟩ := hSw; go_simp; try with_reducible rfl)
    try simp only [List.getElem_toArray, List.getElem_cons_succ, List.getElem_cons_zero, Act.put, List.setIfInBounds_toArray, List.set_cons_zero, List.set_cons_succ]
    refine wpAnyH_take (i := 8) (v := ?_) rfl (by kernel_rfl) (by kernel_rfl) (by kernel_rfl) (fun _ _ _ h => h) (Or.inl ⟨by rfl, ?_⟩) hS ?_
    rotate_left
    · (intro W hSw; obtain ⟨hq1, hq2, hq3, hq4, hq5, hq6, hq7, hq8⟩ := hSw; go_simp; try with_reducible rfl)
    try simp only [List.getElem_toArray, List.getElem_cons_succ, List.getElem_cons_zero, Act.put, List.setIfInBounds_toArray, List.set_cons_zero, List.set_cons_succ]
    refine wpAnyH_take (i := 9) (v := ?_) rfl (by kernel_rfl) (by kernel_rfl) (by kernel_rfl) (fun _ _ _ h => h) (Or.inl ⟨by rfl, ?_⟩) hS ?_
    rotate_left
    · (intro W hSw; obtain ⟨hq1, hq2, hq3, hq4, hq5, hq6, hq7, hq8⟩ := hSw; go_simp; try with_reducible rfl)
    try simp only [List.getElem_toArray, List.getElem_cons_succ, List.getElem_cons_zero, Act.put, List.setIfInBounds_toArray, List.set_cons_zero, List.set_cons_succ]
    refine wpAnyH_take (i := 12) (v := ?_) rfl (by kernel_rfl) (by kernel_rfl) (by kernel_rfl) (fun _ _ _ h => h) (Or.inl ⟨by rfl, ?_⟩) hS ?_
    rotate_left
    · (intro W hSw; obtain ⟨hq1, hq2, hq3, hq4, hq5, hq6, hq7, hq8⟩ := hSw; go_simp; try with_reducible rfl)
    try simp only [List.getElem_toArray, List.getElem_cons_succ, List.getElem_cons_zero, Act.put, List.setIfInBounds_toArray, List.set_cons_zero, List.set_cons_succ]
    refine wpAnyH_take (i := 13) (v := ?_) rfl (by kernel_rfl) (by kernel_rfl) (by kernel_rfl) (fun _ _ _ h => h) (Or.inl ⟨by rfl, ?_⟩) hS ?_
    rotate_left
    · (intro W hSw; obtain ⟨hq1, hq2, hq3, hq4, hq5, hq6, hq7, hq8⟩ := hSw; go_simp; try with_reducible rfl)
    try simp only [List.getElem_toArray, List.getElem_cons_succ, List.getElem_cons_zero, Act.put, List.setIfInBounds_toArray, List.set_cons_zero, List.set_cons_succ]
    refine wpAnyH_take (i := 14) (v := ?_) rfl (by kernel_rfl) (by kernel_rfl) (by kernel_rfl) (fun _ _ _ h => h) (Or.inl ⟨by rfl, ?_⟩) hS ?_
    rotate_left
    · (intro W hSw; obtain ⟨hq1, hq2, hq3, hq4, hq5, hq6, hq7, hq8⟩ := hSw; go_simp; try with_reducible rfl)
    try simp only [List.getElem_toArray, List.getElem_cons_succ, List.getElem_cons_zero, Act.put, List.setIfInBounds_toArray, List.set_cons_zero, List.set_cons_succ]
    refine wpAnyH_take (i := 15) (v := ?_) rfl (by kernel_rfl) (by kernel_rfl) (by kernel_rfl) (fun _ _ _ h => h) (Or.inl ⟨by rfl, ?_⟩) hS ?_
    rotate_left
    · (intro W hSw; obtain ⟨hq1, hq2, hq3, hq4, hq5, hq6, hq7, hq8⟩ := hSw; go_simp; try with_reducible rfl)
    try simp only [List.getElem_toArray, List.getElem_cons_succ, List.getElem_cons_zero, Act.put, List.setIfInBounds_toArray, List.set_cons_zero, List.set_cons_succ]
    refine wpAnyH_take (i := 16) (v := ?_) rfl (by kernel_rfl) (by kernel_rfl) (by kernel_rfl) (fun _ _ _ h => h) (Or.inl ⟨by rfl, ?_⟩) hS ?_
    rotate_left
    · (intro W hSw; obtain ⟨hq1, hq2, hq3, hq4, hq5, hq6, hq7, hq8⟩ := hSw; go_simp; try with_reducible rfl)
    try simp only [List.getElem_toArray, List.getElem_cons_succ, List.getElem_cons_zero, Act.put, List.setIfInBounds_toArray, List.set_cons_zero, List.set_cons_succ]
    refine wpAnyH_take (i := 17) (v := ?_) rfl (by kernel_rfl) (by kernel_rfl) (by kernel_rfl) (fun _ _ _ h => h) (Or.inl ⟨by rfl, ?_⟩) hS ?_
    rotate_left
    · (intro W hSw; obtain ⟨hq1, hq2, hq3, hq4, hq5, hq6, hq7, hq8⟩ := hSw; go_simp; try with_reducible rfl)
    try simp only [List.getElem_toArray, List.getElem_cons_succ, List.getElem_cons_zero, Act.put, List.setIfInBounds_toArray, List.set_cons_zero, List.set_cons_succ]
    refine wpAnyH_take (i := 18) (v := ?_) rfl (by kernel_rfl) (by kernel_rfl) (by kernel_rfl) (fun _ _ _ h => h) (Or.inl ⟨by rfl, ?_⟩) hS ?_
    rotate_left
    · (intro W hSw; obtain ⟨hq1, hq2, hq3, hq4, hq5, hq6, hq7, hq8⟩ := hSw; go_simp; try with_reducible rfl)
    try simp only [List.getElem_toArray, List.getElem_cons_succ, List.getElem_cons_zero, Act.put, List.setIfInBounds_toArray, List.set_cons_zero, List.set_cons_succ]
    refine wpAnyH_take (i := 19) (v := ?_) rfl (by kernel_rfl) (by kernel_rfl) (by kernel_rfl) (fun _ _ _ h => h) (Or.inl ⟨by rfl, ?_⟩) hS ?_
    rotate_left
    · (intro W hSw; obtain ⟨hq1, hq2, hq3, hq4, hq5, hq6, hq7, hq8⟩ := hSw; go_simp; try with_reducible rfl)
    try simp only [List.getElem_toArray, List.getElem_cons_succ, List.getElem_cons_zero, Act.put, List.setIfInBounds_toArray, List.set_cons_zero, List.set_cons_succ]
    refine wpAnyH_take (i := 20) (v := ?_) rfl (by kernel_rfl) (by kernel_rfl) (by kernel_rfl) (fun _ _ _ h => h) (Or.inl ⟨by rfl, ?_⟩) hS ?_
    rotate_left
    · (intro W hSw; obtain ⟨hq1, hq2, hq3, hq4, hq5, hq6, hq7, hq8⟩ := hSw; go_simp; try with_reducible rfl)
    try simp only [List.getElem_toArray, List.getElem_cons_succ, List.getElem_cons_zero, Act.put, List.setIfInBounds_toArray, List.set_cons_zero, List.set_cons_succ]
    refine wpAnyH_take (i := 21) (v := ?_) rfl (by kernel_rfl) (by kernel_rfl) (by kernel_rfl) (fun _ _ _ h => h) (Or.inl ⟨by rfl, ?_⟩) hS ?_
    rotate_left
    · (intro W hSw; obtain ⟨hq1, hq2, hq3, hq4, hq5, hq6, hq7, hq8⟩ := hSw; go_simp; try with_reducible rfl)
    try simp only [List.getElem_toArray, List.getElem_cons_succ, List.getElem_cons_zero, Act.put, List.setIfInBounds_toArray, List.set_cons_zero, List.set_cons_succ]
    refine wpAnyH_take (i := 25) (v := ?_) rfl (by kernel_rfl) (by kernel_rfl) (by kernel_rfl) (fun _ _ _ h => h) (Or.inl ⟨by rfl, ?_⟩) hS ?_
    rotate_left
    · (intro W hSw; obtain ⟨hq1, hq2, hq3, hq4, hq5, hq6, hq7, hq8⟩ := hSw; go_simp; try with_reducible rfl)
    try simp only [List.getElem_toArray, List.getElem_cons_succ, List.getElem_cons_zero, Act.put, List.setIfInBounds_toArray, List.set_cons_zero, List.set_cons_succ]
    refine wpAnyH_take (i := 26) (v := ?_) rfl (by kernel_rfl) (by kernel_rfl) (by kernel_rfl) (fun _ _ _ h => h) (Or.inl ⟨by rfl, ?_⟩) hS ?_
    rotate_left
    · (intro W hSw; obtain ⟨hq1, hq2, hq3, hq4, hq5, hq6, hq7, hq8⟩ := hSw; go_simp; try with_reducible rfl)
    try simp only [List.getElem_toArray, List.getElem_cons_succ, List.getElem_cons_zero, Act.put, List.setIfInBounds_toArray, List.set_cons_zero, List.set_cons_succ]
    refine wpAnyH_take (i := 27) (v := ?_) rfl (by kernel_rfl) (by kernel_rfl) (by kernel_rfl) (fun _ _ _ h => h) (Or.inl ⟨by rfl, ?_⟩) hS ?_
    rotate_left
    · (intro W hSw; obtain ⟨hq1, hq2, hq3, hq4, hq5, hq6, hq7, hq8⟩ := hSw; go_simp; try with_reducible rfl)
    try simp only [List.getElem_toArray, List.getElem_cons_succ, List.getElem_cons_zero, Act.put, List.setIfInBounds_toArray, List.set_cons_zero, List.set_cons_succ]
    refine wpAnyH_take (i := 28) (v := ?_) rfl (by kernel_rfl) (by kernel_rfl) (by kernel_rfl) (fun _ _ _ h => h) (Or.inl ⟨by rfl, ?_⟩) hS ?_
    rotate_left
    · (intro W hSw; obtain ⟨hq1, hq2, hq3, hq4, hq5, hq6, hq7, hq8⟩ := hSw; go_simp; try with_reducible rfl)
    try simp only [List.getElem_toArray, List.getElem_cons_succ, List.getElem_cons_zero, Act.put, List.setIfInBounds_toArray, List.set_cons_zero, List.set_cons_succ]
    refine wpAnyH_take (i := 29) (v := ?_) rfl (by kernel_rfl) (by kernel_rfl) (by kernel_rfl) (fun _ _ _ h => h) (Or.inl ⟨by rfl, ?_⟩) hS ?_
    rotate_left
    · (intro W hSw; obtain ⟨hq1, hq2, hq3, hq4, hq5, hq6, hq7, hq8⟩ := hSw; go_simp; try with_reducible rfl)
    try simp only [List.getElem_toArray, List.getElem_cons_succ, List.getElem_cons_zero, Act.put, List.setIfInBounds_toArray, List.set_cons_zero, List.set_cons_succ]
    refine wpAnyH_take (i := 30) (v := ?_) rfl (by kernel_rfl) (by kernel_rfl) (by kernel_rfl) (fun _ _ _ h => h) (Or.inl ⟨by rfl, ?_⟩) hS ?_
    rotate_left
    · (intro W hSw; obtain ⟨hq1, hq2, hq3, hq4, hq5, hq6, hq7, hq8⟩ := hSw; go_simp; try with_reducible rfl)
    try simp only [List.getElem_toArray, List.getElem_cons_succ, List.getElem_cons_zero, Act.put, List.setIfInBounds_toArray, List.set_cons_zero, List.set_cons_succ]
    refine wpAnyH_take (i := 31) (v := ?_) rfl (by kernel_rfl) (by kernel_rfl) (by kernel_rfl) (fun _ _ _ h => h) (Or.inl ⟨by rfl, ?_⟩) hS ?_
    rotate_left
    · (intro W hSw; obtain ⟨hq1, hq2, hq3, hq4, hq5, hq6, hq7, hq8⟩ := hSw; go_simp; try with_reducible rfl)
    try simp only [List.getElem_toArray, List.getElem_cons_succ, List.getElem_cons_zero, Act.put, List.setIfInBounds_toArray, List.set_cons_zero, List.set_cons_succ]
    refine wpAnyH_take (i := 32) (v := ?_) rfl (by kernel_rfl) (by kernel_rfl) (by kernel_rfl) (fun _ _ _ h => h) (Or.inl ⟨by rfl, ?_⟩) hS ?_
    rotate_left
    · (intro W hSw; obtain ⟨hq1, hq2, hq3, hq4, hq5, hq6, hq7, hq8⟩ := hSw; go_simp; try with_reducible rfl)
    try simp only [List.getElem_toArray, List.getElem_cons_succ, List.getElem_cons_zero, Act.put, List.setIfInBounds_toArray, List.set_cons_zero, List.set_cons_succ]
    refine wpAnyH_ready (rs := [10]) (by kernel_rfl) (by simp) ?_
    refine AllReadyH.cons rfl (fun K hK => ?_) AllReadyH.nil
    go_simp
    refine hK.out _ _ (HS15.out _ (HOL.out.below ((Below.refl _ _).alloc (Nat.le_refl _) _))) (fun hS' => ?_)
    clear hK K hS
    replace HOL := Lib.hid (HOL.out.below ((Below.refl _ _).alloc (Nat.le_refl _) (.cells #[.int .i64 r1, .int .i64 r2] 24)))
    replace HOZ := Lib.hid (HOZ.out.alloc (.cells #[.int .i64 r1, .int .i64 r2] 24))
    replace HOT := Lib.hid (HOT.out.alloc (.cells #[.int .i64 r1, .int .i64 r2] 24))
    replace HOU := Lib.hid (HOU.out.alloc (.cells #[.int .i64 r1, .int .i64 r2] 24))
    replace HBL := Lib.hid (HBL.out.alloc HBL.out.size (.cells #[.int .i64 r1, .int .i64 r2] 24))
    replace HSZ := Lib.hid (Nat.le_trans HSZ.out (((Below.refl _ _).alloc (Nat.le_refl _) (.cells #[.int .i64 r1, .int .i64 r2] 24)).size))
    have hS := hS'
    clear hS'
    try simp only [List.getElem_toArray, List.getElem_cons_succ, List.getElem_cons_zero, Act.put, List.setIfInBounds_toArray, List.set_cons_zero, List.set_cons_succ]
    refine wpAnyH_ready (rs := [11]) (by kernel_rfl) (by simp) ?_
    refine AllReadyH.cons rfl (fun K hK => ?_) AllReadyH.nil
    rw [if_pos (by rfl)]
    refine wp_append_at (.tmp 149) (.tmp 158) 22 rfl w1.heap.size 24 2 16 _ underSpans infoSpans rfl (by decide) zb j _ rfl HOZ.out _ 1 1 [.int .i64 r1, .int .i64 r2] rfl rfl (news_block (cs := #[.int .i64 r1, .int .i64 r2]) (t := 24) (fr := (0, 0)) (heap_alloc_at _ _ _ rfl)) (by simp [Value.oneCell']) (by omega) (by decide) (by have := HSZ.out; simp at this; simp; omega) ?_
    intro zb2 w10 hown1 hg1 hat1
    have hbl1 : Below w1.heap.size _ w10 := (Below.refl _ _).grown hg1 (by have := HSZ.out; simp at this; simp; omega) (own_base HOZ.out)
    have HZT := Lib.hid ((HST.out.zt.symm.next hat1 (fun k h => (HOT.out.lt _ h).2)).symm)
    have HZU := Lib.hid ((HST.out.zu.symm.next hat1 (fun k h => (HOU.out.lt _ h).2)).symm)
    replace HOT := Lib.hid (HOT.out.kept hg1 HST.out.zt.symm.sep)
    replace HOU := Lib.hid (HOU.out.kept hg1 HST.out.zu.symm.sep)
    replace HOZ := Lib.hid hown1
    replace HOL := Lib.hid (HOL.out.grown hg1 (.inl rfl))
    replace HBL := Lib.hid (HBL.out.trans (hbl1.mono h00))
    replace HSZ : Hid (w1.heap.size ≤ w10.heap.size) := Nat.le_trans HSZ.out hbl1.size
    clear hg1 hat1 hown1 hbl1 hS
    refine hK.out _ _ (HS15.out _ HOL.out) (fun hS => ?_)
    clear hK K
    try simp only [List.getElem_toArray, List.getElem_cons_succ, List.getElem_cons_zero, Act.put, List.setIfInBounds_toArray, List.set_cons_zero, List.set_cons_succ]
    refine wpAnyH_take (i := 36) (v := ?_) rfl (by kernel_rfl) (by kernel_rfl) (by kernel_rfl) (fun _ _ _ h => h) (Or.inl ⟨by rfl, ?_⟩) hS ?_
    rotate_left
    · (intro W hSw; obtain ⟨hq1, hq2, hq3, hq4, hq5, hq6, hq7, hq8⟩ := hSw; go_simp; try with_reducible rfl)
    try simp only [List.getElem_toArray, List.getElem_cons_succ, List.getElem_cons_zero, Act.put, List.setIfInBounds_toArray, List.set_cons_zero, List.set_cons_succ]
    refine wpAnyH_ready (rs := [22]) (by kernel_rfl) (by simp) ?_
    refine AllReadyH.cons rfl (fun K hK => ?_) AllReadyH.nil
    go_simp
    go_at_call 33
    refine (lspan_any (s1 + kn) (s2 + kn) _).mono ?_
    rintro e' w11 ⟨rfl, hb⟩
    replace HOL := Lib.hid (HOL.out.below hb)
    replace HOZ := Lib.hid (own_below HOZ.out hb)
    replace HOT := Lib.hid (own_below HOT.out hb)
    replace HOU := Lib.hid (own_below HOU.out hb)
    replace HBL := Lib.hid (HBL.out.trans (hb.mono HBL.out.size))
    replace HSZ : Hid (w1.heap.size ≤ w11.heap.size) := Nat.le_trans HSZ.out hb.size
    clear hb hS
    unfold spanV
    refine hK.out _ _ (HS15.out _ HOL.out) (fun hS => ?_)
    clear hK K
    try simp only [List.getElem_toArray, List.getElem_cons_succ, List.getElem_cons_zero, Act.put, List.setIfInBounds_toArray, List.set_cons_zero, List.set_cons_succ]
    refine wpAnyH_ready (rs := [23]) (by kernel_rfl) (by simp) ?_
    refine AllReadyH.cons rfl (fun K hK => ?_) AllReadyH.nil
    go_simp
    refine hK.out _ _ (HS15.out _ (HOL.out.below ((Below.refl _ _).alloc (Nat.le_refl _) _))) (fun hS' => ?_)
    clear hK K hS
    replace HOL := Lib.hid (HOL.out.below ((Below.refl _ _).alloc (Nat.le_refl _) (.cells #[.int .i64 (s1 + kn), .int .i64 (s2 + kn)] 24)))
    replace HOZ := Lib.hid (HOZ.out.alloc (.cells #[.int .i64 (s1 + kn), .int .i64 (s2 + kn)] 24))
    replace HOT := Lib.hid (HOT.out.alloc (.cells #[.int .i64 (s1 + kn), .int .i64 (s2 + kn)] 24))
    replace HOU := Lib.hid (HOU.out.alloc (.cells #[.int .i64 (s1 + kn), .int .i64 (s2 + kn)] 24))
    replace HBL := Lib.hid (HBL.out.alloc HBL.out.size (.cells #[.int .i64 (s1 + kn), .int .i64 (s2 + kn)] 24))
    replace HSZ := Lib.hid (Nat.le_trans HSZ.out (((Below.refl _ _).alloc (Nat.le_refl _) (.cells #[.int .i64 (s1 + kn), .int .i64 (s2 + kn)] 24)).size))
    have hS := hS'
    clear hS'
    try simp only [List.getElem_toArray, List.getElem_cons_succ, List.getElem_cons_zero, Act.put, List.setIfInBounds_toArray, List.set_cons_zero, List.set_cons_succ]
    refine wpAnyH_ready (rs := [24]) (by kernel_rfl) (by simp) ?_
    refine AllReadyH.cons rfl (fun K hK => ?_) AllReadyH.nil
    rw [if_pos (by rfl)]
    refine wp_append_at (.tmp 161) (.tmp 171) 22 rfl w1.heap.size 24 2 16 _ underSpans infoSpans rfl (by decide) tb j _ rfl HOT.out _ 1 1 [.int .i64 (s1 + kn), .int .i64 (s2 + kn)] rfl rfl (news_block (cs := #[.int .i64 (s1 + kn), .int .i64 (s2 + kn)]) (t := 24) (fr := (0, 0)) (heap_alloc_at _ _ _ rfl)) (by simp [Value.oneCell']) (by omega) (by decide) (by have := HSZ.out; simp at this; simp; omega) ?_
    intro tb2 w12 hown1 hg1 hat1
    have hbl1 : Below w1.heap.size _ w12 := (Below.refl _ _).grown hg1 (by have := HSZ.out; simp at this; simp; omega) (own_base HOT.out)
    have HZT1 := HZT
    replace HZT := Lib.hid (HZT.out.next hat1 (fun k h => (HOZ.out.lt _ h).2))
    have HTU := Lib.hid ((HST.out.tu.symm.next hat1 (fun k h => (HOU.out.lt _ h).2)).symm)
    replace HOZ := Lib.hid (HOZ.out.kept hg1 HZT1.out.sep)
    replace HOU := Lib.hid (HOU.out.kept hg1 HST.out.tu.symm.sep)
    replace HOT := Lib.hid hown1
    replace HOL := Lib.hid (HOL.out.grown hg1 (.inr (.inl rfl)))
    replace HBL := Lib.hid (HBL.out.trans (hbl1.mono h00))
    replace HSZ : Hid (w1.heap.size ≤ w12.heap.size) := Nat.le_trans HSZ.out hbl1.size
    clear hg1 hat1 hown1 hbl1 hS
    refine hK.out _ _ (HS15.out _ HOL.out) (fun hS => ?_)
    clear hK K
    try simp only [List.getElem_toArray, List.getElem_cons_succ, List.getElem_cons_zero, Act.put, List.setIfInBounds_toArray, List.set_cons_zero, List.set_cons_succ]
    refine wpAnyH_ready (rs := [33]) (by kernel_rfl) (by simp) ?_
    refine AllReadyH.cons rfl (fun K hK => ?_) AllReadyH.nil
    go_simp
    go_at_call 33
    refine (lspan_any (-s2) (-s1) _).mono ?_
    rintro e' w13 ⟨rfl, hb⟩
    replace HOL := Lib.hid (HOL.out.below hb)
    replace HOZ := Lib.hid (own_below HOZ.out hb)
    replace HOT := Lib.hid (own_below HOT.out hb)
    replace HOU := Lib.hid (own_below HOU.out hb)
    replace HBL := Lib.hid (HBL.out.trans (hb.mono HBL.out.size))
    replace HSZ : Hid (w1.heap.size ≤ w13.heap.size) := Nat.le_trans HSZ.out hb.size
    clear hb hS
    unfold spanV
    refine hK.out _ _ (HS15.out _ HOL.out) (fun hS => ?_)
    clear hK K
    try simp only [List.getElem_toArray, List.getElem_cons_succ, List.getElem_cons_zero, Act.put, List.setIfInBounds_toArray, List.set_cons_zero, List.set_cons_succ]
    refine wpAnyH_ready (rs := [34]) (by kernel_rfl) (by simp) ?_
    refine AllReadyH.cons rfl (fun K hK => ?_) AllReadyH.nil
    go_simp
    refine hK.out _ _ (HS15.out _ (HOL.out.below ((Below.refl _ _).alloc (Nat.le_refl _) _))) (fun hS' => ?_)
    clear hK K hS
    replace HOL := Lib.hid (HOL.out.below ((Below.refl _ _).alloc (Nat.le_refl _) (.cells #[.int .i64 (-s2), .int .i64 (-s1)] 24)))
    replace HOZ := Lib.hid (HOZ.out.alloc (.cells #[.int .i64 (-s2), .int .i64 (-s1)] 24))
    replace HOT := Lib.hid (HOT.out.alloc (.cells #[.int .i64 (-s2), .int .i64 (-s1)] 24))
    replace HOU := Lib.hid (HOU.out.alloc (.cells #[.int .i64 (-s2), .int .i64 (-s1)] 24))
    replace HBL := Lib.hid (HBL.out.alloc HBL.out.size (.cells #[.int .i64 (-s2), .int .i64 (-s1)] 24))
    replace HSZ := Lib.hid (Nat.le_trans HSZ.out (((Below.refl _ _).alloc (Nat.le_refl _) (.cells #[.int .i64 (-s2), .int .i64 (-s1)] 24)).size))
    have hS := hS'
    clear hS'
    try simp only [List.getElem_toArray, List.getElem_cons_succ, List.getElem_cons_zero, Act.put, List.setIfInBounds_toArray, List.set_cons_zero, List.set_cons_succ]
    refine wpAnyH_ready (rs := [35]) (by kernel_rfl) (by simp) ?_
    refine AllReadyH.cons rfl (fun K hK => ?_) AllReadyH.nil
    rw [if_pos (by rfl)]
    refine wp_append_at (.tmp 174) (.tmp 182) 22 rfl w1.heap.size 24 2 16 _ underSpans infoSpans rfl (by decide) ub j _ rfl HOU.out _ 1 1 [.int .i64 (-s2), .int .i64 (-s1)] rfl rfl (news_block (cs := #[.int .i64 (-s2), .int .i64 (-s1)]) (t := 24) (fr := (0, 0)) (heap_alloc_at _ _ _ rfl)) (by simp [Value.oneCell']) (by omega) (by decide) (by have := HSZ.out; simp at this; simp; omega) ?_
    intro ub2 w14 hown1 hg1 hat1
    have hbl1 : Below w1.heap.size _ w14 := (Below.refl _ _).grown hg1 (by have := HSZ.out; simp at this; simp; omega) (own_base HOU.out)
    have HZU2 := Lib.hid (HZU.out.next hat1 (fun k h => (HOZ.out.lt _ h).2))
    have HTU2 := Lib.hid (HTU.out.next hat1 (fun k h => (HOT.out.lt _ h).2))
    replace HOZ := Lib.hid (HOZ.out.kept hg1 HZU.out.sep)
    replace HOT := Lib.hid (HOT.out.kept hg1 HTU.out.sep)
    replace HOU := Lib.hid hown1
    replace HOL := Lib.hid (HOL.out.grown hg1 (.inr (.inr rfl)))
    replace HBL := Lib.hid (HBL.out.trans (hbl1.mono h00))
    replace HSZ : Hid (w1.heap.size ≤ w14.heap.size) := Nat.le_trans HSZ.out hbl1.size
    clear hg1 hat1 hown1 hbl1 hS
    refine hK.out _ _ (HS15.out _ HOL.out) (fun hS => ?_)
    clear hK K
    try simp only [List.getElem_toArray, List.getElem_cons_succ, List.getElem_cons_zero, Act.put, List.setIfInBounds_toArray, List.set_cons_zero, List.set_cons_succ]
    refine wpAnyH_done (by kernel_rfl) ?_ _
    unfold TailQ
    simp only [List.drop_succ_cons, List.drop_zero]
    have hb5A := HST.out.b5.later HQ1.out (hAb.mono HST.out.sz)
    have hlt := HQ1.out.lt
    have hge := HQ1.out.ge
    have hb5 : B5 q8 q9 q10 q11 q12 _ _ _ _ _ w14 := ⟨(HOLD.out w14 HOL.out q8 (by omega)).trans hb5A.b8, (HOLD.out w14 HOL.out q9 (by omega)).trans hb5A.b9, (HOLD.out w14 HOL.out q10 (by omega)).trans hb5A.b10, (HOLD.out w14 HOL.out q11 (by omega)).trans hb5A.b11, (HOLD.out w14 HOL.out q12 (by omega)).trans hb5A.b12⟩
    obtain ⟨gz, cz, rfl⟩ := own_pos HOZ.out
    obtain ⟨gt, ct, rfl⟩ := own_pos HOT.out
    obtain ⟨gu, cu, rfl⟩ := own_pos HOU.out
    have fz := fun k => frozen_of_row _ _ k _ _ hb5.b10
    have ft := fun k => frozen_of_row _ _ k _ _ hb5.b11
    have fu := fun k => frozen_of_row _ _ k _ _ hb5.b12
    have hne1 : q10 ≠ q11 := HQ1.out.n10.1
    have hne2 : q10 ≠ q12 := HQ1.out.n10.2.1
    have hne3 : q11 ≠ q12 := HQ1.out.n10.2.2
    have z0 := cell_of_row _ _ 0 _ _ _ hb5.b10
    have t0 := cell_of_row _ _ 0 _ _ _ hb5.b11
    have u0' := cell_of_row _ _ 0 _ _ _ hb5.b12
    have HB5 := Lib.hid hb5
    clear hb5 hb5A hS hw1 hw2 hw3 hw5 hw6
    go_upto_region 16 with fail
    clear fz ft fu z0 t0 u0'
    obtain ⟨w15, hw15⟩ : ∃ u, u = ((w14.setCell ⟨q10, 0, none⟩ (.slice (some ⟨gz, 0, none⟩) (j + 1) cz)).setCell ⟨q11, 0, none⟩ (.slice (some ⟨gt, 0, none⟩) (j + 1) ct)).setCell ⟨q12, 0, none⟩ (.slice (some ⟨gu, 0, none⟩) (j + 1) cu) := ⟨_, rfl⟩
    have h5n := ((HB5.out.set10 HQ1.out 0 (.slice (some ⟨gz, 0, none⟩) (j + 1) cz)).set11 HQ1.out 0 (.slice (some ⟨gt, 0, none⟩) (j + 1) ct)).set12 HQ1.out 0 (.slice (some ⟨gu, 0, none⟩) (j + 1) cu)
    have hk15 : Keeps (fun k => k = q10 ∨ k = q11 ∨ k = q12) w14 w15 := by
      rw [hw15]
      exact ((Keeps.setCell (Mut := fun k => k = q10 ∨ k = q11 ∨ k = q12) w14 ⟨q10, 0, none⟩ _ (.inl rfl)).trans (Keeps.setCell (Mut := fun k => k = q10 ∨ k = q11 ∨ k = q12) _ ⟨q11, 0, none⟩ _ (.inr (.inl rfl)))).trans (Keeps.setCell (Mut := fun k => k = q10 ∨ k = q11 ∨ k = q12) _ ⟨q12, 0, none⟩ _ (.inr (.inr rfl)))
    rw [← hw15] at h5n ⊢
    have hown : ∀ {v : Value} {m : Nat} {xs : List Value}, w14.ownsRow w1.heap.size 24 2 v m xs → w15.ownsRow w1.heap.size 24 2 v m xs := fun {v m xs} h => by
      obtain ⟨h1, h2⟩ := h
      exact ⟨h1, h2.imp id (fun ⟨g, cap, cur, a, b, c, d⟩ => ⟨g, cap, cur, a, b, (hk15.block g (lt_of_block c) (by omega)).trans c, d⟩)⟩
    have hreads : ∀ {v : Value} {l : List RdD}, ReadsAt wr v l (fun k => k < w1.heap.size ∧ R5 q8 q9 q10 q11 q12 k) → ReadsAt w15 v l (fun k => k < w1.heap.size ∧ R5 q8 q9 q10 q11 q12 k) := fun {v l} h =>
      h.later (by have h1 := HOL.out.1; have h2 := hk15.size; have h3 := hAb.size; omega) (fun k hk hr => by
        obtain ⟨hkn, e1, e2, e3, e4, e5⟩ := hr
        exact (hk15.block k (by have h1 := HSZ.out; omega) (by omega)).trans ((HOLD.out w14 HOL.out k (.inl hkn)).trans (hAb.block k hk)))
    have hsb : w15.cell? ⟨wr.heap.size, 1, none⟩ = some (.int .i64 s2) := cell_of_row _ _ 1 _ _ _ ((hk15.block _ (by have h1 := HOL.out.1; have h2 := HSA.out; omega) (by have h1 := HST.out.sz; omega)).trans ((HOLD.out w14 HOL.out _ (.inr rfl)).trans hbox))
    have hz := HE.out
    have hzl : j < (revP p).bs.length := by rw [revP_bs]; exact hlj
    have htl : j < (shiftP p kn).bs.length := by rw [shiftP_bs]; exact hlj
    have hul : j < (negP p).bs.length := by rw [negP_bs]; exact hlj
    have ez : (revP p).bs[j] = (r1, r2) := (rev_at p j hzl hlj).trans ((at_eq p.bs _ _ hz.symm (by omega) hel).trans HRV.out)
    have et : (shiftP p kn).bs[j] = (s1 + kn, s2 + kn) := by have h1 := shift_at p kn j htl hlj; rw [HSV.out] at h1; exact h1
    have eu : (negP p).bs[j] = (-s2, -s1) := by have h1 := neg_at p j hul hlj; rw [HSV.out] at h1; exact h1
    have hoz2 := hown HOZ.out
    have hot2 := hown HOT.out
    have hou2 := hown HOU.out
    rw [show ((revP p).bs.take j).flatMap spC ++ [.int .i64 r1, .int .i64 r2] = ((revP p).bs.take (j + 1)).flatMap spC by rw [List.take_succ_eq_append_getElem hzl, List.flatMap_append, ez]; simp [spC]] at hoz2
    rw [show ((shiftP p kn).bs.take j).flatMap spC ++ [.int .i64 (s1 + kn), .int .i64 (s2 + kn)] = ((shiftP p kn).bs.take (j + 1)).flatMap spC by rw [List.take_succ_eq_append_getElem htl, List.flatMap_append, et]; simp [spC]] at hot2
    rw [show ((negP p).bs.take j).flatMap spC ++ [.int .i64 (-s2), .int .i64 (-s1)] = ((negP p).bs.take (j + 1)).flatMap spC by rw [List.take_succ_eq_append_getElem hul, List.flatMap_append, eu]; simp [spC]] at hou2
    have hnext : L1 p r kn q8 q9 q10 q11 q12 (.slice (some ⟨bb, off, none⟩) p.bs.length cap) (.slice ao3 (p.rs.length + 1) cap3) (.slice aoY p.rs.length capY) (.slice ao2 p.rs.length cap2) (narP p iy).rs w0 w1.heap.size (.slice (some ⟨gz, 0, none⟩) (j + 1) cz) (.slice (some ⟨gt, 0, none⟩) (j + 1) ct) (.slice (some ⟨gu, 0, none⟩) (j + 1) cu) (j + 1) w15 :=
      ⟨h5n, hoz2, hot2, hou2, HZT.out, HZU2.out, HTU2.out, hreads HST.out.x, hreads HST.out.y, HBL.out.trans (hk15.below HBL.out.size (fun k hk h => by omega)), Nat.le_trans HSZ.out hk15.size⟩
    have hfn := fitK_next p kn j hlj
    rw [HSV.out] at hfn
    dsimp only at hfn
    obtain ⟨bo, hbo⟩ : ∃ bo, decide (s2 + (kn : Int) ≤ 20) = bo := ⟨_, rfl⟩
    rw [hbo] at hfn
    have HFN := Lib.hid hfn
    have HNX := Lib.hid hnext
    have hwj : IntKind.i64.wrap ((j : Int) + 1) = ((j + 1 : Nat) : Int) := by rw [IntWalk.i64_in _ (by omega)]; omega
    generalize fitK p kn j = fk at *
    clear h5n hk15 hown hreads hoz2 hot2 hou2 hnext hfn hw15 ez et eu hz
    cases fk
    all_goals
      go_wp2
      exact ⟨⟨j + 1, by omega, by first | rfl | (congr 1; omega), by rw [HFN.out]; rfl, _, _, _, HNX.out⟩, by simp [intOf]; omega⟩

end Go.Proofs.Ytlgeggekmdoceaa

/- PairMore: the walk, from the copy of the readings on. -/
namespace Go.Proofs.Ytlgeggekmdoceaa
set_option linter.unusedVariables false
set_option linter.unusedSimpArgs false
open Go.RowKit Go.Shelf
attribute [local go_sem] Oper.semAt_some
set_option maxRecDepth 100000 in
set_option maxHeartbeats 8000000 in
theorem more_b (p : PairD) (r : RdD) (x : Int) (hx : 0 ≤ x ∧ x < 256) (an bn mn kn B q8 q9 q10 q11 q12 cap2 cap3 : Nat) (bsv : Value) (ao2 ao3 : Option Addr) (w0 w : World) (hv : validB p = true) (hal : an < p.bs.length) (hbl : bn < p.bs.length) (hmn : mn < 61) (hkn : kn < 12)
    (hB : B < w0.heap.size) (hb0 : Below w0.heap.size w0 w) (hpa : PairAt w0 p bsv (.slice ao2 p.rs.length cap2)) (hr0 : w0.heap[B]? = some (.cells (pairRow p bsv (.slice ao2 p.rs.length cap2)) 27 (0, 0)))
    (hq : Q5 w0.heap.size w.heap.size q8 q9 q10 q11 q12) (h5 : B5 q8 q9 q10 q11 q12 (pairRow p bsv (.slice ao3 (p.rs.length + 1) cap3)) (pairRow p bsv (.slice ao2 p.rs.length cap2)) (pairRow p bsv (.slice ao2 p.rs.length cap2)) (pairRow p bsv (.slice ao2 p.rs.length cap2)) (pairRow p bsv (.slice ao2 p.rs.length cap2)) w)
    (hxr : ReadsAt w (.slice ao3 (p.rs.length + 1) cap3) (p.rs ++ [r]) (R5 q8 q9 q10 q11 q12))
    (R : Ending → World → Prop) (hR : ∀ w', Below w0.heap.size w0 w' → R (.returned (.bool true)) w') (K : Act → World → Prop)
    (hK : ∀ a w, Code.wp Try.prog (moreC 6) (bodyPost Try.prog Try.f12 R) a w → K a w) (u0 u1 u3 u4 u6 u70 u71 u72 u73 u74 u75 u76 u77 u78 u79 u80 u81 u82 u83 u84 u85 u86 u87 u88 u89 u90 u91 u92 u93 u94 u95 u96 u97 u98 u99 u100 u101 u102 : Value) :
    Code.wp Try.prog (headC 5) (Exit.then K (bodyPost Try.prog Try.f12 R)) ⟨#[u0, u1, .int .u8 x, u3, u4, .pointer (some ⟨B, 0, none⟩), u6, undef, undef, undef, .bool false, .int .i64 p.bs.length, .int .i64 kn, .int .i64 an, .int .i64 bn, .int .i64 mn, .pointer (some ⟨q8, 0, none⟩), .pointer (some ⟨q9, 0, none⟩), .pointer (some ⟨q10, 0, none⟩), .pointer (some ⟨q11, 0, none⟩), .pointer (some ⟨q12, 0, none⟩), undef, undef, undef, undef, undef, undef, undef, undef, undef, undef, undef, undef, undef, undef, undef, undef, undef, undef, undef, undef, undef, undef, undef, undef, undef, undef, undef, undef, undef, undef, undef, undef, undef, undef, undef, undef, undef, undef, undef, undef, undef, undef, undef, undef, undef, undef, undef, undef, undef, u70, u71, u72, u73, u74, u75, u76, u77, u78, u79, u80, u81, u82, u83, u84, u85, u86, u87, u88, u89, u90, u91, u92, u93, u94, u95, u96, u97, u98, u99, u100, u101, u102, undef, undef, undef, undef, undef, undef, undef, undef, undef, undef, undef, undef, undef, undef, undef, undef, undef, undef, undef, undef, undef, undef, undef, undef, undef, undef, undef, undef, undef, undef, undef, undef, undef, undef, undef, undef, undef, undef, undef, undef, undef, undef, undef, undef, undef, undef, undef, undef, undef, undef, undef, undef, undef, undef, undef, undef, undef, undef, undef, undef, undef, undef, undef, undef, undef, undef, undef, undef, undef, undef, undef, undef, undef, undef, undef, undef, undef, undef, undef, undef, undef, undef, undef, undef, undef, undef, undef, undef, undef, undef, undef, undef, undef, undef, undef, undef, undef, undef, undef, undef, undef, undef, undef, undef, undef, undef, undef, undef, undef, undef, undef, undef, undef, undef, undef, undef, undef, undef, undef, undef, undef, undef, undef, undef, undef, undef, undef, undef, undef, undef, undef, undef, undef, undef, undef, undef, undef, undef, undef, undef, undef, undef, undef, undef, undef, undef, undef, undef, undef, undef, undef, undef, undef, undef, undef, undef, undef, undef, undef, undef, undef, undef, undef, undef, undef, undef, undef, undef, undef, undef, undef, undef, undef, undef, undef, undef, undef, undef, undef, undef, undef, undef, undef, undef, undef, undef, undef, undef, undef, undef, undef, undef, undef, undef, undef, undef, undef, undef, undef, undef, undef, undef, undef, undef, undef, undef, undef, undef, undef, undef, undef, undef, undef, undef, undef, undef, undef, undef, undef, undef, undef, undef, undef, undef, undef, undef, undef, undef, undef, undef, undef, undef, undef, undef, undef, undef, undef, undef, undef, undef, undef, undef, undef, undef, undef, undef, undef, undef, undef, undef, undef, undef, undef, undef, undef, undef, undef, undef, undef, undef, undef, undef, undef, undef, undef, undef, undef, undef, undef, undef, undef, undef, undef, undef, undef, undef, undef, undef, undef, undef, undef, undef, undef, undef, undef, undef, undef, undef, undef, undef, undef, undef, undef, undef, undef, undef, undef, undef, undef, undef, undef, undef, undef, undef, undef, undef, undef, undef, undef, undef, undef, undef, undef, undef, undef, undef, undef, undef, undef, undef, undef, undef, undef, undef, undef, undef, undef, undef, undef, undef, undef, undef, undef, undef, undef, undef, undef, undef, undef, undef, undef, undef, undef, undef, undef, undef, undef, undef, undef, undef, undef, undef, undef, undef, undef, undef, undef, undef, undef, undef, undef, undef, undef, undef, undef, undef, undef, undef, undef, undef, undef, undef, undef, undef, undef, undef, undef, undef, undef, undef, undef, undef, undef, undef, undef, undef, undef, undef, undef, undef, undef, undef, undef, undef, undef, undef, undef, undef, undef, undef, undef, undef, undef, undef, undef, undef, undef, undef, undef, undef, undef, undef, undef, undef, undef, undef, undef, undef, undef, undef, undef, undef, undef, undef, undef, undef, undef, undef, undef, undef, undef, undef, undef, undef, undef, undef, undef, undef, undef, undef, undef, undef, undef, undef, undef, undef, undef, undef, undef, undef, undef, undef, undef, undef, undef, undef, undef, undef, undef, undef, undef, undef, undef, undef, undef, undef, undef, undef, undef, undef, undef, undef, undef, undef, undef, undef, undef, undef, undef, undef, undef, undef, undef, undef, undef, undef, undef, undef, undef, undef, undef, undef, undef, undef, undef, undef, undef, undef, undef, undef, undef, undef, undef, undef, undef, undef, undef, undef, undef, undef, undef, undef, undef, undef, undef, undef, undef, undef, undef, undef, undef, undef], []⟩ w := by
  conv => arg 2; whnf
  have hp := OkP.of p hv
  have hm8 := hp.m8
  have hxx := hx
  obtain ⟨hx1, hx2⟩ := hx
  have HPA := Lib.hid hpa
  have HR0 := Lib.hid hr0
  have HQ := Lib.hid hq
  have HXR := Lib.hid hxr
  obtain ⟨A, hA⟩ : ∃ A, A = w.alloc (.cells #[] 44) := ⟨_, rfl⟩
  have hAb : Below w.heap.size w A := by rw [hA]; exact (Below.refl _ _).alloc (Nat.le_refl _) _
  have HG := Lib.hid (show A.heap[w.heap.size]? = some (.cells #[] 44 (0, 0)) by rw [hA]; exact heap_alloc_at _ _ _ rfl)
  have h0A := hb0.trans (hAb.mono hb0.size)
  have r5 : (w.alloc (.cells #[] 44)).cell? ⟨B, 5, none⟩ = some (.slice ao2 p.rs.length cap2) := by rw [← hA]; exact cell_of_row _ _ 5 _ _ _ ((h0A.block _ hB).trans hr0)
  have hsA : A.heap.size = w.heap.size + 1 := by rw [hA]; simp
  have HA := Lib.hid hA
  have H5 := Lib.hid (h5.later hq hAb)
  have HB := Lib.hid h0A
  clear hA hpa hr0 hq hxr h5 hb0 hAb h0A
  go_upto_region 7 with (first
    | (at_builtin; rw [← HA.out]; refine wpList_copy_reads rfl _ _ rfl w.heap.size rfl HG.out ao2 cap2 p.rs rfl _ (HPA.out.later HB.out).r (by omega) ?_; intro v1 w1 hown1 hb1; have hs1 : w.heap.size + 1 ≤ w1.heap.size := (by have := hb1.size; omega); have HO1 := Lib.hid hown1; have H5 := Lib.hid (H5.out.later HQ.out hb1); have HB := Lib.hid (HB.out.trans (hb1.mono (by have := HQ.out.ge; have := HQ.out.lt; omega))); have f5 := fun k => frozen_of_row _ _ k _ _ H5.out.b9; have y5 := cell_of_row _ _ 5 _ _ _ H5.out.b9; obtain ⟨aoY, capY, rfl⟩ := own_anyM hown1; have HW1 := Lib.hid hb1; clear hown1 hb1 r5))
  conv => arg 2; whnf
  obtain ⟨w2, hw2⟩ : ∃ u, u = w1.setCell ⟨q9, 5, none⟩ (.slice aoY p.rs.length capY) := ⟨_, rfl⟩
  have h5b := H5.out.set9 HQ.out 5 (.slice aoY p.rs.length capY)
  have hk2 : Keeps (fun k => k = q9) w1 w2 := by rw [hw2]; exact Keeps.setCell (Mut := fun k => k = q9) _ _ _ rfl
  have hq9 : q9 < w.heap.size := HQ.out.lt.2.1
  have hq0 : w0.heap.size ≤ q9 := HQ.out.ge.2.1
  have hb2 : Below w0.heap.size w0 w2 := by rw [hw2]; exact HB.out.setCell (p := ⟨q9, 5, none⟩) hq0 _
  have HOY := Lib.hid (own_thruM HO1.out hk2 hq9)
  have hyr := readsAt_of_owns (l := p.rs) HOY.out
  have hq' : Q5 w0.heap.size w2.heap.size q8 q9 q10 q11 q12 := by
    have h1 := HQ.out
    have h2 := hk2.size
    exact ⟨h1.ge, by have := h1.lt; omega, h1.n8, h1.n9, h1.n10⟩
  have hxr : ReadsAt w2 (.slice ao3 (p.rs.length + 1) cap3) (p.rs ++ [r]) (fun k => k < w.heap.size ∧ R5 q8 q9 q10 q11 q12 k) := by
    have h0 := HXR.out.rdM (Rd' := fun k => k < w.heap.size ∧ R5 q8 q9 q10 q11 q12 k) (fun k hk hr => ⟨hk, hr⟩)
    have h1 := h0.later (W := A) (by omega) (fun k hk _ => by rw [HA.out]; exact Below.heap_alloc _ _ _ hk)
    have h2 := h1.later (W := w1) (by omega) (fun k hk hr => HW1.out.block k hr.1)
    exact h2.later hk2.size (fun k hk hr => hk2.block k hk hr.2.2.1)
  rw [← hw2] at h5b ⊢
  have h5c : B5 q8 q9 q10 q11 q12 (pairRow p bsv (.slice ao3 (p.rs.length + 1) cap3)) (pairRow p bsv (.slice aoY p.rs.length capY)) (pairRow p bsv (.slice ao2 p.rs.length cap2)) (pairRow p bsv (.slice ao2 p.rs.length cap2)) (pairRow p bsv (.slice ao2 p.rs.length cap2)) w2 := h5b
  have y5 : w2.cell? ⟨q9, 5, none⟩ = some (.slice aoY p.rs.length capY) := cell_of_row _ _ 5 _ _ _ h5c.b9
  have HY := Lib.hid hyr
  have H5 := Lib.hid h5c
  have HX := Lib.hid hxr
  have HB2 := Lib.hid hb2
  have HQ2 := Lib.hid hq'
  have hs2 := hk2.size
  clear h5b h5c hk2 hb2 hyr hq' hxr hw2
  by_cases hr : p.rs.length = 0
  · have hd : decide ((0 : Int) < (p.rs.length : Int)) = false := decide_eq_false (by omega)
    go_upto_region 10 with fail
    refine more_c p r an bn mn kn B q8 q9 q10 q11 q12 0 cap2 cap3 capY bsv ao2 ao3 aoY w0 w2 hv hal hbl hmn hkn hB HB2.out HPA.out HR0.out HQ2.out H5.out (HX.out.rdM (fun k _ h => h.2)) ?_ R hR _ (by assumption) _ _ _ _ _ _ _ _ _ _ _ _ _ _ _ _ _ _ _ _ _ _ _ _ _ _ _ _ _ _ _ _ _ _ _ _ _ _ _ _ _ _ _ _ _ _ _ _ _ _ _ _ _ _ _ _ _ _ _ _ _ _ _ _ _ _ _ _ _ _ _ _
    have hn : (narP p 0).rs = p.rs := by
      have := List.length_eq_zero_iff.1 hr
      unfold narP
      rw [this]; rfl
    rw [hn]
    exact HY.out.rdM (fun k _ hk => by have h1 := HQ.out.lt; have h2 : w.heap.size ≤ k := hk; exact ⟨by omega, by omega, by omega, by omega, by omega⟩)
  have hd : decide ((0 : Int) < (p.rs.length : Int)) = true := decide_eq_true (by omega)
  have hz : ((p.rs.length : Int) == 0) = false := by rw [beq_eq_false_iff_ne]; omega
  obtain ⟨i, hi⟩ : ∃ n : Nat, x % (p.rs.length : Int) = n := ⟨(x % (p.rs.length : Int)).toNat, by have := Int.emod_nonneg x (b := (p.rs.length : Int)) (by omega); omega⟩
  have hil : i < p.rs.length := by have := Int.emod_lt_of_pos x (b := (p.rs.length : Int)) (by omega); omega
  obtain ⟨gY, hgY⟩ : ∃ g, aoY = some ⟨g, 0, none⟩ := by
    rcases HO1.out.2 with ⟨h1, h2⟩ | ⟨g, cap, cur, h1, _⟩
    · exact absurd h2 hr
    · injection h1 with h1; exact ⟨g, h1⟩
  subst hgY
  go_wp2_with fail
  go_quiet (fail)
  obtain ⟨w3, hw3⟩ : ∃ wv, wv = w2.drewN nq := ⟨_, rfl⟩
  rw [← hw3]
  have hb3 : Below w2.heap.size w2 w3.drew := by rw [hw3]; exact ⟨rfl, rfl, rfl, Nat.le_refl _, fun _ _ => rfl⟩
  have hy3 : ReadsAt w3.drew (.slice (some ⟨gY, 0, none⟩) p.rs.length capY) p.rs (fun k => w.heap.size ≤ k) := HY.out.later hb3.size (fun k hk _ => hb3.block k hk)
  have hri := hp.rs _ (List.getElem_mem hil)
  obtain ⟨t7, t8⟩ : w3.drew.cell? ⟨gY, i * 5 + 3, none⟩ = some (.int .i64 p.rs[i].lo) ∧ w3.drew.cell? ⟨gY, i * 5 + 4, none⟩ = some (.int .i64 p.rs[i].hi) := by
    obtain ⟨ao', cap', h1, _, _, h4⟩ := hy3
    injection h1 with h1a _ _
    obtain ⟨b, off, e1, _, _, _, _, _, e7, e8⟩ := h4 i hil
    rw [← h1a] at e1
    have e1 := Option.some.inj e1
    have eb : b = gY := (congrArg Addr.block e1).symm
    have eo : off = 0 := (congrArg (fun x : Addr => x.off) e1).symm
    subst eb eo
    rw [Nat.zero_add] at e7 e8
    exact ⟨e7, e8⟩
  have t9 : ∀ k, w3.drew.frozen? ⟨gY, k, none⟩ = false := fun k => by
    obtain ⟨g, cap, cur, e, hge, hg, _⟩ := own_row HOY.out (by omega)
    have e1 : gY = g := by injection e with e _ _; exact congrArg Addr.block (Option.some.inj e)
    subst e1
    exact frozen_of_row _ _ k _ _ ((hb3.block _ (lt_of_block hg)).trans hg)
  have HY3 := Lib.hid hy3
  have HB3 := Lib.hid hb3
  have hgw : w.heap.size ≤ gY := by
    obtain ⟨ao', cap', h1, _, _, h4⟩ := hy3
    injection h1 with h1a _ _
    obtain ⟨b, off, e1, e2, _⟩ := h4 i hil
    rw [← h1a] at e1
    have e1 := Option.some.inj e1
    have eb : b = gY := (congrArg Addr.block e1).symm
    subst eb
    exact e2
  obtain ⟨lo, hlo⟩ : ∃ lo, lo = p.rs[i].lo := ⟨_, rfl⟩
  obtain ⟨hi', hhi⟩ : ∃ hi, hi = p.rs[i].hi := ⟨_, rfl⟩
  rw [← hlo] at t7
  rw [← hhi] at t8
  have hwl : IntKind.i64.wrap (lo + 1) = lo + 1 := IntWalk.i64_in _ (by omega)
  have HLO := Lib.hid hlo
  have HHI := Lib.hid hhi
  clear hy3 hb3 hri hlo hhi
  go_wp2_with fail
  have hS : S2c gY (i * 5) lo hi' w3.drew := ⟨t7, t8⟩
  refine wp_region_tail 11 #[false, false, false, false, false, false, false, false, false, false, false, true, true, true] (S2c gY (i * 5) lo hi') (by kernel_rfl) (by kernel_rfl) (by rfl) hS fun hS => ?_
  refine wpAnyH_take (i := 0) (v := ?_) rfl (by kernel_rfl) (by kernel_rfl) (by kernel_rfl) (fun _ _ _ h => h) (Or.inl ⟨by rfl, ?_⟩) hS ?_
  rotate_left
  · (intro W hSw; obtain ⟨hq1, hq2⟩ := hSw; go_simp; try with_reducible rfl)
  try simp only [List.getElem_toArray, List.getElem_cons_succ, List.getElem_cons_zero, Act.put, List.setIfInBounds_toArray, List.set_cons_zero, List.set_cons_succ]
  refine wpAnyH_take (i := 1) (v := ?_) rfl (by kernel_rfl) (by kernel_rfl) (by kernel_rfl) (fun _ _ _ h => h) (Or.inl ⟨by rfl, ?_⟩) hS ?_
  rotate_left
  · (intro W hSw; obtain ⟨hq1, hq2⟩ := hSw; go_simp; try with_reducible rfl)
  try simp only [List.getElem_toArray, List.getElem_cons_succ, List.getElem_cons_zero, Act.put, List.setIfInBounds_toArray, List.set_cons_zero, List.set_cons_succ]
  refine wpAnyH_take (i := 2) (v := ?_) rfl (by kernel_rfl) (by kernel_rfl) (by kernel_rfl) (fun _ _ _ h => h) (Or.inl ⟨by rfl, ?_⟩) hS ?_
  rotate_left
  · (intro W hSw; obtain ⟨hq1, hq2⟩ := hSw; go_simp; try with_reducible rfl)
  try simp only [List.getElem_toArray, List.getElem_cons_succ, List.getElem_cons_zero, Act.put, List.setIfInBounds_toArray, List.set_cons_zero, List.set_cons_succ]
  refine wpAnyH_take (i := 3) (v := ?_) rfl (by kernel_rfl) (by kernel_rfl) (by kernel_rfl) (fun _ _ _ h => h) (Or.inl ⟨by rfl, ?_⟩) hS ?_
  rotate_left
  · (intro W hSw; obtain ⟨hq1, hq2⟩ := hSw; go_simp; try with_reducible rfl)
  try simp only [List.getElem_toArray, List.getElem_cons_succ, List.getElem_cons_zero, Act.put, List.setIfInBounds_toArray, List.set_cons_zero, List.set_cons_succ]
  refine wpAnyH_take (i := 4) (v := ?_) rfl (by kernel_rfl) (by kernel_rfl) (by kernel_rfl) (fun _ _ _ h => h) (Or.inl ⟨by rfl, ?_⟩) hS ?_
  rotate_left
  · (intro W hSw; obtain ⟨hq1, hq2⟩ := hSw; go_simp; try with_reducible rfl)
  try simp only [List.getElem_toArray, List.getElem_cons_succ, List.getElem_cons_zero, Act.put, List.setIfInBounds_toArray, List.set_cons_zero, List.set_cons_succ]
  refine wpAnyH_take (i := 5) (v := ?_) rfl (by kernel_rfl) (by kernel_rfl) (by kernel_rfl) (fun _ _ _ h => h) (Or.inl ⟨by rfl, ?_⟩) hS ?_
  rotate_left
  · (intro W hSw; obtain ⟨hq1, hq2⟩ := hSw; go_simp; try with_reducible rfl)
  try simp only [List.getElem_toArray, List.getElem_cons_succ, List.getElem_cons_zero, Act.put, List.setIfInBounds_toArray, List.set_cons_zero, List.set_cons_succ]
  refine wpAnyH_take (i := 6) (v := ?_) rfl (by kernel_rfl) (by kernel_rfl) (by kernel_rfl) (fun _ _ _ h => h) (Or.inl ⟨by rfl, ?_⟩) hS ?_
  rotate_left
  · (intro W hSw; obtain ⟨hq1, hq2⟩ := hSw; go_simp; try with_reducible rfl)
  try simp only [List.getElem_toArray, List.getElem_cons_succ, List.getElem_cons_zero, Act.put, List.setIfInBounds_toArray, List.set_cons_zero, List.set_cons_succ]
  refine wpAnyH_take (i := 7) (v := ?_) rfl (by kernel_rfl) (by kernel_rfl) (by kernel_rfl) (fun _ _ _ h => h) (Or.inl ⟨by rfl, ?_⟩) hS ?_
  rotate_left
  · (intro W hSw; obtain ⟨hq1, hq2⟩ := hSw; go_simp; try with_reducible rfl)
  try simp only [List.getElem_toArray, List.getElem_cons_succ, List.getElem_cons_zero, Act.put, List.setIfInBounds_toArray, List.set_cons_zero, List.set_cons_succ]
  refine wpAnyH_take (i := 8) (v := ?_) rfl (by kernel_rfl) (by kernel_rfl) (by kernel_rfl) (fun _ _ _ h => h) (Or.inl ⟨by rfl, ?_⟩) hS ?_
  rotate_left
  · (intro W hSw; obtain ⟨hq1, hq2⟩ := hSw; go_simp; try with_reducible rfl)
  try simp only [List.getElem_toArray, List.getElem_cons_succ, List.getElem_cons_zero, Act.put, List.setIfInBounds_toArray, List.set_cons_zero, List.set_cons_succ]
  refine wpAnyH_take (i := 9) (v := ?_) rfl (by kernel_rfl) (by kernel_rfl) (by kernel_rfl) (fun _ _ _ h => h) (Or.inl ⟨by rfl, ?_⟩) hS ?_
  rotate_left
  · (intro W hSw; obtain ⟨hq1, hq2⟩ := hSw; go_simp; try with_reducible rfl)
  try simp only [List.getElem_toArray, List.getElem_cons_succ, List.getElem_cons_zero, Act.put, List.setIfInBounds_toArray, List.set_cons_zero, List.set_cons_succ]
  refine wpAnyH_take (i := 10) (v := ?_) rfl (by kernel_rfl) (by kernel_rfl) (by kernel_rfl) (fun _ _ _ h => h) (Or.inl ⟨by rfl, ?_⟩) hS ?_
  rotate_left
  · (intro W hSw; obtain ⟨hq1, hq2⟩ := hSw; go_simp; try with_reducible rfl)
  try simp only [List.getElem_toArray, List.getElem_cons_succ, List.getElem_cons_zero, Act.put, List.setIfInBounds_toArray, List.set_cons_zero, List.set_cons_succ]
  refine wpAnyH_done (by kernel_rfl) ?_ _
  unfold TailQ
  simp only [List.drop_succ_cons, List.drop_zero]
  generalize w3.drew = w4 at *
  clear hS
  go_upto_region 10 with fail
  obtain ⟨w5, hw5⟩ : ∃ u, u = w4.setCell ⟨gY, i * 5 + 3, none⟩ (.int .i64 (min hi' (lo + 1))) := ⟨_, rfl⟩
  have hb5 : Below w.heap.size w4 w5 := by rw [hw5]; exact (Below.refl _ _).setCell (p := ⟨gY, i * 5 + 3, none⟩) hgw _
  have hs4 := HB3.out.size
  have hs5 := hb5.size
  have hg0 : w0.heap.size ≤ w.heap.size := by have h1 := HQ.out.ge; have h2 := HQ.out.lt; omega
  have hyr := nar_reads (HY3.out) hil (fun r => min r.hi (r.lo + 1))
  rw [List.length_modify, ← HLO.out, ← HHI.out, ← hw5] at hyr
  have hq5 : Q5 w0.heap.size w5.heap.size q8 q9 q10 q11 q12 := by
    have h1 := HQ2.out
    exact ⟨h1.ge, by have := h1.lt; omega, h1.n8, h1.n9, h1.n10⟩
  rw [← hw5]
  refine more_c p r an bn mn kn B q8 q9 q10 q11 q12 i cap2 cap3 capY bsv ao2 ao3 (some ⟨gY, 0, none⟩) w0 w5 hv hal hbl hmn hkn hB ((HB2.out.trans (HB3.out.mono (by omega))).trans (hb5.mono hg0)) HPA.out HR0.out hq5 ((H5.out.later HQ2.out HB3.out).later HQ.out hb5) ?_ (hyr.rdM (fun k _ hk => by have h1 := HQ.out.lt; have h2 : w.heap.size ≤ k := hk; exact ⟨by omega, by omega, by omega, by omega, by omega⟩)) R hR _ (by assumption) _ _ _ _ _ _ _ _ _ _ _ _ _ _ _ _ _ _ _ _ _ _ _ _ _ _ _ _ _ _ _ _ _ _ _ _ _ _ _ _ _ _ _ _ _ _ _ _ _ _ _ _ _ _ _ _ _ _ _ _ _ _ _ _ _ _ _ _ _ _ _ _
  have h1 := HX.out.later HB3.out.size (fun k hk _ => HB3.out.block k hk)
  exact (h1.later hs5 (fun k hk hr => hb5.block k hr.1)).rdM (fun k _ hr => hr.2)

end Go.Proofs.Ytlgeggekmdoceaa

/- PairMore: the walk, from its beginning. -/
namespace Go.Proofs.Ytlgeggekmdoceaa
set_option linter.unusedVariables false
set_option linter.unusedSimpArgs false
open Go.RowKit Go.Shelf
attribute [local go_sem] Oper.semAt_some
/-! ### the five boxes, made in whatever order -/
def updB (g : Nat → Bool) (i : Nat) : Nat → Bool := fun j => if j = i then true else g j
def updN (q : Nat → Nat) (i n : Nat) : Nat → Nat := fun j => if j = i then n else q j
def uP (g : Bool) (q : Nat) : Value := if g then .pointer (some ⟨q, 0, none⟩) else undef
def cB (g : Bool) : Nat := if g then 0 else 1
def zeroP : Array Value := #[.slice none 0 0, .int .i64 0, .int .i64 0, .int .i64 0, .int .i64 0, .slice none 0 0]
def rRow (r : RdD) : Array Value := #[.int .i64 r.a, .int .i64 r.b, .int .i64 r.m, .int .i64 r.lo, .int .i64 r.hi]
structure St5 (W : World) (p : PairD) (bsv : Value) (r : RdD) (f2 f3 : Bool) (g : Nat → Bool) (v97 v98 : Value) (q : Nat → Nat) (w : World) : Prop where
  bl : Below W.heap.size W w
  f : f3 = true → f2 = true
  n2 : f2 = false → v97 = undef
  n3 : f3 = false → v98 = undef
  sl : f2 = true → f3 = false → ∃ b c, v97 = .slice (some ⟨b, 0, none⟩) 1 c ∧ w.heap[b]? = some (.cells (rRow r) 44 (0, 0))
  pr : f3 = true → ∃ ao cap, v98 = .agg (pairRow p bsv (.slice ao (p.rs.length + 1) cap)) ∧ ReadsAt w (.slice ao (p.rs.length + 1) cap) (p.rs ++ [r]) (fun k => W.heap.size ≤ k ∧ ∀ i, g i = true → k ≠ q i)
  bx : ∀ i, g i = true → W.heap.size ≤ q i ∧ w.heap[q i]? = some (.cells zeroP 27 (0, 0))
  ne : ∀ i j, i ≠ j → g i = true → g j = true → q i ≠ q j
theorem ReadsAt.rd {W : World} {v : Value} {l : List RdD} {Rd Rd' : Nat → Prop} (h : ReadsAt W v l Rd) (hr : ∀ k, k < W.heap.size → Rd k → Rd' k) : ReadsAt W v l Rd' := by
  obtain ⟨ao, cap, h1, h2, h3, h4⟩ := h
  exact ⟨ao, cap, h1, h2, h3, fun i hi => by obtain ⟨b, off, e1, e2, e3⟩ := h4 i hi; exact ⟨b, off, e1, hr _ e3.1 e2, e3⟩⟩
section
variable {W : World} {p : PairD} {bsv : Value} {r : RdD} {f2 f3 : Bool} {g : Nat → Bool} {v97 v98 : Value} {q : Nat → Nat} {w : World}
theorem St5.later (h : St5 W p bsv r f2 f3 g v97 v98 q w) {w' : World} (hb : Below w.heap.size w w') : St5 W p bsv r f2 f3 g v97 v98 q w' := by
  refine ⟨h.bl.trans (hb.mono h.bl.size), h.f, h.n2, h.n3, fun a b => ?_, fun a => ?_, fun i hi => ⟨(h.bx i hi).1, (hb.block _ (lt_of_block (h.bx i hi).2)).trans (h.bx i hi).2⟩, h.ne⟩
  · obtain ⟨b, c, e, e2⟩ := h.sl a b
    exact ⟨b, c, e, (hb.block _ (lt_of_block e2)).trans e2⟩
  · obtain ⟨ao, cap, e, e2⟩ := h.pr a
    exact ⟨ao, cap, e, e2.later hb.size (fun k hk _ => hb.block k hk)⟩
theorem St5.alloc (h : St5 W p bsv r f2 f3 g v97 v98 q w) (i : Nat) (hg : g i = false) : St5 W p bsv r f2 f3 (updB g i) v97 v98 (updN q i w.heap.size) (w.alloc (.cells zeroP 27)) := by
  have hb : Below w.heap.size w (w.alloc (.cells zeroP 27)) := (Below.refl _ _).alloc (Nat.le_refl _) _
  have h' := h.later hb
  refine ⟨h'.bl, h.f, h.n2, h.n3, h'.sl, fun a => ?_, fun j hj => ?_, fun j k hjk hj hk => ?_⟩
  · obtain ⟨ao, cap, e, e2⟩ := h.pr a
    refine ⟨ao, cap, e, ReadsAt.later (e2.rd fun k hk hr => ⟨hr.1, fun j hj => ?_⟩) hb.size (fun k hk _ => hb.block k hk)⟩
    unfold updB at hj
    unfold updN
    split
    · omega
    · rename_i hji; rw [if_neg hji] at hj; exact hr.2 j hj
  · unfold updB at hj
    unfold updN
    split
    · exact ⟨h.bl.size, heap_alloc_at _ _ _ rfl⟩
    · rename_i hji; rw [if_neg hji] at hj; exact h'.bx j hj
  · unfold updB at hj hk
    unfold updN
    have hl : ∀ m, g m = true → q m < w.heap.size := fun m hm => lt_of_block (h.bx m hm).2
    split
    · rename_i hji
      split
      · rename_i hki; exact absurd (hji.trans hki.symm) hjk
      · rename_i hki; rw [if_neg hki] at hk; have := hl k hk; omega
    · rename_i hji
      rw [if_neg hji] at hj
      split
      · have := hl j hj; omega
      · rename_i hki; rw [if_neg hki] at hk; exact h.ne j k hjk hj hk
theorem St5.build (h : St5 W p bsv r f2 f3 g v97 v98 q w) (hf : f2 = false) (c : Nat) : St5 W p bsv r true f3 g (.slice (some ⟨w.heap.size, 0, none⟩) 1 c) v98 q (w.alloc (.cells (rRow r) 44)) := by
  have h' := h.later (w' := w.alloc (.cells (rRow r) 44)) ((Below.refl _ _).alloc (Nat.le_refl _) _)
  exact ⟨h'.bl, fun _ => rfl, (fun e => by cases e), h.n3, (fun _ _ => ⟨_, _, rfl, heap_alloc_at _ _ _ rfl⟩), h'.pr, h'.bx, h.ne⟩
theorem St5.call (h : St5 W p bsv r f2 f3 g v97 v98 q w) (hf : f2 = true) {w' : World} (hb : Below w.heap.size w w') {ao : Option Addr} {cap : Nat} (hr : ReadsAt w' (.slice ao (p.rs.length + 1) cap) (p.rs ++ [r]) (fun k => w.heap.size ≤ k)) :
    St5 W p bsv r f2 true g v97 (.agg (pairRow p bsv (.slice ao (p.rs.length + 1) cap))) q w' := by
  have h' := h.later hb
  refine ⟨h'.bl, fun _ => hf, h.n2, (fun e => by cases e), (fun _ e => by cases e), fun _ => ⟨ao, cap, rfl, hr.rd fun k _ hk => ⟨Nat.le_trans h.bl.size hk, fun i hi => ?_⟩⟩, h'.bx, h.ne⟩
  have := lt_of_block (h.bx i hi).2
  omega
end
/-- The frame while the five boxes are made. -/
def fr5 (a1 : Act) (v97 v98 u16 u17 u18 u19 u20 : Value) : Act := ((((((a1.put (some 97) v97).put (some 98) v98).put (some 16) u16).put (some 17) u17).put (some 18) u18).put (some 19) u19).put (some 20) u20
section
variable (a1 : Act) (v97 v98 u16 u17 u18 u19 u20 y : Value)
theorem fr5_20 : (fr5 a1 v97 v98 u16 u17 u18 u19 u20).put (some 20) y = fr5 a1 v97 v98 u16 u17 u18 u19 y := by unfold fr5; rw [put_same]
theorem fr5_19 : (fr5 a1 v97 v98 u16 u17 u18 u19 u20).put (some 19) y = fr5 a1 v97 v98 u16 u17 u18 y u20 := by unfold fr5; rw [put_com _ 20 19 (by decide), put_same]
theorem fr5_18 : (fr5 a1 v97 v98 u16 u17 u18 u19 u20).put (some 18) y = fr5 a1 v97 v98 u16 u17 y u19 u20 := by unfold fr5; rw [put_com _ 20 18 (by decide), put_com _ 19 18 (by decide), put_same]
theorem fr5_17 : (fr5 a1 v97 v98 u16 u17 u18 u19 u20).put (some 17) y = fr5 a1 v97 v98 u16 y u18 u19 u20 := by unfold fr5; rw [put_com _ 20 17 (by decide), put_com _ 19 17 (by decide), put_com _ 18 17 (by decide), put_same]
theorem fr5_16 : (fr5 a1 v97 v98 u16 u17 u18 u19 u20).put (some 16) y = fr5 a1 v97 v98 y u17 u18 u19 u20 := by unfold fr5; rw [put_com _ 20 16 (by decide), put_com _ 19 16 (by decide), put_com _ 18 16 (by decide), put_com _ 17 16 (by decide), put_same]
theorem fr5_98 : (fr5 a1 v97 v98 u16 u17 u18 u19 u20).put (some 98) y = fr5 a1 v97 y u16 u17 u18 u19 u20 := by unfold fr5; rw [put_com _ 20 98 (by decide), put_com _ 19 98 (by decide), put_com _ 18 98 (by decide), put_com _ 17 98 (by decide), put_com _ 16 98 (by decide), put_same]
theorem fr5_97 : (fr5 a1 v97 v98 u16 u17 u18 u19 u20).put (some 97) y = fr5 a1 y v98 u16 u17 u18 u19 u20 := by unfold fr5; rw [put_com _ 20 97 (by decide), put_com _ 19 97 (by decide), put_com _ 18 97 (by decide), put_com _ 17 97 (by decide), put_com _ 16 97 (by decide), put_com _ 98 97 (by decide), put_same]
theorem fr5_95 : (fr5 a1 v97 v98 u16 u17 u18 u19 u20).eval (.tmp 95) = a1.eval (.tmp 95) := by
  unfold fr5
  rw [eval_other _ 20 95 (by decide), eval_other _ 19 95 (by decide), eval_other _ 18 95 (by decide), eval_other _ 17 95 (by decide), eval_other _ 16 95 (by decide), eval_other _ 98 95 (by decide), eval_other _ 97 95 (by decide)]
theorem fr5_96 : (fr5 a1 v97 v98 u16 u17 u18 u19 u20).eval (.tmp 96) = a1.eval (.tmp 96) := by
  unfold fr5
  rw [eval_other _ 20 96 (by decide), eval_other _ 19 96 (by decide), eval_other _ 18 96 (by decide), eval_other _ 17 96 (by decide), eval_other _ 16 96 (by decide), eval_other _ 98 96 (by decide), eval_other _ 97 96 (by decide)]
theorem fr5_e97 (h : 97 < a1.tmps.size) : (fr5 a1 v97 v98 u16 u17 u18 u19 u20).eval (.tmp 97) = v97 := by
  unfold fr5
  rw [eval_other _ 20 97 (by decide), eval_other _ 19 97 (by decide), eval_other _ 18 97 (by decide), eval_other _ 17 97 (by decide), eval_other _ 16 97 (by decide), eval_other _ 98 97 (by decide), eval_own _ 97 h]
end
theorem run_allocP {o : Oper} {ρ : Operand → Value} {w : World} (ho : o.op = .alloc 27) : (execOp ρ o).run Try.prog w = .ok (.value (.pointer (some ⟨w.heap.size, 0, none⟩))) (w.alloc (.cells zeroP 27)) := by
  unfold execOp
  rw [ho]
  go_simp
  rfl
theorem run_buildR {o : Oper} {ρ : Operand → Value} {w : World} {r : RdD} {x : Operand} (ho : o.op = .buildSlice 25 1 #[(0, x)]) (hx : ρ x = .agg (rRow r)) : (execOp ρ o).run Try.prog w = .ok (.value (.slice (some ⟨w.heap.size, 0, none⟩) 1 1)) (w.alloc (.cells (rRow r) 44)) := by
  unfold execOp
  rw [ho]
  unfold rRow at *
  go_simp
theorem run_with {o : Oper} {ρ : Operand → Value} {w : World} {u v : Value} (ho : o.op = .call { callee := .value (.func 41), args := #[.tmp 95, .tmp 97], argTypes := #[27, 25] }) (hx : ρ (.tmp 95) = u) (hy : ρ (.tmp 97) = v) (hf : ρ (.func 41) = .func (.func 41) #[] #[]) : (execOp ρ o).run Try.prog w = .ok (.enter 41 #[u, v]) w := by
  unfold execOp
  rw [ho]
  simp [go_sem, hx, hy, hf]
/-- What holds while the five boxes are made. -/
def Inv5 (a1 : Act) (W : World) (p : PairD) (bsv : Value) (r : RdD) (n : Nat) (listed : Array Bool) (a : Act) (w : World) : Prop :=
  ∃ (f2 f3 : Bool) (g : Nat → Bool) (v97 v98 : Value) (q : Nat → Nat), n = cB f2 + cB f3 + cB (g 8) + cB (g 9) + cB (g 10) + cB (g 11) + cB (g 12) ∧
    listed = #[true, true, f2, f3, true, true, true, true, g 8, g 9, g 10, g 11, g 12, false, false, false, false, true] ∧
    a = fr5 a1 v97 v98 (uP (g 8) (q 8)) (uP (g 9) (q 9)) (uP (g 10) (q 10)) (uP (g 11) (q 11)) (uP (g 12) (q 12)) ∧
    St5 W p bsv r f2 f3 g v97 v98 q w
theorem underRead : Try.prog.underlying 44 = some (.struct (Try.prog.fieldsOf 44)) := by kernel_rfl
/-- What that region reads. -/
def S5 (B : Nat) (row1 row2 : Array Value) (w' : World) : Prop := w'.heap[B]? = some (.cells row1 27 (0, 0)) ∧ w'.heap[B + 1]? = some (.cells row2 44 (0, 0))
section
variable {q8 q9 q10 q11 q12 : Nat} {r8 r9 r10 r11 r12 r : Array Value} {w w' : World}
theorem B5.st8 (h : B5 q8 q9 q10 q11 q12 r8 r9 r10 r11 r12 w) {n m : Nat} (hq : Q5 n m q8 q9 q10 q11 q12) (hk : Keeps (fun k => k = q8) w w') (hg : w'.heap[q8]? = some (.cells r 27 (0, 0))) : B5 q8 q9 q10 q11 q12 r r9 r10 r11 r12 w' :=
  ⟨hg, (hk.block _ (lt_of_block h.b9) (by have := hq.n8; omega)).trans h.b9, (hk.block _ (lt_of_block h.b10) (by have := hq.n8; omega)).trans h.b10, (hk.block _ (lt_of_block h.b11) (by have := hq.n8; omega)).trans h.b11, (hk.block _ (lt_of_block h.b12) (by have := hq.n8; omega)).trans h.b12⟩
theorem B5.st9 (h : B5 q8 q9 q10 q11 q12 r8 r9 r10 r11 r12 w) {n m : Nat} (hq : Q5 n m q8 q9 q10 q11 q12) (hk : Keeps (fun k => k = q9) w w') (hg : w'.heap[q9]? = some (.cells r 27 (0, 0))) : B5 q8 q9 q10 q11 q12 r8 r r10 r11 r12 w' :=
  ⟨(hk.block _ (lt_of_block h.b8) (by have := hq.n8; omega)).trans h.b8, hg, (hk.block _ (lt_of_block h.b10) (by have := hq.n9; omega)).trans h.b10, (hk.block _ (lt_of_block h.b11) (by have := hq.n9; omega)).trans h.b11, (hk.block _ (lt_of_block h.b12) (by have := hq.n9; omega)).trans h.b12⟩
theorem B5.st10 (h : B5 q8 q9 q10 q11 q12 r8 r9 r10 r11 r12 w) {n m : Nat} (hq : Q5 n m q8 q9 q10 q11 q12) (hk : Keeps (fun k => k = q10) w w') (hg : w'.heap[q10]? = some (.cells r 27 (0, 0))) : B5 q8 q9 q10 q11 q12 r8 r9 r r11 r12 w' :=
  ⟨(hk.block _ (lt_of_block h.b8) (by have := hq.n8; omega)).trans h.b8, (hk.block _ (lt_of_block h.b9) (by have := hq.n9; omega)).trans h.b9, hg, (hk.block _ (lt_of_block h.b11) (by have := hq.n10; omega)).trans h.b11, (hk.block _ (lt_of_block h.b12) (by have := hq.n10; omega)).trans h.b12⟩
theorem B5.st11 (h : B5 q8 q9 q10 q11 q12 r8 r9 r10 r11 r12 w) {n m : Nat} (hq : Q5 n m q8 q9 q10 q11 q12) (hk : Keeps (fun k => k = q11) w w') (hg : w'.heap[q11]? = some (.cells r 27 (0, 0))) : B5 q8 q9 q10 q11 q12 r8 r9 r10 r r12 w' :=
  ⟨(hk.block _ (lt_of_block h.b8) (by have := hq.n8; omega)).trans h.b8, (hk.block _ (lt_of_block h.b9) (by have := hq.n9; omega)).trans h.b9, (hk.block _ (lt_of_block h.b10) (by have := hq.n10; omega)).trans h.b10, hg, (hk.block _ (lt_of_block h.b12) (by have := hq.n10; omega)).trans h.b12⟩
theorem B5.st12 (h : B5 q8 q9 q10 q11 q12 r8 r9 r10 r11 r12 w) {n m : Nat} (hq : Q5 n m q8 q9 q10 q11 q12) (hk : Keeps (fun k => k = q12) w w') (hg : w'.heap[q12]? = some (.cells r 27 (0, 0))) : B5 q8 q9 q10 q11 q12 r8 r9 r10 r11 r w' :=
  ⟨(hk.block _ (lt_of_block h.b8) (by have := hq.n8; omega)).trans h.b8, (hk.block _ (lt_of_block h.b9) (by have := hq.n9; omega)).trans h.b9, (hk.block _ (lt_of_block h.b10) (by have := hq.n10; omega)).trans h.b10, (hk.block _ (lt_of_block h.b11) (by have := hq.n10; omega)).trans h.b11, hg⟩
theorem Q5.grow {n m m' : Nat} (h : Q5 n m q8 q9 q10 q11 q12) (hm : m ≤ m') : Q5 n m' q8 q9 q10 q11 q12 := ⟨h.ge, by have := h.lt; omega, h.n8, h.n9, h.n10⟩
end
theorem wp_storeA {o : Oper} {a : Act} {K : Act → World → Prop} {Q : Exit → Act → World → Prop} {w : World} (ty : TypeId) (x y : Operand) (ho : o.op = .store ty x y)
    (g : Nat) (cells : Array Value) (hx : a.eval x = .pointer (some ⟨g, 0, none⟩)) (hy : a.eval y = .agg cells)
    (t : TypeId) (old : Array Value) (hg : w.heap[g]? = some (.cells old t (0, 0))) (hi : (Try.prog.info? ty).map (·.size) = some cells.size)
    (hold : old.size = cells.size) (h1 : cells.all (·.oneCell') = true)
    (h : ∀ w', w'.heap[g]? = some (.cells cells t (0, 0)) → Keeps (fun k => k = g) w w' → w'.heap.size = w.heap.size → K (a.put o.dst undef) w') : o.wp Try.prog a w K Q := by
  have hr := run_store_row (P := Try.prog) (ρ := a.eval) (w := w) ty x y ho g cells hx hy t old hg hi hold h1
  have h2 := h _ (setRow_heap _ _ _ _ _ _ hg) (keeps_setRow _ _ _) (by simp)
  unfold Oper.wp
  rw [hr]
  exact h2
set_option maxRecDepth 100000 in
set_option maxHeartbeats 8000000 in
theorem morel_any (p : PairD) (bs rs : Value) (r : RdD) (x y z : Int) (hx : 0 ≤ x ∧ x < 256) (hy : 0 ≤ y ∧ y < 256) (hz : 0 ≤ z ∧ z < 256) (w : World) (hpa : PairAt w p bs rs) :
    Calls Try.prog 12 #[.agg (pairRow p bs rs), .agg #[.int .i64 r.a, .int .i64 r.b, .int .i64 r.m, .int .i64 r.lo, .int .i64 r.hi], .int .u8 x, .int .u8 y, .int .u8 z] w fun e w' => e = .returned (.bool true) ∧ Below w.heap.size w w' := by
  obtain ⟨ao, cap, hbse, _⟩ := id hpa.b
  subst hbse
  obtain ⟨ao2, cap2, hrse, _⟩ := id hpa.r
  subst hrse
  obtain ⟨W0, hW0⟩ : ∃ W0, W0 = (w.alloc (.cells (pairRow p (.slice ao p.bs.length cap) (.slice ao2 p.rs.length cap2)) 27 (0, 0))).alloc (.cells #[.int .i64 r.a, .int .i64 r.b, .int .i64 r.m, .int .i64 r.lo, .int .i64 r.hi] 44 (0, 0)) := ⟨_, rfl⟩
  have hb0 : Below w.heap.size w W0 := by rw [hW0]; exact ((Below.refl _ _).alloc (Nat.le_refl _) _).alloc (by simp) _
  have hr0 : W0.heap[w.heap.size]? = some (.cells (pairRow p (.slice ao p.bs.length cap) (.slice ao2 p.rs.length cap2)) 27 (0, 0)) := by rw [hW0]; exact (Below.heap_alloc (w.alloc _) _ _ (by simp)).trans (heap_alloc_at w _ _ rfl)
  have hr1 : W0.heap[w.heap.size + 1]? = some (.cells #[.int .i64 r.a, .int .i64 r.b, .int .i64 r.m, .int .i64 r.lo, .int .i64 r.hi] 44 (0, 0)) := by rw [hW0]; exact heap_alloc_at _ _ _ (by simp)
  have hsw : W0.heap.size = w.heap.size + 2 := by rw [hW0]; simp
  have HB0 := Lib.hid hb0
  have HR0 := Lib.hid hr0
  have HR1 := Lib.hid hr1
  have HPA := Lib.hid (hpa.later hb0)
  have rows : ∀ W', Below W0.heap.size W0 W' → (W'.cell? ⟨w.heap.size, 0, none⟩ = some (.slice ao p.bs.length cap) ∧ W'.cell? ⟨w.heap.size, 1, none⟩ = some (.int .i64 p.zl) ∧ W'.cell? ⟨w.heap.size, 2, none⟩ = some (.int .i64 p.zh) ∧
        W'.cell? ⟨w.heap.size, 3, none⟩ = some (.int .i64 p.rl) ∧ W'.cell? ⟨w.heap.size, 4, none⟩ = some (.int .i64 p.rh) ∧ W'.cell? ⟨w.heap.size, 5, none⟩ = some (.slice ao2 p.rs.length cap2)) := fun W' hb => by
    have q1 := (hb.block w.heap.size (by omega)).trans hr0
    unfold pairRow at q1
    refine ⟨?_, ?_, ?_, ?_, ?_, ?_⟩ <;> (rw [cell_of_row _ _ _ _ _ _ q1]; rfl)
  have ROWS := Lib.hid rows
  have HLG := Lib.hid (long_any p p.bs.length cap p.rs.length cap2 ao ao2 W0)
  have HRP : Hid (∀ W, PairAt W p (.slice ao p.bs.length cap) (.slice ao2 p.rs.length cap2) → Calls Try.prog 39 #[.agg (pairRow p (.slice ao p.bs.length cap) (.slice ao2 p.rs.length cap2))] W fun e w' => e = .returned (.bool (validB p)) ∧ Below W.heap.size W w') := fun W h => rpair_any h
  have HB := Lib.hid (BoxL.nil W0)
  rw [show decide (40 < max p.bs.length p.rs.length) = farP p from rfl] at HLG
  clear rows hb0 hr0 hr1 hpa
  cases hfar : farP p with
  | true =>
    rw [hfar] at HLG
    clear hfar
    unfold pairRow at hW0 HLG HRP ⊢
    go_enter Try.func12, Try.ntmps12
    obtain ⟨c0, c1, c2, c3, c4, c5⟩ := ROWS.out _ HB.out.2
    go_wp2_with fail
    rw [← hW0]
    clear hW0 c0 c1 c2 c3 c4 c5
    refine HLG.out.mono ?_
    rintro e w1 ⟨rfl, hb⟩
    replace HB := Lib.hid (HB.out.later hb)
    clear hb
    go_wp2_with fail
    refine (alive_any _).mono ?_
    rintro e wz ⟨rfl, hb⟩
    replace HB := Lib.hid (HB.out.later hb)
    clear hb
    go_wp2
    go_ret
    exact ⟨rfl, HB0.out.trans (HB.out.2.mono (by omega))⟩
  | false =>
  rw [hfar] at HLG
  clear hfar
  cases hv : validB p with
  | false =>
    rw [hv] at HRP
    clear hv
    unfold pairRow at hW0 HLG HRP ⊢
    go_enter Try.func12, Try.ntmps12
    obtain ⟨c0, c1, c2, c3, c4, c5⟩ := ROWS.out _ HB.out.2
    go_wp2_with fail
    rw [← hW0]
    clear hW0 c0 c1 c2 c3 c4 c5
    refine HLG.out.mono ?_
    rintro e w1 ⟨rfl, hb⟩
    replace HB := Lib.hid (HB.out.later hb)
    clear hb
    obtain ⟨c0, c1, c2, c3, c4, c5⟩ := ROWS.out _ HB.out.2
    go_wp2_with fail
    clear c0 c1 c2 c3 c4 c5
    refine (HRP.out _ (HPA.out.later HB.out.2)).mono ?_
    rintro e w2 ⟨rfl, hb⟩
    replace HB := Lib.hid (HB.out.later hb)
    clear hb
    go_wp2_with fail
    refine (alive_any _).mono ?_
    rintro e wz ⟨rfl, hb⟩
    replace HB := Lib.hid (HB.out.later hb)
    clear hb
    go_wp2
    go_ret
    exact ⟨rfl, HB0.out.trans (HB.out.2.mono (by omega))⟩
  | true =>
  rw [hv] at HRP
  have hp := OkP.of p hv
  have hn1 := hp.n1
  have hn5 := hp.n5
  have hm8 := hp.m8
  obtain ⟨hx1, hx2⟩ := hx
  obtain ⟨hy1, hy2⟩ := hy
  obtain ⟨hz1, hz2⟩ := hz
  have hz0 : ((p.bs.length : Int) == 0) = false := by rw [beq_eq_false_iff_ne]; omega
  obtain ⟨an, han⟩ : ∃ n : Nat, x % (p.bs.length : Int) = n := ⟨(x % (p.bs.length : Int)).toNat, by have := Int.emod_nonneg x (b := (p.bs.length : Int)) (by omega); omega⟩
  obtain ⟨bn, hbn⟩ : ∃ n : Nat, y % (p.bs.length : Int) = n := ⟨(y % (p.bs.length : Int)).toNat, by have := Int.emod_nonneg y (b := (p.bs.length : Int)) (by omega); omega⟩
  have hal : an < p.bs.length := by have := Int.emod_lt_of_pos x (b := (p.bs.length : Int)) (by omega); omega
  have hbl : bn < p.bs.length := by have := Int.emod_lt_of_pos y (b := (p.bs.length : Int)) (by omega); omega
  obtain ⟨kn, hkn⟩ : ∃ n : Nat, z % 12 = n := ⟨(z % 12).toNat, by omega⟩
  obtain ⟨mn, hmn⟩ : ∃ n : Nat, z % 61 = n := ⟨(z % 61).toNat, by omega⟩
  unfold pairRow at hW0 HLG HRP ⊢
  go_enter Try.func12, Try.ntmps12
  obtain ⟨c0, c1, c2, c3, c4, c5⟩ := ROWS.out _ HB.out.2
  go_wp2_with fail
  rw [← hW0]
  clear hW0 c0 c1 c2 c3 c4 c5
  refine HLG.out.mono ?_
  rintro e w1 ⟨rfl, hb⟩
  replace HB := Lib.hid (HB.out.later hb)
  clear hb
  obtain ⟨c0, c1, c2, c3, c4, c5⟩ := ROWS.out _ HB.out.2
  go_wp2_with fail
  clear c0 c1 c2 c3 c4 c5
  refine (HRP.out _ (HPA.out.later HB.out.2)).mono ?_
  rintro e w2 ⟨rfl, hb⟩
  replace HB := Lib.hid (HB.out.later hb)
  clear hb
  obtain ⟨c0, c1, c2, c3, c4, c5⟩ := ROWS.out _ HB.out.2
  go_wp2_with fail
  clear c0 c1 c2 c3 c4 c5
  go_quiet (fail)
  obtain ⟨w3, hwv⟩ : ∃ wv, wv = w2.drewN nq := ⟨_, rfl⟩
  have hbq : Below w2.heap.size w2 w3 := by rw [hwv]; exact ⟨rfl, rfl, rfl, Nat.le_refl _, fun _ _ => rfl⟩
  rw [← hwv]
  replace HB := Lib.hid (HB.out.later hbq)
  clear hwv hbq
  go_wp2_with fail
  have hs3 := HB.out.2.size
  have hS : S5 w.heap.size (pairRow p (.slice ao p.bs.length cap) (.slice ao2 p.rs.length cap2)) (rRow r) w3.drew := ⟨(HB.out.2.block _ (by omega)).trans HR0.out, (HB.out.2.block _ (by omega)).trans HR1.out⟩
  refine wp_region_tail 17 #[false, false, false, false, false, false, false, false, false, false, false, false, false, false, false, false, false, true] (S5 w.heap.size (pairRow p (.slice ao p.bs.length cap) (.slice ao2 p.rs.length cap2)) (rRow r)) (by kernel_rfl) (by kernel_rfl) (by rfl) hS fun hS => ?_
  refine wpAnyH_take (i := 0) (v := .agg (pairRow p (.slice ao p.bs.length cap) (.slice ao2 p.rs.length cap2))) rfl (by kernel_rfl) (by kernel_rfl) (by kernel_rfl) (fun _ _ _ h => h) (yields_value rfl fun W hSw => run_load_row 27 _ rfl w.heap.size rfl 27 (pairRow p (.slice ao p.bs.length cap) (.slice ao2 p.rs.length cap2)) (0, 0) _ hSw.1 underPair rfl rfl) hS ?_
  try simp only [List.getElem_toArray, List.getElem_cons_succ, List.getElem_cons_zero, Act.put, List.setIfInBounds_toArray, List.set_cons_zero, List.set_cons_succ]
  refine wpAnyH_take (i := 1) (v := .agg (rRow r)) rfl (by kernel_rfl) (by kernel_rfl) (by kernel_rfl) (fun _ _ _ h => h) (yields_value rfl fun W hSw => run_load_row 44 _ rfl (w.heap.size + 1) rfl 44 (rRow r) (0, 0) _ hSw.2 underRead rfl rfl) hS ?_
  try simp only [List.getElem_toArray, List.getElem_cons_succ, List.getElem_cons_zero, Act.put, List.setIfInBounds_toArray, List.set_cons_zero, List.set_cons_succ]
  refine wpAnyH_take (i := 4) (v := .agg (pairRow p (.slice ao p.bs.length cap) (.slice ao2 p.rs.length cap2))) rfl (by kernel_rfl) (by kernel_rfl) (by kernel_rfl) (fun _ _ _ h => h) (yields_value rfl fun W hSw => run_load_row 27 _ rfl w.heap.size rfl 27 (pairRow p (.slice ao p.bs.length cap) (.slice ao2 p.rs.length cap2)) (0, 0) _ hSw.1 underPair rfl rfl) hS ?_
  try simp only [List.getElem_toArray, List.getElem_cons_succ, List.getElem_cons_zero, Act.put, List.setIfInBounds_toArray, List.set_cons_zero, List.set_cons_succ]
  refine wpAnyH_take (i := 5) (v := .agg (pairRow p (.slice ao p.bs.length cap) (.slice ao2 p.rs.length cap2))) rfl (by kernel_rfl) (by kernel_rfl) (by kernel_rfl) (fun _ _ _ h => h) (yields_value rfl fun W hSw => run_load_row 27 _ rfl w.heap.size rfl 27 (pairRow p (.slice ao p.bs.length cap) (.slice ao2 p.rs.length cap2)) (0, 0) _ hSw.1 underPair rfl rfl) hS ?_
  try simp only [List.getElem_toArray, List.getElem_cons_succ, List.getElem_cons_zero, Act.put, List.setIfInBounds_toArray, List.set_cons_zero, List.set_cons_succ]
  refine wpAnyH_take (i := 6) (v := .agg (pairRow p (.slice ao p.bs.length cap) (.slice ao2 p.rs.length cap2))) rfl (by kernel_rfl) (by kernel_rfl) (by kernel_rfl) (fun _ _ _ h => h) (yields_value rfl fun W hSw => run_load_row 27 _ rfl w.heap.size rfl 27 (pairRow p (.slice ao p.bs.length cap) (.slice ao2 p.rs.length cap2)) (0, 0) _ hSw.1 underPair rfl rfl) hS ?_
  try simp only [List.getElem_toArray, List.getElem_cons_succ, List.getElem_cons_zero, Act.put, List.setIfInBounds_toArray, List.set_cons_zero, List.set_cons_succ]
  refine wpAnyH_take (i := 7) (v := .agg (pairRow p (.slice ao p.bs.length cap) (.slice ao2 p.rs.length cap2))) rfl (by kernel_rfl) (by kernel_rfl) (by kernel_rfl) (fun _ _ _ h => h) (yields_value rfl fun W hSw => run_load_row 27 _ rfl w.heap.size rfl 27 (pairRow p (.slice ao p.bs.length cap) (.slice ao2 p.rs.length cap2)) (0, 0) _ hSw.1 underPair rfl rfl) hS ?_
  try simp only [List.getElem_toArray, List.getElem_cons_succ, List.getElem_cons_zero, Act.put, List.setIfInBounds_toArray, List.set_cons_zero, List.set_cons_succ]
  refine frame_in (p := fun a => wpAnyH Try.prog .any _ _ _ 11 _ a _) fun a1 ha1 => ?_
  have HE95 : Hid (a1.eval (.tmp 95) = .agg (pairRow p (.slice ao p.bs.length cap) (.slice ao2 p.rs.length cap2))) := by rw [ha1]; rfl
  have HE96 : Hid (a1.eval (.tmp 96) = .agg (rRow r)) := by rw [ha1]; rfl
  have HSZ : Hid (97 < a1.tmps.size) := by rw [ha1]; show 97 < 625; decide
  have h1620 : a1 = fr5 a1 undef undef undef undef undef undef undef := by
    rw [ha1]; unfold fr5; simp only [Act.put, List.setIfInBounds_toArray, List.set_cons_zero, List.set_cons_succ]
  have HF := Lib.hid h1620
  have HA1 := Lib.hid ha1
  have HS := Lib.hid hS
  clear ha1 hS h1620
  refine wpAnyH_inv (m := 4) (Inv5 a1 w3.drew p (.slice ao p.bs.length cap) r) ?_ ?_ 7 _ _ _ ?_
  · rintro n listed a w' ⟨f2, f3, g, v97, v98, q, hn, rfl, rfl, hst⟩
    have hSS : S5 w.heap.size (pairRow p (.slice ao p.bs.length cap) (.slice ao2 p.rs.length cap2)) (rRow r) w' := ⟨(hst.bl.block _ (by show _ < w3.heap.size; omega)).trans HS.out.1, (hst.bl.block _ (by show _ < w3.heap.size; omega)).trans HS.out.2⟩
    refine ⟨fun h0 => ?_, fun i hi => ?_⟩
    · have := all_listed (md := .any) (n := 17) (by kernel_rfl) rfl (fun j _ hm => by rw [h0] at hm; cases hm) 13 (by decide)
      cases this
    obtain ⟨h1, o, h2, h3⟩ := mem_ready.1 hi
    have hi18 : i < 18 := (Array.getElem?_eq_some_iff.1 h2).1
    clear h2 h3 o
    rcases (show i = 2 ∨ i = 3 ∨ i = 8 ∨ i = 9 ∨ i = 10 ∨ i = 11 ∨ i = 12 ∨ i = 13 ∨ (14 ≤ i ∧ i ≤ 16) ∨ i = 0 ∨ i = 1 ∨ i = 4 ∨ i = 5 ∨ i = 6 ∨ i = 7 ∨ i = 17 by omega) with rfl | rfl | rfl | rfl | rfl | rfl | rfl | rfl | h | rfl | rfl | rfl | rfl | rfl | rfl | rfl
    · have hf2 : f2 = false := h1
      refine wpOp_value rfl rfl (run_buildR (r := r) rfl (by rw [fr5_96]; exact HE96.out)) ⟨⟨(Below.heap_alloc _ _ _ (lt_of_block hSS.1)).trans hSS.1, (Below.heap_alloc _ _ _ (lt_of_block hSS.2)).trans hSS.2⟩, true, f3, g, _, v98, q, ?_, rfl, fr5_97 _ _ _ _ _ _ _ _ _, hst.build hf2 1⟩
      have : cB f2 = 1 := by rw [hf2]; rfl
      have : cB true = 0 := rfl
      omega
    · have hf3 : f3 = false := h1
      have hf2 : f2 = true := ready_waits hi (j := 2) (by kernel_rfl)
      obtain ⟨b, c, rfl, hbr⟩ := hst.sl hf2 hf3
      have e95 := fr5_95 a1 (.slice (some ⟨b, 0, none⟩) 1 c) v98 (uP (g 8) (q 8)) (uP (g 9) (q 9)) (uP (g 10) (q 10)) (uP (g 11) (q 11)) (uP (g 12) (q 12))
      have e97 := fr5_e97 a1 (.slice (some ⟨b, 0, none⟩) 1 c) v98 (uP (g 8) (q 8)) (uP (g 9) (q 9)) (uP (g 10) (q 10)) (uP (g 11) (q 11)) (uP (g 12) (q 12)) HSZ.out
      rw [HE95.out] at e95
      refine wpOp_enter (f := 41) (args := #[.agg (pairRow p (.slice ao p.bs.length cap) (.slice ao2 p.rs.length cap2)), .slice (some ⟨b, 0, none⟩) 1 c]) rfl rfl (run_with rfl e95 e97 rfl) ?_
      refine (with_own p (.slice ao p.bs.length cap) (.slice ao2 p.rs.length cap2) [r] (show 0 < 1 by decide) (show 1 ≤ 2 by decide) (by omega) b c w' (HPA.out.later (HB.out.2.drew.trans (hst.bl.mono hs3))) hbr).mono ?_
      rintro e w'' ⟨⟨ao3, cap3, rfl, _, hrd⟩, hbw⟩
      refine ⟨⟨(hbw.block _ (lt_of_block hSS.1)).trans hSS.1, (hbw.block _ (lt_of_block hSS.2)).trans hSS.2⟩, f2, true, g, _, _, q, ?_, rfl, fr5_98 _ _ _ _ _ _ _ _ _, hst.call hf2 hbw hrd⟩
      have : cB f3 = 1 := by rw [hf3]; rfl
      have : cB true = 0 := rfl
      omega
    · have hgi : g 8 = false := h1
      refine wpOp_value rfl rfl (run_allocP rfl) ⟨⟨(Below.heap_alloc _ _ _ (lt_of_block hSS.1)).trans hSS.1, (Below.heap_alloc _ _ _ (lt_of_block hSS.2)).trans hSS.2⟩, f2, f3, updB g 8, v97, v98, updN q 8 w'.heap.size, ?_, rfl, fr5_16 _ _ _ _ _ _ _ _ _, hst.alloc 8 hgi⟩
      have : cB (g 8) = 1 := by rw [hgi]; rfl
      have h0 : cB true = 0 := rfl
      show n = cB f2 + cB f3 + cB (updB g 8 8) + cB (updB g 8 9) + cB (updB g 8 10) + cB (updB g 8 11) + cB (updB g 8 12)
      simp only [updB, reduceCtorEq, if_true, if_false, Nat.reduceEqDiff]
      omega
    · have hgi : g 9 = false := h1
      refine wpOp_value rfl rfl (run_allocP rfl) ⟨⟨(Below.heap_alloc _ _ _ (lt_of_block hSS.1)).trans hSS.1, (Below.heap_alloc _ _ _ (lt_of_block hSS.2)).trans hSS.2⟩, f2, f3, updB g 9, v97, v98, updN q 9 w'.heap.size, ?_, rfl, fr5_17 _ _ _ _ _ _ _ _ _, hst.alloc 9 hgi⟩
      have : cB (g 9) = 1 := by rw [hgi]; rfl
      have h0 : cB true = 0 := rfl
      show n = cB f2 + cB f3 + cB (updB g 9 8) + cB (updB g 9 9) + cB (updB g 9 10) + cB (updB g 9 11) + cB (updB g 9 12)
      simp only [updB, reduceCtorEq, if_true, if_false, Nat.reduceEqDiff]
      omega
    · have hgi : g 10 = false := h1
      refine wpOp_value rfl rfl (run_allocP rfl) ⟨⟨(Below.heap_alloc _ _ _ (lt_of_block hSS.1)).trans hSS.1, (Below.heap_alloc _ _ _ (lt_of_block hSS.2)).trans hSS.2⟩, f2, f3, updB g 10, v97, v98, updN q 10 w'.heap.size, ?_, rfl, fr5_18 _ _ _ _ _ _ _ _ _, hst.alloc 10 hgi⟩
      have : cB (g 10) = 1 := by rw [hgi]; rfl
      have h0 : cB true = 0 := rfl
      show n = cB f2 + cB f3 + cB (updB g 10 8) + cB (updB g 10 9) + cB (updB g 10 10) + cB (updB g 10 11) + cB (updB g 10 12)
      simp only [updB, reduceCtorEq, if_true, if_false, Nat.reduceEqDiff]
      omega
    · have hgi : g 11 = false := h1
      refine wpOp_value rfl rfl (run_allocP rfl) ⟨⟨(Below.heap_alloc _ _ _ (lt_of_block hSS.1)).trans hSS.1, (Below.heap_alloc _ _ _ (lt_of_block hSS.2)).trans hSS.2⟩, f2, f3, updB g 11, v97, v98, updN q 11 w'.heap.size, ?_, rfl, fr5_19 _ _ _ _ _ _ _ _ _, hst.alloc 11 hgi⟩
      have : cB (g 11) = 1 := by rw [hgi]; rfl
      have h0 : cB true = 0 := rfl
      show n = cB f2 + cB f3 + cB (updB g 11 8) + cB (updB g 11 9) + cB (updB g 11 10) + cB (updB g 11 11) + cB (updB g 11 12)
      simp only [updB, reduceCtorEq, if_true, if_false, Nat.reduceEqDiff]
      omega
    · have hgi : g 12 = false := h1
      refine wpOp_value rfl rfl (run_allocP rfl) ⟨⟨(Below.heap_alloc _ _ _ (lt_of_block hSS.1)).trans hSS.1, (Below.heap_alloc _ _ _ (lt_of_block hSS.2)).trans hSS.2⟩, f2, f3, updB g 12, v97, v98, updN q 12 w'.heap.size, ?_, rfl, fr5_20 _ _ _ _ _ _ _ _ _, hst.alloc 12 hgi⟩
      have : cB (g 12) = 1 := by rw [hgi]; rfl
      have h0 : cB true = 0 := rfl
      show n = cB f2 + cB f3 + cB (updB g 12 8) + cB (updB g 12 9) + cB (updB g 12 10) + cB (updB g 12 11) + cB (updB g 12 12)
      simp only [updB, reduceCtorEq, if_true, if_false, Nat.reduceEqDiff]
      omega
    · have e2 : f2 = true := ready_waits hi (j := 2) (by kernel_rfl)
      have e3 : f3 = true := ready_waits hi (j := 3) (by kernel_rfl)
      have e8 : g 8 = true := ready_waits hi (j := 8) (by kernel_rfl)
      have e9 : g 9 = true := ready_waits hi (j := 9) (by kernel_rfl)
      have e10 : g 10 = true := ready_waits hi (j := 10) (by kernel_rfl)
      have e11 : g 11 = true := ready_waits hi (j := 11) (by kernel_rfl)
      have e12 : g 12 = true := ready_waits hi (j := 12) (by kernel_rfl)
      rw [e2, e3, e8, e9, e10, e11, e12] at hn
      cases hn
    · rcases (show i = 14 ∨ i = 15 ∨ i = 16 by omega) with rfl | rfl | rfl
      all_goals
        have e13 : false = true := ready_waits hi (j := 13) (by kernel_rfl)
        cases e13
    all_goals cases h1
  · rintro listed a w' ⟨f2, f3, g, v97, v98, q, hn, rfl, rfl, hst⟩
    have e2 : f2 = true := by
      cases f2
      · exfalso; have : cB false = 1 := rfl; omega
      · rfl
    have e3 : f3 = true := by
      cases f3
      · exfalso; have : cB false = 1 := rfl; omega
      · rfl
    have e8 : g 8 = true := by
      cases h : g 8
      · exfalso; rw [h] at hn; have : cB false = 1 := rfl; omega
      · rfl
    have e9 : g 9 = true := by
      cases h : g 9
      · exfalso; rw [h] at hn; have : cB false = 1 := rfl; omega
      · rfl
    have e10 : g 10 = true := by
      cases h : g 10
      · exfalso; rw [h] at hn; have : cB false = 1 := rfl; omega
      · rfl
    have e11 : g 11 = true := by
      cases h : g 11
      · exfalso; rw [h] at hn; have : cB false = 1 := rfl; omega
      · rfl
    have e12 : g 12 = true := by
      cases h : g 12
      · exfalso; rw [h] at hn; have : cB false = 1 := rfl; omega
      · rfl
    rw [e8, e9, e10, e11, e12, e2, e3]
    subst e2 e3
    obtain ⟨ao3, cap3, rfl, hxr⟩ := hst.pr rfl
    have hxr' : ReadsAt w' (.slice ao3 (p.rs.length + 1) cap3) (p.rs ++ [r]) (R5 (q 8) (q 9) (q 10) (q 11) (q 12)) := hxr.rd fun k _ hk => ⟨hk.2 8 e8, hk.2 9 e9, hk.2 10 e10, hk.2 11 e11, hk.2 12 e12⟩
    have H5 : Hid (B5 (q 8) (q 9) (q 10) (q 11) (q 12) zeroP zeroP zeroP zeroP zeroP w') := ⟨(hst.bx 8 e8).2, (hst.bx 9 e9).2, (hst.bx 10 e10).2, (hst.bx 11 e11).2, (hst.bx 12 e12).2⟩
    have HQ5 : Hid (Q5 w3.drew.heap.size w'.heap.size (q 8) (q 9) (q 10) (q 11) (q 12)) := ⟨⟨(hst.bx 8 e8).1, (hst.bx 9 e9).1, (hst.bx 10 e10).1, (hst.bx 11 e11).1, (hst.bx 12 e12).1⟩, ⟨lt_of_block (hst.bx 8 e8).2, lt_of_block (hst.bx 9 e9).2, lt_of_block (hst.bx 10 e10).2, lt_of_block (hst.bx 11 e11).2, lt_of_block (hst.bx 12 e12).2⟩,
      ⟨hst.ne 8 9 (by decide) e8 e9, hst.ne 8 10 (by decide) e8 e10, hst.ne 8 11 (by decide) e8 e11, hst.ne 8 12 (by decide) e8 e12⟩, ⟨hst.ne 9 10 (by decide) e9 e10, hst.ne 9 11 (by decide) e9 e11, hst.ne 9 12 (by decide) e9 e12⟩, ⟨hst.ne 10 11 (by decide) e10 e11, hst.ne 10 12 (by decide) e10 e12, hst.ne 11 12 (by decide) e11 e12⟩⟩
    have HKP : Hid (Keeps (fun i => i = q 8 ∨ i = q 9 ∨ i = q 10 ∨ i = q 11 ∨ i = q 12) w' w') := Keeps.refl _ _
    have hbl := hst.bl
    have hs3' : w3.heap.size ≤ w'.heap.size := hbl.size
    have HS5 : Hid (∀ W, Keeps (fun i => i = q 8 ∨ i = q 9 ∨ i = q 10 ∨ i = q 11 ∨ i = q 12) w' W → S5 w.heap.size (pairRow p (.slice ao p.bs.length cap) (.slice ao2 p.rs.length cap2)) (rRow r) W) := fun W h => by
      have hge : w3.heap.size ≤ q 8 ∧ w3.heap.size ≤ q 9 ∧ w3.heap.size ≤ q 10 ∧ w3.heap.size ≤ q 11 ∧ w3.heap.size ≤ q 12 := HQ5.out.ge
      exact ⟨(h.block _ (by omega) (by omega)).trans ((hbl.block _ (by show _ < w3.heap.size; omega)).trans HS.out.1), (h.block _ (by omega) (by omega)).trans ((hbl.block _ (by show _ < w3.heap.size; omega)).trans HS.out.2)⟩
    have HBL := Lib.hid hbl
    have HXR := Lib.hid hxr'
    have hS := HS5.out _ HKP.out
    clear hxr hst hxr' hbl e8 e9 e10 e11 e12 hn
    have ha1 := HA1.out
    clear HE95 HE96 HSZ HF HA1
    subst ha1
    unfold fr5 uP
    simp only [if_true, Act.put, List.setIfInBounds_toArray, List.set_cons_zero, List.set_cons_succ]
    refine wpAnyH_ready (rs := [13]) (by kernel_rfl) (by simp) ?_
    refine AllReadyH.cons rfl (fun K hK => ?_) AllReadyH.nil
    rw [if_pos (by rfl)]
    refine wp_storeA 27 (.tmp 16) (.tmp 98) rfl (q 8) (pairRow p (.slice ao p.bs.length cap) (.slice ao3 (p.rs.length + 1) cap3)) rfl rfl 27 _ H5.out.b8 rfl rfl (by simp [pairRow, Value.oneCell']) ?_
    intro w13 hg hk hsz
    replace H5 := Lib.hid (H5.out.st8 HQ5.out hk hg)
    replace HKP := Lib.hid (HKP.out.trans (hk.mono (fun i _ (h : i = q 8) => show i = q 8 ∨ i = q 9 ∨ i = q 10 ∨ i = q 11 ∨ i = q 12 by omega)))
    clear hg hk
    refine hK.out _ _ (HS5.out _ HKP.out) (fun hS => ?_)
    clear hK K
    try simp only [List.getElem_toArray, List.getElem_cons_succ, List.getElem_cons_zero, Act.put, List.setIfInBounds_toArray, List.set_cons_zero, List.set_cons_succ]
    refine wpAnyH_ready (rs := [14]) (by kernel_rfl) (by simp) ?_
    refine AllReadyH.cons rfl (fun K hK => ?_) AllReadyH.nil
    rw [if_pos (by rfl)]
    refine wp_storeA 27 (.tmp 17) (.tmp 99) rfl (q 9) (pairRow p (.slice ao p.bs.length cap) (.slice ao2 p.rs.length cap2)) rfl rfl 27 _ H5.out.b9 rfl rfl (by simp [pairRow, Value.oneCell']) ?_
    intro w14 hg hk hsz
    replace H5 := Lib.hid (H5.out.st9 HQ5.out hk hg)
    replace HKP := Lib.hid (HKP.out.trans (hk.mono (fun i _ (h : i = q 9) => show i = q 8 ∨ i = q 9 ∨ i = q 10 ∨ i = q 11 ∨ i = q 12 by omega)))
    clear hg hk
    refine hK.out _ _ (HS5.out _ HKP.out) (fun hS => ?_)
    clear hK K
    try simp only [List.getElem_toArray, List.getElem_cons_succ, List.getElem_cons_zero, Act.put, List.setIfInBounds_toArray, List.set_cons_zero, List.set_cons_succ]
    refine wpAnyH_ready (rs := [15]) (by kernel_rfl) (by simp) ?_
    refine AllReadyH.cons rfl (fun K hK => ?_) AllReadyH.nil
    rw [if_pos (by rfl)]
    refine wp_storeA 27 (.tmp 18) (.tmp 100) rfl (q 10) (pairRow p (.slice ao p.bs.length cap) (.slice ao2 p.rs.length cap2)) rfl rfl 27 _ H5.out.b10 rfl rfl (by simp [pairRow, Value.oneCell']) ?_
    intro w15 hg hk hsz
    replace H5 := Lib.hid (H5.out.st10 HQ5.out hk hg)
    replace HKP := Lib.hid (HKP.out.trans (hk.mono (fun i _ (h : i = q 10) => show i = q 8 ∨ i = q 9 ∨ i = q 10 ∨ i = q 11 ∨ i = q 12 by omega)))
    clear hg hk
    refine hK.out _ _ (HS5.out _ HKP.out) (fun hS => ?_)
    clear hK K
    try simp only [List.getElem_toArray, List.getElem_cons_succ, List.getElem_cons_zero, Act.put, List.setIfInBounds_toArray, List.set_cons_zero, List.set_cons_succ]
    refine wpAnyH_ready (rs := [16]) (by kernel_rfl) (by simp) ?_
    refine AllReadyH.cons rfl (fun K hK => ?_) AllReadyH.nil
    rw [if_pos (by rfl)]
    refine wp_storeA 27 (.tmp 19) (.tmp 101) rfl (q 11) (pairRow p (.slice ao p.bs.length cap) (.slice ao2 p.rs.length cap2)) rfl rfl 27 _ H5.out.b11 rfl rfl (by simp [pairRow, Value.oneCell']) ?_
    intro w16 hg hk hsz
    replace H5 := Lib.hid (H5.out.st11 HQ5.out hk hg)
    replace HKP := Lib.hid (HKP.out.trans (hk.mono (fun i _ (h : i = q 11) => show i = q 8 ∨ i = q 9 ∨ i = q 10 ∨ i = q 11 ∨ i = q 12 by omega)))
    clear hg hk
    refine hK.out _ _ (HS5.out _ HKP.out) (fun hS => ?_)
    clear hK K
    try simp only [List.getElem_toArray, List.getElem_cons_succ, List.getElem_cons_zero, Act.put, List.setIfInBounds_toArray, List.set_cons_zero, List.set_cons_succ]
    refine wpAnyH_done (by kernel_rfl) ?_ _
    unfold TailQ
    simp only [List.drop_succ_cons, List.drop_zero]
    refine wpList_storeA rfl 27 (.tmp 20) (.tmp 102) rfl (q 12) (pairRow p (.slice ao p.bs.length cap) (.slice ao2 p.rs.length cap2)) rfl rfl 27 _ H5.out.b12 rfl rfl (by simp [pairRow, Value.oneCell']) ?_
    intro w17 hg hk hsz
    replace H5 := Lib.hid (H5.out.st12 HQ5.out hk hg)
    replace HKP := Lib.hid (HKP.out.trans (hk.mono (fun i _ (h : i = q 12) => show i = q 8 ∨ i = q 9 ∨ i = q 10 ∨ i = q 11 ∨ i = q 12 by omega)))
    clear hg hk hS
    simp only [Act.put]
    go_upto_region 6 with fail
    rw [han, hbn, hkn, hmn]
    have hge := HQ5.out.ge
    have hge : w3.heap.size ≤ q 8 ∧ w3.heap.size ≤ q 9 ∧ w3.heap.size ≤ q 10 ∧ w3.heap.size ≤ q 11 ∧ w3.heap.size ≤ q 12 := hge
    have h03 : W0.heap.size ≤ w3.heap.size := HB.out.2.size
    have hb2 : Below W0.heap.size W0 w17 := HB.out.2.trans (((Below.refl _ _).drew.trans (HBL.out.mono h03)).trans (HKP.out.below (by omega) (fun k hk hm => by omega)))
    refine more_b p r x ⟨hx1, hx2⟩ an bn mn kn w.heap.size (q 8) (q 9) (q 10) (q 11) (q 12) cap2 cap3 (.slice ao p.bs.length cap) ao2 ao3 W0 w17 hv hal hbl (by omega) (by omega) (by omega) hb2 HPA.out HR0.out ⟨by omega, by have h1 := HQ5.out.lt; have h2 := HKP.out.size; omega, HQ5.out.n8, HQ5.out.n9, HQ5.out.n10⟩ H5.out
      (HXR.out.later HKP.out.size (fun k hk hr => HKP.out.block k hk (by obtain ⟨e1, e2, e3, e4, e5⟩ := hr; omega))) (fun e w' => e = .returned (.bool true) ∧ Below w.heap.size w w') (fun w' h => ⟨rfl, HB0.out.trans (h.mono (by omega))⟩) _ ?_ _ _ _ _ _ _ _ _ _ _ _ _ _ _ _ _ _ _ _ _ _ _ _ _ _ _ _ _ _ _ _ _ _ _ _ _ _ _
    assumption
  · exact ⟨false, false, fun _ => false, undef, undef, fun _ => 0, rfl, rfl, HF.out, ⟨Below.refl _ _, (fun e => by cases e), fun _ => rfl, fun _ => rfl, (fun e => by cases e), (fun e => by cases e), (fun _ e => by cases e), (fun _ _ _ e => by cases e)⟩⟩

end Go.Proofs.Ytlgeggekmdoceaa

/- PairMore: whatever the pair, the reading and the three numbers: the law returns true. No conditions. -/
namespace Go.Proofs.Ytlgeggekmdoceaa
set_option linter.unusedVariables false
set_option linter.unusedSimpArgs false
open Go.ChangeShapes Go.WideShapes Go.ChangeAt Go.RowKit Go.Deep

section
variable {H : Type} {enc : TypeId × Value → H} {w : World} {base : Nat} {spare : Nat → Bool} {held : Bool}
theorem trodAll_five' {P : Program} {t t' t'' t3 t4 : TypeId} {args : Array Value} {ds : List (DataW H)} {ps : List MemPlace} (h : DataW.TrodAll enc P w base spare held [t, t', t'', t3, t4] args.toList ds ps) :
    ∃ v v' v'' v3 v4 d d' d'' d3 d4 p p' p'' p3 p4, args = #[v, v', v'', v3, v4] ∧ ds = [d, d', d'', d3, d4] ∧ ps = p ++ p' ++ p'' ++ p3 ++ p4 ∧ DataW.Trod enc P w base spare held t v d p ∧ DataW.Trod enc P w base spare held t' v' d' p' ∧ DataW.Trod enc P w base spare held t'' v'' d'' p'' ∧ DataW.Trod enc P w base spare held t3 v3 d3 p3 ∧ DataW.Trod enc P w base spare held t4 v4 d4 p4 := by
  obtain ⟨v, vs, d, ds', p, q, hargs, rfl, rfl, hd, hrest⟩ := trodAll_cons h
  obtain ⟨v', vs', d', ds'', p', q', rfl, rfl, rfl, hd', hrest'⟩ := trodAll_cons hrest
  obtain ⟨v'', vs'', d'', ds''', p'', q'', rfl, rfl, rfl, hd'', hrest''⟩ := trodAll_cons hrest'
  obtain ⟨v3, vs3, d3, ds3, p3, q3, rfl, rfl, rfl, hd3, hrest3⟩ := trodAll_cons hrest''
  obtain ⟨v4, vs4, d4, ds4, p4, q4, rfl, rfl, rfl, hd4, hrest4⟩ := trodAll_cons hrest3
  obtain ⟨rfl, rfl, rfl⟩ := trodAll_nil hrest4
  exact ⟨v, v', v'', v3, v4, d, d', d'', d3, d4, p, p', p'', p3, p4, by cases args; simp_all, rfl, by simp, hd, hd', hd'', hd3, hd4⟩
set_option maxRecDepth 100000 in
theorem open_readA {r : Reach} {b0 : Nat} {v : Value} {d : DataW H} {ps : List MemPlace} (hv : Value.okWide Try.prog w r b0 44 v) (h : DataW.Trod enc Try.prog w base spare held 44 v d ps) : ∃ x : RdD, v = .agg (rRow x) := by
  obtain ⟨cs, rfl, hsz⟩ := okWide_struct Try.underlying44 hv
  obtain ⟨l⟩ := cs
  obtain ⟨fuel, hf⟩ := h
  obtain ⟨x, hx⟩ := open_readV hf
  refine ⟨x, ?_⟩
  have h1 : l = rdC x := by simpa [Value.cells] using hx
  rw [h1]; rfl
end
set_option maxRecDepth 100000 in
theorem pairMore_lifted (os : Os) (started : os.Started) (H : Type) (enc : TypeId × Value → H) :
    ReturnsInHanded {} Try.checked os 12 .any (Rows.pairMoreSpec.pre6 enc Try.prog Try.f12 Rows.pairMoreRow.domain false) (Rows.pairMoreSpec.post enc Try.prog Try.f12 false true false false) := by
  refine returnsInHanded_of_change (C := Try.checked) own_knob started (by kernel_rfl) Try.func12
    (ChangeSpec.witness6 (enc := enc) (C := Try.checked) false ⟨#[], #[.agg #[.slice none 0 0, .int .i64 0, .int .i64 0, .int .i64 0, .int .i64 0, .slice none 0 0], .agg #[.int .i64 0, .int .i64 0, .int .i64 0, .int .i64 0, .int .i64 0], .int .u8 0, .int .u8 0, .int .u8 0], []⟩ 8 (by kernel_rfl) (by kernel_rfl) (by kernel_rfl) (by kernel_rfl)) ?_
  intro W base args ds gs before hval0 hW hcnd _
  have hval : ∀ (j : Nat) t v, Try.f12.params[j]? = some t → args[j]? = some v → Value.okWide Try.prog W .any base t v := hval0
  have hW' := hW
  obtain ⟨p, q, hA0, hV, rfl, hfz, hnd⟩ := hW
  have hA : DataW.TrodAll enc Try.prog W 0 (fun _ => true) true Try.f12.params.toList args.toList ds p := hA0
  rw [Try.params12] at hA hval
  obtain ⟨rfl, rfl⟩ := trodVars_none hV
  clear hA0 hval0
  simp only [List.append_nil] at hW'
  have hst := hA
  obtain ⟨v0, v1, v2, v3, v4, d0, d1, d2, d3, d4, p0, p1, p2, p3, p4, rfl, rfl, rfl, h0, h1, h2, h3, h4⟩ := trodAll_five' hA
  obtain ⟨pd, bs, rs, rfl, hpa⟩ := open_pair (hval 0 _ _ rfl rfl) h0
  obtain ⟨rd, rfl⟩ := open_readA (hval 1 _ _ rfl rfl) h1
  obtain ⟨x, rfl, _, _, hx⟩ := Go.ChangeShapes.open_int under_u8 (hval 2 _ _ rfl rfl) h2
  obtain ⟨y, rfl, _, _, hy⟩ := Go.ChangeShapes.open_int under_u8 (hval 3 _ _ rfl rfl) h3
  obtain ⟨z, rfl, _, _, hz⟩ := Go.ChangeShapes.open_int under_u8 (hval 4 _ _ rfl rfl) h4
  refine (morel_any pd bs rs rd x y z (u8_range hx) (u8_range hy) (u8_range hz) W hpa).mono fun e W' ⟨he, hb⟩ => ?_
  subst he
  exact ⟨_, rfl, lawEnd hW' rfl hst rfl (by decide +kernel) rfl rfl hb⟩
theorem pairMore_over : Rows.pairMoreRow.holds Try.pinned (OpenSpec.ofChange Rows.pairMoreSpec) :=
  OpenClaim.holds_of_wide 12 Try.f12 rfl rfl rfl rfl rfl rfl rfl ⟨rfl, rfl, rfl, rfl, rfl⟩ rfl rfl rfl rfl rfl (by kernel_rfl) Try.func12 (by kernel_rfl)
    (of_decide_eq_true (by kernel_rfl)) (by unfold Func.isWrapper; first | (rw [if_pos (by decide +kernel)]; kernel_rfl) | (rw [if_neg (by decide +kernel)]; exact ⟨rfl, rfl⟩))
    (fun os started H enc _ => pairMore_lifted os started H enc)
/-- The statement. -/
theorem pair_more : Rows.PairMoreSaid := pairMore_over

end Go.Proofs.Ytlgeggekmdoceaa
