/- Texts Xi, Xj, Xh, Xm in one file; each begins with a word on what it proves. -/
import Derived.Laws.BitsAllLaws
import Derived.Test.YtbmfphiecllggaaDoorTie
import Derived.Test.YtbmfphiecllggaaDoorCards
import Derived.SevenTiedAt
import Derived.Test.YtbmfphiecllggaaDoorKj
import Derived.Test.YtbmfphiecllggaaDoorKg

/- TopServed: how long a stack truly is, block by block. -/
namespace Go.Proofs.YtbmfphiecllggaaDoor
set_option linter.unusedVariables false
set_option linter.unusedSimpArgs false
open Go.RowKit Go.Shelf
attribute [local go_sem] Oper.semAt_some

/-- The text within a block of a function. -/
def findB (n : Nat) : Code → Option Code
  | .block m c => if m = n then some c else findB n c
  | .seq a b => match findB n a with
    | some c => some c
    | none => findB n b
  | .cond _ a b => match findB n a with
    | some c => some c
    | none => findB n b
  | .loop a => findB n a
  | _ => none
noncomputable def blockS (n : Nat) : Code := (findB n (Tryd.f3.body.getD .skip)).getD .skip
theorem bit_i64 : ∀ n : Fin 8, ∀ s : Fin 256, (bits BinOp.and IntKind.i64 ((s.val : Int) / 2 ^ n.val) 1 == 0) = !(s.val.testBit n.val) := by decide +kernel
set_option maxRecDepth 100000 in
set_option maxHeartbeats 8000000 in
theorem served_long (j : JobD) (hv : validJb j = true) (l xs : List Int) (sv bs ws : Value) (xr b2 nb cap4 s K : Nat) (ao4 : Option Addr) (hnb : nb = j.st.bs.length) (hxl : xs.length = nb) (hs : s < 2 ^ nb) (hK : K ≤ 1000)
    (hxs : ∀ q (h : q < xs.length) (h' : q < j.st.bs.length), j.st.bs[q].1 ≤ xs[q] ∧ xs[q] ≤ j.st.bs[q].2) (w : World) (hxr : xr < b2)
    (hx : w.heap[xr]? = some (.cells #[bs, .int .i64 j.st.film.1, .int .i64 j.st.film.2, ws] 28 (0, 0))) (hd : DrawJ .u16 29 l (b2 + 1) b2 (b2 + 2) sv K w) (ho : NumsAt w (.slice ao4 nb cap4) xs (fun k => b2 + 2 ≤ k))
    (u0 u1 u2 u4 u5 u6 u7 u8 u9 u10 u13 u14 u15 u16 u17 u18 u19 u20 u21 u22 u23 u24 u25 u26 u27 u29 u30 u33 u34 u35 u36 u37 u38 u39 u40 u41 u42 u43 u44 u45 u46 u47 u48 u49 u50 u51 u52 u53 u54 u55 u56 u57 u58 u59 u60 u61 u62 u63 u64 u65 u66 u67 u68 u69 u70 u71 u72 u73 u74 u75 u76 u77 u78 u79 u80 u81 u82 u83 u84 u85 u86 u87 u88 u89 u90 u91 u92 u93 u94 u95 u96 u97 u98 u99 u100 u101 u102 u103 u104 u105 u106 u107 u108 u109 u110 u111 u112 u113 u114 u115 u116 u117 u118 u119 u120 u121 u122 u123 u124 u125 u126 u127 u128 u129 u130 u131 u132 u133 u134 u135 u136 u137 u138 u139 u140 u141 u142 u143 u144 u145 u146 u147 u148 u149 u150 u151 u152 u153 u154 u155 u156 u157 u158 u159 u160 u161 u162 u163 u164 u165 u166 u167 u168 u169 u170 u171 u172 u173 u174 u175 u176 u177 u178 u179 u180 u181 u182 u183 u184 u185 u186 u187 u188 u189 u190 u191 u192 u193 u194 u195 u196 u197 u198 u199 u200 u204 u205 u206 u207 u208 u209 u210 u211 u212 u213 u214 u215 u216 u217 u218 u219 u220 u221 u222 u223 u224 u225 u226 u227 u228 u229 u230 u231 u232 u233 u234 u235 u236 u237 u238 u239 u240 u241 u242 u243 u244 u245 u246 u247 u248 u249 u250 u251 u252 u253 u254 u255 u256 u257 u258 u259 u260 u261 u262 u263 u264 u265 u266 u267 u268 u269 u270 u271 u272 u273 u274 u275 u276 u277 u278 : Value) (Q : Exit → Act → World → Prop)
    (hQ : ∀ (lg : Int) (fs : Bool) (v33 v34 v203 v204 v205 v206 v207 v208 v209 v210 v211 v212 v213 v214 v215 v216 v217 v218 v219 v220 v221 v222 v223 v224 v225 : Value) (W : World), LongR j.st s nb lg fs → DrawJ .u16 29 l (b2 + 1) b2 (b2 + 2) sv (K + 8) W → Keeps (fun k => k = b2 + 1) w W → Q .normal ⟨#[u0, u1, u2, .pointer (some ⟨xr, 0, none⟩), u4, u5, u6, u7, u8, u9, u10, .func (.func 58) #[] #[.pointer (some ⟨b2 + 1, 0, none⟩), .pointer (some ⟨b2, 0, none⟩)], .slice ao4 nb cap4, u13, u14, u15, u16, u17, u18, u19, u20, u21, u22, u23, u24, u25, u26, u27, .int .i64 s, u29, u30, .int .i64 lg, .bool fs, v33, v34, u35, u36, u37, u38, u39, u40, u41, u42, u43, u44, u45, u46, u47, u48, u49, u50, u51, u52, u53, u54, u55, u56, u57, u58, u59, u60, u61, u62, u63, u64, u65, u66, u67, u68, u69, u70, u71, u72, u73, u74, u75, u76, u77, u78, u79, u80, u81, u82, u83, u84, u85, u86, u87, u88, u89, u90, u91, u92, u93, u94, u95, u96, u97, u98, u99, u100, u101, u102, u103, u104, u105, u106, u107, u108, u109, u110, u111, u112, u113, u114, u115, u116, u117, u118, u119, u120, u121, u122, u123, u124, u125, u126, u127, u128, u129, u130, u131, u132, u133, u134, u135, u136, u137, u138, u139, u140, u141, u142, u143, u144, u145, u146, u147, u148, u149, u150, u151, u152, u153, u154, u155, u156, u157, u158, u159, u160, u161, u162, u163, u164, u165, u166, u167, u168, u169, u170, u171, u172, u173, u174, u175, u176, u177, u178, u179, u180, u181, u182, u183, u184, u185, u186, u187, u188, u189, u190, u191, u192, u193, u194, u195, u196, u197, u198, u199, u200, .slice ao4 nb cap4, .int .i64 nb, v203, v204, v205, v206, v207, v208, v209, v210, v211, v212, v213, v214, v215, v216, v217, v218, v219, v220, v221, v222, v223, v224, v225, u226, u227, u228, u229, u230, u231, u232, u233, u234, u235, u236, u237, u238, u239, u240, u241, u242, u243, u244, u245, u246, u247, u248, u249, u250, u251, u252, u253, u254, u255, u256, u257, u258, u259, u260, u261, u262, u263, u264, u265, u266, u267, u268, u269, u270, u271, u272, u273, u274, u275, u276, u277, u278], []⟩ W) :
    Code.wp Tryd.prog (blockS 6) (Exit.inBlock 6 Q) ⟨#[u0, u1, u2, .pointer (some ⟨xr, 0, none⟩), u4, u5, u6, u7, u8, u9, u10, .func (.func 58) #[] #[.pointer (some ⟨b2 + 1, 0, none⟩), .pointer (some ⟨b2, 0, none⟩)], .slice ao4 nb cap4, u13, u14, u15, u16, u17, u18, u19, u20, u21, u22, u23, u24, u25, u26, u27, .int .i64 s, u29, u30, .int .i64 0, .bool true, u33, u34, u35, u36, u37, u38, u39, u40, u41, u42, u43, u44, u45, u46, u47, u48, u49, u50, u51, u52, u53, u54, u55, u56, u57, u58, u59, u60, u61, u62, u63, u64, u65, u66, u67, u68, u69, u70, u71, u72, u73, u74, u75, u76, u77, u78, u79, u80, u81, u82, u83, u84, u85, u86, u87, u88, u89, u90, u91, u92, u93, u94, u95, u96, u97, u98, u99, u100, u101, u102, u103, u104, u105, u106, u107, u108, u109, u110, u111, u112, u113, u114, u115, u116, u117, u118, u119, u120, u121, u122, u123, u124, u125, u126, u127, u128, u129, u130, u131, u132, u133, u134, u135, u136, u137, u138, u139, u140, u141, u142, u143, u144, u145, u146, u147, u148, u149, u150, u151, u152, u153, u154, u155, u156, u157, u158, u159, u160, u161, u162, u163, u164, u165, u166, u167, u168, u169, u170, u171, u172, u173, u174, u175, u176, u177, u178, u179, u180, u181, u182, u183, u184, u185, u186, u187, u188, u189, u190, u191, u192, u193, u194, u195, u196, u197, u198, u199, u200, .slice ao4 nb cap4, .int .i64 nb, .int .i64 0, u204, u205, u206, u207, u208, u209, u210, u211, u212, u213, u214, u215, u216, u217, u218, u219, u220, u221, u222, u223, u224, u225, u226, u227, u228, u229, u230, u231, u232, u233, u234, u235, u236, u237, u238, u239, u240, u241, u242, u243, u244, u245, u246, u247, u248, u249, u250, u251, u252, u253, u254, u255, u256, u257, u258, u259, u260, u261, u262, u263, u264, u265, u266, u267, u268, u269, u270, u271, u272, u273, u274, u275, u276, u277, u278], []⟩ w := by
  dsimp only at hQ
  have HQ := Lib.hid hQ
  have HV := Lib.hid hv
  have HNB := Lib.hid hnb
  have HXL := Lib.hid hxl
  have HXS := Lib.hid hxs
  have HX := Lib.hid hx
  have HD := Lib.hid hd
  have HO := Lib.hid ho
  have hnb8 : nb ≤ 8 := by rw [hnb]; exact (validSt_parts (validJb_parts hv).1).1
  have hs256 : s < 256 := Nat.lt_of_lt_of_le hs (Nat.pow_le_pow_right (by decide) hnb8 : _ ≤ 2 ^ 8)
  have hfm := (validSt_parts (validJb_parts hv).1).2.1
  obtain ⟨fl, hfl⟩ : ∃ x, x = j.st.film.1 := ⟨_, rfl⟩
  obtain ⟨fh, hfh⟩ : ∃ x, x = j.st.film.2 := ⟨_, rfl⟩
  rw [← hfl, ← hfh] at HX hfm
  have HF := Lib.hid (And.intro hfl (And.intro hfh hfm))
  clear hQ hv hnb hxl hxs hx hd ho hfl hfh hfm hs
  conv => arg 2; whnf
  dsimp only
  go_loopw [31, 32, 203] (fun lv fv iv wr => ∃ (i : Nat) (lg : Int) (fs : Bool), i ≤ nb ∧ iv = .int .i64 i ∧ lv = .int .i64 lg ∧ fv = .bool fs ∧ LongR j.st s i lg fs ∧ DrawJ .u16 29 l (b2 + 1) b2 (b2 + 2) sv (K + i) wr ∧ Keeps (fun k => k = b2 + 1) w wr) (fun _ _ iv _ => nb - (intOf iv).toNat)
  case atStart => exact ⟨0, 0, true, Nat.zero_le _, rfl, rfl, rfl, LongR.zero _ _, HD.out, Keeps.refl _ _⟩
  case round =>
    obtain ⟨i, lg, fs, hi, rfl, rfl, rfl, hlr, hdr, hk⟩ := hrel
    have HLR := Lib.hid hlr
    have HDR := Lib.hid hdr
    have HK := Lib.hid hk
    have hks := hk.size
    have hxr9 := (hk.block xr (lt_of_block HX.out) (by omega)).trans HX.out
    have c1 : wr.cell? ⟨xr, 1, none⟩ = some (.int .i64 fl) := by rw [cell_of_row _ _ _ _ _ _ hxr9]; rfl
    have c2 : wr.cell? ⟨xr, 2, none⟩ = some (.int .i64 fh) := by rw [cell_of_row _ _ _ _ _ _ hxr9]; rfl
    have hlb := hlr.bound (validJb_parts HV.out).1
    clear hlr hdr hk hxr9
    by_cases hlt : i < nb
    · have hw : IntKind.i64.wrap ((i : Int) + 1) = ((i + 1 : Nat) : Int) := by rw [IntWalk.i64_in _ (by omega)]; omega
      have hlti : (i : Int) < (nb : Int) := by omega
      have hil : i < xs.length := by rw [HXL.out]; exact hlt
      have hib : i < j.st.bs.length := by rw [← HNB.out]; exact hlt
      obtain ⟨a9, c9, e9, _, _, hel⟩ := HO.out.later hks (fun q h1 h2 => HK.out.block q h1 (by omega))
      injection e9 with e1 e2 e3
      subst e1 e3
      clear e2
      obtain ⟨ob, oo, rfl, _, _, ec⟩ := hel i hil
      obtain ⟨m, hm⟩ : ∃ m, m = xs[i] := ⟨_, rfl⟩
      have hmb := HXS.out i hil hib
      rw [← hm] at ec hmb
      have hok := (validSt_parts (validJb_parts HV.out).1).2.2 _ (List.getElem_mem hib)
      unfold blockOk at hok
      simp only [Bool.and_eq_true, decide_eq_true_eq] at hok
      have HM := Lib.hid hmb
      have hm6 : 0 ≤ m ∧ m ≤ 500 := by omega
      clear hel hm hmb hok
      have eg := enters_of (P := Tryd.prog) Tryd.func58 (by kernel_rfl) rfl
      have hbb := bit_i64 ⟨i, by omega⟩ ⟨s, hs256⟩
      dsimp only at hbb
      cases hbit : s.testBit i with
      | false =>
        rw [hbit] at hbb
        have HL2 := Lib.hid (HLR.out.skip hib hbit)
        clear hbit
        go_wp2_with fail
        exact ⟨⟨i + 1, lg, fs, hlt, by push_cast; rfl, rfl, rfl, HL2.out, HDR.out.mono (by omega), HK.out⟩, by simp [intOf]; omega⟩
      | true =>
        rw [hbit] at hbb
        have HBIT := Lib.hid hbit
        clear hbit
        cases fs with
        | true =>
          have HL2 := Lib.hid (HLR.out.next hib HBIT.out (m := m) (f := fl) HM.out (by have := HF.out; rw [← this.1, ← this.2.1]; omega))
          have hwl : IntKind.i64.wrap (lg + m) = lg + m := IntWalk.i64_in _ (by omega)
          go_wp2_with fail
          exact ⟨⟨i + 1, lg + m, false, hlt, by push_cast; rfl, rfl, rfl, HL2.out, HDR.out.mono (by omega), HK.out⟩, by simp [intOf]; omega⟩
        | false =>
          go_wp2_with fail
          refine (draw4_any l (b2 + 1) b2 (b2 + 2) (K + i) _ fl fh (by have := HF.out.2.2; omega) (by omega) _ HDR.out).mono ?_
          rintro e w6 ⟨f, hf1, hf2, rfl, hd6, hk6⟩
          dsimp only
          have HL2 := Lib.hid (HLR.out.next hib HBIT.out (m := m) (f := f) HM.out (by have := HF.out; rw [← this.1, ← this.2.1]; omega))
          have hfb := HF.out.2.2
          have hwl : IntKind.i64.wrap (lg + f) = lg + f := IntWalk.i64_in _ (by omega)
          have hwl2 : IntKind.i64.wrap (lg + f + m) = lg + f + m := IntWalk.i64_in _ (by omega)
          have H6 := Lib.hid (And.intro hd6 (HK.out.trans hk6))
          clear hd6 hk6 hfb hf1 hf2
          go_wp2_with fail
          exact ⟨⟨i + 1, lg + f + m, false, hlt, by push_cast; rfl, rfl, rfl, HL2.out, H6.out.1.mono (by omega), H6.out.2⟩, by simp [intOf]; omega⟩
    · have hin : nb = i := by omega
      subst hin
      have hlti : ¬ (nb : Int) < (nb : Int) := by omega
      go_wp2_with fail
      exact HQ.out lg fs _ _ _ _ _ _ _ _ _ _ _ _ _ _ _ _ _ _ _ _ _ _ _ _ _ _ HLR.out (HDR.out.mono (by omega)) HK.out
end Go.Proofs.YtbmfphiecllggaaDoor

/- TopServed: the stacks of a round, one after the other. -/
namespace Go.Proofs.YtbmfphiecllggaaDoor
set_option linter.unusedVariables false
set_option linter.unusedSimpArgs false
open Go.RowKit Go.Shelf
attribute [local go_sem] Oper.semAt_some

theorem ofInt_i64 (a : Nat) (ha : a < 4611686018427387904) : (BitVec.ofInt 64 (a : Int)).toNat = a := by
  rw [BitVec.ofInt_natCast, BitVec.toNat_ofNat]; exact Nat.mod_eq_of_lt (by omega)
theorem and_i64 (a b : Nat) (ha : a < 4611686018427387904) (hb : b < 4611686018427387904) : bits .and .i64 (a : Int) (b : Int) = ((a &&& b : Nat) : Int) := by
  have hx : a &&& b < 2 ^ 62 := Nat.and_lt_two_pow _ (by omega)
  show IntKind.i64.wrap ((BitVec.ofInt 64 (a : Int) &&& BitVec.ofInt 64 (b : Int)).toNat : Int) = _
  rw [BitVec.toNat_and, ofInt_i64 a ha, ofInt_i64 b hb]
  exact IntWalk.i64_in _ (by omega)
theorem or_i64 (a b : Nat) (ha : a < 4611686018427387904) (hb : b < 4611686018427387904) : bits .or .i64 (a : Int) (b : Int) = ((a ||| b : Nat) : Int) := by
  have hx : a ||| b < 2 ^ 62 := Nat.or_lt_two_pow (by omega) (by omega)
  show IntKind.i64.wrap ((BitVec.ofInt 64 (a : Int) ||| BitVec.ofInt 64 (b : Int)).toNat : Int) = _
  rw [BitVec.toNat_or, ofInt_i64 a ha, ofInt_i64 b hb]
  exact IntWalk.i64_in _ (by omega)
/-- What the call of Fewest reads. -/
def SF (xr xb b off k : Nat) (v0 : Value) (f1 f2 : Int) (v3 : Value) (lo hi : Int) (Y : World) : Prop :=
  Y.cell? ⟨xr, 0, none⟩ = some v0 ∧ Y.cell? ⟨xr, 1, none⟩ = some (.int .i64 f1) ∧ Y.cell? ⟨xr, 2, none⟩ = some (.int .i64 f2) ∧ Y.cell? ⟨xb, 3, none⟩ = some v3 ∧ Y.cell? ⟨b, off + k * 2, none⟩ = some (.int .i64 lo) ∧ Y.cell? ⟨b, off + k * 2 + 1, none⟩ = some (.int .i64 hi)
theorem SF.of {xr xb b off k : Nat} {v0 v3 : Value} {f1 f2 lo hi : Int} {Y Y' : World} (h : SF xr xb b off k v0 f1 f2 v3 lo hi Y) (hb : Below Y.heap.size Y Y') : SF xr xb b off k v0 f1 f2 v3 lo hi Y' := by
  have hc : ∀ p v, Y.cell? p = some v → Y'.cell? p = some v := fun p v h => (World.cell?_of_block (w := Y) (w' := Y') (a := p) (hb.block _ (lt_of_cell h))).trans h
  obtain ⟨h1, h2, h3, h4, h5, h6⟩ := h
  exact ⟨hc _ _ h1, hc _ _ h2, hc _ _ h3, hc _ _ h4, hc _ _ h5, hc _ _ h6⟩
set_option maxRecDepth 100000 in
set_option maxHeartbeats 8000000 in
theorem served_plan (j X : JobD) (hv : validJb j = true) (hvx : validJb X = true) (hst : X.st = j.st) (p : List Nat) (hp : PlanFacts X p) (l xs : List Int) (sv : Value) (xr xb b2 nb nw np cap cap2 cap4 c5 c6 m0 K : Nat) (ao ao2 ao4 a5 a6 : Option Addr) (hnb : nb = j.st.bs.length) (hnp : np = p.length) (hxl : xs.length = nb) (hK : K ≤ 500) (hm0 : m0 ≤ 20)
    (hxs : ∀ q (h : q < xs.length) (h' : q < j.st.bs.length), j.st.bs[q].1 ≤ xs[q] ∧ xs[q] ≤ j.st.bs[q].2) (w : World) (hxr : xr < b2) (hxb : b2 + 2 ≤ xb)
    (hx : w.heap[xr]? = some (.cells #[.slice ao nb cap, .int .i64 j.st.film.1, .int .i64 j.st.film.2, .slice ao2 nw cap2] 28 (0, 0)))
    (hX : w.heap[xb]? = some (.cells #[.slice ao nb cap, .int .i64 j.st.film.1, .int .i64 j.st.film.2, .slice a5 np c5] 28 (0, 0)))
    (hbs : SpansAt w (.slice ao nb cap) j.st.bs (fun k => k < b2)) (hws : SpansAt w (.slice a5 np c5) X.ws (fun k => b2 + 2 ≤ k)) (hpv : NumsAt w (.slice a6 np c6) (p.map fun s : Nat => (s : Int)) (fun k => b2 + 2 ≤ k))
    (hd : DrawJ .u16 29 l (b2 + 1) b2 (b2 + 2) sv K w) (ho : NumsAt w (.slice ao4 nb cap4) xs (fun k => b2 + 2 ≤ k))
    (u0 u1 u2 u4 u5 u6 u7 u8 u9 u10 u13 u14 u16 u17 u20 u21 u22 u23 u24 u25 u27 u28 u29 u30 u31 u32 u33 u34 u35 u36 u37 u38 u39 u40 u41 u42 u43 u44 u45 u46 u47 u48 u49 u50 u51 u52 u53 u54 u55 u56 u57 u58 u59 u60 u61 u62 u63 u64 u65 u66 u67 u68 u69 u70 u71 u72 u73 u74 u75 u76 u77 u78 u79 u80 u81 u82 u83 u84 u85 u86 u87 u88 u89 u90 u91 u92 u93 u94 u95 u96 u97 u98 u99 u100 u101 u102 u103 u104 u105 u106 u107 u108 u109 u110 u111 u112 u113 u114 u115 u116 u117 u118 u119 u120 u121 u122 u123 u124 u125 u126 u127 u128 u129 u130 u131 u132 u133 u134 u135 u136 u137 u138 u139 u140 u141 u142 u143 u144 u145 u146 u147 u148 u149 u153 u154 u155 u156 u157 u158 u159 u160 u161 u162 u163 u164 u165 u166 u167 u168 u169 u170 u171 u172 u173 u174 u175 u176 u177 u178 u179 u180 u181 u182 u183 u184 u185 u186 u187 u188 u189 u190 u191 u192 u193 u194 u195 u196 u197 u198 u199 u200 u201 u202 u203 u204 u205 u206 u207 u208 u209 u210 u211 u212 u213 u214 u215 u216 u217 u218 u219 u220 u221 u222 u223 u224 u225 u226 u227 u228 u229 u230 u231 u232 u233 u234 u235 u236 u237 u238 u239 u240 u241 u242 u243 u244 u245 u246 u247 u248 u249 u250 u251 u252 u253 u254 u255 u256 u257 u258 u259 u260 u261 u262 u263 u264 u265 u266 u267 u268 u269 u270 u271 u272 u273 u274 u275 u276 u277 u278 : Value) (Q : Exit → Act → World → Prop) (hpn : ∀ c (a : Act) (d : Nat) v w, Q (.panic c) (a.put (some d) v) w → Q (.panic c) a w)
    (hQ : ∀ (v6 v26 v27 v28 v29 v30 v31 v32 v33 v34 v152 v153 v154 v155 v156 v157 v158 v159 v160 v161 v162 v163 v164 v165 v166 v167 v168 v169 v170 v171 v172 v173 v174 v175 v176 v177 v178 v179 v180 v181 v182 v183 v184 v185 v186 v187 v188 v189 v190 v191 v192 v193 v194 v195 v196 v197 v198 v199 v200 v201 v202 v203 v204 v205 v206 v207 v208 v209 v210 v211 v212 v213 v214 v215 v216 v217 v218 v219 v220 v221 v222 v223 v224 v225 v226 v227 v228 v229 v230 v231 v232 v233 v234 v235 v236 v237 v238 v239 v240 v241 v242 v243 v244 v245 v246 : Value) (W : World), DrawJ .u16 29 l (b2 + 1) b2 (b2 + 2) sv (K + 8 * np) W → Keeps (fun k => k = b2 + 1) w W → Q .normal ⟨#[u0, u1, u2, .pointer (some ⟨xr, 0, none⟩), u4, u5, v6, u7, u8, u9, u10, .func (.func 58) #[] #[.pointer (some ⟨b2 + 1, 0, none⟩), .pointer (some ⟨b2, 0, none⟩)], .slice ao4 nb cap4, u13, u14, .int .i64 ((m0 + np : Nat) : Int), u16, u17, .pointer (some ⟨xb, 0, none⟩), .slice a6 np c6, u20, u21, u22, u23, u24, u25, v26, v27, v28, v29, v30, v31, v32, v33, v34, u35, u36, u37, u38, u39, u40, u41, u42, u43, u44, u45, u46, u47, u48, u49, u50, u51, u52, u53, u54, u55, u56, u57, u58, u59, u60, u61, u62, u63, u64, u65, u66, u67, u68, u69, u70, u71, u72, u73, u74, u75, u76, u77, u78, u79, u80, u81, u82, u83, u84, u85, u86, u87, u88, u89, u90, u91, u92, u93, u94, u95, u96, u97, u98, u99, u100, u101, u102, u103, u104, u105, u106, u107, u108, u109, u110, u111, u112, u113, u114, u115, u116, u117, u118, u119, u120, u121, u122, u123, u124, u125, u126, u127, u128, u129, u130, u131, u132, u133, u134, u135, u136, u137, u138, u139, u140, u141, u142, u143, u144, u145, u146, u147, u148, u149, .slice a6 np c6, .int .i64 np, v152, v153, v154, v155, v156, v157, v158, v159, v160, v161, v162, v163, v164, v165, v166, v167, v168, v169, v170, v171, v172, v173, v174, v175, v176, v177, v178, v179, v180, v181, v182, v183, v184, v185, v186, v187, v188, v189, v190, v191, v192, v193, v194, v195, v196, v197, v198, v199, v200, v201, v202, v203, v204, v205, v206, v207, v208, v209, v210, v211, v212, v213, v214, v215, v216, v217, v218, v219, v220, v221, v222, v223, v224, v225, v226, v227, v228, v229, v230, v231, v232, v233, v234, v235, v236, v237, v238, v239, v240, v241, v242, v243, v244, v245, v246, u247, u248, u249, u250, u251, u252, u253, u254, u255, u256, u257, u258, u259, u260, u261, u262, u263, u264, u265, u266, u267, u268, u269, u270, u271, u272, u273, u274, u275, u276, u277, u278], []⟩ W) :
    Code.wp Tryd.prog (blockS 4) (Exit.inBlock 4 Q) ⟨#[u0, u1, u2, .pointer (some ⟨xr, 0, none⟩), u4, u5, u6, u7, u8, u9, u10, .func (.func 58) #[] #[.pointer (some ⟨b2 + 1, 0, none⟩), .pointer (some ⟨b2, 0, none⟩)], .slice ao4 nb cap4, u13, u14, .int .i64 m0, u16, u17, .pointer (some ⟨xb, 0, none⟩), .slice a6 np c6, u20, u21, u22, u23, u24, u25, .int .i64 0, u27, u28, u29, u30, u31, u32, u33, u34, u35, u36, u37, u38, u39, u40, u41, u42, u43, u44, u45, u46, u47, u48, u49, u50, u51, u52, u53, u54, u55, u56, u57, u58, u59, u60, u61, u62, u63, u64, u65, u66, u67, u68, u69, u70, u71, u72, u73, u74, u75, u76, u77, u78, u79, u80, u81, u82, u83, u84, u85, u86, u87, u88, u89, u90, u91, u92, u93, u94, u95, u96, u97, u98, u99, u100, u101, u102, u103, u104, u105, u106, u107, u108, u109, u110, u111, u112, u113, u114, u115, u116, u117, u118, u119, u120, u121, u122, u123, u124, u125, u126, u127, u128, u129, u130, u131, u132, u133, u134, u135, u136, u137, u138, u139, u140, u141, u142, u143, u144, u145, u146, u147, u148, u149, .slice a6 np c6, .int .i64 np, .int .i64 0, u153, u154, u155, u156, u157, u158, u159, u160, u161, u162, u163, u164, u165, u166, u167, u168, u169, u170, u171, u172, u173, u174, u175, u176, u177, u178, u179, u180, u181, u182, u183, u184, u185, u186, u187, u188, u189, u190, u191, u192, u193, u194, u195, u196, u197, u198, u199, u200, u201, u202, u203, u204, u205, u206, u207, u208, u209, u210, u211, u212, u213, u214, u215, u216, u217, u218, u219, u220, u221, u222, u223, u224, u225, u226, u227, u228, u229, u230, u231, u232, u233, u234, u235, u236, u237, u238, u239, u240, u241, u242, u243, u244, u245, u246, u247, u248, u249, u250, u251, u252, u253, u254, u255, u256, u257, u258, u259, u260, u261, u262, u263, u264, u265, u266, u267, u268, u269, u270, u271, u272, u273, u274, u275, u276, u277, u278], []⟩ w := by
  dsimp only at hQ
  have HQ := Lib.hid hQ
  have HPN := Lib.hid hpn
  have HV := Lib.hid hv
  have HVX := Lib.hid hvx
  have HST := Lib.hid hst
  have HP := Lib.hid hp
  have HNB := Lib.hid hnb
  have HNP := Lib.hid hnp
  have HXL := Lib.hid hxl
  have HXS := Lib.hid hxs
  have HX := Lib.hid hx
  have HXB := Lib.hid hX
  have HBS := Lib.hid hbs
  have HWS := Lib.hid hws
  have HPV := Lib.hid hpv
  have HD := Lib.hid hd
  have HO := Lib.hid ho
  have hnb8 : nb ≤ 8 := by rw [hnb]; exact (validSt_parts (validJb_parts hv).1).1
  have hp256 : 2 ^ nb ≤ 256 := (Nat.pow_le_pow_right (by decide) hnb8 : _ ≤ 2 ^ 8)
  have hnx : X.ws.length = np := by rw [hnp, hp.len]
  have hnp4 : np ≤ 4 := by rw [← hnx]; exact (validJb_parts hvx).2.1
  have HNX := Lib.hid hnx
  obtain ⟨fl, hfl⟩ : ∃ x, x = j.st.film.1 := ⟨_, rfl⟩
  obtain ⟨fh, hfh⟩ : ∃ x, x = j.st.film.2 := ⟨_, rfl⟩
  rw [← hfl, ← hfh] at HX HXB
  have HF := Lib.hid (And.intro hfl hfh)
  clear hQ hpn hv hvx hst hp hnb hnp hxl hxs hx hX hbs hws hpv hd ho hfl hfh hnx
  conv => arg 2; whnf
  dsimp only
  go_loopw [15, 26, 152] (fun mv uv kv wr => ∃ k : Nat, k ≤ np ∧ kv = .int .i64 k ∧ uv = .int .i64 (unionJ (p.take k) : Nat) ∧ mv = .int .i64 ((m0 + k : Nat) : Int) ∧ DrawJ .u16 29 l (b2 + 1) b2 (b2 + 2) sv (K + 8 * k) wr ∧ Keeps (fun k => k = b2 + 1) w wr) (fun _ _ kv _ => np - (intOf kv).toNat)
  case atStart => exact ⟨0, Nat.zero_le _, rfl, rfl, by rw [Nat.add_zero], HD.out, Keeps.refl _ _⟩
  case round =>
    obtain ⟨k, hk, rfl, rfl, rfl, hdr, hkk⟩ := hrel
    have hus2 : unionJ (p.take k) < 2 ^ nb := by
      have := union_lt X.st.bs.length (p.take k) 0 (Nat.two_pow_pos _) (fun s hs => HP.out.lt s (List.mem_of_mem_take hs))
      rw [HST.out, ← HNB.out] at this
      exact this
    obtain ⟨us, hus⟩ : ∃ x, x = unionJ (p.take k) := ⟨_, rfl⟩
    rw [← hus] at hus2 ⊢
    have HUS := Lib.hid hus
    have HDK := Lib.hid hdr
    have HKK := Lib.hid hkk
    have hszk := hkk.size
    obtain ⟨mt, hmt⟩ : ∃ x, x = m0 + k := ⟨_, rfl⟩
    have hmt24 : mt ≤ 24 := by omega
    rw [← hmt]
    have HMT := Lib.hid hmt
    clear hus hdr hkk hmt
    by_cases hlt : k < np
    · have hwk : IntKind.i64.wrap ((k : Int) + 1) = ((k + 1 : Nat) : Int) := by rw [IntWalk.i64_in _ (by omega)]; omega
      have hwm : IntKind.i64.wrap ((mt : Int) + 1) = ((mt + 1 : Nat) : Int) := by rw [IntWalk.i64_in _ (by omega)]; omega
      have hlti : (k : Int) < (np : Int) := by omega
      have hkp : k < p.length := by rw [← HNP.out]; exact hlt
      have hkx : k < X.ws.length := by rw [HNX.out]; exact hlt
      obtain ⟨a9, c9, e9, _, _, hel⟩ := HPV.out.later (W := wr) hszk (fun q h1 h2 => HKK.out.block q h1 (by omega))
      rw [List.length_map, ← HNP.out] at e9
      injection e9 with e1 e2 e3
      subst e1 e3
      clear e2
      obtain ⟨pb, po, rfl, _, _, e3⟩ := hel k (by rw [List.length_map]; exact hkp)
      rw [List.getElem_map] at e3
      obtain ⟨a9, c9, e9, _, _, hel5⟩ := HWS.out.later (W := wr) hszk (fun q h1 h2 => HKK.out.block q h1 (by omega))
      rw [HNX.out] at e9
      injection e9 with e1 e2 e6
      subst e1 e6
      clear e2
      obtain ⟨wb, wo, rfl, hwb9, _, e4, e5⟩ := hel5 k hkx
      have HWB := Lib.hid (show wb ≠ b2 + 1 by omega)
      clear hwb9
      obtain ⟨s, hs⟩ : ∃ x, x = p[k] := ⟨_, rfl⟩
      rw [← hs] at e3
      have hr9 := HP.out.right k hkp hkx
      have hf9 := HP.out.free k hkp
      rw [← hs, ← HUS.out] at hf9
      rw [← hs, HST.out] at hr9
      obtain ⟨want, hwant⟩ : ∃ x, x = X.ws[k] := ⟨_, rfl⟩
      rw [← hwant] at hr9 e4 e5
      have hwok : wantOk want = true := by rw [hwant]; exact (validJb_parts HVX.out).2.2 _ (List.getElem_mem _)
      obtain ⟨t, hft, ht2, htr, hts⟩ := fewest_met (validJb_parts HV.out).1 hwok hr9
      have hs2 : s < 2 ^ nb := by have := (mem_rightsJ.1 hr9).1; rw [← HNB.out] at this; exact this
      have hs0 : s ≠ 0 := (mem_rightsJ.1 hr9).2.1
      rw [← HNB.out] at ht2
      obtain ⟨wl, wh⟩ := want
      have hun : unionJ (p.take (k + 1)) = us ||| s := by rw [union_take p k hkp, ← HUS.out, ← hs]
      have HS := Lib.hid (And.intro hs (And.intro hr9 (And.intro hf9 (And.intro hun (And.intro hft hts)))))
      have hxrow := (HKK.out.block xr (lt_of_block HX.out) (by omega)).trans HX.out
      have hxbrow := (HKK.out.block xb (lt_of_block HXB.out) (by omega)).trans HXB.out
      have HXR := Lib.hid (And.intro hxrow hxbrow)
      have hS0 : SF xr xb wb wo k (.slice ao nb cap) fl fh (.slice (some ⟨wb, wo, none⟩) np c5) wl wh wr := ⟨by rw [cell_of_row _ _ _ _ _ _ hxrow]; rfl, by rw [cell_of_row _ _ _ _ _ _ hxrow]; rfl, by rw [cell_of_row _ _ _ _ _ _ hxrow]; rfl, by rw [cell_of_row _ _ _ _ _ _ hxbrow]; rfl, e4, e5⟩
      clear hs hr9 hf9 hwant hwok hft htr hts hel hel5 hun hxrow hxbrow e4 e5
      go_wp2_with fail
      refine wp_region_held_drew (S := SF xr xb wb wo k (.slice ao nb cap) fl fh (.slice (some ⟨wb, wo, none⟩) np c5) wl wh) (by kernel_rfl) (hS0.of (Below.refl _ _).drew) fun hS => ?_
      refine wpAnyH_take (i := 0) (v := ?_) rfl (by kernel_rfl) (by kernel_rfl) (by kernel_rfl) (fun c a w h => HPN.out c _ _ _ w h) (Or.inl ⟨by rfl, ?_⟩) hS ?_
      rotate_left
      · (intro W hSw; obtain ⟨q0, q1, q2, q3, q4, q5⟩ := hSw; go_simp; try with_reducible rfl)
      try simp only [List.getElem_toArray, List.getElem_cons_succ, List.getElem_cons_zero, Act.put, List.setIfInBounds_toArray, List.set_cons_zero, List.set_cons_succ]
      refine wpAnyH_take (i := 1) (v := ?_) rfl (by kernel_rfl) (by kernel_rfl) (by kernel_rfl) (fun c a w h => HPN.out c _ _ _ w h) (Or.inl ⟨by rfl, ?_⟩) hS ?_
      rotate_left
      · (intro W hSw; obtain ⟨q0, q1, q2, q3, q4, q5⟩ := hSw; go_simp; try with_reducible rfl)
      try simp only [List.getElem_toArray, List.getElem_cons_succ, List.getElem_cons_zero, Act.put, List.setIfInBounds_toArray, List.set_cons_zero, List.set_cons_succ]
      refine wpAnyH_take (i := 2) (v := ?_) rfl (by kernel_rfl) (by kernel_rfl) (by kernel_rfl) (fun c a w h => HPN.out c _ _ _ w h) (Or.inl ⟨by rfl, ?_⟩) hS ?_
      rotate_left
      · (intro W hSw; obtain ⟨q0, q1, q2, q3, q4, q5⟩ := hSw; go_simp; try with_reducible rfl)
      try simp only [List.getElem_toArray, List.getElem_cons_succ, List.getElem_cons_zero, Act.put, List.setIfInBounds_toArray, List.set_cons_zero, List.set_cons_succ]
      refine wpAnyH_take (i := 3) (v := ?_) rfl (by kernel_rfl) (by kernel_rfl) (by kernel_rfl) (fun c a w h => HPN.out c _ _ _ w h) (Or.inl ⟨by rfl, ?_⟩) hS ?_
      rotate_left
      · (intro W hSw; obtain ⟨q0, q1, q2, q3, q4, q5⟩ := hSw; go_simp; try with_reducible rfl)
      try simp only [List.getElem_toArray, List.getElem_cons_succ, List.getElem_cons_zero, Act.put, List.setIfInBounds_toArray, List.set_cons_zero, List.set_cons_succ]
      refine wpAnyH_take (i := 4) (v := ?_) rfl (by kernel_rfl) (by kernel_rfl) (by kernel_rfl) (fun c a w h => HPN.out c _ _ _ w h) (Or.inl ⟨by rfl, ?_⟩) hS ?_
      rotate_left
      · (intro W hSw; obtain ⟨q0, q1, q2, q3, q4, q5⟩ := hSw; go_simp; try with_reducible rfl)
      try simp only [List.getElem_toArray, List.getElem_cons_succ, List.getElem_cons_zero, Act.put, List.setIfInBounds_toArray, List.set_cons_zero, List.set_cons_succ]
      refine wpAnyH_take (i := 5) (v := ?_) rfl (by kernel_rfl) (by kernel_rfl) (by kernel_rfl) (fun c a w h => HPN.out c _ _ _ w h) (Or.inl ⟨by rfl, ?_⟩) hS ?_
      rotate_left
      · (intro W hSw; obtain ⟨q0, q1, q2, q3, q4, q5⟩ := hSw; go_simp; try with_reducible rfl)
      try simp only [List.getElem_toArray, List.getElem_cons_succ, List.getElem_cons_zero, Act.put, List.setIfInBounds_toArray, List.set_cons_zero, List.set_cons_succ]
      refine wpAnyH_take (i := 6) (v := ?_) rfl (by kernel_rfl) (by kernel_rfl) (by kernel_rfl) (fun c a w h => HPN.out c _ _ _ w h) (Or.inl ⟨by rfl, ?_⟩) hS ?_
      rotate_left
      · (intro W hSw; obtain ⟨q0, q1, q2, q3, q4, q5⟩ := hSw; go_simp; try with_reducible rfl)
      try simp only [List.getElem_toArray, List.getElem_cons_succ, List.getElem_cons_zero, Act.put, List.setIfInBounds_toArray, List.set_cons_zero, List.set_cons_succ]
      have hc := fewestS_any j.st (.slice ao nb cap) (wl, wh) wr.drew (HBS.out.later hszk (fun q h1 h2 => HKK.out.block q h1 (by omega))).low9
      have hsv : stackV j.st (.slice ao nb cap) = .agg #[.slice ao nb cap, .int .i64 fl, .int .i64 fh] := by unfold stackV; rw [← HF.out.1, ← HF.out.2]
      rw [hsv, HS.out.2.2.2.2.1] at hc
      refine wpAnyH_call (k := 7) (by kernel_rfl) rfl rfl (f := 23) (args := #[.agg #[.slice ao nb cap, .int .i64 fl, .int .i64 fh], .agg #[.int .i64 wl, .int .i64 wh]]) (by simp [execOp, go_sem, Act.eval, Act.put]) ?_
      refine hc.mono ?_
      rintro e w5 ⟨rfl, hb5⟩
      dsimp only
      have hb15 : Below wr.heap.size wr w5 := (Below.refl _ _).drew.trans hb5
      have hS5 := hS0.of hb15
      have HB5 := Lib.hid hb15
      clear hc hsv hb5 hb15 hS
      refine ⟨hS5, ?_⟩
      have hS := hS5
      clear hS5
      try simp only [List.getElem_toArray, List.getElem_cons_succ, List.getElem_cons_zero, Act.put, List.setIfInBounds_toArray, List.set_cons_zero, List.set_cons_succ]
      refine wpAnyH_take (i := 8) (v := ?_) rfl (by kernel_rfl) (by kernel_rfl) (by kernel_rfl) (fun c a w h => HPN.out c _ _ _ w h) (Or.inl ⟨by rfl, ?_⟩) hS ?_
      rotate_left
      · (intro W hSw; obtain ⟨q0, q1, q2, q3, q4, q5⟩ := hSw; go_simp; try with_reducible rfl)
      try simp only [List.getElem_toArray, List.getElem_cons_succ, List.getElem_cons_zero, Act.put, List.setIfInBounds_toArray, List.set_cons_zero, List.set_cons_succ]
      refine wpAnyH_take (i := 9) (v := ?_) rfl (by kernel_rfl) (by kernel_rfl) (by kernel_rfl) (fun c a w h => HPN.out c _ _ _ w h) (Or.inl ⟨by rfl, ?_⟩) hS ?_
      rotate_left
      · (intro W hSw; obtain ⟨q0, q1, q2, q3, q4, q5⟩ := hSw; go_simp; try with_reducible rfl)
      try simp only [List.getElem_toArray, List.getElem_cons_succ, List.getElem_cons_zero, Act.put, List.setIfInBounds_toArray, List.set_cons_zero, List.set_cons_succ]
      refine wpAnyH_take (i := 10) (v := ?_) rfl (by kernel_rfl) (by kernel_rfl) (by kernel_rfl) (fun c a w h => HPN.out c _ _ _ w h) (Or.inl ⟨by rfl, ?_⟩) hS ?_
      rotate_left
      · (intro W hSw; obtain ⟨q0, q1, q2, q3, q4, q5⟩ := hSw; go_simp; try with_reducible rfl)
      try simp only [List.getElem_toArray, List.getElem_cons_succ, List.getElem_cons_zero, Act.put, List.setIfInBounds_toArray, List.set_cons_zero, List.set_cons_succ]
      refine wpAnyH_take (i := 11) (v := ?_) rfl (by kernel_rfl) (by kernel_rfl) (by kernel_rfl) (fun c a w h => HPN.out c _ _ _ w h) (Or.inl ⟨by rfl, ?_⟩) hS ?_
      rotate_left
      · (intro W hSw; obtain ⟨q0, q1, q2, q3, q4, q5⟩ := hSw; go_simp; try with_reducible rfl)
      try simp only [List.getElem_toArray, List.getElem_cons_succ, List.getElem_cons_zero, Act.put, List.setIfInBounds_toArray, List.set_cons_zero, List.set_cons_succ]
      refine wpAnyH_take (i := 12) (v := ?_) rfl (by kernel_rfl) (by kernel_rfl) (by kernel_rfl) (fun c a w h => HPN.out c _ _ _ w h) (Or.inl ⟨by rfl, ?_⟩) hS ?_
      rotate_left
      · (intro W hSw; obtain ⟨q0, q1, q2, q3, q4, q5⟩ := hSw; go_simp; try with_reducible rfl)
      try simp only [List.getElem_toArray, List.getElem_cons_succ, List.getElem_cons_zero, Act.put, List.setIfInBounds_toArray, List.set_cons_zero, List.set_cons_succ]
      refine wpAnyH_done (by kernel_rfl) ?_ _
      try simp only [List.getElem_toArray, List.getElem_cons_succ, List.getElem_cons_zero, Act.put, List.setIfInBounds_toArray, List.set_cons_zero, List.set_cons_succ]
      clear hS
      have hs1 : ¬ (s : Int) < 1 := by omega
      have ht0 : ¬ (t : Int) < 0 := by omega
      have hsh : (s : Int) / 2 ^ nb = 0 := by
        have h2 : ((2 ^ nb : Nat) : Int) = (2 : Int) ^ nb := by simp
        rw [← h2]
        exact Int.ediv_eq_zero_of_lt (by omega) (by omega)
      have hand : bits .and .i64 (us : Int) (s : Int) = 0 := by rw [and_i64 us s (by omega) (by omega), HS.out.2.2.1]; rfl
      have hor := or_i64 us s (by omega) (by omega)
      obtain ⟨un, hune⟩ : ∃ x, x = us ||| s := ⟨_, rfl⟩
      rw [← hune] at hor
      have HUN := Lib.hid hune
      obtain ⟨z1, hz1⟩ : ∃ x, x = sizeJ 8 s := ⟨_, rfl⟩
      obtain ⟨z2, hz2⟩ : ∃ x, x = sizeJ 8 t := ⟨_, rfl⟩
      have hzz : ¬ (z1 : Int) < (z2 : Int) := by have := HS.out.2.2.2.2.2; omega
      have HZ := Lib.hid (And.intro hz1 hz2)
      clear hune hz1 hz2
      go_wp2_with fail
      refine (r4size_any s (by omega) _).mono ?_
      rintro e w6 ⟨rfl, rfl⟩
      rw [← HZ.out.1]
      go_wp2_with fail
      refine (r4size_any t (by omega) _).mono ?_
      rintro e w6 ⟨rfl, rfl⟩
      rw [← HZ.out.2]
      have hbm5 : Keeps (fun k => k = b2 + 1) wr w5 := Keeps.of_below HB5.out (fun k h1 h2 => absurd h2 (by omega))
      have hk5 : Keeps (fun k => k = b2 + 1) w w5 := HKK.out.trans hbm5
      have HK5 := Lib.hid hk5
      have HD5 := Lib.hid (HDK.out.later HB5.out.size (fun k h _ => HB5.out.block k h))
      clear hbm5 hk5
      go_wp2_with fail
      clear hsh hand hor hzz hs1 ht0
      refine served_long j HV.out l xs sv (.slice ao nb cap) (.slice ao2 nw cap2) xr b2 nb cap4 s (K + 8 * k) ao4 HNB.out HXL.out hs2 (by omega) HXS.out _ hxr (by rw [← HF.out.1, ← HF.out.2]; exact (HK5.out.block xr (lt_of_block HX.out) (by omega)).trans HX.out) HD5.out (HO.out.later HK5.out.size (fun q h1 h2 => HK5.out.block q h1 (by omega))) _ _ _ _ _ _ _ _ _ _ _ _ _ _ _ _ _ _ _ _ _ _ _ _ _ _ _ _ _ _ _ _ _ _ _ _ _ _ _ _ _ _ _ _ _ _ _ _ _ _ _ _ _ _ _ _ _ _ _ _ _ _ _ _ _ _ _ _ _ _ _ _ _ _ _ _ _ _ _ _ _ _ _ _ _ _ _ _ _ _ _ _ _ _ _ _ _ _ _ _ _ _ _ _ _ _ _ _ _ _ _ _ _ _ _ _ _ _ _ _ _ _ _ _ _ _ _ _ _ _ _ _ _ _ _ _ _ _ _ _ _ _ _ _ _ _ _ _ _ _ _ _ _ _ _ _ _ _ _ _ _ _ _ _ _ _ _ _ _ _ _ _ _ _ _ _ _ _ _ _ _ _ _ _ _ _ _ _ _ _ _ _ _ _ _ _ _ _ _ _ _ _ _ _ _ _ _ _ _ _ _ _ _ _ _ _ _ _ _ _ _ _ _ _ _ _ _ _ _ _ _ _ _ _ _ _ _ _ _ _ _ _ _ _ _ _ _ _ _ _ _ _ _ _ _ _ _ _ _ _ _ _ _ _ _ _ _ _ _ _ _ ?_
      intro lg fs y33 y34 y203 y204 y205 y206 y207 y208 y209 y210 y211 y212 y213 y214 y215 y216 y217 y218 y219 y220 y221 y222 y223 y224 y225 W hlr hdr hkk
      dsimp only [Exit.then]
      have hw9 : wl ≤ lg ∧ lg ≤ wh := by
        rw [HNB.out] at hlr
        exact hlr.done (want := (wl, wh)) HS.out.2.1
      have hwA : ¬ lg < wl := by omega
      have hwB : ¬ wh < lg := by omega
      have hk9 := HK5.out.trans hkk
      have hxb9 := (hk9.block xb (lt_of_block HXB.out) (by omega)).trans HXB.out
      have m3 : W.cell? ⟨xb, 3, none⟩ = some (.slice (some ⟨wb, wo, none⟩) np c5) := by rw [cell_of_row _ _ _ _ _ _ hxb9]; rfl
      have hS9 : W.cell? ⟨wb, wo + k * 2, none⟩ = some (.int .i64 wl) ∧ W.cell? ⟨wb, wo + k * 2 + 1, none⟩ = some (.int .i64 wh) := by
        have hwb : wb < wr.heap.size := lt_of_cell hS0.2.2.2.2.1
        have hwbn : wb ≠ b2 + 1 := HWB.out
        have h5 := (hkk.block wb (by have := HB5.out.size; omega) hwbn).trans (HB5.out.block wb hwb)
        exact ⟨(World.cell?_of_block (w := wr) (w' := W) (a := ⟨wb, wo + k * 2, none⟩) h5).trans hS0.2.2.2.2.1, (World.cell?_of_block (w := wr) (w' := W) (a := ⟨wb, wo + k * 2 + 1, none⟩) h5).trans hS0.2.2.2.2.2⟩
      obtain ⟨m4, m5⟩ := hS9
      have H9 := Lib.hid (And.intro hk9 (And.intro hdr hxb9))
      clear hk9 hxb9 hdr hkk hlr hw9
      go_wp2_with fail
      exact ⟨⟨k + 1, hlt, by push_cast; rfl, by rw [HS.out.2.2.2.1, ← HUN.out], by rw [HMT.out]; push_cast; rfl, H9.out.2.1.mono (by omega), H9.out.1⟩, by simp [intOf]; omega⟩
    · have hkn : np = k := by omega
      subst hkn
      have hlti : ¬ (np : Int) < (np : Int) := by omega
      go_wp2_with fail
      rw [HMT.out]
      exact HQ.out _ _ _ _ _ _ _ _ _ _ _ _ _ _ _ _ _ _ _ _ _ _ _ _ _ _ _ _ _ _ _ _ _ _ _ _ _ _ _ _ _ _ _ _ _ _ _ _ _ _ _ _ _ _ _ _ _ _ _ _ _ _ _ _ _ _ _ _ _ _ _ _ _ _ _ _ _ _ _ _ _ _ _ _ _ _ _ _ _ _ _ _ _ _ _ _ _ _ _ _ _ _ _ _ _ _ HDK.out HKK.out
end Go.Proofs.YtbmfphiecllggaaDoor

/- TopServed, walked. -/
namespace Go.Proofs.YtbmfphiecllggaaDoor
set_option linter.unusedVariables false
set_option linter.unusedSimpArgs false
open Go.RowKit Go.Shelf
attribute [local go_sem] Oper.semAt_some

theorem bit1_i64 : ∀ n : Fin 8, ∀ s : Fin 256, (bits BinOp.and IntKind.i64 ((s.val : Int) / 2 ^ n.val) 1 == 1) = s.val.testBit n.val := by decide +kernel
theorem SpansAt.mono9 {W : World} {v : Value} {l : List (Int × Int)} {Rd Rd' : Nat → Prop} (h : SpansAt W v l Rd) (hr : ∀ k, k < W.heap.size → Rd k → Rd' k) : SpansAt W v l Rd' := by
  obtain ⟨a, c, g1, g2, g3, g4⟩ := h
  exact ⟨a, c, g1, g2, g3, fun q hq => by obtain ⟨b, off, f1, f2, f3, f4⟩ := g4 q hq; exact ⟨b, off, f1, hr b f3 f2, f3, f4⟩⟩
theorem NumsAt.low9 {W : World} {v : Value} {l : List Int} {Rd : Nat → Prop} (h : NumsAt W v l Rd) : NumsAt W v l (fun k => k < W.heap.size) := by
  obtain ⟨a, c, g1, g2, g3, g4⟩ := h
  exact ⟨a, c, g1, g2, g3, fun q hq => by obtain ⟨b, off, f1, f2, f3, f4⟩ := g4 q hq; exact ⟨b, off, f1, f3, f3, f4⟩⟩
set_option maxRecDepth 100000 in
set_option maxHeartbeats 8000000 in
theorem served_any (j : JobD) (bs ws : Value) (l : List Int) (v : Value) (x : Int) (hx : 0 ≤ x ∧ x < 256) (w : World) (hbs : SpansAt w bs j.st.bs (fun k => k < w.heap.size)) (hws : SpansAt w ws j.ws (fun k => k < w.heap.size)) (hus : SmallAt .u16 w v l (fun k => k < w.heap.size)) (htz : TabZ w) :
    Calls Tryd.prog 3 #[jobV j bs ws, v, .int .u8 x] w fun e w' => e = .returned (.bool true) ∧ Below w.heap.size w w' := by
  have HBS := Lib.hid hbs
  have HWS := Lib.hid hws
  have HUS := Lib.hid hus
  have HTZ := Lib.hid htz
  have h1z := htz.lt
  obtain ⟨ao, cap, hv1, _⟩ := id hbs
  obtain ⟨ao2, cap2, hv2, _⟩ := id hws
  obtain ⟨ao3, cap3, hv3, _⟩ := id hus
  subst hv1 hv2 hv3
  obtain ⟨nb, hnb⟩ : ∃ n, n = j.st.bs.length := ⟨_, rfl⟩
  obtain ⟨nw, hnw⟩ : ∃ n, n = j.ws.length := ⟨_, rfl⟩
  obtain ⟨nu, hnu⟩ : ∃ n, n = l.length := ⟨_, rfl⟩
  rw [← hnb] at HBS
  rw [← hnw] at HWS
  rw [← hnu] at HUS
  unfold jobV
  rw [← hnb, ← hnw, ← hnu]
  have HNB := Lib.hid hnb
  have HNW := Lib.hid hnw
  have HNU := Lib.hid hnu
  clear hbs hws hus htz hnb hnw hnu
  obtain ⟨fl, hfl⟩ : ∃ x, x = j.st.film.1 := ⟨_, rfl⟩
  obtain ⟨fh, hfh⟩ : ∃ x, x = j.st.film.2 := ⟨_, rfl⟩
  rw [← hfl, ← hfh]
  have HFL := Lib.hid (And.intro hfl hfh)
  clear hfl hfh
  obtain ⟨mx, hmx⟩ : ∃ m, m = max nb nw := ⟨_, rfl⟩
  have hmm : max (nb : Int) (nw : Int) = (mx : Int) := by omega
  have HMX := Lib.hid hmx
  clear hmx
  go_enter Tryd.func3, Tryd.ntmps3
  have HJV := Lib.hid (show jobV j (.slice ao nb cap) (.slice ao2 nw cap2) = .agg #[.slice ao nb cap, .int .i64 fl, .int .i64 fh, .slice ao2 nw cap2] by unfold jobV; rw [← HFL.out.1, ← HFL.out.2])
  have HBw0 := Lib.hid (Below.alloc' w (.cells #[.slice ao nb cap, .int .i64 fl, .int .i64 fh, .slice ao2 nw cap2] 28))
  have HXw0 := Lib.hid (show (w.alloc (.cells #[.slice ao nb cap, .int .i64 fl, .int .i64 fh, .slice ao2 nw cap2] 28)).heap[w.heap.size]? = some (.cells #[.slice ao nb cap, .int .i64 fl, .int .i64 fh, .slice ao2 nw cap2] 28 (0, 0)) from heap_alloc_at _ _ _ rfl)
  by_cases h40 : 40 < (mx : Int)
  · go_wp2_with (first | (refine wpList_maxJ rfl (.tmp 41) (.tmp 44) rfl rfl (nb : Int) (nw : Int) _ rfl rfl hmm ?_))
    refine (tawake_any _ (HTZ.out.below HBw0.out h1z)).mono ?_
    rintro e w9 ⟨rfl, hb9⟩
    dsimp only
    have HB9 := Lib.hid (HBw0.out.trans (hb9.mono HBw0.out.size))
    clear hb9
    go_wp2
    go_ret
    exact ⟨rfl, HB9.out⟩
  · go_wp2_with (first | (refine wpList_maxJ rfl (.tmp 41) (.tmp 44) rfl rfl (nb : Int) (nw : Int) _ rfl rfl hmm ?_))
    have hc := r12job_any j (.slice ao nb cap) (.slice ao2 nw cap2) _ (HBS.out.later HBw0.out.size (fun k h1 _ => HBw0.out.block k h1)).low9 (HWS.out.later HBw0.out.size (fun k h1 _ => HBw0.out.block k h1)).low9
    rw [HJV.out] at hc
    refine hc.mono ?_
    rintro e w1 ⟨rfl, hb⟩
    clear hc
    dsimp only
    have HXw1 := Lib.hid ((hb.block _ (lt_of_block HXw0.out)).trans HXw0.out)
    have HBw1 := Lib.hid (HBw0.out.trans (hb.mono HBw0.out.size))
    clear hb
    clear hmm h40
    cases hv : validJb j with
    | false =>
      clear hv
      go_wp2_with fail
      refine (tawake_any _ (HTZ.out.below HBw1.out h1z)).mono ?_
      rintro e w9 ⟨rfl, hb9⟩
      dsimp only
      have HB9 := Lib.hid (HBw1.out.trans (hb9.mono HBw1.out.size))
      clear hb9
      go_wp2
      go_ret
      exact ⟨rfl, HB9.out⟩
    | true =>
      have HV := Lib.hid hv
      have hnw4 : nw ≤ 4 := by rw [HNW.out]; exact (validJb_parts hv).2.1
      have hnb8 : nb ≤ 8 := by rw [HNB.out]; exact (validSt_parts (validJb_parts hv).1).1
      clear hv
      have c0 : w1.cell? ⟨w.heap.size, 0, none⟩ = some (.slice ao nb cap) := by rw [cell_of_row _ _ _ _ _ _ HXw1.out]; rfl
      have c1 : w1.cell? ⟨w.heap.size, 1, none⟩ = some (.int .i64 fl) := by rw [cell_of_row _ _ _ _ _ _ HXw1.out]; rfl
      have c2 : w1.cell? ⟨w.heap.size, 2, none⟩ = some (.int .i64 fh) := by rw [cell_of_row _ _ _ _ _ _ HXw1.out]; rfl
      have c3 : w1.cell? ⟨w.heap.size, 3, none⟩ = some (.slice ao2 nw cap2) := by rw [cell_of_row _ _ _ _ _ _ HXw1.out]; rfl
      go_wp2_with fail
      have hc := Rounds_any j (.slice ao nb cap) (.slice ao2 nw cap2) w1 (HBS.out.later HBw1.out.size (fun k h1 _ => HBw1.out.block k h1)).low9 (HWS.out.later HBw1.out.size (fun k h1 _ => HBw1.out.block k h1)).low9 (HTZ.out.below HBw1.out h1z)
      rw [HJV.out] at hc
      refine hc.mono ?_
      rintro e w2 ⟨rv, rfl, hrv, hb⟩
      clear hc c0 c1 c2 c3
      dsimp only
      have HXw2 := Lib.hid ((hb.block _ (lt_of_block HXw1.out)).trans HXw1.out)
      have HBw2 := Lib.hid (HBw1.out.trans (hb.mono HBw1.out.size))
      clear hb
      have c0 : w2.cell? ⟨w.heap.size, 0, none⟩ = some (.slice ao nb cap) := by rw [cell_of_row _ _ _ _ _ _ HXw2.out]; rfl
      have c1 : w2.cell? ⟨w.heap.size, 1, none⟩ = some (.int .i64 fl) := by rw [cell_of_row _ _ _ _ _ _ HXw2.out]; rfl
      have c2 : w2.cell? ⟨w.heap.size, 2, none⟩ = some (.int .i64 fh) := by rw [cell_of_row _ _ _ _ _ _ HXw2.out]; rfl
      have c3 : w2.cell? ⟨w.heap.size, 3, none⟩ = some (.slice ao2 nw cap2) := by rw [cell_of_row _ _ _ _ _ _ HXw2.out]; rfl
      obtain ⟨rd, hrd⟩ : ∃ x, x = roundsD j := ⟨_, rfl⟩
      rw [← hrd] at hrv ⊢
      have HRD := Lib.hid hrd
      have HRV := Lib.hid (hrv.mono (Rd' := fun k => True) (fun _ _ => trivial))
      obtain ⟨ar, cr, hre, _⟩ := id hrv
      subst hre
      rw [List.length_map] at HRV ⊢
      obtain ⟨nr, hnr⟩ : ∃ n, n = rd.1.length := ⟨_, rfl⟩
      rw [← hnr] at HRV ⊢
      have HNR := Lib.hid hnr
      clear hrv hrd hnr
      go_wp2_with fail
      have hc := Alone_any j (.slice ao nb cap) (.slice ao2 nw cap2) w2 (HBS.out.later HBw2.out.size (fun k h1 _ => HBw2.out.block k h1)).low9 (HWS.out.later HBw2.out.size (fun k h1 _ => HBw2.out.block k h1)).low9
      rw [HJV.out] at hc
      refine hc.mono ?_
      rintro e w3 ⟨rfl, hb⟩
      clear hc c0 c1 c2 c3
      dsimp only
      have hal : aloneD j = (((aloneN j : Nat) : Int), 0) := by unfold aloneD; rw [errD_ok HV.out]; rfl
      rw [hal]
      have HRV3 := Lib.hid (HRV.out.later hb.size (fun k h _ => hb.block k h))
      have HXw3 := Lib.hid ((hb.block _ (lt_of_block HXw2.out)).trans HXw2.out)
      have HBw3 := Lib.hid (HBw2.out.trans (hb.mono HBw2.out.size))
      clear hb
      have c0 : w3.cell? ⟨w.heap.size, 0, none⟩ = some (.slice ao nb cap) := by rw [cell_of_row _ _ _ _ _ _ HXw3.out]; rfl
      have c1 : w3.cell? ⟨w.heap.size, 1, none⟩ = some (.int .i64 fl) := by rw [cell_of_row _ _ _ _ _ _ HXw3.out]; rfl
      have c2 : w3.cell? ⟨w.heap.size, 2, none⟩ = some (.int .i64 fh) := by rw [cell_of_row _ _ _ _ _ _ HXw3.out]; rfl
      have c3 : w3.cell? ⟨w.heap.size, 3, none⟩ = some (.slice ao2 nw cap2) := by rw [cell_of_row _ _ _ _ _ _ HXw3.out]; rfl
      clear hal
      obtain ⟨al, hal⟩ : ∃ x, x = aloneN j := ⟨_, rfl⟩
      rw [← hal]
      have HAL := Lib.hid hal
      clear hal
      go_wp2_with fail
      have hc := r12every_any j (by rw [← HNW.out]; omega) (.slice ao nb cap) (.slice ao2 nw cap2) w3 (HWS.out.later HBw3.out.size (fun k h1 _ => HBw3.out.block k h1)).low9
      rw [HJV.out] at hc
      refine hc.mono ?_
      rintro e w4 ⟨rfl, hb⟩
      clear hc c0 c1 c2 c3
      dsimp only
      have HRV4 := Lib.hid (HRV3.out.later hb.size (fun k h _ => hb.block k h))
      have HXw4 := Lib.hid ((hb.block _ (lt_of_block HXw3.out)).trans HXw3.out)
      have HBw4 := Lib.hid (HBw3.out.trans (hb.mono HBw3.out.size))
      clear hb
      have c0 : w4.cell? ⟨w.heap.size, 0, none⟩ = some (.slice ao nb cap) := by rw [cell_of_row _ _ _ _ _ _ HXw4.out]; rfl
      have c1 : w4.cell? ⟨w.heap.size, 1, none⟩ = some (.int .i64 fl) := by rw [cell_of_row _ _ _ _ _ _ HXw4.out]; rfl
      have c2 : w4.cell? ⟨w.heap.size, 2, none⟩ = some (.int .i64 fh) := by rw [cell_of_row _ _ _ _ _ _ HXw4.out]; rfl
      have c3 : w4.cell? ⟨w.heap.size, 3, none⟩ = some (.slice ao2 nw cap2) := by rw [cell_of_row _ _ _ _ _ _ HXw4.out]; rfl
      obtain ⟨ev, hev⟩ : ∃ x, x = everyD j := ⟨_, rfl⟩
      rw [← hev]
      have HEV := Lib.hid hev
      clear hev
      obtain ⟨re, hre⟩ : ∃ x, x = rd.2 := ⟨_, rfl⟩
      rw [← hre]
      have HRE := Lib.hid hre
      clear hre
      by_cases hae : al = ev
      · have hre0 : re = 0 := by rw [HRE.out, HRD.out]; unfold roundsD; rw [errD_ok HV.out, if_neg (by decide), if_pos (by rw [← HAL.out, ← HEV.out]; exact hae)]
        have HAE := Lib.hid hae
        subst hae hre0
        obtain ⟨rl, rs9, hrd9, hrl9, hgood, hrlt, hrn⟩ := rounds_facts HV.out (by rw [← HAL.out, ← HEV.out])
        have hlen : nw = nr := by rw [HNR.out, HRD.out, hrd9, HNW.out, hrl9]
        subst hlen
        have hrv4 := HRV4.out
        rw [show rd.1 = rl by rw [HRD.out, hrd9]] at hrv4
        have HRL := Lib.hid hrv4
        have HG := Lib.hid (And.intro hgood (And.intro hrl9 (And.intro hrlt hrn)))
        clear hgood hrl9 hrlt hrn hrd9 hrv4
        go_wp2_with fail
        refine (draws4_any l (.slice ao3 nu cap3) w4 (by rw [HNU.out] at HUS ⊢; exact (HUS.out.later HBw4.out.size (fun k h1 _ => HBw4.out.block k h1)).mono (fun k h1 _ => h1))).mono ?_
        rintro e w5 ⟨rfl, hs5, hdr, hb45⟩
        clear c0 c1 c2 c3
        dsimp only
        obtain ⟨b2, hb2⟩ : ∃ x, x = w4.heap.size := ⟨_, rfl⟩
        rw [← hb2] at hs5 hdr
        try rw [← hb2]
        have hwb : w.heap.size < b2 := by rw [hb2]; exact lt_of_block HXw4.out
        have HS5 := Lib.hid (And.intro hs5 (And.intro hb2 hb45))
        have HDR := Lib.hid hdr
        have HS4 := Lib.hid (HBS.out.later HBw4.out.size (fun k h1 _ => HBw4.out.block k h1)).low9
        have HW4 := Lib.hid (HWS.out.later HBw4.out.size (fun k h1 _ => HBw4.out.block k h1)).low9
        have HTZ4 := Lib.hid (HTZ.out.below HBw4.out h1z)
        have hx5 := (hb45.block _ (lt_of_block HXw4.out)).trans HXw4.out
        have HXw5 := Lib.hid hx5
        have c0 : w5.cell? ⟨w.heap.size, 0, none⟩ = some (.slice ao nb cap) := by rw [cell_of_row _ _ _ _ _ _ HXw5.out]; rfl
        have c1 : w5.cell? ⟨w.heap.size, 1, none⟩ = some (.int .i64 fl) := by rw [cell_of_row _ _ _ _ _ _ HXw5.out]; rfl
        have c2 : w5.cell? ⟨w.heap.size, 2, none⟩ = some (.int .i64 fh) := by rw [cell_of_row _ _ _ _ _ _ HXw5.out]; rfl
        have c3 : w5.cell? ⟨w.heap.size, 3, none⟩ = some (.slice ao2 nw cap2) := by rw [cell_of_row _ _ _ _ _ _ HXw5.out]; rfl
        clear hs5 hdr hb2 hb45 hx5
        go_wp2_with fail
        clear c0 c1 c2 c3
        go_loopw [12, 93] (fun ov iv wr => ∃ (i : Nat) (xs : List Int), i ≤ nb ∧ iv = .int .i64 i ∧ xs.length = i ∧ (∀ q (h : q < xs.length) (h' : q < j.st.bs.length), j.st.bs[q].1 ≤ xs[q] ∧ xs[q] ≤ j.st.bs[q].2) ∧ wr.ownsRow (b2 + 2) 3 1 ov i (xs.map (Value.int .i64)) ∧ DrawJ .u16 29 l (b2 + 1) b2 (b2 + 2) (.slice ao3 nu cap3) i wr ∧ Keeps (fun k => k = b2 + 1) w5 wr) (fun _ iv _ => nb - (intOf iv).toNat)
        case atStart => exact ⟨0, [], Nat.zero_le _, rfl, rfl, fun q h => by simp at h, World.ownsRow_nil _ _ _ _, HDR.out, Keeps.refl _ _⟩
        case round =>
          obtain ⟨i, xs, hi, rfl, hxl, hxs, hown, hdr, hk⟩ := hrel
          have HXL := Lib.hid hxl
          have HXS := Lib.hid hxs
          have HOWN := Lib.hid hown
          have HD := Lib.hid hdr
          have HK := Lib.hid hk
          have hlow : ∀ k, k < b2 → wr.heap[k]? = w4.heap[k]? := fun k hk' => (hk.block k (by have := HS5.out.1; omega) (by omega)).trans (HS5.out.2.2.block k (by have := HS5.out.2.1; omega))
          have HLOW := Lib.hid hlow
          have hsz : b2 + 2 ≤ wr.heap.size := by have := hk.size; have := HS5.out.1; omega
          clear hxl hxs hown hdr hk hlow
          by_cases hlt : i < nb
          · have hw : IntKind.i64.wrap ((i : Int) + 1) = ((i + 1 : Nat) : Int) := by rw [IntWalk.i64_in _ (by omega)]; omega
            have hlti : (i : Int) < (nb : Int) := by omega
            have hil : i < j.st.bs.length := by rw [← HNB.out]; exact hlt
            obtain ⟨ao', cap', hv', _, _, hel⟩ := HS4.out.later (W := wr) (by have := HS5.out.2.1; omega) (fun k h1 _ => HLOW.out k (by have := HS5.out.2.1; omega))
            injection hv' with hao hnn hcap
            subst hao hcap
            clear hnn
            obtain ⟨b, off, rfl, hbw, hbl, e0, e1⟩ := hel i hil
            have hok := (validSt_parts (validJb_parts HV.out).1).2.2 _ (List.getElem_mem hil)
            unfold blockOk at hok
            simp only [Bool.and_eq_true, decide_eq_true_eq] at hok
            obtain ⟨⟨lo, hi'⟩, hx⟩ : ∃ x, x = j.st.bs[i] := ⟨_, rfl⟩
            rw [← hx] at e0 e1 hok
            have HX := Lib.hid hx
            have HOK := Lib.hid hok
            clear hx hel hok
            have eg := enters_of (P := Tryd.prog) Tryd.func58 (by kernel_rfl) rfl
            go_wp2_with fail
            refine (draw4_any l (b2 + 1) b2 (b2 + 2) i _ lo hi' (by have := HOK.out; omega) (by omega) _ (HD.out.later (by simp) (fun k h _ => hget_old _ _ _ (by omega)))).mono ?_
            rintro e w6 ⟨m, hm1, hm2, rfl, hd6, hk6⟩
            dsimp only
            have hk06 : Keeps (fun k => k = b2 + 1) wr w6 := (Keeps.alloc _ _ _).trans hk6
            have hs6 := hk06.size
            have hown6 : w6.ownsRow (b2 + 2) 3 1 u12 i (xs.map (Value.int .i64)) := own_block HOWN.out (fun k e => hk06.block k (HOWN.out.lt k e).2 (fun h => by have := (HOWN.out.lt k e).1; omega))
            have H6 := Lib.hid (And.intro hd6 (And.intro (HK.out.trans hk06) (And.intro hm1 (And.intro hm2 hown6))))
            clear hd6 hk6 hk06 hm1 hm2 hown6 eg e0 e1
            go_wp2_with (first | (refine wpList_append_here rfl (.tmp 97) (.tmp 101) 32 rfl (b2 + 2) 3 1 8 _ underInts infoInt rfl (by decide) u12 i _ rfl (own_block H6.out.2.2.2.2 (fun k e => Below.heap_alloc _ _ _ (H6.out.2.2.2.2.lt k e).2)) w6.heap.size 1 #[.int .i64 m] 3 (0, 0) rfl (heap_alloc_at _ _ _ rfl) rfl (by simp [Value.oneCell']) (by omega) (by decide) (by simp <;> omega) ?_))
            intro v7 W7 hown7 hg7 hat7
            have hk7 := keeps_grown hg7
            have hob : ∀ k, u12.ownBlock = some k → b2 + 2 ≤ k := fun k e => (H6.out.2.2.2.2.lt k e).1
            have hlow7 : ∀ k, k < b2 + 2 → W7.heap[k]? = w6.heap[k]? := fun k h => (hk7.block k (by simp; omega) (fun e => by have := hob k e; omega)).trans (Below.heap_alloc _ _ _ (by omega))
            have hd7 := H6.out.1.later (W := W7) (by have := hk7.size; simp at this; omega) (fun k _ h => hlow7 k h)
            have hk57 : Keeps (fun k => k = b2 + 1) w5 W7 := H6.out.2.1.transNew ((Keeps.alloc (fun k => u12.ownBlock = some k) _ _).trans hk7) (fun k e => by have := hob k e; have := HS5.out.1; omega)
            have H7 := Lib.hid (And.intro hown7 (And.intro hd7 hk57))
            clear hown7 hg7 hat7 hk7 hob hlow7 hd7 hk57
            go_wp2_with fail
            refine ⟨⟨i + 1, xs ++ [m], hlt, by push_cast; rfl, by rw [List.length_append, HXL.out]; rfl, fun q h h' => ?_, by rw [List.map_append]; exact H7.out.1, H7.out.2.1, H7.out.2.2⟩, by simp [intOf]; omega⟩
            by_cases hq : q < xs.length
            · rw [List.getElem_append_left hq]
              exact HXS.out q hq h'
            · have hqi : q = i := by rw [List.length_append, HXL.out] at h; simp at h; rw [HXL.out] at hq; omega
              subst hqi
              rw [List.getElem_append_right (by rw [HXL.out]; exact Nat.le_refl _)]
              simp only [HXL.out, Nat.sub_self, List.getElem_cons_zero]
              rw [← HX.out]
              exact ⟨H6.out.2.2.1, H6.out.2.2.2.1⟩
          · have hin : nb = i := by omega
            subst hin
            have hlti : ¬ (nb : Int) < (nb : Int) := by omega
            have HRV6 := Lib.hid (HRL.out.later (W := wr) (by have := HS5.out.2.1; omega) (fun k h1 _ => HLOW.out k (by have := HS5.out.2.1; omega)))
            go_wp2_with fail
            refine (r12numbers_any rl _ (fun _ => True) (by rw [HG.out.2.1, ← HNW.out]; omega) (fun y hy => by have := HG.out.2.2.1 y hy; rw [← HNW.out] at this; omega) _ HRV6.out).mono ?_
            rintro e w' ⟨rfl, rfl⟩
            dsimp only
            obtain ⟨N, hN⟩ : ∃ x, x = numbersJ rl := ⟨_, rfl⟩
            rw [← hN]
            have hN4 : N ≤ 4 := by rw [hN]; have := HG.out.2.2.2; rw [← HNW.out] at this; omega
            have HN := Lib.hid hN
            clear hN
            obtain ⟨ao4, cap4, rfl, _⟩ : ∃ a c, u12 = .slice a nb c ∧ True := by
              rcases HOWN.out.2 with ⟨h2, h3⟩ | ⟨g, cap, cur, h2, _⟩
              · exact ⟨none, 0, by rw [h2, h3], trivial⟩
              · exact ⟨_, _, h2, trivial⟩
            have HOW := Lib.hid (nums_of_own HXL.out.symm HOWN.out)
            obtain ⟨W6, hW6⟩ : ∃ W, W = wr := ⟨_, rfl⟩
            rw [← hW6] at hsz HLOW HK HD HOW HRV6 ⊢
            have hhx : W6.heap[w.heap.size]? = some (.cells #[.slice ao nb cap, .int .i64 fl, .int .i64 fh, .slice ao2 nw cap2] 28 (0, 0)) := (HLOW.out _ hwb).trans HXw4.out
            have HXW6 := Lib.hid hhx
            have HSb := Lib.hid ((HS4.out.later (W := W6) (by have := HS5.out.2.1; omega) (fun k h1 _ => HLOW.out k (by have := HS5.out.2.1; omega))).mono9 (Rd' := fun k => k < b2) (fun k _ h => by have := HS5.out.2.1; omega))
            have HBW6 := Lib.hid (show Below w.heap.size w W6 from HBw4.out.trans ((HS5.out.2.2.mono HBw4.out.size).trans (HK.out.below (B := w.heap.size) (by have := HS5.out.1; omega) (fun k h e => by omega))))
            clear hhx hW6 HOWN
            go_wp2_with fail
            go_loopw [15, 106] (fun mv nv wr => ∃ r : Nat, r ≤ N ∧ nv = .int .i64 r ∧ mv = .int .i64 (metJ j.ws rl r : Nat) ∧ DrawJ .u16 29 l (b2 + 1) b2 (b2 + 2) (.slice ao3 nu cap3) (8 + 32 * r) wr ∧ Keeps (fun k => k = b2 + 1) W6 wr) (fun _ nv _ => N - (intOf nv).toNat)
            case atStart => exact ⟨0, Nat.zero_le _, rfl, rfl, HD.out.mono (by omega), Keeps.refl _ _⟩
            case round =>
              obtain ⟨r, hr, rfl, rfl, hdr, hk⟩ := hrel
              have HDr := Lib.hid hdr
              have HKr := Lib.hid hk
              have hlowr : ∀ k, k < b2 → wr.heap[k]? = w4.heap[k]? := fun k hk' => (hk.block k (by omega) (by omega)).trans (HLOW.out k hk')
              have hszr : b2 + 2 ≤ wr.heap.size := by have := hk.size; omega
              have HLR := Lib.hid hlowr
              have HXwr := Lib.hid ((hlowr _ hwb).trans HXw4.out)
              have HRVr := Lib.hid (HRL.out.later (W := wr) (by have := HS5.out.2.1; omega) (fun k h1 _ => hlowr k (by have := HS5.out.2.1; omega)))
              have HSr := Lib.hid (HS4.out.later (W := wr) (by have := HS5.out.2.1; omega) (fun k h1 _ => hlowr k (by have := HS5.out.2.1; omega))).low9
              have HWr := Lib.hid (HW4.out.later (W := wr) (by have := HS5.out.2.1; omega) (fun k h1 _ => hlowr k (by have := HS5.out.2.1; omega))).low9
              have hbwr : Below w.heap.size w wr := HBw4.out.trans ((HS5.out.2.2.mono HBw4.out.size).trans ((HK.out.below (B := w.heap.size) (by have := HS5.out.1; omega) (fun k h e => by omega)).trans (hk.below (by omega) (fun k h e => by omega))))
              have HBwr := Lib.hid hbwr
              clear hdr hk hlowr hbwr
              by_cases hlt : r < N
              · have hw : IntKind.i64.wrap ((r : Int) + 1) = ((r + 1 : Nat) : Int) := by rw [IntWalk.i64_in _ (by omega)]; omega
                have hlti : (r : Int) < (N : Int) := by omega
                have hcan := rounds_can HG.out.1 r (by rw [← HN.out]; exact hlt)
                have c0 : wr.cell? ⟨w.heap.size, 0, none⟩ = some (.slice ao nb cap) := by rw [cell_of_row _ _ _ _ _ _ HXwr.out]; rfl
                have c1 : wr.cell? ⟨w.heap.size, 1, none⟩ = some (.int .i64 fl) := by rw [cell_of_row _ _ _ _ _ _ HXwr.out]; rfl
                have c2 : wr.cell? ⟨w.heap.size, 2, none⟩ = some (.int .i64 fh) := by rw [cell_of_row _ _ _ _ _ _ HXwr.out]; rfl
                have c3 : wr.cell? ⟨w.heap.size, 3, none⟩ = some (.slice ao2 nw cap2) := by rw [cell_of_row _ _ _ _ _ _ HXwr.out]; rfl
                go_wp2_with fail
                refine (r12with_any rl _ (fun _ => True) (by rw [HG.out.2.1, ← HNW.out]; omega) r _ HRVr.out).mono ?_
                rintro e w' ⟨rfl, rfl⟩
                dsimp only
                have hst16 : withJ rl 0 r < 256 := Nat.lt_of_lt_of_le (with_ltJ rl r) (Nat.le_trans (Nat.pow_le_pow_right (by decide) (by rw [HG.out.2.1, ← HNW.out]; exact hnw4)) (by decide : 2 ^ 4 ≤ 256))
                obtain ⟨st, hst⟩ : ∃ x, x = withJ rl 0 r := ⟨_, rfl⟩
                rw [← hst] at hst16 hcan ⊢
                have HST := Lib.hid hst
                obtain ⟨X, hX⟩ : ∃ x, x = onlyD j st := ⟨_, rfl⟩
                have hXv : validJb X = true := by rw [hX]; exact valid_only HV.out st
                have hXc : canD X (everyD X) = true := by rw [hX, can_only]; exact hcan
                have hXs : X.st = j.st := by rw [hX]; rfl
                have HX := Lib.hid (And.intro hX (And.intro hXv (And.intro hXc hXs)))
                clear hst hXv hXc hXs hcan
                go_wp2_with fail
                have hc := r12only_any j (by rw [← HNW.out]; omega) st hst16 (.slice ao nb cap) (.slice ao2 nw cap2) wr ⟨_, _, _, rfl⟩ HWr.out
                rw [HJV.out] at hc
                refine hc.mono ?_
                rintro e w1' ⟨⟨wv, rfl, hwv⟩, hb1⟩
                clear hc c0 c1 c2 c3
                dsimp only
                rw [← hX] at hwv ⊢
                clear hX
                obtain ⟨a5, c5, hwe, _⟩ := id hwv
                subst hwe
                obtain ⟨nx, hnx⟩ : ∃ n, n = X.ws.length := ⟨_, rfl⟩
                rw [← hnx] at hwv ⊢
                have HNX := Lib.hid hnx
                have hjx : jobV X (.slice ao nb cap) (.slice a5 nx c5) = .agg #[.slice ao nb cap, .int .i64 fl, .int .i64 fh, .slice a5 nx c5] := by unfold jobV; rw [HX.out.2.2.2, ← HFL.out.1, ← HFL.out.2]
                rw [hjx]
                have HJX := Lib.hid hjx
                clear hjx hnx
                have HWV := Lib.hid hwv
                have HB1 := Lib.hid hb1
                clear hwv hb1
                go_wp2_with fail
                obtain ⟨xb, hxb⟩ : ∃ x, x = w1'.heap.size := ⟨_, rfl⟩
                obtain ⟨W7, hW7⟩ : ∃ W, W = w1'.alloc (.cells #[.slice ao nb cap, .int .i64 fl, .int .i64 fh, .slice a5 nx c5] 28) := ⟨_, rfl⟩
                have hx7 : W7.heap[xb]? = some (.cells #[.slice ao nb cap, .int .i64 fl, .int .i64 fh, .slice a5 nx c5] 28 (0, 0)) := by rw [hW7, hxb]; exact heap_alloc_at _ _ _ rfl
                have hb17 : Below w1'.heap.size w1' W7 := by rw [hW7]; exact Below.alloc' _ _
                have hbr7 : Below wr.heap.size wr W7 := HB1.out.trans (hb17.mono HB1.out.size)
                have hxb7 : wr.heap.size ≤ xb := by rw [hxb]; exact HB1.out.size
                rw [← hW7]
                try rw [← hxb]
                have HX7 := Lib.hid hx7
                have HBR7 := Lib.hid hbr7
                have HWX7 := Lib.hid (HWV.out.later hb17.size (fun k h _ => hb17.block k h)).low9
                have HWXa := Lib.hid ((HWV.out.later hb17.size (fun k h _ => hb17.block k h)).mono9 (Rd' := fun k => b2 + 2 ≤ k) (fun k _ h => by omega))
                have h7s : b2 + 2 ≤ W7.heap.size := by have := hbr7.size; omega
                clear hW7 hxb hx7 hb17 hbr7 HWV HB1
                have hc := Plan_any X (.slice ao nb cap) (.slice a5 nx c5) W7 (by rw [HX.out.2.2.2]; exact (HSr.out.later HBR7.out.size (fun k h _ => HBR7.out.block k h)).low9) HWX7.out.low9 ((HTZ.out.below HBwr.out h1z).below HBR7.out (by omega))
                rw [HJX.out] at hc
                refine hc.mono ?_
                rintro e w8 ⟨pv, rfl, hpv, hb8⟩
                clear hc
                dsimp only
                have hpe := planD_can HX.out.2.1 HX.out.2.2.1
                have hpl := can_told HX.out.2.2.1
                obtain ⟨p, hp⟩ : ∃ p, p = toldJ 8 (rightsD X) (allD X) := ⟨_, rfl⟩
                rw [← hp] at hpe hpl
                rw [hpe] at hpv ⊢
                have HPL := Lib.hid hpl
                have hpf := plan_facts hpl
                obtain ⟨a6, c6, hpve, _⟩ := id hpv
                subst hpve
                rw [List.length_map] at hpv ⊢
                obtain ⟨np, hnp⟩ : ∃ n, n = p.length := ⟨_, rfl⟩
                have hnpx : np = nx := by rw [hnp, hpf.len, HNX.out]
                rw [← hnp] at hpv ⊢
                subst hnpx
                have HNP := Lib.hid hnp
                have hnp4 : np ≤ 4 := by have := (validJb_parts HX.out.2.1).2.1; rw [← HNX.out] at this; exact this
                have HPF := Lib.hid hpf
                have HPV8 := Lib.hid hpv
                have HX8 := Lib.hid ((hb8.block _ (lt_of_block HX7.out)).trans HX7.out)
                have HBR8 := Lib.hid (HBR7.out.trans (hb8.mono HBR7.out.size))
                have HWX8 := Lib.hid (HWX7.out.later hb8.size (fun k h _ => hb8.block k h)).low9
                have hs8 := hb8.size
                have HWXc := Lib.hid (HWXa.out.later hb8.size (fun k h _ => hb8.block k h))
                clear hpe hpl hp hpf hnp hpv hb8 HX7 HBR7 HWX7
                have k0 : w8.cell? ⟨xb, 0, none⟩ = some (.slice ao nb cap) := by rw [cell_of_row _ _ _ _ _ _ HX8.out]; rfl
                have k1 : w8.cell? ⟨xb, 1, none⟩ = some (.int .i64 fl) := by rw [cell_of_row _ _ _ _ _ _ HX8.out]; rfl
                have k2 : w8.cell? ⟨xb, 2, none⟩ = some (.int .i64 fh) := by rw [cell_of_row _ _ _ _ _ _ HX8.out]; rfl
                have k3 : w8.cell? ⟨xb, 3, none⟩ = some (.slice a5 np c5) := by rw [cell_of_row _ _ _ _ _ _ HX8.out]; rfl
                go_wp2_with fail
                have hc := Check_any X (.slice ao nb cap) (.slice a5 np c5) (p.map fun s : Nat => (s : Int)) (.slice a6 np c6) w8 (by rw [HX.out.2.2.2]; exact (HSr.out.later HBR8.out.size (fun k h _ => HBR8.out.block k h)).low9) HWX8.out HPV8.out.low9 (by rw [List.length_map, ← HNP.out]; omega)
                rw [HJX.out, check_plan HX.out.2.1 HPL.out] at hc
                refine hc.mono ?_
                rintro e w9 ⟨rfl, hb9⟩
                clear hc k0 k1 k2 k3
                dsimp only
                have HX9 := Lib.hid ((hb9.block _ (lt_of_block HX8.out)).trans HX8.out)
                have HBR9 := Lib.hid (HBR8.out.trans (hb9.mono HBR8.out.size))
                have HWX9 := Lib.hid (HWX8.out.later hb9.size (fun k h _ => hb9.block k h)).low9
                have HPV9 := Lib.hid (HPV8.out.later hb9.size (fun k h _ => hb9.block k h))
                have HWXd := Lib.hid (HWXc.out.later hb9.size (fun k h _ => hb9.block k h))
                clear hb9 HX8 HBR8 HWX8 HPV8
                have k0 : w9.cell? ⟨xb, 0, none⟩ = some (.slice ao nb cap) := by rw [cell_of_row _ _ _ _ _ _ HX9.out]; rfl
                have k1 : w9.cell? ⟨xb, 1, none⟩ = some (.int .i64 fl) := by rw [cell_of_row _ _ _ _ _ _ HX9.out]; rfl
                have k2 : w9.cell? ⟨xb, 2, none⟩ = some (.int .i64 fh) := by rw [cell_of_row _ _ _ _ _ _ HX9.out]; rfl
                have k3 : w9.cell? ⟨xb, 3, none⟩ = some (.slice a5 np c5) := by rw [cell_of_row _ _ _ _ _ _ HX9.out]; rfl
                go_wp2_with fail
                have hc := Lend_any X (.slice ao nb cap) (.slice a5 np c5) w9 (by rw [HX.out.2.2.2]; exact (HSr.out.later HBR9.out.size (fun k h _ => HBR9.out.block k h)).low9) HWX9.out ((HTZ.out.below HBwr.out h1z).below HBR9.out (by omega))
                rw [HJX.out, lendD_can HX.out.2.1 HX.out.2.2.1] at hc
                refine hc.mono ?_
                rintro e W10 ⟨rfl, hb9⟩
                clear hc k0 k1 k2 k3
                dsimp only
                obtain ⟨ln, hln⟩ : ∃ x, x = lendN X := ⟨_, rfl⟩
                rw [← hln]
                have HLN := Lib.hid hln
                clear hln
                have HX10 := Lib.hid ((hb9.block _ (lt_of_block HX9.out)).trans HX9.out)
                have HBR10 := Lib.hid (HBR9.out.trans (hb9.mono HBR9.out.size))
                have HWX10 := Lib.hid (HWX9.out.later hb9.size (fun k h _ => hb9.block k h)).low9
                have HPV10 := Lib.hid (HPV9.out.later hb9.size (fun k h _ => hb9.block k h))
                have HWXb := Lib.hid (HWXd.out.later hb9.size (fun k h _ => hb9.block k h))
                clear hb9 HX9 HBR9 HWX9 HPV9
                have hs10 := HBR10.out.size
                have HD10 := Lib.hid (HDr.out.later hs10 (fun k h _ => HBR10.out.block k h))
                have HK10 := Lib.hid (HKr.out.trans (Keeps.of_below HBR10.out (fun k h1 h2 => absurd h2 (by omega))))
                have k3 : W10.cell? ⟨xb, 3, none⟩ = some (.slice a5 np c5) := by rw [cell_of_row _ _ _ _ _ _ HX10.out]; rfl
                have hxb10 := lt_of_block HX10.out
                go_wp2_with fail
                clear k3
                have hk610 := HK10.out
                have hx10 : W10.heap[w.heap.size]? = some (.cells #[.slice ao nb cap, .int .i64 j.st.film.1, .int .i64 j.st.film.2, .slice ao2 nw cap2] 28 (0, 0)) := by
                  rw [← HFL.out.1, ← HFL.out.2]
                  exact (hk610.block _ (by omega) (by omega)).trans HXW6.out
                have hX10 : W10.heap[xb]? = some (.cells #[.slice ao nb cap, .int .i64 j.st.film.1, .int .i64 j.st.film.2, .slice a5 np c5] 28 (0, 0)) := by
                  rw [← HFL.out.1, ← HFL.out.2]
                  exact HX10.out
                refine served_plan j X HV.out HX.out.2.1 HX.out.2.2.2 p HPF.out l xs (.slice ao3 nu cap3) w.heap.size xb b2 nb nw np cap cap2 cap4 c5 c6 (metJ j.ws rl r) (8 + 32 * r) ao ao2 ao4 a5 a6 HNB.out HNP.out HXL.out (by omega) (by have := met_le j.ws rl r (by omega) (by rw [← HNW.out]; exact hnw4); omega) HXS.out W10 hwb (by omega) hx10 hX10 ((HSb.out.later (W := W10) hk610.size (fun k h1 h2 => (hk610.block k h1 (by omega)))).mono9 (fun k _ h => h)) HWXb.out (HPV10.out.mono (fun k h => by omega)) HD10.out (HOW.out.later hk610.size (fun k h1 h2 => hk610.block k h1 (by omega))) _ _ _ _ _ _ _ _ _ _ _ _ _ _ _ _ _ _ _ _ _ _ _ _ _ _ _ _ _ _ _ _ _ _ _ _ _ _ _ _ _ _ _ _ _ _ _ _ _ _ _ _ _ _ _ _ _ _ _ _ _ _ _ _ _ _ _ _ _ _ _ _ _ _ _ _ _ _ _ _ _ _ _ _ _ _ _ _ _ _ _ _ _ _ _ _ _ _ _ _ _ _ _ _ _ _ _ _ _ _ _ _ _ _ _ _ _ _ _ _ _ _ _ _ _ _ _ _ _ _ _ _ _ _ _ _ _ _ _ _ _ _ _ _ _ _ _ _ _ _ _ _ _ _ _ _ _ _ _ _ _ _ _ _ _ _ _ _ _ _ _ _ _ _ _ _ _ _ _ _ _ _ _ _ _ _ _ _ _ _ _ _ _ _ _ _ _ _ _ _ _ _ _ _ _ _ _ _ _ _ _ _ _ _ _ _ _ _ _ _ _ _ _ _ _ _ _ _ _ _ _ _ _ _ _ _ _ _ _ _ _ _ _ _ _ _ _ _ _ _ _ _ _ _ _ _ _ _ _ _ _ _ _ _ _ _ _ _ _ _ (fun _ _ _ _ _ h => h) ?_
                intro y6 y26 y27 y28 y29 y30 y31 y32 y33 y34 y152 y153 y154 y155 y156 y157 y158 y159 y160 y161 y162 y163 y164 y165 y166 y167 y168 y169 y170 y171 y172 y173 y174 y175 y176 y177 y178 y179 y180 y181 y182 y183 y184 y185 y186 y187 y188 y189 y190 y191 y192 y193 y194 y195 y196 y197 y198 y199 y200 y201 y202 y203 y204 y205 y206 y207 y208 y209 y210 y211 y212 y213 y214 y215 y216 y217 y218 y219 y220 y221 y222 y223 y224 y225 y226 y227 y228 y229 y230 y231 y232 y233 y234 y235 y236 y237 y238 y239 y240 y241 y242 y243 y244 y245 y246 W11 hdr hkk
                dsimp only [Exit.then]
                clear hx10 hX10
                have hk11 := hk610.trans hkk
                have hX11 := (hkk.block xb hxb10 (by omega)).trans HX10.out
                have hwx11 := HWXb.out.later hkk.size (fun k h1 h2 => hkk.block k h1 (by omega))
                have H11 := Lib.hid (And.intro hdr (And.intro hk11 (And.intro hX11 hwx11)))
                clear hdr hkk hk11 hX11 hwx11 hk610
                have hmet : metJ j.ws rl r + np = metJ j.ws rl (r + 1) := by rw [met_succ, ← HST.out, HNX.out, HX.out.1]; rfl
                rw [hmet]
                clear hmet
                by_cases hn0 : nb = 0
                · have hn0i : ¬ 0 < (nb : Int) := by omega
                  have HN0 := Lib.hid hn0
                  clear hn0
                  go_wp2_with fail
                  exact ⟨⟨r + 1, hlt, by push_cast; rfl, rfl, H11.out.1.mono (by omega), H11.out.2.1⟩, by simp [intOf]; omega⟩
                · have hn0i : 0 < (nb : Int) := by omega
                  obtain ⟨bq, hbq⟩ : ∃ q : Nat, x % (nb : Int) = q := ⟨(x % (nb : Int)).toNat, by have := Int.emod_nonneg x (b := (nb : Int)) (by omega); omega⟩
                  have hbl : bq < nb := by have := Int.emod_lt_of_pos x (b := (nb : Int)) (by omega); omega
                  have hcx : IntKind.i64.wrap x = x := IntWalk.i64_in _ (by omega)
                  have hz : ((nb : Int) == 0) = false := by rw [beq_eq_false_iff_ne]; omega
                  have hx0 : 0 ≤ x := hx.1
                  have k0 : W11.cell? ⟨xb, 0, none⟩ = some (.slice ao nb cap) := by rw [cell_of_row _ _ _ _ _ _ H11.out.2.2.1]; rfl
                  have k1 : W11.cell? ⟨xb, 1, none⟩ = some (.int .i64 fl) := by rw [cell_of_row _ _ _ _ _ _ H11.out.2.2.1]; rfl
                  have k2 : W11.cell? ⟨xb, 2, none⟩ = some (.int .i64 fh) := by rw [cell_of_row _ _ _ _ _ _ H11.out.2.2.1]; rfl
                  have k3 : W11.cell? ⟨xb, 3, none⟩ = some (.slice a5 np c5) := by rw [cell_of_row _ _ _ _ _ _ H11.out.2.2.1]; rfl
                  have hbs11 := HSb.out.later (W := W11) H11.out.2.1.size (fun k h1 h2 => H11.out.2.1.block k h1 (by omega))
                  have HBS11 := Lib.hid hbs11.low9
                  clear hn0 hbs11
                  go_wp2_with fail
                  have hc := r12without_any X (by rw [HX.out.2.2.2, ← HNB.out]; exact hnb8) bq (.slice ao nb cap) (.slice a5 np c5) W11 ⟨_, _, _, rfl⟩ (by rw [HX.out.2.2.2]; exact HBS11.out)
                  rw [HJX.out] at hc
                  refine hc.mono ?_
                  rintro e W12 ⟨⟨bv, rfl, hbv⟩, hb12⟩
                  clear hc k0 k1 k2 k3
                  dsimp only
                  obtain ⟨a7, c7, hbe, _⟩ := id hbv
                  subst hbe
                  obtain ⟨nq, hnq⟩ : ∃ n, n = (withoutD X bq).st.bs.length := ⟨_, rfl⟩
                  rw [← hnq] at hbv ⊢
                  have hjy : jobV (withoutD X bq) (.slice a7 nq c7) (.slice a5 np c5) = .agg #[.slice a7 nq c7, .int .i64 fl, .int .i64 fh, .slice a5 np c5] := by
                    unfold jobV withoutD
                    dsimp only
                    rw [HX.out.2.2.2, ← HFL.out.1, ← HFL.out.2]
                  rw [hjy]
                  have HJY := Lib.hid hjy
                  have HBV := Lib.hid hbv
                  have HB12 := Lib.hid hb12
                  have HK12 := Lib.hid (H11.out.2.1.trans (Keeps.of_below hb12 (fun k h1 h2 => absurd h2 (by have := H11.out.2.1.size; omega))))
                  clear hjy hnq hbv hb12
                  go_wp2_with fail
                  have hb612 : Below w.heap.size w W12 := HBW6.out.trans (HK12.out.below (by omega) (fun k h e => by omega))
                  have hc := Plan_any (withoutD X bq) (.slice a7 nq c7) (.slice a5 np c5) W12 HBV.out.low9 (H11.out.2.2.2.later HB12.out.size (fun k h _ => HB12.out.block k h)).low9 (HTZ.out.below hb612 h1z)
                  rw [HJY.out] at hc
                  refine hc.mono ?_
                  rintro e W13 ⟨pv, rfl, hpv, hb13⟩
                  clear hc hb612
                  dsimp only
                  obtain ⟨pe, hpe⟩ : ∃ x, x = (planD (withoutD X bq)).2 := ⟨_, rfl⟩
                  rw [← hpe]
                  have hlb := lend_bit HX.out.2.1 bq (by rw [HX.out.2.2.2, ← HNB.out]; exact hbl)
                  rw [← hpe, ← HLN.out] at hlb
                  have hln256 : ln < 256 := by
                    rw [HLN.out]
                    exact Nat.lt_of_lt_of_le (setJ_lt _ _) (Nat.pow_le_pow_right (by decide) (by rw [HX.out.2.2.2, ← HNB.out]; exact hnb8) : _ ≤ 2 ^ 8)
                  have hb1 := bit1_i64 ⟨bq, by omega⟩ ⟨ln, hln256⟩
                  dsimp only at hb1
                  obtain ⟨a8, c8, hve, _⟩ := id hpv
                  subst hve
                  have HK13 := Lib.hid (HK12.out.trans (Keeps.of_below hb13 (fun k h1 h2 => absurd h2 (by have := HK12.out.size; omega))))
                  have HD13 := Lib.hid ((H11.out.1.later HB12.out.size (fun k h _ => HB12.out.block k h)).later hb13.size (fun k h _ => hb13.block k h))
                  clear hpe hpv hb13
                  cases hbit : ln.testBit bq with
                  | true =>
                    rw [hbit] at hlb hb1
                    have hpe0 : pe = 0 := of_decide_eq_true hlb
                    clear hlb hbit
                    subst hpe0
                    go_wp2_with fail
                    exact ⟨⟨r + 1, hlt, by push_cast; rfl, rfl, HD13.out.mono (by omega), HK13.out⟩, by simp [intOf]; omega⟩
                  | false =>
                    rw [hbit] at hlb hb1
                    have hpe0 : ¬ pe = 0 := of_decide_eq_false hlb
                    clear hlb hbit
                    go_wp2_with fail
                    exact ⟨⟨r + 1, hlt, by push_cast; rfl, rfl, HD13.out.mono (by omega), HK13.out⟩, by simp [intOf]; omega⟩
              · have hrn : N = r := by omega
                subst hrn
                have hlti : ¬ (N : Int) < (N : Int) := by omega
                have hme : metJ j.ws rl N = nw := by rw [HN.out, HNW.out]; exact met_end j.ws rl HG.out.2.1
                rw [hme]
                clear hme
                have c0 : wr.cell? ⟨w.heap.size, 0, none⟩ = some (.slice ao nb cap) := by rw [cell_of_row _ _ _ _ _ _ HXwr.out]; rfl
                have c1 : wr.cell? ⟨w.heap.size, 1, none⟩ = some (.int .i64 fl) := by rw [cell_of_row _ _ _ _ _ _ HXwr.out]; rfl
                have c2 : wr.cell? ⟨w.heap.size, 2, none⟩ = some (.int .i64 fh) := by rw [cell_of_row _ _ _ _ _ _ HXwr.out]; rfl
                have c3 : wr.cell? ⟨w.heap.size, 3, none⟩ = some (.slice ao2 nw cap2) := by rw [cell_of_row _ _ _ _ _ _ HXwr.out]; rfl
                go_wp2_with fail
                refine (tawake_any _ (HTZ.out.below HBwr.out h1z)).mono ?_
                rintro e w9 ⟨rfl, hb9⟩
                dsimp only
                have HB9 := Lib.hid (HBwr.out.trans (hb9.mono HBwr.out.size))
                clear hb9
                go_wp2
                go_ret
                exact ⟨rfl, HB9.out⟩
      · have hre4 : re = 4 := by rw [HRE.out, HRD.out]; unfold roundsD; rw [errD_ok HV.out, if_neg (by decide), if_neg (by rw [← HAL.out, ← HEV.out]; exact hae)]
        have haei : ¬ (al : Int) = (ev : Int) := by omega
        subst hre4
        clear hae
        go_wp2_with fail
        refine (tawake_any _ (HTZ.out.below HBw4.out h1z)).mono ?_
        rintro e w9 ⟨rfl, hb9⟩
        dsimp only
        have HB9 := Lib.hid (HBw4.out.trans (hb9.mono HBw4.out.size))
        clear hb9
        go_wp2
        go_ret
        exact ⟨rfl, HB9.out⟩
end Go.Proofs.YtbmfphiecllggaaDoor

/- TopServed: whatever the job, the numbers by which truths are drawn, and the block: the law returns true, and its arguments read as they did. No conditions but those of the card: the two tables that math/bits lays for itself hold what its text says. -/
namespace Go.Proofs.YtbmfphiecllggaaDoor
set_option linter.unusedVariables false
set_option linter.unusedSimpArgs false
open Go.ChangeShapes Go.WideShapes Go.ChangeAt Go.RowKit Go.Deep
set_option maxRecDepth 100000 in
theorem topServed_lifted (os : Os) (started : os.Started) (H : Type) (enc : TypeId × Value → H) :
    ReturnsInHanded {} Tryd.checked os 3 .any (fun w args => (Rows.topServedSpec.pre enc Tryd.prog Tryd.f3 [] false w args ∧ laidMetH Tryd.prog laidB w) ∧ sizedMet enc Tryd.prog Tryd.f3 (OpenSpec.ofChange Rows.topServedSpec) false w args)
      (Rows.topServedSpec.post enc Tryd.prog Tryd.f3 false true false false) := by
  refine returnsInHanded_of_change_and (C := Tryd.checked) (X := fun w _ => laidMetH Tryd.prog laidB w) (fun _ _ _ hh h => h.of_heap hh) own_knob started (by kernel_rfl) Tryd.func3
    (ChangeSpec.witness_shaped (enc := enc) (C := Tryd.checked) (os := os) (X := fun w _ => laidMetH Tryd.prog laidB w) false (World.doorLaid Tryd.prog 400 os) #[.agg #[.slice none 0 0, .int .i64 0, .int .i64 0, .slice none 0 0], .slice none 0 0, .int .u8 0] 8 rfl (World.shaped_of_RefB (by kernel_rfl) (by kernel_rfl)) (by kernel_rfl) (by kernel_rfl) (by kernel_rfl) (door_met os _)) ?_
  intro W base args ds gs before hval0 hW _ _ hL _
  have hval : ∀ (j : Nat) t v, Tryd.f3.params[j]? = some t → args[j]? = some v → Value.okWide Tryd.prog W .any base t v := hval0
  have hW' := hW
  obtain ⟨p, q, hA0, hV, rfl, hfz, hnd⟩ := hW
  have hA : DataW.TrodAll enc Tryd.prog W 0 (fun _ => true) true Tryd.f3.params.toList args.toList ds p := hA0
  rw [Tryd.params3] at hA hval
  obtain ⟨rfl, rfl⟩ := trodVars_none hV
  clear hA0 hval0
  simp only [List.append_nil] at hW'
  have hst := hA
  have htz := of_laid hL
  obtain ⟨v0, v1, v2, d0, d1, d2, p0, p1, p2, rfl, rfl, rfl, h0, h1, h2⟩ := trodAll_three hA
  obtain ⟨j, bs, ws, rfl, hbs, hws⟩ := open_jobV (hval 0 _ _ rfl rfl) h0
  obtain ⟨fuel, hf⟩ := h1
  obtain ⟨ao, len, cap, rfl⟩ := okWide_slice Tryd.underlying29 (hval 1 _ _ rfl rfl)
  obtain ⟨l, hus⟩ := open_smallV (v := .slice ao len cap) Tryd.underlying29 (by kernel_rfl) (by kernel_rfl) (fun _ => u16_range) hf
  obtain ⟨x, rfl, _, _, hx⟩ := Go.ChangeShapes.open_int under_u8 (hval 2 _ _ rfl rfl) h2
  refine (served_any j bs ws l _ x (u8_range hx) W hbs hws hus htz).mono fun e W' ⟨he, hb⟩ => ?_
  subst he
  exact ⟨_, rfl, lawEnd hW' rfl hst rfl (by decide +kernel) rfl rfl hb⟩
theorem topServed_over : Rows.topServedRow.holds Tryd.pinned (OpenSpec.ofChange Rows.topServedSpec) :=
  OpenClaim.holds_of_wide 3 Tryd.f3 rfl rfl rfl rfl rfl rfl rfl ⟨rfl, rfl, rfl, rfl, rfl⟩ rfl rfl rfl rfl rfl (by kernel_rfl) Tryd.func3 (by kernel_rfl)
    (of_decide_eq_true (by kernel_rfl)) (by unfold Func.isWrapper; first | (rw [if_pos (by decide +kernel)]; kernel_rfl) | (rw [if_neg (by decide +kernel)]; exact ⟨rfl, rfl⟩))
    (fun os started H enc _ => topServed_lifted os started H enc)
theorem top_served_row : Rows.TopServedSaid := topServed_over
theorem top_served : Rows.TopServedCardSaid :=
  Claim7.holds_tied_plain_at .later [] [.data, .data] true (true, "0142e81380ab833cdd0b1d3ff1be0aee862e67f2dcc1be2b06267f938ad4868f") true
    topServed_over (fun _ h => by cases h) (by kernel_rfl) (fun _ h => by cases h) topServed_row_tie rfl ⟨rfl, rfl⟩ (by kernel_rfl) rfl
    (fun f fn hf hfn => by
      obtain rfl : f = 3 := Option.some.inj ((show Tryd.prog.funcNamed "blockworks/blockworkstop.TopServed" = some 3 by kernel_rfl).symm.trans hf) |>.symm
      obtain rfl : fn = Tryd.f3 := (Option.some.inj (Tryd.func3.symm.trans hfn)).symm
      exact ⟨by kernel_rfl, fun j t ht => by
        rw [Tryd.params3] at ht
        have hm : t ∈ [28, 29, 5] := by simpa using Array.mem_of_getElem? ht
        have hall : ([28, 29, 5].all fun u => !Tryd.prog.wantsStandIn u) = true := by kernel_rfl
        exact (show Tryd.prog.wantsStandIn t = false by simpa using List.all_eq_true.1 hall t hm)⟩)
    (by kernel_rfl)
#print axioms top_served
end Go.Proofs.YtbmfphiecllggaaDoor
