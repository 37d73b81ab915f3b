/- Texts Mj, Mh, Mp, Mg in one file; each begins with a word on what it proves. -/
import Derived.Test.YtlgeggekmdoceaaKw

/- PairMore: the walk, no argument is changed. -/
namespace Go.Proofs.Ytlgeggekmdoceaa
set_option linter.unusedVariables false
set_option linter.unusedSimpArgs false
open Go.RowKit Go.Shelf
attribute [local go_sem] Oper.semAt_some
/-- The elements of a slice of readings. -/
theorem ReadsAt.elemsN {W0 : World} {v : Value} {rs : List RdD} {Rd : Nat → Prop} (h : ReadsAt W0 v rs Rd) :
    ∃ ao cap, v = .slice ao rs.length cap ∧ (0 < rs.length → ∃ bb off, ao = some ⟨bb, off, none⟩ ∧ bb < W0.heap.size ∧ ∀ W' : World, W'.heap[bb]? = W0.heap[bb]? → ∀ i (hi : i < rs.length), W'.cell? ⟨bb, off + i * 5, none⟩ = some (.int .i64 rs[i].a) ∧ W'.cell? ⟨bb, off + i * 5 + 1, none⟩ = some (.int .i64 rs[i].b) ∧ W'.cell? ⟨bb, off + i * 5 + 2, none⟩ = some (.int .i64 rs[i].m) ∧ W'.cell? ⟨bb, off + i * 5 + 3, none⟩ = some (.int .i64 rs[i].lo) ∧ W'.cell? ⟨bb, off + i * 5 + 4, none⟩ = some (.int .i64 rs[i].hi)) := by
  obtain ⟨ao, cap, rfl, _, _, h4⟩ := h
  refine ⟨ao, cap, rfl, fun h0 => ?_⟩
  obtain ⟨bb, off, e2, _, hb, _⟩ := h4 0 h0
  refine ⟨bb, off, e2, hb, fun W' hbw i hi => ?_⟩
  obtain ⟨b2, o2, f2, _, hb2, f3, f4, f5, f6, f7⟩ := h4 i hi
  have f8 := Option.some.inj (e2.symm.trans f2)
  have fb : b2 = bb := (congrArg Addr.block f8).symm
  have fo : o2 = off := (congrArg (fun x : Addr => x.off) f8).symm
  subst fb fo
  exact ⟨(World.cell?_of_block (w := W0) (a := ⟨b2, o2 + i * 5, none⟩) hbw).trans f3, (World.cell?_of_block (w := W0) (a := ⟨b2, o2 + i * 5 + 1, none⟩) hbw).trans f4, (World.cell?_of_block (w := W0) (a := ⟨b2, o2 + i * 5 + 2, none⟩) hbw).trans f5, (World.cell?_of_block (w := W0) (a := ⟨b2, o2 + i * 5 + 3, none⟩) hbw).trans f6, (World.cell?_of_block (w := W0) (a := ⟨b2, o2 + i * 5 + 4, none⟩) hbw).trans f7⟩
theorem SpansAt.elemsN {W0 : World} {v : Value} {bs : List (Int × Int)} {Rd : Nat → Prop} (h : SpansAt W0 v bs Rd) :
    ∃ ao cap, v = .slice ao bs.length cap ∧ (0 < bs.length → ∃ bb off, ao = some ⟨bb, off, none⟩ ∧ bb < W0.heap.size ∧ ∀ W' : World, W'.heap[bb]? = W0.heap[bb]? → ∀ i (hi : i < bs.length), W'.cell? ⟨bb, off + i * 2, none⟩ = some (.int .i64 bs[i].1) ∧ W'.cell? ⟨bb, off + i * 2 + 1, none⟩ = some (.int .i64 bs[i].2)) := by
  obtain ⟨ao, cap, rfl, _, _, h4⟩ := h
  refine ⟨ao, cap, rfl, fun h0 => ?_⟩
  obtain ⟨bb, off, e2, _, hb, _⟩ := h4 0 h0
  refine ⟨bb, off, e2, hb, fun W' hbw i hi => ?_⟩
  obtain ⟨b2, o2, f2, _, hb2, f3, f4⟩ := h4 i hi
  have f8 := Option.some.inj (e2.symm.trans f2)
  have fb : b2 = bb := (congrArg Addr.block f8).symm
  have fo : o2 = off := (congrArg (fun x : Addr => x.off) f8).symm
  subst fb fo
  exact ⟨(World.cell?_of_block (w := W0) (a := ⟨b2, o2 + i * 2, none⟩) hbw).trans f3, (World.cell?_of_block (w := W0) (a := ⟨b2, o2 + i * 2 + 1, none⟩) hbw).trans f4⟩
theorem below_drewM {n : Nat} {a w : World} (h : Below n a w) (k : Nat) : Below n a (w.drewN k) := ⟨h.os, h.tape, h.output, h.size, h.block⟩
set_option maxRecDepth 100000 in
set_option maxHeartbeats 8000000 in
theorem more_k (p : PairD) (B : Nat) (bsv rsv v28 v29 : Value) (W0 w : World) (hm : p.rs.length ≤ 8) (hB : B < W0.heap.size) (hb : Below W0.heap.size W0 w)
    (hr0 : W0.heap[B]? = some (.cells (pairRow p bsv rsv) 27 (0, 0))) (hpr : ReadsAt W0 rsv p.rs (fun k => k < W0.heap.size)) (h29 : ReadsAt W0 v29 p.rs (fun k => k < W0.heap.size))
    (R : Ending → World → Prop) (hR : ∀ w', Below W0.heap.size W0 w' → R (.returned (.bool true)) w') (u0 u1 u2 u3 u4 u6 u10 u11 u12 u13 u14 u15 u16 u17 u18 u19 u20 u21 u22 u23 u24 u25 u26 u27 u30 u31 u32 u33 u34 u35 u36 u37 u38 u39 u40 u41 u42 u43 u44 u45 u46 u47 u48 u49 u50 u51 u52 u53 u54 u55 u56 u57 u58 u59 u60 u61 u62 u63 u64 u65 u66 u67 u68 u70 u71 u72 u73 u74 u75 u76 u77 u78 u79 u80 u81 u82 u83 u84 u85 u86 u87 u88 u89 u90 u91 u92 u93 u94 u95 u96 u97 u98 u99 u100 u101 u102 u103 u104 u105 u106 u107 u108 u109 u110 u111 u112 u113 u114 u115 u116 u117 u118 u119 u120 u121 u122 u123 u124 u125 u126 u127 u128 u129 u130 u131 u132 u133 u134 u135 u136 u137 u138 u139 u140 u141 u142 u143 u144 u145 u146 u147 u148 u149 u150 u151 u152 u153 u154 u155 u156 u157 u158 u159 u160 u161 u162 u163 u164 u165 u166 u167 u168 u169 u170 u171 u172 u173 u174 u175 u176 u177 u178 u179 u180 u181 u182 u183 u184 u185 u186 u187 u188 u189 u190 u191 u192 u193 u194 u195 u196 u197 u198 u199 u200 u201 u202 u203 u204 u205 u206 u207 u208 u209 u210 u211 u212 u213 u214 u215 u216 u217 u218 u219 u220 u221 u222 u223 u224 u225 u226 u227 u228 u229 u230 u231 u232 u233 u234 u235 u236 u237 u238 u239 u240 u241 u242 u243 u244 u245 u246 u247 u248 u249 u250 u251 u252 u253 u254 u255 u256 u257 u258 u259 u260 u261 u262 u263 u264 u265 u266 u267 u268 u269 u270 u271 u272 u273 u274 u275 u276 u277 u278 u279 u280 u281 u282 u283 u284 u285 u286 u287 u288 u289 u290 u291 u292 u293 u294 u295 u296 u297 u298 u299 u300 u301 u302 u303 u304 u305 u306 u307 u308 u309 u310 u311 u312 u313 u314 u315 u316 u317 u318 u319 u320 u321 u322 u323 u324 u325 u326 u327 u328 u329 u330 u331 u332 u333 u334 u335 u336 u337 u338 u339 u340 u341 u342 u343 u344 u345 u346 u347 u348 u349 u350 u351 u352 u353 u354 u355 u356 u357 u358 u359 u360 u361 u362 u363 u364 u365 u366 u367 u368 u369 u370 u371 u372 u373 u374 u375 u376 u377 u378 u379 u380 u381 u382 u383 u384 u385 u386 u387 u388 u389 u390 u391 u392 u393 u394 u395 u396 u397 u398 u399 u400 u401 u402 u403 u404 u405 u406 u407 u408 u409 u410 u411 u412 u413 u414 u415 u416 u417 u418 u419 u420 u421 u422 u423 u424 u425 u426 u427 u428 u429 u430 u431 u432 u433 u434 u435 u436 u437 u438 u439 u440 u441 u442 u443 u444 u445 u446 u447 u448 u449 u450 u451 u452 u453 u454 u455 u456 u457 u458 u459 u460 u461 u462 u463 u464 u465 u466 u467 u468 u469 u470 u471 u472 u473 u474 u475 u476 u477 u478 u479 u480 u481 u482 u483 u484 u485 u486 u487 u488 u489 u490 u491 u492 u493 u494 u495 u496 u497 u498 u499 u500 u501 u502 u503 u504 u505 u506 u507 u508 u509 u510 u511 u512 u513 u514 u515 u516 u517 u518 u519 u520 u521 u522 u523 u524 u525 u526 u527 u528 u529 u530 u531 u532 u533 u534 u535 u536 u537 u538 u539 u540 u541 u542 u543 u544 u545 u546 u547 u548 u549 u550 u551 u552 u553 u554 u555 u556 u557 u558 u559 u560 u561 u562 u563 u564 u565 u566 u567 u568 u569 u570 u571 u572 u573 u574 u575 u576 u577 u578 u579 u580 u581 u582 u583 u584 u585 u586 u587 u588 u589 u590 u591 u592 u593 u594 u595 u596 u597 u598 u599 u600 u601 u602 u603 u604 u605 u606 u607 : Value) :
    Code.wp Try.prog (moreC 32) (bodyPost Try.prog Try.f12 R) ⟨#[u0, u1, u2, u3, u4, .pointer (some ⟨B, 0, none⟩), u6, undef, undef, undef, u10, u11, u12, u13, u14, u15, u16, u17, u18, u19, u20, u21, u22, u23, u24, u25, u26, u27, v28, v29, u30, u31, u32, u33, u34, u35, u36, u37, u38, u39, u40, u41, u42, u43, u44, u45, u46, u47, u48, u49, u50, u51, u52, u53, u54, u55, u56, u57, u58, u59, u60, u61, u62, u63, u64, u65, u66, u67, u68, undef, u70, u71, u72, u73, u74, u75, u76, u77, u78, u79, u80, u81, u82, u83, u84, u85, u86, u87, u88, u89, u90, u91, u92, u93, u94, u95, u96, u97, u98, u99, u100, u101, u102, u103, u104, u105, u106, u107, u108, u109, u110, u111, u112, u113, u114, u115, u116, u117, u118, u119, u120, u121, u122, u123, u124, u125, u126, u127, u128, u129, u130, u131, u132, u133, u134, u135, u136, u137, u138, u139, u140, u141, u142, u143, u144, u145, u146, u147, u148, u149, u150, u151, u152, u153, u154, u155, u156, u157, u158, u159, u160, u161, u162, u163, u164, u165, u166, u167, u168, u169, u170, u171, u172, u173, u174, u175, u176, u177, u178, u179, u180, u181, u182, u183, u184, u185, u186, u187, u188, u189, u190, u191, u192, u193, u194, u195, u196, u197, u198, u199, u200, u201, u202, u203, u204, u205, u206, u207, u208, u209, u210, u211, u212, u213, u214, u215, u216, u217, u218, u219, u220, u221, u222, u223, u224, u225, u226, u227, u228, u229, u230, u231, u232, u233, u234, u235, u236, u237, u238, u239, u240, u241, u242, u243, u244, u245, u246, u247, u248, u249, u250, u251, u252, u253, u254, u255, u256, u257, u258, u259, u260, u261, u262, u263, u264, u265, u266, u267, u268, u269, u270, u271, u272, u273, u274, u275, u276, u277, u278, u279, u280, u281, u282, u283, u284, u285, u286, u287, u288, u289, u290, u291, u292, u293, u294, u295, u296, u297, u298, u299, u300, u301, u302, u303, u304, u305, u306, u307, u308, u309, u310, u311, u312, u313, u314, u315, u316, u317, u318, u319, u320, u321, u322, u323, u324, u325, u326, u327, u328, u329, u330, u331, u332, u333, u334, u335, u336, u337, u338, u339, u340, u341, u342, u343, u344, u345, u346, u347, u348, u349, u350, u351, u352, u353, u354, u355, u356, u357, u358, u359, u360, u361, u362, u363, u364, u365, u366, u367, u368, u369, u370, u371, u372, u373, u374, u375, u376, u377, u378, u379, u380, u381, u382, u383, u384, u385, u386, u387, u388, u389, u390, u391, u392, u393, u394, u395, u396, u397, u398, u399, u400, u401, u402, u403, u404, u405, u406, u407, u408, u409, u410, u411, u412, u413, u414, u415, u416, u417, u418, u419, u420, u421, u422, u423, u424, u425, u426, u427, u428, u429, u430, u431, u432, u433, u434, u435, u436, u437, u438, u439, u440, u441, u442, u443, u444, u445, u446, u447, u448, u449, u450, u451, u452, u453, u454, u455, u456, u457, u458, u459, u460, u461, u462, u463, u464, u465, u466, u467, u468, u469, u470, u471, u472, u473, u474, u475, u476, u477, u478, u479, u480, u481, u482, u483, u484, u485, u486, u487, u488, u489, u490, u491, u492, u493, u494, u495, u496, u497, u498, u499, u500, u501, u502, u503, u504, u505, u506, u507, u508, u509, u510, u511, u512, u513, u514, u515, u516, u517, u518, u519, u520, u521, u522, u523, u524, u525, u526, u527, u528, u529, u530, u531, u532, u533, u534, u535, u536, u537, u538, u539, u540, u541, u542, u543, u544, u545, u546, u547, u548, u549, u550, u551, u552, u553, u554, u555, u556, u557, u558, u559, u560, u561, u562, u563, u564, u565, u566, u567, u568, u569, u570, u571, u572, u573, u574, u575, u576, u577, u578, u579, u580, u581, u582, u583, u584, u585, u586, u587, u588, u589, u590, u591, u592, u593, u594, u595, u596, u597, u598, u599, u600, u601, u602, u603, u604, u605, u606, u607, undef, undef, undef, undef, undef, undef, undef, undef, undef, undef, undef, undef, undef, undef, undef, undef, undef], []⟩ w := by
  conv => arg 2; whnf
  obtain ⟨ao, cap, rfl, hel⟩ := hpr.elemsN
  obtain ⟨ao9, cap9, rfl, hel9⟩ := h29.elemsN
  have HB := Lib.hid hb
  have HR0 := Lib.hid hr0
  have HEL := Lib.hid hel
  have HEL9 := Lib.hid hel9
  clear hb hr0 hel hel9 hpr h29
  go_wp2_with fail
  go_loopw [610] (fun k wr => ∃ j : Nat, j ≤ p.rs.length ∧ k = .int .i64 j ∧ Below W0.heap.size W0 wr) (fun k _ => p.rs.length - (intOf k).toNat)
  case atStart => exact ⟨0, by omega, rfl, HB.out⟩
  case round =>
    clear HB
    obtain ⟨j, hj, rfl, hb⟩ := hrel
    have HB := Lib.hid hb
    by_cases hlj : j < p.rs.length
    case neg =>
      have hd : decide ((j : Int) < (p.rs.length : Int)) = false := decide_eq_false (by omega)
      clear hb
      go_wp2_with fail
      refine (alive_any _).mono ?_
      rintro e wz ⟨rfl, hbz⟩
      replace HB := Lib.hid (HB.out.trans (hbz.mono HB.out.size))
      clear hbz
      go_wp2
      exact HB.out
    have hd : decide ((j : Int) < (p.rs.length : Int)) = true := decide_eq_true (by omega)
    obtain ⟨bb, off, rfl, hbb, he⟩ := HEL.out (by omega)
    obtain ⟨b9, off9, rfl, hb9, he9⟩ := HEL9.out (by omega)
    obtain ⟨s, hs⟩ : ∃ s, s = p.rs[j] := ⟨_, rfl⟩
    have e1 := he wr (hb.block _ hbb) j hlj
    have e2 := he9 wr (hb.block _ hb9) j hlj
    rw [← hs] at e1 e2
    obtain ⟨ea0, ea1, ea2, ea3, ea4⟩ := e1
    obtain ⟨eb0, eb1, eb2, eb3, eb4⟩ := e2
    have r5 : wr.cell? ⟨B, 5, none⟩ = some (.slice (some ⟨bb, off, none⟩) p.rs.length cap) := cell_of_row _ _ 5 _ _ _ ((hb.block _ hB).trans HR0.out)
    have hwj : IntKind.i64.wrap ((j : Int) + 1) = ((j + 1 : Nat) : Int) := by rw [IntWalk.i64_in _ (by omega)]; omega
    clear he he9 hb hs
    go_wp2_with fail
    go_quiet (fail)
    go_wp2
    exact ⟨⟨j + 1, by omega, by first | rfl | (congr 1; omega), below_drewM HB.out _⟩, by simp [intOf]; omega⟩

set_option maxRecDepth 100000 in
set_option maxHeartbeats 8000000 in
theorem more_j (p : PairD) (B : Nat) (bsv rsv v28 v29 : Value) (W0 w : World) (hm : p.rs.length ≤ 8) (hm5 : p.bs.length ≤ 5) (hB : B < W0.heap.size) (hb : Below W0.heap.size W0 w)
    (hr0 : W0.heap[B]? = some (.cells (pairRow p bsv rsv) 27 (0, 0))) (hpb : SpansAt W0 bsv p.bs (fun k => k < W0.heap.size)) (hpr : ReadsAt W0 rsv p.rs (fun k => k < W0.heap.size)) (h28 : SpansAt W0 v28 p.bs (fun k => k < W0.heap.size)) (h29 : ReadsAt W0 v29 p.rs (fun k => k < W0.heap.size))
    (R : Ending → World → Prop) (hR : ∀ w', Below W0.heap.size W0 w' → R (.returned (.bool true)) w') (K1 K : Act → World → Prop)
    (hK1 : ∀ a w, Code.wp Try.prog (dropC 1 (headC 31)) (Exit.then K (bodyPost Try.prog Try.f12 R)) a w → K1 a w) (hK : ∀ a w, Code.wp Try.prog (moreC 32) (bodyPost Try.prog Try.f12 R) a w → K a w) (u0 u1 u2 u3 u4 u6 u10 u11 u12 u13 u14 u15 u16 u17 u18 u19 u20 u21 u22 u23 u24 u25 u26 u27 u30 u31 u32 u33 u34 u35 u36 u37 u38 u39 u40 u41 u42 u43 u44 u45 u46 u47 u48 u49 u50 u51 u52 u53 u54 u55 u56 u57 u58 u59 u60 u61 u62 u63 u64 u65 u66 u67 u70 u71 u72 u73 u74 u75 u76 u77 u78 u79 u80 u81 u82 u83 u84 u85 u86 u87 u88 u89 u90 u91 u92 u93 u94 u95 u96 u97 u98 u99 u100 u101 u102 u103 u104 u105 u106 u107 u108 u109 u110 u111 u112 u113 u114 u115 u116 u117 u118 u119 u120 u121 u122 u123 u124 u125 u126 u127 u128 u129 u130 u131 u132 u133 u134 u135 u136 u137 u138 u139 u140 u141 u142 u143 u144 u145 u146 u147 u148 u149 u150 u151 u152 u153 u154 u155 u156 u157 u158 u159 u160 u161 u162 u163 u164 u165 u166 u167 u168 u169 u170 u171 u172 u173 u174 u175 u176 u177 u178 u179 u180 u181 u182 u183 u184 u185 u186 u187 u188 u189 u190 u191 u192 u193 u194 u195 u196 u197 u198 u199 u200 u201 u202 u203 u204 u205 u206 u207 u208 u209 u210 u211 u212 u213 u214 u215 u216 u217 u218 u219 u220 u221 u222 u223 u224 u225 u226 u227 u228 u229 u230 u231 u232 u233 u234 u235 u236 u237 u238 u239 u240 u241 u242 u243 u244 u245 u246 u247 u248 u249 u250 u251 u252 u253 u254 u255 u256 u257 u258 u259 u260 u261 u262 u263 u264 u265 u266 u267 u268 u269 u270 u271 u272 u273 u274 u275 u276 u277 u278 u279 u280 u281 u282 u283 u284 u285 u286 u287 u288 u289 u290 u291 u292 u293 u294 u295 u296 u297 u298 u299 u300 u301 u302 u303 u304 u305 u306 u307 u308 u309 u310 u311 u312 u313 u314 u315 u316 u317 u318 u319 u320 u321 u322 u323 u324 u325 u326 u327 u328 u329 u330 u331 u332 u333 u334 u335 u336 u337 u338 u339 u340 u341 u342 u343 u344 u345 u346 u347 u348 u349 u350 u351 u352 u353 u354 u355 u356 u357 u358 u359 u360 u361 u362 u363 u364 u365 u366 u367 u368 u369 u370 u371 u372 u373 u374 u375 u376 u377 u378 u379 u380 u381 u382 u383 u384 u385 u386 u387 u388 u389 u390 u391 u392 u393 u394 u395 u396 u397 u398 u399 u400 u401 u402 u403 u404 u405 u406 u407 u408 u409 u410 u411 u412 u413 u414 u415 u416 u417 u418 u419 u420 u421 u422 u423 u424 u425 u426 u427 u428 u429 u430 u431 u432 u433 u434 u435 u436 u437 u438 u439 u440 u441 u442 u443 u444 u445 u446 u447 u448 u449 u450 u451 u452 u453 u454 u455 u456 u457 u458 u459 u460 u461 u462 u463 u464 u465 u466 u467 u468 u469 u470 u471 u472 u473 u474 u475 u476 u477 u478 u479 u480 u481 u482 u483 u484 u485 u486 u487 u488 u489 u490 u491 u492 u493 u494 u495 u496 u497 u498 u499 u500 u501 u502 u503 u504 u505 u506 u507 u508 u509 u510 u511 u512 u513 u514 u515 u516 u517 u518 u519 u520 u521 u522 u523 u524 u525 u526 u527 u528 u529 u530 u531 u532 u533 u534 u535 u536 u537 u538 u539 u540 u541 u542 u543 u544 u545 u546 u547 u548 u549 u550 u551 u552 u553 u554 u555 u556 u557 u558 u559 u560 u561 u562 u563 u564 u565 u566 u567 u568 u569 u570 u571 u572 u573 u574 u575 u576 u577 u578 u579 u580 u581 u582 u583 u584 u585 u586 u587 u588 u589 u590 u591 : Value) :
    Code.wp Try.prog (headOf (headC 31)) (Exit.then K1 (Exit.then K (bodyPost Try.prog Try.f12 R))) ⟨#[u0, u1, u2, u3, u4, .pointer (some ⟨B, 0, none⟩), u6, undef, undef, undef, u10, u11, u12, u13, u14, u15, u16, u17, u18, u19, u20, u21, u22, u23, u24, u25, u26, u27, v28, v29, u30, u31, u32, u33, u34, u35, u36, u37, u38, u39, u40, u41, u42, u43, u44, u45, u46, u47, u48, u49, u50, u51, u52, u53, u54, u55, u56, u57, u58, u59, u60, u61, u62, u63, u64, u65, u66, u67, undef, undef, u70, u71, u72, u73, u74, u75, u76, u77, u78, u79, u80, u81, u82, u83, u84, u85, u86, u87, u88, u89, u90, u91, u92, u93, u94, u95, u96, u97, u98, u99, u100, u101, u102, u103, u104, u105, u106, u107, u108, u109, u110, u111, u112, u113, u114, u115, u116, u117, u118, u119, u120, u121, u122, u123, u124, u125, u126, u127, u128, u129, u130, u131, u132, u133, u134, u135, u136, u137, u138, u139, u140, u141, u142, u143, u144, u145, u146, u147, u148, u149, u150, u151, u152, u153, u154, u155, u156, u157, u158, u159, u160, u161, u162, u163, u164, u165, u166, u167, u168, u169, u170, u171, u172, u173, u174, u175, u176, u177, u178, u179, u180, u181, u182, u183, u184, u185, u186, u187, u188, u189, u190, u191, u192, u193, u194, u195, u196, u197, u198, u199, u200, u201, u202, u203, u204, u205, u206, u207, u208, u209, u210, u211, u212, u213, u214, u215, u216, u217, u218, u219, u220, u221, u222, u223, u224, u225, u226, u227, u228, u229, u230, u231, u232, u233, u234, u235, u236, u237, u238, u239, u240, u241, u242, u243, u244, u245, u246, u247, u248, u249, u250, u251, u252, u253, u254, u255, u256, u257, u258, u259, u260, u261, u262, u263, u264, u265, u266, u267, u268, u269, u270, u271, u272, u273, u274, u275, u276, u277, u278, u279, u280, u281, u282, u283, u284, u285, u286, u287, u288, u289, u290, u291, u292, u293, u294, u295, u296, u297, u298, u299, u300, u301, u302, u303, u304, u305, u306, u307, u308, u309, u310, u311, u312, u313, u314, u315, u316, u317, u318, u319, u320, u321, u322, u323, u324, u325, u326, u327, u328, u329, u330, u331, u332, u333, u334, u335, u336, u337, u338, u339, u340, u341, u342, u343, u344, u345, u346, u347, u348, u349, u350, u351, u352, u353, u354, u355, u356, u357, u358, u359, u360, u361, u362, u363, u364, u365, u366, u367, u368, u369, u370, u371, u372, u373, u374, u375, u376, u377, u378, u379, u380, u381, u382, u383, u384, u385, u386, u387, u388, u389, u390, u391, u392, u393, u394, u395, u396, u397, u398, u399, u400, u401, u402, u403, u404, u405, u406, u407, u408, u409, u410, u411, u412, u413, u414, u415, u416, u417, u418, u419, u420, u421, u422, u423, u424, u425, u426, u427, u428, u429, u430, u431, u432, u433, u434, u435, u436, u437, u438, u439, u440, u441, u442, u443, u444, u445, u446, u447, u448, u449, u450, u451, u452, u453, u454, u455, u456, u457, u458, u459, u460, u461, u462, u463, u464, u465, u466, u467, u468, u469, u470, u471, u472, u473, u474, u475, u476, u477, u478, u479, u480, u481, u482, u483, u484, u485, u486, u487, u488, u489, u490, u491, u492, u493, u494, u495, u496, u497, u498, u499, u500, u501, u502, u503, u504, u505, u506, u507, u508, u509, u510, u511, u512, u513, u514, u515, u516, u517, u518, u519, u520, u521, u522, u523, u524, u525, u526, u527, u528, u529, u530, u531, u532, u533, u534, u535, u536, u537, u538, u539, u540, u541, u542, u543, u544, u545, u546, u547, u548, u549, u550, u551, u552, u553, u554, u555, u556, u557, u558, u559, u560, u561, u562, u563, u564, u565, u566, u567, u568, u569, u570, u571, u572, u573, u574, u575, u576, u577, u578, u579, u580, u581, u582, u583, u584, u585, u586, u587, u588, u589, u590, u591, undef, undef, undef, undef, undef, undef, undef, undef, undef, undef, undef, undef, undef, undef, undef, undef, undef, undef, undef, undef, undef, undef, undef, undef, undef, undef, undef, undef, undef, undef, undef, undef, undef], []⟩ w := by
  conv => arg 2; whnf
  obtain ⟨ao, cap, rfl, hel⟩ := hpb.elemsN
  obtain ⟨ao9, cap9, rfl, hel9⟩ := h28.elemsN
  have HB := Lib.hid hb
  have HR0 := Lib.hid hr0
  have HEL := Lib.hid hel
  have HEL9 := Lib.hid hel9
  have HPR := Lib.hid hpr
  have H29 := Lib.hid h29
  clear hb hr0 hel hel9 hpr h29 hpb h28
  go_wp2_with fail
  conv => arg 2; whnf
  go_wp2_with fail
  go_loopw [594] (fun k wr => ∃ j : Nat, j ≤ p.bs.length ∧ k = .int .i64 j ∧ Below W0.heap.size W0 wr) (fun k _ => p.bs.length - (intOf k).toNat)
  case atStart => exact ⟨0, by omega, rfl, HB.out⟩
  case round =>
    clear HB
    obtain ⟨j, hj, rfl, hb⟩ := hrel
    have HB := Lib.hid hb
    by_cases hlj : j < p.bs.length
    case neg =>
      have hd : decide ((j : Int) < (p.bs.length : Int)) = false := decide_eq_false (by omega)
      clear hb
      go_upto_region 73 with fail
      exact more_k p B _ rsv _ v29 W0 _ hm hB HB.out HR0.out HPR.out H29.out R hR _ _ _ _ _ _ _ _ _ _ _ _ _ _ _ _ _ _ _ _ _ _ _ _ _ _ _ _ _ _ _ _ _ _ _ _ _ _ _ _ _ _ _ _ _ _ _ _ _ _ _ _ _ _ _ _ _ _ _ _ _ _ _ _ _ _ _ _ _ _ _ _ _ _ _ _ _ _ _ _ _ _ _ _ _ _ _ _ _ _ _ _ _ _ _ _ _ _ _ _ _ _ _ _ _ _ _ _ _ _ _ _ _ _ _ _ _ _ _ _ _ _ _ _ _ _ _ _ _ _ _ _ _ _ _ _ _ _ _ _ _ _ _ _ _ _ _ _ _ _ _ _ _ _ _ _ _ _ _ _ _ _ _ _ _ _ _ _ _ _ _ _ _ _ _ _ _ _ _ _ _ _ _ _ _ _ _ _ _ _ _ _ _ _ _ _ _ _ _ _ _ _ _ _ _ _ _ _ _ _ _ _ _ _ _ _ _ _ _ _ _ _ _ _ _ _ _ _ _ _ _ _ _ _ _ _ _ _ _ _ _ _ _ _ _ _ _ _ _ _ _ _ _ _ _ _ _ _ _ _ _ _ _ _ _ _ _ _ _ _ _ _ _ _ _ _ _ _ _ _ _ _ _ _ _ _ _ _ _ _ _ _ _ _ _ _ _ _ _ _ _ _ _ _ _ _ _ _ _ _ _ _ _ _ _ _ _ _ _ _ _ _ _ _ _ _ _ _ _ _ _ _ _ _ _ _ _ _ _ _ _ _ _ _ _ _ _ _ _ _ _ _ _ _ _ _ _ _ _ _ _ _ _ _ _ _ _ _ _ _ _ _ _ _ _ _ _ _ _ _ _ _ _ _ _ _ _ _ _ _ _ _ _ _ _ _ _ _ _ _ _ _ _ _ _ _ _ _ _ _ _ _ _ _ _ _ _ _ _ _ _ _ _ _ _ _ _ _ _ _ _ _ _ _ _ _ _ _ _ _ _ _ _ _ _ _ _ _ _ _ _ _ _ _ _ _ _ _ _ _ _ _ _ _ _ _ _ _ _ _ _ _ _ _ _ _ _ _ _ _ _ _ _ _ _ _ _ _ _ _ _ _ _ _ _ _ _ _ _ _ _ _ _ _ _ _ _ _ _ _ _ _ _ _ _ _ _ _ _ _ _ _ _ _ _ _ _ _ _ _ _ _ _ _ _ _ _ _ _ _ _ _ _ _ _ _ _ _ _ _ _ _ _ _ _ _ _ _ _ _ _ _ _ _ _ _ _ _ _ _ _ _ _ _ _ _ _ _ _ _ _ _ _ _ _ _ _ _ _ _ _ _ _ _ _ _ _ _ _ _ _
    have hd : decide ((j : Int) < (p.bs.length : Int)) = true := decide_eq_true (by omega)
    obtain ⟨bb, off, rfl, hbb, he⟩ := HEL.out (by omega)
    obtain ⟨b9, off9, rfl, hb9, he9⟩ := HEL9.out (by omega)
    obtain ⟨s, hs⟩ : ∃ s, s = p.bs[j] := ⟨_, rfl⟩
    have e1 := he wr (hb.block _ hbb) j hlj
    have e2 := he9 wr (hb.block _ hb9) j hlj
    rw [← hs] at e1 e2
    obtain ⟨ea0, ea1⟩ := e1
    obtain ⟨eb0, eb1⟩ := e2
    have r5 : wr.cell? ⟨B, 0, none⟩ = some (.slice (some ⟨bb, off, none⟩) p.bs.length cap) := cell_of_row _ _ 0 _ _ _ ((hb.block _ hB).trans HR0.out)
    have hwj : IntKind.i64.wrap ((j : Int) + 1) = ((j + 1 : Nat) : Int) := by rw [IntWalk.i64_in _ (by omega)]; omega
    clear he he9 hb hs
    go_wp2_with fail
    go_quiet (fail)
    go_wp2
    exact ⟨⟨j + 1, by omega, by first | rfl | (congr 1; omega), below_drewM HB.out _⟩, by simp [intOf]; omega⟩

end Go.Proofs.Ytlgeggekmdoceaa

/- PairMore: the walk, deviations of the other sign. -/
namespace Go.Proofs.Ytlgeggekmdoceaa
set_option linter.unusedVariables false
set_option linter.unusedSimpArgs false
open Go.RowKit Go.Shelf
attribute [local go_sem] Oper.semAt_some
set_option maxRecDepth 100000 in
set_option maxHeartbeats 8000000 in
theorem more_i (p : PairD) (an bn mn B q12 b30 b32 b34 b51 b53 b55 : Nat) (bsv rsv ub ur v28 v29 : Value) (c1 c2 d1 d2 s1 s2 e n1 n2 x1 x2 y1 y2 z1 z2 : Int) (W0 w : World) (hm : p.rs.length ≤ 8) (hm5 : p.bs.length ≤ 5) (hB : B < W0.heap.size)
    (hr0 : W0.heap[B]? = some (.cells (pairRow p bsv rsv) 27 (0, 0))) (hpb : SpansAt W0 bsv p.bs (fun k => k < W0.heap.size)) (hpr : ReadsAt W0 rsv p.rs (fun k => k < W0.heap.size)) (h28 : SpansAt W0 v28 p.bs (fun k => k < W0.heap.size)) (h29 : ReadsAt W0 v29 p.rs (fun k => k < W0.heap.size))
    (hu0 : W0.heap[q12]? = some (.cells (pairRow p ub ur) 27 (0, 0))) (hua : PairAt W0 (negP p) ub ur)
    (hbx : BoxL [(b51, x1, x2), (b53, y1, y2), (b55, z1, z2), (b30, c1, c2), (b32, d1, d2), (b34, s1, s2)] W0 w)
    (hlt : b30 < W0.heap.size ∧ b32 < W0.heap.size ∧ b34 < W0.heap.size ∧ W0.heap.size ≤ b51 ∧ b51 < b53 ∧ b53 < b55)
    (hk : knownV (negP p) an = ((n1, n2), e)) (hd : differV (negP p) bn an = ((d1, d2), e)) (hs : showsV (negP p) mn = ((s1, s2), e))
    (hle : e = 0 ∧ n1 = -c2 ∧ n2 = -c1 ∧ (-40 ≤ c1 ∧ c1 ≤ 40 ∧ -40 ≤ c2 ∧ c2 ≤ 40) ∨ e = 10 ∧ n1 = 0 ∧ n2 = 0)
    (R : Ending → World → Prop) (hR : ∀ w', Below W0.heap.size W0 w' → R (.returned (.bool true)) w') (u0 u1 u2 u3 u4 u6 u10 u11 u12 u16 u17 u18 u19 u21 u22 u23 u24 u25 u26 u27 u33 u35 u36 u37 u38 u39 u40 u41 u42 u43 u44 u45 u46 u47 u48 u49 u50 u52 u54 u56 u57 u58 u59 u60 u61 u62 u63 u64 u65 u66 u70 u71 u72 u73 u74 u75 u76 u77 u78 u79 u80 u81 u82 u83 u84 u85 u86 u87 u88 u89 u90 u91 u92 u93 u94 u95 u96 u97 u98 u99 u100 u101 u102 u103 u104 u105 u106 u107 u108 u109 u110 u111 u112 u113 u114 u115 u116 u117 u118 u119 u120 u121 u122 u123 u124 u125 u126 u127 u128 u129 u130 u131 u132 u133 u134 u135 u136 u137 u138 u139 u140 u141 u142 u143 u144 u145 u146 u147 u148 u149 u150 u151 u152 u153 u154 u155 u156 u157 u158 u159 u160 u161 u162 u163 u164 u165 u166 u167 u168 u169 u170 u171 u172 u173 u174 u175 u176 u177 u178 u179 u180 u181 u182 u183 u184 u185 u186 u187 u188 u189 u190 u191 u192 u193 u194 u195 u196 u197 u198 u199 u200 u201 u202 u203 u204 u205 u206 u207 u208 u209 u210 u211 u212 u213 u214 u215 u216 u217 u218 u219 u220 u221 u222 u223 u224 u225 u226 u227 u228 u229 u230 u231 u232 u233 u234 u235 u236 u237 u238 u239 u240 u241 u242 u243 u244 u245 u246 u247 u248 u249 u250 u251 u252 u253 u254 u255 u256 u257 u258 u259 u260 u261 u262 u263 u264 u265 u266 u267 u268 u269 u270 u271 u272 u273 u274 u275 u276 u277 u278 u279 u280 u281 u282 u283 u284 u285 u286 u287 u288 u289 u290 u291 u292 u293 u294 u295 u296 u297 u298 u299 u300 u301 u302 u303 u304 u305 u306 u307 u308 u309 u310 u311 u312 u313 u314 u315 u316 u317 u318 u319 u320 u321 u322 u323 u324 u325 u326 u327 u328 u329 u330 u331 u332 u333 u334 u335 u336 u337 u338 u339 u340 u341 u342 u343 u344 u345 u346 u347 u348 u349 u350 u351 u352 u353 u354 u355 u356 u357 u358 u359 u360 u361 u362 u363 u364 u365 u366 u367 u368 u369 u370 u371 u372 u373 u374 u375 u376 u377 u378 u379 u380 u381 u382 u383 u384 u385 u386 u387 u388 u389 u390 u391 u392 u393 u394 u395 u396 u397 u398 u399 u400 u401 u402 u403 u404 u405 u406 u407 u408 u409 u410 u411 u412 u413 u414 u415 u416 u417 u418 u419 u420 u421 u422 u423 u424 u425 u426 u427 u428 u429 u430 u431 u432 u433 u434 u435 u436 u437 u438 u439 u440 u441 u442 u443 u444 u445 u446 u447 u448 u449 u450 u451 u452 u453 u454 u455 u456 u457 u458 u459 u460 u461 u462 u463 u464 u465 u466 u467 u468 u469 u470 u471 u472 u473 u474 u475 u476 u477 u478 u479 u480 u481 u482 u483 u484 u485 u486 u487 u488 u489 u490 u491 u492 u493 u494 u495 u496 u497 u498 u499 u500 u501 u502 u503 u504 u505 u506 u507 u508 u509 u510 u511 u512 u513 u514 u515 u516 u517 u518 u519 u520 u521 u522 u523 u524 u525 u526 u527 u528 u529 u530 u531 u532 u533 u534 : Value) :
    Code.wp Try.prog (moreC 25) (bodyPost Try.prog Try.f12 R) ⟨#[u0, u1, u2, u3, u4, .pointer (some ⟨B, 0, none⟩), u6, undef, undef, undef, u10, u11, u12, .int .i64 an, .int .i64 bn, .int .i64 mn, u16, u17, u18, u19, .pointer (some ⟨q12, 0, none⟩), u21, u22, u23, u24, u25, u26, u27, v28, v29, .pointer (some ⟨b30, 0, none⟩), .int .i64 e, .pointer (some ⟨b32, 0, none⟩), u33, .pointer (some ⟨b34, 0, none⟩), u35, u36, u37, u38, u39, u40, u41, u42, u43, u44, u45, u46, u47, u48, u49, u50, .pointer (some ⟨b51, 0, none⟩), u52, .pointer (some ⟨b53, 0, none⟩), u54, .pointer (some ⟨b55, 0, none⟩), u56, u57, u58, u59, u60, u61, u62, u63, u64, u65, u66, undef, undef, undef, u70, u71, u72, u73, u74, u75, u76, u77, u78, u79, u80, u81, u82, u83, u84, u85, u86, u87, u88, u89, u90, u91, u92, u93, u94, u95, u96, u97, u98, u99, u100, u101, u102, u103, u104, u105, u106, u107, u108, u109, u110, u111, u112, u113, u114, u115, u116, u117, u118, u119, u120, u121, u122, u123, u124, u125, u126, u127, u128, u129, u130, u131, u132, u133, u134, u135, u136, u137, u138, u139, u140, u141, u142, u143, u144, u145, u146, u147, u148, u149, u150, u151, u152, u153, u154, u155, u156, u157, u158, u159, u160, u161, u162, u163, u164, u165, u166, u167, u168, u169, u170, u171, u172, u173, u174, u175, u176, u177, u178, u179, u180, u181, u182, u183, u184, u185, u186, u187, u188, u189, u190, u191, u192, u193, u194, u195, u196, u197, u198, u199, u200, u201, u202, u203, u204, u205, u206, u207, u208, u209, u210, u211, u212, u213, u214, u215, u216, u217, u218, u219, u220, u221, u222, u223, u224, u225, u226, u227, u228, u229, u230, u231, u232, u233, u234, u235, u236, u237, u238, u239, u240, u241, u242, u243, u244, u245, u246, u247, u248, u249, u250, u251, u252, u253, u254, u255, u256, u257, u258, u259, u260, u261, u262, u263, u264, u265, u266, u267, u268, u269, u270, u271, u272, u273, u274, u275, u276, u277, u278, u279, u280, u281, u282, u283, u284, u285, u286, u287, u288, u289, u290, u291, u292, u293, u294, u295, u296, u297, u298, u299, u300, u301, u302, u303, u304, u305, u306, u307, u308, u309, u310, u311, u312, u313, u314, u315, u316, u317, u318, u319, u320, u321, u322, u323, u324, u325, u326, u327, u328, u329, u330, u331, u332, u333, u334, u335, u336, u337, u338, u339, u340, u341, u342, u343, u344, u345, u346, u347, u348, u349, u350, u351, u352, u353, u354, u355, u356, u357, u358, u359, u360, u361, u362, u363, u364, u365, u366, u367, u368, u369, u370, u371, u372, u373, u374, u375, u376, u377, u378, u379, u380, u381, u382, u383, u384, u385, u386, u387, u388, u389, u390, u391, u392, u393, u394, u395, u396, u397, u398, u399, u400, u401, u402, u403, u404, u405, u406, u407, u408, u409, u410, u411, u412, u413, u414, u415, u416, u417, u418, u419, u420, u421, u422, u423, u424, u425, u426, u427, u428, u429, u430, u431, u432, u433, u434, u435, u436, u437, u438, u439, u440, u441, u442, u443, u444, u445, u446, u447, u448, u449, u450, u451, u452, u453, u454, u455, u456, u457, u458, u459, u460, u461, u462, u463, u464, u465, u466, u467, u468, u469, u470, u471, u472, u473, u474, u475, u476, u477, u478, u479, u480, u481, u482, u483, u484, u485, u486, u487, u488, u489, u490, u491, u492, u493, u494, u495, u496, u497, u498, u499, u500, u501, u502, u503, u504, u505, u506, u507, u508, u509, u510, u511, u512, u513, u514, u515, u516, u517, u518, u519, u520, u521, u522, u523, u524, u525, u526, u527, u528, u529, u530, u531, u532, u533, u534, undef, undef, undef, undef, undef, undef, undef, undef, undef, undef, undef, undef, undef, undef, undef, undef, undef, undef, undef, undef, undef, undef, undef, undef, undef, undef, undef, undef, undef, undef, undef, undef, undef, undef, undef, undef, undef, undef, undef, undef, undef, undef, undef, undef, undef, undef, undef, undef, undef, undef, undef, undef, undef, undef, undef, undef, undef, undef, undef, undef, undef, undef, undef, undef, undef, undef, undef, undef, undef, undef, undef, undef, undef, undef, undef, undef, undef, undef, undef, undef, undef, undef, undef, undef, undef, undef, undef, undef, undef, undef], []⟩ w := by
  conv => arg 2; whnf
  have rowsOf : ∀ {b : Nat} {x y : Value}, W0.heap[b]? = some (.cells (pairRow p x y) 27 (0, 0)) → Hid (∀ W', Below W0.heap.size W0 W' → (W'.cell? ⟨b, 0, none⟩ = some x ∧ W'.cell? ⟨b, 1, none⟩ = some (.int .i64 p.zl) ∧ W'.cell? ⟨b, 2, none⟩ = some (.int .i64 p.zh) ∧ W'.cell? ⟨b, 3, none⟩ = some (.int .i64 p.rl) ∧ W'.cell? ⟨b, 4, none⟩ = some (.int .i64 p.rh) ∧ W'.cell? ⟨b, 5, none⟩ = some y)) := fun {b x y} h W' hb => by
    have q1 := (hb.block b (lt_of_block h)).trans h
    exact ⟨cell_of_row _ _ 0 _ _ _ q1, cell_of_row _ _ 1 _ _ _ q1, cell_of_row _ _ 2 _ _ _ q1, cell_of_row _ _ 3 _ _ _ q1, cell_of_row _ _ 4 _ _ _ q1, cell_of_row _ _ 5 _ _ _ q1⟩
  have ROWU := rowsOf hu0
  have HUA := Lib.hid hua
  have HB := Lib.hid hbx
  have HUK := Lib.hid (says_known (bs := ub) (rs := ur) hk)
  have HUD := Lib.hid (says_differ (bs := ub) (rs := ur) hd)
  have HUS := Lib.hid (says_shows (bs := ub) (rs := ur) hs)
  unfold Gives pairRow at HUK HUD HUS
  have HEND := Lib.hid (fun w' hb => more_j p B bsv rsv v28 v29 W0 w' hm hm5 hB hb hr0 hpb hpr h28 h29 R hR)
  clear rowsOf hr0 hpb hpr h28 h29 hu0 hua hbx hk hd hs
  obtain ⟨l30, l32, l34, l51, l53, l55⟩ := hlt
  have HLE := Lib.hid hle
  clear hle
  obtain ⟨c0, c1', c2', c3, c4, c5⟩ := ROWU.out _ HB.out.2
  go_wp2_with fail
  clear c0 c1' c2' c3 c4 c5
  refine (HUK.out _ (HUA.out.later HB.out.2)).mono ?_
  rintro e' w1 ⟨rfl, hb⟩
  dsimp only
  replace HB := Lib.hid (HB.out.later hb)
  clear hb
  replace HB := Lib.hid (HB.out.mono (l' := (b51, x1, x2) :: [(b53, y1, y2), (b55, z1, z2), (b30, c1, c2), (b32, d1, d2), (b34, s1, s2)]) (by simp))
  have fz := fun k => frozen_of_row _ _ k _ _ (HB.out.1 _ (List.mem_cons_self ..))
  obtain ⟨g0, g1⟩ := HB.out.cell (b := b51) (List.mem_cons_self ..)
  dsimp only at fz
  go_upto_region 60 with fail
  clear fz g0 g1
  obtain ⟨A1, hA⟩ : ∃ A, A = (w1.setCell ⟨b51, 0, none⟩ (.int .i64 (n1))).setCell ⟨b51, 1, none⟩ (.int .i64 (n2)) := ⟨_, rfl⟩
  replace HB := Lib.hid (HB.out.put (by omega) (by simp; omega) (n1) (n2))
  rw [← hA] at HB ⊢
  clear hA
  obtain ⟨c0, c1', c2', c3, c4, c5⟩ := ROWU.out _ HB.out.2
  go_wp2_with fail
  clear c0 c1' c2' c3 c4 c5
  refine (HUD.out _ (HUA.out.later HB.out.2)).mono ?_
  rintro e' w2 ⟨rfl, hb⟩
  dsimp only
  replace HB := Lib.hid (HB.out.later hb)
  clear hb
  replace HB := Lib.hid (HB.out.mono (l' := (b53, y1, y2) :: [(b51, n1, n2), (b55, z1, z2), (b30, c1, c2), (b32, d1, d2), (b34, s1, s2)]) (by simp))
  have fz := fun k => frozen_of_row _ _ k _ _ (HB.out.1 _ (List.mem_cons_self ..))
  obtain ⟨g0, g1⟩ := HB.out.cell (b := b53) (List.mem_cons_self ..)
  dsimp only at fz
  go_upto_region 61 with fail
  clear fz g0 g1
  obtain ⟨A2, hA⟩ : ∃ A, A = (w2.setCell ⟨b53, 0, none⟩ (.int .i64 (d1))).setCell ⟨b53, 1, none⟩ (.int .i64 (d2)) := ⟨_, rfl⟩
  replace HB := Lib.hid (HB.out.put (by omega) (by simp; omega) (d1) (d2))
  rw [← hA] at HB ⊢
  clear hA
  obtain ⟨c0, c1', c2', c3, c4, c5⟩ := ROWU.out _ HB.out.2
  go_wp2_with fail
  clear c0 c1' c2' c3 c4 c5
  refine (HUS.out _ (HUA.out.later HB.out.2)).mono ?_
  rintro e' w3 ⟨rfl, hb⟩
  dsimp only
  replace HB := Lib.hid (HB.out.later hb)
  clear hb
  replace HB := Lib.hid (HB.out.mono (l' := (b55, z1, z2) :: [(b53, d1, d2), (b51, n1, n2), (b30, c1, c2), (b32, d1, d2), (b34, s1, s2)]) (by simp))
  have fz := fun k => frozen_of_row _ _ k _ _ (HB.out.1 _ (List.mem_cons_self ..))
  obtain ⟨g0, g1⟩ := HB.out.cell (b := b55) (List.mem_cons_self ..)
  dsimp only at fz
  go_upto_region 62 with fail
  clear fz g0 g1
  obtain ⟨A3, hA⟩ : ∃ A, A = (w3.setCell ⟨b55, 0, none⟩ (.int .i64 (s1))).setCell ⟨b55, 1, none⟩ (.int .i64 (s2)) := ⟨_, rfl⟩
  replace HB := Lib.hid (HB.out.put (by omega) (by simp; omega) (s1) (s2))
  rw [← hA] at HB ⊢
  clear hA
  go_upto_region 63 with fail
  have lb67 := HB.out.2.size
  have qb67 := Lib.hid (fun c hc => lt_of_block (HB.out.1 c hc))
  replace HB := Lib.hid (HB.out.alloc (0) (0))
  obtain ⟨A4, hA⟩ : ∃ A, A = A3.alloc (.cells #[.int .i64 (0), .int .i64 (0)] 24) := ⟨_, rfl⟩
  obtain ⟨b67, hb67⟩ : ∃ b, b = A3.heap.size := ⟨_, rfl⟩
  rw [← hA, ← hb67] at HB ⊢
  rw [← hb67] at lb67 qb67
  clear hA hb67
  rcases HLE.out with ⟨rfl, rfl, rfl, h1, h2, h3, h4⟩ | ⟨rfl, rfl, rfl⟩
  · have hw1 : IntKind.i64.wrap (-c2) = -c2 := IntWalk.i64_in _ (by omega)
    have hw2 : IntKind.i64.wrap (-c1) = -c1 := IntWalk.i64_in _ (by omega)
    obtain ⟨x1a, x1b⟩ := HB.out.cell (b := b30) (x := c1) (y := c2) (by simp)
    go_wp2_with fail
    go_at_call 33
    clear x1a x1b
    refine (lspan_any (-c2) (-c1) _).mono ?_
    rintro e' w5 ⟨rfl, hb⟩
    replace HB := Lib.hid (HB.out.later hb)
    clear hb
    unfold spanV
    dsimp only
    replace HB := Lib.hid (HB.out.mono (l' := (b67, 0, 0) :: [(b51, -c2, -c1), (b53, d1, d2), (b55, s1, s2), (b32, d1, d2), (b34, s1, s2)]) (by simp))
    have fz := fun k => frozen_of_row _ _ k _ _ (HB.out.1 _ (List.mem_cons_self ..))
    obtain ⟨g0, g1⟩ := HB.out.cell (b := b67) (List.mem_cons_self ..)
    dsimp only at fz
    go_upto_region 65 with fail
    clear fz g0 g1
    obtain ⟨A5, hA⟩ : ∃ A, A = (w5.setCell ⟨b67, 0, none⟩ (.int .i64 (-c2))).setCell ⟨b67, 1, none⟩ (.int .i64 (-c1)) := ⟨_, rfl⟩
    replace HB := Lib.hid (HB.out.put lb67 (fun c hc => by have := qb67.out c (by simp at hc; rcases hc with h | h | h | h | h <;> simp [h]); omega) (-c2) (-c1))
    rw [← hA] at HB ⊢
    clear hA
    obtain ⟨x1a, x1b⟩ := HB.out.cell (b := b51) (x := -c2) (y := -c1) (by simp)
    obtain ⟨x2a, x2b⟩ := HB.out.cell (b := b53) (x := d1) (y := d2) (by simp)
    obtain ⟨x3a, x3b⟩ := HB.out.cell (b := b55) (x := s1) (y := s2) (by simp)
    obtain ⟨x4a, x4b⟩ := HB.out.cell (b := b67) (x := -c2) (y := -c1) (by simp)
    obtain ⟨x5a, x5b⟩ := HB.out.cell (b := b32) (x := d1) (y := d2) (by simp)
    obtain ⟨x6a, x6b⟩ := HB.out.cell (b := b34) (x := s1) (y := s2) (by simp)
    go_upto_region 67 with fail
    refine HEND.out _ HB.out.2 _ _ ?_ ?_ _ _ _ _ _ _ _ _ _ _ _ _ _ _ _ _ _ _ _ _ _ _ _ _ _ _ _ _ _ _ _ _ _ _ _ _ _ _ _ _ _ _ _ _ _ _ _ _ _ _ _ _ _ _ _ _ _ _ _ _ _ _ _ _ _ _ _ _ _ _ _ _ _ _ _ _ _ _ _ _ _ _ _ _ _ _ _ _ _ _ _ _ _ _ _ _ _ _ _ _ _ _ _ _ _ _ _ _ _ _ _ _ _ _ _ _ _ _ _ _ _ _ _ _ _ _ _ _ _ _ _ _ _ _ _ _ _ _ _ _ _ _ _ _ _ _ _ _ _ _ _ _ _ _ _ _ _ _ _ _ _ _ _ _ _ _ _ _ _ _ _ _ _ _ _ _ _ _ _ _ _ _ _ _ _ _ _ _ _ _ _ _ _ _ _ _ _ _ _ _ _ _ _ _ _ _ _ _ _ _ _ _ _ _ _ _ _ _ _ _ _ _ _ _ _ _ _ _ _ _ _ _ _ _ _ _ _ _ _ _ _ _ _ _ _ _ _ _ _ _ _ _ _ _ _ _ _ _ _ _ _ _ _ _ _ _ _ _ _ _ _ _ _ _ _ _ _ _ _ _ _ _ _ _ _ _ _ _ _ _ _ _ _ _ _ _ _ _ _ _ _ _ _ _ _ _ _ _ _ _ _ _ _ _ _ _ _ _ _ _ _ _ _ _ _ _ _ _ _ _ _ _ _ _ _ _ _ _ _ _ _ _ _ _ _ _ _ _ _ _ _ _ _ _ _ _ _ _ _ _ _ _ _ _ _ _ _ _ _ _ _ _ _ _ _ _ _ _ _ _ _ _ _ _ _ _ _ _ _ _ _ _ _ _ _ _ _ _ _ _ _ _ _ _ _ _ _ _ _ _ _ _ _ _ _ _ _ _ _ _ _ _ _ _ _ _ _ _ _ _ _ _ _ _ _ _ _ _ _ _ _ _ _ _ _ _ _ _ _ _ _ _ _ _ _ _ _ _ _ _ _ _ _ _ _ _ _ _ _ _ _ _ _ _ _ _ _ _ _ _ _ _ _ _ _ _ _ _ _ _ _ _ _ _ _ _ _ _ _ _ _ _ _ _ _ _ _ _ _ _ _ _ _ _ _ _ _ _ _ _ _ _ _ _ _ _ _ _ _ _ _ _ _ _ _ _ _ _ _ _ _ _ _ _ _ _ _ _ _ _ _ _ _ _ _ _ _ _ _ _ _ _ _ _ _ _ _ _ _ _ _ _ _ _ _ _ _ _ _ _ _ _ _ _
    · assumption
    · assumption
  · skip
    obtain ⟨x1a, x1b⟩ := HB.out.cell (b := b51) (x := 0) (y := 0) (by simp)
    obtain ⟨x2a, x2b⟩ := HB.out.cell (b := b53) (x := d1) (y := d2) (by simp)
    obtain ⟨x3a, x3b⟩ := HB.out.cell (b := b55) (x := s1) (y := s2) (by simp)
    obtain ⟨x4a, x4b⟩ := HB.out.cell (b := b67) (x := 0) (y := 0) (by simp)
    obtain ⟨x5a, x5b⟩ := HB.out.cell (b := b32) (x := d1) (y := d2) (by simp)
    obtain ⟨x6a, x6b⟩ := HB.out.cell (b := b34) (x := s1) (y := s2) (by simp)
    go_upto_region 67 with fail
    refine HEND.out _ HB.out.2 _ _ ?_ ?_ _ _ _ _ _ _ _ _ _ _ _ _ _ _ _ _ _ _ _ _ _ _ _ _ _ _ _ _ _ _ _ _ _ _ _ _ _ _ _ _ _ _ _ _ _ _ _ _ _ _ _ _ _ _ _ _ _ _ _ _ _ _ _ _ _ _ _ _ _ _ _ _ _ _ _ _ _ _ _ _ _ _ _ _ _ _ _ _ _ _ _ _ _ _ _ _ _ _ _ _ _ _ _ _ _ _ _ _ _ _ _ _ _ _ _ _ _ _ _ _ _ _ _ _ _ _ _ _ _ _ _ _ _ _ _ _ _ _ _ _ _ _ _ _ _ _ _ _ _ _ _ _ _ _ _ _ _ _ _ _ _ _ _ _ _ _ _ _ _ _ _ _ _ _ _ _ _ _ _ _ _ _ _ _ _ _ _ _ _ _ _ _ _ _ _ _ _ _ _ _ _ _ _ _ _ _ _ _ _ _ _ _ _ _ _ _ _ _ _ _ _ _ _ _ _ _ _ _ _ _ _ _ _ _ _ _ _ _ _ _ _ _ _ _ _ _ _ _ _ _ _ _ _ _ _ _ _ _ _ _ _ _ _ _ _ _ _ _ _ _ _ _ _ _ _ _ _ _ _ _ _ _ _ _ _ _ _ _ _ _ _ _ _ _ _ _ _ _ _ _ _ _ _ _ _ _ _ _ _ _ _ _ _ _ _ _ _ _ _ _ _ _ _ _ _ _ _ _ _ _ _ _ _ _ _ _ _ _ _ _ _ _ _ _ _ _ _ _ _ _ _ _ _ _ _ _ _ _ _ _ _ _ _ _ _ _ _ _ _ _ _ _ _ _ _ _ _ _ _ _ _ _ _ _ _ _ _ _ _ _ _ _ _ _ _ _ _ _ _ _ _ _ _ _ _ _ _ _ _ _ _ _ _ _ _ _ _ _ _ _ _ _ _ _ _ _ _ _ _ _ _ _ _ _ _ _ _ _ _ _ _ _ _ _ _ _ _ _ _ _ _ _ _ _ _ _ _ _ _ _ _ _ _ _ _ _ _ _ _ _ _ _ _ _ _ _ _ _ _ _ _ _ _ _ _ _ _ _ _ _ _ _ _ _ _ _ _ _ _ _ _ _ _ _ _ _ _ _ _ _ _ _ _ _ _ _ _ _ _ _ _ _ _ _ _ _ _ _ _ _ _ _ _ _ _ _ _ _ _ _ _ _ _ _ _ _ _ _ _ _ _ _ _ _ _ _ _ _ _ _ _ _ _ _ _ _ _ _ _ _ _ _ _ _ _ _ _ _ _ _ _ _ _ _
    · assumption
    · assumption

end Go.Proofs.Ytlgeggekmdoceaa

/- PairMore: the walk, deviations that are greater. -/
namespace Go.Proofs.Ytlgeggekmdoceaa
set_option linter.unusedVariables false
set_option linter.unusedSimpArgs false
open Go.RowKit Go.Shelf
attribute [local go_sem] Oper.semAt_some
set_option maxRecDepth 100000 in
set_option maxHeartbeats 8000000 in
theorem more_p (p : PairD) (an bn mn kn B q11 q12 b30 b32 b34 b51 b53 b55 : Nat) (bsv rsv ub ur tb tr v28 v29 : Value) (fits : Bool) (c1 c2 d1 d2 s1 s2 e n1 n2 t1 t2 : Int) (W0 w : World) (hm : p.rs.length ≤ 8) (hm5 : p.bs.length ≤ 5) (hB : B < W0.heap.size)
    (hr0 : W0.heap[B]? = some (.cells (pairRow p bsv rsv) 27 (0, 0))) (hpb : SpansAt W0 bsv p.bs (fun k => k < W0.heap.size)) (hpr : ReadsAt W0 rsv p.rs (fun k => k < W0.heap.size)) (h28 : SpansAt W0 v28 p.bs (fun k => k < W0.heap.size)) (h29 : ReadsAt W0 v29 p.rs (fun k => k < W0.heap.size))
    (hu0 : W0.heap[q12]? = some (.cells (pairRow p ub ur) 27 (0, 0))) (hua : PairAt W0 (negP p) ub ur)
    (ht0 : W0.heap[q11]? = some (.cells (pairRow p tb tr) 27 (0, 0))) (hta : PairAt W0 (shiftP p kn) tb tr)
    (hbx : BoxL [(b51, c1, c2), (b53, d1, d2), (b55, s1, s2), (b30, c1, c2), (b32, d1, d2), (b34, s1, s2)] W0 w)
    (hlt : b30 < W0.heap.size ∧ b32 < W0.heap.size ∧ b34 < W0.heap.size ∧ W0.heap.size ≤ b51 ∧ b51 < b53 ∧ b53 < b55)
    (hk : knownV (negP p) an = ((n1, n2), e)) (hd : differV (negP p) bn an = ((d1, d2), e)) (hs : showsV (negP p) mn = ((s1, s2), e))
    (ht : fits = true → knownV (shiftP p kn) an = ((t1, t2), e) ∧ differV (shiftP p kn) an bn = ((d1, d2), e) ∧ showsV (shiftP p kn) mn = ((s1, s2), e))
    (hkn : kn < 12)
    (hle : e = 0 ∧ n1 = -c2 ∧ n2 = -c1 ∧ (-40 ≤ c1 ∧ c1 ≤ 40 ∧ -40 ≤ c2 ∧ c2 ≤ 40) ∨ e = 10 ∧ n1 = 0 ∧ n2 = 0) (hle2 : e = 0 ∧ t1 = c1 + kn ∧ t2 = c2 + kn ∨ e = 10 ∧ t1 = c1 ∧ t2 = c2)
    (R : Ending → World → Prop) (hR : ∀ w', Below W0.heap.size W0 w' → R (.returned (.bool true)) w') (K1 K : Act → World → Prop)
    (hK1 : ∀ a w, Code.wp Try.prog (dropC 1 (headC 24)) (Exit.then K (bodyPost Try.prog Try.f12 R)) a w → K1 a w) (hK : ∀ a w, Code.wp Try.prog (moreC 25) (bodyPost Try.prog Try.f12 R) a w → K a w) (u0 u1 u2 u3 u4 u6 u10 u11 u16 u17 u18 u21 u23 u24 u25 u26 u27 u33 u35 u36 u37 u38 u39 u40 u41 u42 u43 u44 u45 u46 u47 u48 u49 u50 u52 u54 u56 u57 u58 u59 u70 u71 u72 u73 u74 u75 u76 u77 u78 u79 u80 u81 u82 u83 u84 u85 u86 u87 u88 u89 u90 u91 u92 u93 u94 u95 u96 u97 u98 u99 u100 u101 u102 u103 u104 u105 u106 u107 u108 u109 u110 u111 u112 u113 u114 u115 u116 u117 u118 u119 u120 u121 u122 u123 u124 u125 u126 u127 u128 u129 u130 u131 u132 u133 u134 u135 u136 u137 u138 u139 u140 u141 u142 u143 u144 u145 u146 u147 u148 u149 u150 u151 u152 u153 u154 u155 u156 u157 u158 u159 u160 u161 u162 u163 u164 u165 u166 u167 u168 u169 u170 u171 u172 u173 u174 u175 u176 u177 u178 u179 u180 u181 u182 u183 u184 u185 u186 u187 u188 u189 u190 u191 u192 u193 u194 u195 u196 u197 u198 u199 u200 u201 u202 u203 u204 u205 u206 u207 u208 u209 u210 u211 u212 u213 u214 u215 u216 u217 u218 u219 u220 u221 u222 u223 u224 u225 u226 u227 u228 u229 u230 u231 u232 u233 u234 u235 u236 u237 u238 u239 u240 u241 u242 u243 u244 u245 u246 u247 u248 u249 u250 u251 u252 u253 u254 u255 u256 u257 u258 u259 u260 u261 u262 u263 u264 u265 u266 u267 u268 u269 u270 u271 u272 u273 u274 u275 u276 u277 u278 u279 u280 u281 u282 u283 u284 u285 u286 u287 u288 u289 u290 u291 u292 u293 u294 u295 u296 u297 u298 u299 u300 u301 u302 u303 u304 u305 u306 u307 u308 u309 u310 u311 u312 u313 u314 u315 u316 u317 u318 u319 u320 u321 u322 u323 u324 u325 u326 u327 u328 u329 u330 u331 u332 u333 u334 u335 u336 u337 u338 u339 u340 u341 u342 u343 u344 u345 u346 u347 u348 u349 u350 u351 u352 u353 u354 u355 u356 u357 u358 u359 u360 u361 u362 u363 u364 u365 u366 u367 u368 u369 u370 u371 u372 u373 u374 u375 u376 u377 u378 u379 u380 u381 u382 u383 u384 u385 u386 u387 u388 u389 u390 u391 u392 u393 u394 u395 u396 u397 u398 u399 u400 u401 u402 u403 u404 u405 u406 u407 u408 u409 u410 u411 u412 u413 u414 u415 u416 u417 u418 u419 u420 u421 u422 u423 u424 u425 u426 u427 u428 u429 u430 u431 u432 u433 u434 u435 u436 u437 u438 u439 u440 u441 u442 u443 u444 u445 u446 u447 u448 u449 u450 u451 u452 u453 u454 u455 u456 u457 u458 u459 u460 u461 u462 u463 u464 u465 u466 u467 u468 u469 u470 u471 u472 u473 u474 : Value) :
    Code.wp Try.prog (headOf (headC 24)) (Exit.then K1 (Exit.then K (bodyPost Try.prog Try.f12 R))) ⟨#[u0, u1, u2, u3, u4, .pointer (some ⟨B, 0, none⟩), u6, undef, undef, undef, u10, u11, .int .i64 kn, .int .i64 an, .int .i64 bn, .int .i64 mn, u16, u17, u18, .pointer (some ⟨q11, 0, none⟩), .pointer (some ⟨q12, 0, none⟩), u21, .bool fits, u23, u24, u25, u26, u27, v28, v29, .pointer (some ⟨b30, 0, none⟩), .int .i64 e, .pointer (some ⟨b32, 0, none⟩), u33, .pointer (some ⟨b34, 0, none⟩), u35, u36, u37, u38, u39, u40, u41, u42, u43, u44, u45, u46, u47, u48, u49, u50, .pointer (some ⟨b51, 0, none⟩), u52, .pointer (some ⟨b53, 0, none⟩), u54, .pointer (some ⟨b55, 0, none⟩), u56, u57, u58, u59, undef, undef, undef, undef, undef, undef, undef, undef, undef, undef, u70, u71, u72, u73, u74, u75, u76, u77, u78, u79, u80, u81, u82, u83, u84, u85, u86, u87, u88, u89, u90, u91, u92, u93, u94, u95, u96, u97, u98, u99, u100, u101, u102, u103, u104, u105, u106, u107, u108, u109, u110, u111, u112, u113, u114, u115, u116, u117, u118, u119, u120, u121, u122, u123, u124, u125, u126, u127, u128, u129, u130, u131, u132, u133, u134, u135, u136, u137, u138, u139, u140, u141, u142, u143, u144, u145, u146, u147, u148, u149, u150, u151, u152, u153, u154, u155, u156, u157, u158, u159, u160, u161, u162, u163, u164, u165, u166, u167, u168, u169, u170, u171, u172, u173, u174, u175, u176, u177, u178, u179, u180, u181, u182, u183, u184, u185, u186, u187, u188, u189, u190, u191, u192, u193, u194, u195, u196, u197, u198, u199, u200, u201, u202, u203, u204, u205, u206, u207, u208, u209, u210, u211, u212, u213, u214, u215, u216, u217, u218, u219, u220, u221, u222, u223, u224, u225, u226, u227, u228, u229, u230, u231, u232, u233, u234, u235, u236, u237, u238, u239, u240, u241, u242, u243, u244, u245, u246, u247, u248, u249, u250, u251, u252, u253, u254, u255, u256, u257, u258, u259, u260, u261, u262, u263, u264, u265, u266, u267, u268, u269, u270, u271, u272, u273, u274, u275, u276, u277, u278, u279, u280, u281, u282, u283, u284, u285, u286, u287, u288, u289, u290, u291, u292, u293, u294, u295, u296, u297, u298, u299, u300, u301, u302, u303, u304, u305, u306, u307, u308, u309, u310, u311, u312, u313, u314, u315, u316, u317, u318, u319, u320, u321, u322, u323, u324, u325, u326, u327, u328, u329, u330, u331, u332, u333, u334, u335, u336, u337, u338, u339, u340, u341, u342, u343, u344, u345, u346, u347, u348, u349, u350, u351, u352, u353, u354, u355, u356, u357, u358, u359, u360, u361, u362, u363, u364, u365, u366, u367, u368, u369, u370, u371, u372, u373, u374, u375, u376, u377, u378, u379, u380, u381, u382, u383, u384, u385, u386, u387, u388, u389, u390, u391, u392, u393, u394, u395, u396, u397, u398, u399, u400, u401, u402, u403, u404, u405, u406, u407, u408, u409, u410, u411, u412, u413, u414, u415, u416, u417, u418, u419, u420, u421, u422, u423, u424, u425, u426, u427, u428, u429, u430, u431, u432, u433, u434, u435, u436, u437, u438, u439, u440, u441, u442, u443, u444, u445, u446, u447, u448, u449, u450, u451, u452, u453, u454, u455, u456, u457, u458, u459, u460, u461, u462, u463, u464, u465, u466, u467, u468, u469, u470, u471, u472, u473, u474, undef, undef, undef, undef, undef, undef, undef, undef, undef, undef, undef, undef, undef, undef, undef, undef, undef, undef, undef, undef, undef, undef, undef, undef, undef, undef, undef, undef, undef, undef, undef, undef, undef, undef, undef, undef, undef, undef, undef, undef, undef, undef, undef, undef, undef, undef, undef, undef, undef, undef, undef, undef, undef, undef, undef, undef, undef, undef, undef, undef, undef, undef, undef, undef, undef, undef, undef, undef, undef, undef, undef, undef, undef, undef, undef, undef, undef, undef, undef, undef, undef, undef, undef, undef, undef, undef, undef, undef, undef, undef, undef, undef, undef, undef, undef, undef, undef, undef, undef, undef, undef, undef, undef, undef, undef, undef, undef, undef, undef, undef, undef, undef, undef, undef, undef, undef, undef, undef, undef, undef, undef, undef, undef, undef, undef, undef, undef, undef, undef, undef, undef, undef, undef, undef, undef, undef, undef, undef, undef, undef, undef, undef, undef, undef, undef, undef, undef, undef, undef, undef], []⟩ w := by
  conv => arg 2; whnf
  have rowsOf : ∀ {b : Nat} {x y : Value}, W0.heap[b]? = some (.cells (pairRow p x y) 27 (0, 0)) → Hid (∀ W', Below W0.heap.size W0 W' → (W'.cell? ⟨b, 0, none⟩ = some x ∧ W'.cell? ⟨b, 1, none⟩ = some (.int .i64 p.zl) ∧ W'.cell? ⟨b, 2, none⟩ = some (.int .i64 p.zh) ∧ W'.cell? ⟨b, 3, none⟩ = some (.int .i64 p.rl) ∧ W'.cell? ⟨b, 4, none⟩ = some (.int .i64 p.rh) ∧ W'.cell? ⟨b, 5, none⟩ = some y)) := fun {b x y} h W' hb => by
    have q1 := (hb.block b (lt_of_block h)).trans h
    exact ⟨cell_of_row _ _ 0 _ _ _ q1, cell_of_row _ _ 1 _ _ _ q1, cell_of_row _ _ 2 _ _ _ q1, cell_of_row _ _ 3 _ _ _ q1, cell_of_row _ _ 4 _ _ _ q1, cell_of_row _ _ 5 _ _ _ q1⟩
  have ROWT := rowsOf ht0
  have HTA := Lib.hid hta
  have HB := Lib.hid hbx
  have HEND := Lib.hid (fun w' hbx => more_i p an bn mn B q12 b30 b32 b34 b51 b53 b55 bsv rsv ub ur v28 v29 c1 c2 d1 d2 s1 s2 e n1 n2 c1 c2 d1 d2 s1 s2 W0 w' hm hm5 hB hr0 hpb hpr h28 h29 hu0 hua hbx hlt hk hd hs hle R hR)
  clear rowsOf hr0 hpb hpr h28 h29 hu0 hua hbx hk hd hs ht0 hta
  have HLE := Lib.hid hle
  have HLE2 := Lib.hid hle2
  clear hle hle2
  cases fits with
  | false =>
    go_wp2_with fail
    conv => arg 2; whnf
    go_upto_region 59 with fail
    exact HEND.out _ HB.out _ _ _ _ _ _ _ _ _ _ _ _ _ _ _ _ _ _ _ _ _ _ _ _ _ _ _ _ _ _ _ _ _ _ _ _ _ _ _ _ _ _ _ _ _ _ _ _ _ _ _ _ _ _ _ _ _ _ _ _ _ _ _ _ _ _ _ _ _ _ _ _ _ _ _ _ _ _ _ _ _ _ _ _ _ _ _ _ _ _ _ _ _ _ _ _ _ _ _ _ _ _ _ _ _ _ _ _ _ _ _ _ _ _ _ _ _ _ _ _ _ _ _ _ _ _ _ _ _ _ _ _ _ _ _ _ _ _ _ _ _ _ _ _ _ _ _ _ _ _ _ _ _ _ _ _ _ _ _ _ _ _ _ _ _ _ _ _ _ _ _ _ _ _ _ _ _ _ _ _ _ _ _ _ _ _ _ _ _ _ _ _ _ _ _ _ _ _ _ _ _ _ _ _ _ _ _ _ _ _ _ _ _ _ _ _ _ _ _ _ _ _ _ _ _ _ _ _ _ _ _ _ _ _ _ _ _ _ _ _ _ _ _ _ _ _ _ _ _ _ _ _ _ _ _ _ _ _ _ _ _ _ _ _ _ _ _ _ _ _ _ _ _ _ _ _ _ _ _ _ _ _ _ _ _ _ _ _ _ _ _ _ _ _ _ _ _ _ _ _ _ _ _ _ _ _ _ _ _ _ _ _ _ _ _ _ _ _ _ _ _ _ _ _ _ _ _ _ _ _ _ _ _ _ _ _ _ _ _ _ _ _ _ _ _ _ _ _ _ _ _ _ _ _ _ _ _ _ _ _ _ _ _ _ _ _ _ _ _ _ _ _ _ _ _ _ _ _ _ _ _ _ _ _ _ _ _ _ _ _ _ _ _ _ _ _ _ _ _ _ _ _ _ _ _ _ _ _ _ _ _ _ _ _ _ _ _ _ _ _ _ _ _ _ _ _ _ _ _ _ _ _ _ _ _ _ _ _ _ _ _ _ _ _ _ _ _ _ _ _ _ _ _ _ _ _ _ _ _ _ _ _ _ _ _ _ _ _ _ _ _ _ _ _ _ _ _ _ _ _ _ _ _ _ _ _ _ _ _ _ _ _ _ _ _ _ _ _ _ _ _ _ _ _ _ _ _ _ _ _ _ _ _ _ _
  | true =>
    obtain ⟨hk, hd, hs⟩ := ht rfl
    have HTK := Lib.hid (says_known (bs := tb) (rs := tr) hk)
    have HTD := Lib.hid (says_differ (bs := tb) (rs := tr) hd)
    have HTS := Lib.hid (says_shows (bs := tb) (rs := tr) hs)
    unfold Gives pairRow at HTK HTD HTS
    clear ht hk hd hs
    go_wp2_with fail
    conv => arg 2; whnf
    obtain ⟨c0, c1', c2', c3, c4, c5⟩ := ROWT.out _ HB.out.2
    go_wp2_with fail
    clear c0 c1' c2' c3 c4 c5
    refine (HTK.out _ (HTA.out.later HB.out.2)).mono ?_
    rintro e' w1 ⟨rfl, hb⟩
    dsimp only
    replace HB := Lib.hid (HB.out.later hb)
    clear hb
    go_upto_region 52 with fail
    have lb60 := HB.out.2.size
    have qb60 := Lib.hid (fun c hc => lt_of_block (HB.out.1 c hc))
    replace HB := Lib.hid (HB.out.alloc (t1) (t2))
    obtain ⟨A1, hA⟩ : ∃ A, A = w1.alloc (.cells #[.int .i64 (t1), .int .i64 (t2)] 24) := ⟨_, rfl⟩
    obtain ⟨b60, hb60⟩ : ∃ b, b = w1.heap.size := ⟨_, rfl⟩
    rw [← hA, ← hb60] at HB ⊢
    rw [← hb60] at lb60 qb60
    clear hA hb60
    obtain ⟨c0, c1', c2', c3, c4, c5⟩ := ROWT.out _ HB.out.2
    go_wp2_with fail
    clear c0 c1' c2' c3 c4 c5
    refine (HTD.out _ (HTA.out.later HB.out.2)).mono ?_
    rintro e' w2 ⟨rfl, hb⟩
    dsimp only
    replace HB := Lib.hid (HB.out.later hb)
    clear hb
    go_upto_region 53 with fail
    have lb62 := HB.out.2.size
    have qb62 := Lib.hid (fun c hc => lt_of_block (HB.out.1 c hc))
    replace HB := Lib.hid (HB.out.alloc (d1) (d2))
    obtain ⟨A2, hA⟩ : ∃ A, A = w2.alloc (.cells #[.int .i64 (d1), .int .i64 (d2)] 24) := ⟨_, rfl⟩
    obtain ⟨b62, hb62⟩ : ∃ b, b = w2.heap.size := ⟨_, rfl⟩
    rw [← hA, ← hb62] at HB ⊢
    rw [← hb62] at lb62 qb62
    clear hA hb62
    obtain ⟨c0, c1', c2', c3, c4, c5⟩ := ROWT.out _ HB.out.2
    go_wp2_with fail
    clear c0 c1' c2' c3 c4 c5
    refine (HTS.out _ (HTA.out.later HB.out.2)).mono ?_
    rintro e' w3 ⟨rfl, hb⟩
    dsimp only
    replace HB := Lib.hid (HB.out.later hb)
    clear hb
    go_upto_region 54 with fail
    have lb64 := HB.out.2.size
    have qb64 := Lib.hid (fun c hc => lt_of_block (HB.out.1 c hc))
    replace HB := Lib.hid (HB.out.alloc (s1) (s2))
    obtain ⟨A3, hA⟩ : ∃ A, A = w3.alloc (.cells #[.int .i64 (s1), .int .i64 (s2)] 24) := ⟨_, rfl⟩
    obtain ⟨b64, hb64⟩ : ∃ b, b = w3.heap.size := ⟨_, rfl⟩
    rw [← hA, ← hb64] at HB ⊢
    rw [← hb64] at lb64 qb64
    clear hA hb64
    obtain ⟨x1a, x1b⟩ := HB.out.cell (b := b30) (x := c1) (y := c2) (by simp)
    go_upto_region 55 with fail
    have lb66 := HB.out.2.size
    have qb66 := Lib.hid (fun c hc => lt_of_block (HB.out.1 c hc))
    replace HB := Lib.hid (HB.out.alloc (c1) (c2))
    obtain ⟨A4, hA⟩ : ∃ A, A = A3.alloc (.cells #[.int .i64 (c1), .int .i64 (c2)] 24) := ⟨_, rfl⟩
    obtain ⟨b66, hb66⟩ : ∃ b, b = A3.heap.size := ⟨_, rfl⟩
    rw [← hA, ← hb66] at HB ⊢
    rw [← hb66] at lb66 qb66
    clear hA hb66
    have hle := HLE.out
    rcases HLE2.out with ⟨rfl, rfl, rfl⟩ | ⟨rfl, h1, h2⟩
    · have hw1 : IntKind.i64.wrap (c1 + (kn : Int)) = c1 + kn := IntWalk.i64_in _ (by omega)
      have hw2 : IntKind.i64.wrap (c2 + (kn : Int)) = c2 + kn := IntWalk.i64_in _ (by omega)
      obtain ⟨x1a, x1b⟩ := HB.out.cell (b := b30) (x := c1) (y := c2) (by simp)
      go_wp2_with fail
      go_at_call 33
      clear x1a x1b
      refine (lspan_any (c1 + kn) (c2 + kn) _).mono ?_
      rintro e' w5 ⟨rfl, hb⟩
      replace HB := Lib.hid (HB.out.later hb)
      clear hb
      unfold spanV
      dsimp only
      replace HB := Lib.hid (HB.out.mono (l' := (b66, c1, c2) :: [(b64, s1, s2), (b62, d1, d2), (b60, c1 + kn, c2 + kn), (b51, c1, c2), (b53, d1, d2), (b55, s1, s2), (b30, c1, c2), (b32, d1, d2), (b34, s1, s2)]) (by simp))
      have fz := fun k => frozen_of_row _ _ k _ _ (HB.out.1 _ (List.mem_cons_self ..))
      obtain ⟨g0, g1⟩ := HB.out.cell (b := b66) (List.mem_cons_self ..)
      dsimp only at fz
      go_upto_region 57 with fail
      clear fz g0 g1
      obtain ⟨A5, hA⟩ : ∃ A, A = (w5.setCell ⟨b66, 0, none⟩ (.int .i64 (c1 + kn))).setCell ⟨b66, 1, none⟩ (.int .i64 (c2 + kn)) := ⟨_, rfl⟩
      replace HB := Lib.hid (HB.out.put lb66 (fun c hc => by have := qb66.out c (by simp at hc; rcases hc with h | h | h | h | h | h | h | h | h <;> simp [h]); omega) (c1 + kn) (c2 + kn))
      rw [← hA] at HB ⊢
      clear hA
      obtain ⟨x1a, x1b⟩ := HB.out.cell (b := b60) (x := c1 + kn) (y := c2 + kn) (by simp)
      obtain ⟨x2a, x2b⟩ := HB.out.cell (b := b62) (x := d1) (y := d2) (by simp)
      obtain ⟨x3a, x3b⟩ := HB.out.cell (b := b64) (x := s1) (y := s2) (by simp)
      obtain ⟨x4a, x4b⟩ := HB.out.cell (b := b66) (x := c1 + kn) (y := c2 + kn) (by simp)
      obtain ⟨x5a, x5b⟩ := HB.out.cell (b := b32) (x := d1) (y := d2) (by simp)
      obtain ⟨x6a, x6b⟩ := HB.out.cell (b := b34) (x := s1) (y := s2) (by simp)
      go_upto_region 59 with fail
      refine HEND.out _ (HB.out.mono (by simp)) _ _ _ _ _ _ _ _ _ _ _ _ _ _ _ _ _ _ _ _ _ _ _ _ _ _ _ _ _ _ _ _ _ _ _ _ _ _ _ _ _ _ _ _ _ _ _ _ _ _ _ _ _ _ _ _ _ _ _ _ _ _ _ _ _ _ _ _ _ _ _ _ _ _ _ _ _ _ _ _ _ _ _ _ _ _ _ _ _ _ _ _ _ _ _ _ _ _ _ _ _ _ _ _ _ _ _ _ _ _ _ _ _ _ _ _ _ _ _ _ _ _ _ _ _ _ _ _ _ _ _ _ _ _ _ _ _ _ _ _ _ _ _ _ _ _ _ _ _ _ _ _ _ _ _ _ _ _ _ _ _ _ _ _ _ _ _ _ _ _ _ _ _ _ _ _ _ _ _ _ _ _ _ _ _ _ _ _ _ _ _ _ _ _ _ _ _ _ _ _ _ _ _ _ _ _ _ _ _ _ _ _ _ _ _ _ _ _ _ _ _ _ _ _ _ _ _ _ _ _ _ _ _ _ _ _ _ _ _ _ _ _ _ _ _ _ _ _ _ _ _ _ _ _ _ _ _ _ _ _ _ _ _ _ _ _ _ _ _ _ _ _ _ _ _ _ _ _ _ _ _ _ _ _ _ _ _ _ _ _ _ _ _ _ _ _ _ _ _ _ _ _ _ _ _ _ _ _ _ _ _ _ _ _ _ _ _ _ _ _ _ _ _ _ _ _ _ _ _ _ _ _ _ _ _ _ _ _ _ _ _ _ _ _ _ _ _ _ _ _ _ _ _ _ _ _ _ _ _ _ _ _ _ _ _ _ _ _ _ _ _ _ _ _ _ _ _ _ _ _ _ _ _ _ _ _ _ _ _ _ _ _ _ _ _ _ _ _ _ _ _ _ _ _ _ _ _ _ _ _ _ _ _ _ _ _ _ _ _ _ _ _ _ _ _ _ _ _ _ _ _ _ _ _ _ _ _ _ _ _ _ _ _ _ _ _ _ _ _ _ _ _ _ _ _ _ _ _ _ _ _ _ _ _ _ _ _ _ _ _ _ _ _ _ _ _ _ _ _ _ _ _ _ _ _ _ _ _ _ _ _ _ _ _ _ _ _ _ _ _ _ _ _ _ _ _ _ _ _ _ _ _ _ _ _
    · obtain rfl := h1.symm
      obtain rfl := h2.symm
      obtain ⟨x1a, x1b⟩ := HB.out.cell (b := b60) (x := c1) (y := c2) (by simp)
      obtain ⟨x2a, x2b⟩ := HB.out.cell (b := b62) (x := d1) (y := d2) (by simp)
      obtain ⟨x3a, x3b⟩ := HB.out.cell (b := b64) (x := s1) (y := s2) (by simp)
      obtain ⟨x4a, x4b⟩ := HB.out.cell (b := b66) (x := c1) (y := c2) (by simp)
      obtain ⟨x5a, x5b⟩ := HB.out.cell (b := b32) (x := d1) (y := d2) (by simp)
      obtain ⟨x6a, x6b⟩ := HB.out.cell (b := b34) (x := s1) (y := s2) (by simp)
      go_upto_region 59 with fail
      refine HEND.out _ (HB.out.mono (by simp)) _ _ _ _ _ _ _ _ _ _ _ _ _ _ _ _ _ _ _ _ _ _ _ _ _ _ _ _ _ _ _ _ _ _ _ _ _ _ _ _ _ _ _ _ _ _ _ _ _ _ _ _ _ _ _ _ _ _ _ _ _ _ _ _ _ _ _ _ _ _ _ _ _ _ _ _ _ _ _ _ _ _ _ _ _ _ _ _ _ _ _ _ _ _ _ _ _ _ _ _ _ _ _ _ _ _ _ _ _ _ _ _ _ _ _ _ _ _ _ _ _ _ _ _ _ _ _ _ _ _ _ _ _ _ _ _ _ _ _ _ _ _ _ _ _ _ _ _ _ _ _ _ _ _ _ _ _ _ _ _ _ _ _ _ _ _ _ _ _ _ _ _ _ _ _ _ _ _ _ _ _ _ _ _ _ _ _ _ _ _ _ _ _ _ _ _ _ _ _ _ _ _ _ _ _ _ _ _ _ _ _ _ _ _ _ _ _ _ _ _ _ _ _ _ _ _ _ _ _ _ _ _ _ _ _ _ _ _ _ _ _ _ _ _ _ _ _ _ _ _ _ _ _ _ _ _ _ _ _ _ _ _ _ _ _ _ _ _ _ _ _ _ _ _ _ _ _ _ _ _ _ _ _ _ _ _ _ _ _ _ _ _ _ _ _ _ _ _ _ _ _ _ _ _ _ _ _ _ _ _ _ _ _ _ _ _ _ _ _ _ _ _ _ _ _ _ _ _ _ _ _ _ _ _ _ _ _ _ _ _ _ _ _ _ _ _ _ _ _ _ _ _ _ _ _ _ _ _ _ _ _ _ _ _ _ _ _ _ _ _ _ _ _ _ _ _ _ _ _ _ _ _ _ _ _ _ _ _ _ _ _ _ _ _ _ _ _ _ _ _ _ _ _ _ _ _ _ _ _ _ _ _ _ _ _ _ _ _ _ _ _ _ _ _ _ _ _ _ _ _ _ _ _ _ _ _ _ _ _ _ _ _ _ _ _ _ _ _ _ _ _ _ _ _ _ _ _ _ _ _ _ _ _ _ _ _ _ _ _ _ _ _ _ _ _ _ _ _ _ _ _ _ _ _ _ _ _ _ _ _ _ _ _ _ _ _ _ _ _ _ _ _ _ _ _ _ _ _ _ _ _ _ _ _ _

end Go.Proofs.Ytlgeggekmdoceaa

/- PairMore: the walk, the pair of which blocks and readings are numbered otherwise. -/
namespace Go.Proofs.Ytlgeggekmdoceaa
set_option linter.unusedVariables false
set_option linter.unusedSimpArgs false
open Go.RowKit Go.Shelf
attribute [local go_sem] Oper.semAt_some
set_option maxRecDepth 100000 in
set_option maxHeartbeats 8000000 in
theorem more_g (p : PairD) (an bn mn kn zan zbn B q10 q11 q12 b30 b32 b34 : Nat) (bsv rsv ub ur tb tr zb zr v28 v29 : Value) (fits : Bool) (c1 c2 d1 d2 s1 s2 e n1 n2 t1 t2 wn ws : Int) (W0 : World) (hm : p.rs.length ≤ 8) (hm5 : p.bs.length ≤ 5) (hB : B < W0.heap.size)
    (hr0 : W0.heap[B]? = some (.cells (pairRow p bsv rsv) 27 (0, 0))) (hpb : SpansAt W0 bsv p.bs (fun k => k < W0.heap.size)) (hpr : ReadsAt W0 rsv p.rs (fun k => k < W0.heap.size)) (h28 : SpansAt W0 v28 p.bs (fun k => k < W0.heap.size)) (h29 : ReadsAt W0 v29 p.rs (fun k => k < W0.heap.size))
    (hu0 : W0.heap[q12]? = some (.cells (pairRow p ub ur) 27 (0, 0))) (hua : PairAt W0 (negP p) ub ur)
    (ht0 : W0.heap[q11]? = some (.cells (pairRow p tb tr) 27 (0, 0))) (hta : PairAt W0 (shiftP p kn) tb tr)
    (hz0 : W0.heap[q10]? = some (.cells (pairRow p zb zr) 27 (0, 0))) (hza : PairAt W0 (revP p) zb zr)
    (hbx : BoxL [(b30, c1, c2), (b32, d1, d2), (b34, s1, s2)] W0 W0)
    (hk : knownV (negP p) an = ((n1, n2), e)) (hd : differV (negP p) bn an = ((d1, d2), e)) (hs : showsV (negP p) mn = ((s1, s2), e))
    (ht : fits = true → knownV (shiftP p kn) an = ((t1, t2), e) ∧ differV (shiftP p kn) an bn = ((d1, d2), e) ∧ showsV (shiftP p kn) mn = ((s1, s2), e))
    (hal : an < p.bs.length) (hbl : bn < p.bs.length) (hzn : zan = p.bs.length - 1 - an) (hzm : zbn = p.bs.length - 1 - bn)
    (hzk : knownV (revP p) zan = ((c1, c2), e)) (hzd : differV (revP p) zan zbn = ((d1, d2), e)) (hzs : showsV (revP p) mn = ((s1, s2), e)) (hzw : wrongV (revP p) = ((wn, ws), 0))
    (hkn : kn < 12)
    (hle : e = 0 ∧ n1 = -c2 ∧ n2 = -c1 ∧ (-40 ≤ c1 ∧ c1 ≤ 40 ∧ -40 ≤ c2 ∧ c2 ≤ 40) ∨ e = 10 ∧ n1 = 0 ∧ n2 = 0) (hle2 : e = 0 ∧ t1 = c1 + kn ∧ t2 = c2 + kn ∨ e = 10 ∧ t1 = c1 ∧ t2 = c2)
    (R : Ending → World → Prop) (hR : ∀ w', Below W0.heap.size W0 w' → R (.returned (.bool true)) w') (K : Act → World → Prop)
    (hK : ∀ a w, Code.wp Try.prog (moreC 20) (bodyPost Try.prog Try.f12 R) a w → K a w) (u0 u1 u2 u3 u4 u6 u10 u16 u17 u21 u23 u24 u25 u26 u27 u33 u35 u37 u38 u39 u40 u41 u42 u43 u44 u45 u46 u47 u48 u49 u50 u70 u71 u72 u73 u74 u75 u76 u77 u78 u79 u80 u81 u82 u83 u84 u85 u86 u87 u88 u89 u90 u91 u92 u93 u94 u95 u96 u97 u98 u99 u100 u101 u102 u103 u104 u105 u106 u107 u108 u109 u110 u111 u112 u113 u114 u115 u116 u117 u118 u119 u120 u121 u122 u123 u124 u125 u126 u127 u128 u129 u130 u131 u132 u133 u134 u135 u136 u137 u138 u139 u140 u141 u142 u143 u144 u145 u146 u147 u148 u149 u150 u151 u152 u153 u154 u155 u156 u157 u158 u159 u160 u161 u162 u163 u164 u165 u166 u167 u168 u169 u170 u171 u172 u173 u174 u175 u176 u177 u178 u179 u180 u181 u182 u183 u184 u185 u186 u187 u188 u189 u190 u191 u192 u193 u194 u195 u196 u197 u198 u199 u200 u201 u202 u203 u204 u205 u206 u207 u208 u209 u210 u211 u212 u213 u214 u215 u216 u217 u218 u219 u220 u221 u222 u223 u224 u225 u226 u227 u228 u229 u230 u231 u232 u233 u234 u235 u236 u237 u238 u239 u240 u241 u242 u243 u244 u245 u246 u247 u248 u249 u250 u251 u252 u253 u254 u255 u256 u257 u258 u259 u260 u261 u262 u263 u264 u265 u266 u267 u268 u269 u270 u271 u272 u273 u274 u275 u276 u277 u278 u279 u280 u281 u282 u283 u284 u285 u286 u287 u288 u289 u290 u291 u292 u293 u294 u295 u296 u297 u298 u299 u300 u301 u302 u303 u304 u305 u306 u307 u308 u309 u310 u311 u312 u313 u314 u315 u316 u317 u318 u319 u320 u321 u322 u323 u324 u325 u326 u327 u328 u329 u330 u331 u332 u333 u334 u335 u336 u337 u338 u339 u340 u341 u342 u343 u344 u345 u346 u347 u348 u349 u350 u351 u352 u353 u354 u355 u356 u357 u358 u359 u360 u361 u362 u363 u364 u365 u366 u367 u368 u369 u370 u371 u372 u373 u374 u375 u376 u377 u378 u379 u380 u381 u382 u383 u384 u385 u386 u387 u388 u389 u390 u391 u392 u393 u394 u395 u396 u397 u398 u399 u400 u401 u402 u403 : Value) :
    Code.wp Try.prog (headC 19) (Exit.then K (bodyPost Try.prog Try.f12 R)) ⟨#[u0, u1, u2, u3, u4, .pointer (some ⟨B, 0, none⟩), u6, undef, undef, undef, u10, .int .i64 p.bs.length, .int .i64 kn, .int .i64 an, .int .i64 bn, .int .i64 mn, u16, u17, .pointer (some ⟨q10, 0, none⟩), .pointer (some ⟨q11, 0, none⟩), .pointer (some ⟨q12, 0, none⟩), u21, .bool fits, u23, u24, u25, u26, u27, v28, v29, .pointer (some ⟨b30, 0, none⟩), .int .i64 e, .pointer (some ⟨b32, 0, none⟩), u33, .pointer (some ⟨b34, 0, none⟩), u35, .int .i64 wn, u37, u38, u39, u40, u41, u42, u43, u44, u45, u46, u47, u48, u49, u50, undef, undef, undef, undef, undef, undef, undef, undef, undef, undef, undef, undef, undef, undef, undef, undef, undef, undef, undef, u70, u71, u72, u73, u74, u75, u76, u77, u78, u79, u80, u81, u82, u83, u84, u85, u86, u87, u88, u89, u90, u91, u92, u93, u94, u95, u96, u97, u98, u99, u100, u101, u102, u103, u104, u105, u106, u107, u108, u109, u110, u111, u112, u113, u114, u115, u116, u117, u118, u119, u120, u121, u122, u123, u124, u125, u126, u127, u128, u129, u130, u131, u132, u133, u134, u135, u136, u137, u138, u139, u140, u141, u142, u143, u144, u145, u146, u147, u148, u149, u150, u151, u152, u153, u154, u155, u156, u157, u158, u159, u160, u161, u162, u163, u164, u165, u166, u167, u168, u169, u170, u171, u172, u173, u174, u175, u176, u177, u178, u179, u180, u181, u182, u183, u184, u185, u186, u187, u188, u189, u190, u191, u192, u193, u194, u195, u196, u197, u198, u199, u200, u201, u202, u203, u204, u205, u206, u207, u208, u209, u210, u211, u212, u213, u214, u215, u216, u217, u218, u219, u220, u221, u222, u223, u224, u225, u226, u227, u228, u229, u230, u231, u232, u233, u234, u235, u236, u237, u238, u239, u240, u241, u242, u243, u244, u245, u246, u247, u248, u249, u250, u251, u252, u253, u254, u255, u256, u257, u258, u259, u260, u261, u262, u263, u264, u265, u266, u267, u268, u269, u270, u271, u272, u273, u274, u275, u276, u277, u278, u279, u280, u281, u282, u283, u284, u285, u286, u287, u288, u289, u290, u291, u292, u293, u294, u295, u296, u297, u298, u299, u300, u301, u302, u303, u304, u305, u306, u307, u308, u309, u310, u311, u312, u313, u314, u315, u316, u317, u318, u319, u320, u321, u322, u323, u324, u325, u326, u327, u328, u329, u330, u331, u332, u333, u334, u335, u336, u337, u338, u339, u340, u341, u342, u343, u344, u345, u346, u347, u348, u349, u350, u351, u352, u353, u354, u355, u356, u357, u358, u359, u360, u361, u362, u363, u364, u365, u366, u367, u368, u369, u370, u371, u372, u373, u374, u375, u376, u377, u378, u379, u380, u381, u382, u383, u384, u385, u386, u387, u388, u389, u390, u391, u392, u393, u394, u395, u396, u397, u398, u399, u400, u401, u402, u403, undef, undef, undef, undef, undef, undef, undef, undef, undef, undef, undef, undef, undef, undef, undef, undef, undef, undef, undef, undef, undef, undef, undef, undef, undef, undef, undef, undef, undef, undef, undef, undef, undef, undef, undef, undef, undef, undef, undef, undef, undef, undef, undef, undef, undef, undef, undef, undef, undef, undef, undef, undef, undef, undef, undef, undef, undef, undef, undef, undef, undef, undef, undef, undef, undef, undef, undef, undef, undef, undef, undef, undef, undef, undef, undef, undef, undef, undef, undef, undef, undef, undef, undef, undef, undef, undef, undef, undef, undef, undef, undef, undef, undef, undef, undef, undef, undef, undef, undef, undef, undef, undef, undef, undef, undef, undef, undef, undef, undef, undef, undef, undef, undef, undef, undef, undef, undef, undef, undef, undef, undef, undef, undef, undef, undef, undef, undef, undef, undef, undef, undef, undef, undef, undef, undef, undef, undef, undef, undef, undef, undef, undef, undef, undef, undef, undef, undef, undef, undef, undef, undef, undef, undef, undef, undef, undef, undef, undef, undef, undef, undef, undef, undef, undef, undef, undef, undef, undef, undef, undef, undef, undef, undef, undef, undef, undef, undef, undef, undef, undef, undef, undef, undef, undef, undef, undef, undef, undef, undef, undef, undef, undef, undef, undef, undef, undef, undef, undef, undef, undef, undef, undef, undef, undef, undef, undef, undef, undef, undef, undef, undef, undef, undef, undef, undef, undef, undef, undef, undef, undef, undef], []⟩ W0 := by
  conv => arg 2; whnf
  have rowsOf : ∀ {b : Nat} {x y : Value}, W0.heap[b]? = some (.cells (pairRow p x y) 27 (0, 0)) → Hid (∀ W', Below W0.heap.size W0 W' → (W'.cell? ⟨b, 0, none⟩ = some x ∧ W'.cell? ⟨b, 1, none⟩ = some (.int .i64 p.zl) ∧ W'.cell? ⟨b, 2, none⟩ = some (.int .i64 p.zh) ∧ W'.cell? ⟨b, 3, none⟩ = some (.int .i64 p.rl) ∧ W'.cell? ⟨b, 4, none⟩ = some (.int .i64 p.rh) ∧ W'.cell? ⟨b, 5, none⟩ = some y)) := fun {b x y} h W' hb => by
    have q1 := (hb.block b (lt_of_block h)).trans h
    exact ⟨cell_of_row _ _ 0 _ _ _ q1, cell_of_row _ _ 1 _ _ _ q1, cell_of_row _ _ 2 _ _ _ q1, cell_of_row _ _ 3 _ _ _ q1, cell_of_row _ _ 4 _ _ _ q1, cell_of_row _ _ 5 _ _ _ q1⟩
  have ROWZ := rowsOf hz0
  have HZA := Lib.hid hza
  have HB := Lib.hid hbx
  have l30 := lt_of_block (hbx.1 (b30, c1, c2) (by simp))
  have l32 := lt_of_block (hbx.1 (b32, d1, d2) (by simp))
  have l34 := lt_of_block (hbx.1 (b34, s1, s2) (by simp))
  have HZK := Lib.hid (says_known (bs := zb) (rs := zr) hzk)
  have HZD := Lib.hid (says_differ (bs := zb) (rs := zr) hzd)
  have HZS := Lib.hid (says_shows (bs := zb) (rs := zr) hzs)
  have HZW := Lib.hid (says_wrong (bs := zb) (rs := zr) hzw)
  unfold Gives pairRow at HZK HZD HZS HZW
  have HEND := Lib.hid (fun b51 b53 b55 w' hbx hlt => more_p p an bn mn kn B q11 q12 b30 b32 b34 b51 b53 b55 bsv rsv ub ur tb tr v28 v29 fits c1 c2 d1 d2 s1 s2 e n1 n2 t1 t2 W0 w' hm hm5 hB hr0 hpb hpr h28 h29 hu0 hua ht0 hta hbx hlt hk hd hs ht hkn hle hle2 R hR)
  have hx1 : IntKind.i64.wrap ((p.bs.length : Int) - 1) = (p.bs.length : Int) - 1 := IntWalk.i64_in _ (by omega)
  have hx2 : IntKind.i64.wrap ((p.bs.length : Int) - 1 - (an : Int)) = (zan : Int) := by rw [IntWalk.i64_in _ (by omega)]; omega
  have hx3 : IntKind.i64.wrap ((p.bs.length : Int) - 1 - (bn : Int)) = (zbn : Int) := by rw [IntWalk.i64_in _ (by omega)]; omega
  clear rowsOf hr0 hpb hpr h28 h29 hu0 hua hbx hk hd hs ht0 hta hz0 hza ht hzk hzd hzs hzw hle hle2 hzn hzm
  obtain ⟨c0, c1', c2', c3, c4, c5⟩ := ROWZ.out _ HB.out.2
  go_wp2_with fail
  clear c0 c1' c2' c3 c4 c5
  refine (HZK.out _ (HZA.out.later HB.out.2)).mono ?_
  rintro e' w1 ⟨rfl, hb⟩
  dsimp only
  replace HB := Lib.hid (HB.out.later hb)
  clear hb
  go_upto_region 45 with fail
  have lb51 := HB.out.2.size
  have qb51 := Lib.hid (fun c hc => lt_of_block (HB.out.1 c hc))
  replace HB := Lib.hid (HB.out.alloc (c1) (c2))
  obtain ⟨A1, hA⟩ : ∃ A, A = w1.alloc (.cells #[.int .i64 (c1), .int .i64 (c2)] 24) := ⟨_, rfl⟩
  obtain ⟨b51, hb51⟩ : ∃ b, b = w1.heap.size := ⟨_, rfl⟩
  rw [← hA, ← hb51] at HB ⊢
  rw [← hb51] at lb51 qb51
  clear hA hb51
  conv => arg 2; whnf
  obtain ⟨c0, c1', c2', c3, c4, c5⟩ := ROWZ.out _ HB.out.2
  go_wp2_with fail
  clear c0 c1' c2' c3 c4 c5
  refine (HZD.out _ (HZA.out.later HB.out.2)).mono ?_
  rintro e' w2 ⟨rfl, hb⟩
  dsimp only
  replace HB := Lib.hid (HB.out.later hb)
  clear hb
  go_upto_region 46 with fail
  have lb53 := HB.out.2.size
  have qb53 := Lib.hid (fun c hc => lt_of_block (HB.out.1 c hc))
  replace HB := Lib.hid (HB.out.alloc (d1) (d2))
  obtain ⟨A2, hA⟩ : ∃ A, A = w2.alloc (.cells #[.int .i64 (d1), .int .i64 (d2)] 24) := ⟨_, rfl⟩
  obtain ⟨b53, hb53⟩ : ∃ b, b = w2.heap.size := ⟨_, rfl⟩
  rw [← hA, ← hb53] at HB ⊢
  rw [← hb53] at lb53 qb53
  clear hA hb53
  obtain ⟨c0, c1', c2', c3, c4, c5⟩ := ROWZ.out _ HB.out.2
  go_wp2_with fail
  clear c0 c1' c2' c3 c4 c5
  refine (HZS.out _ (HZA.out.later HB.out.2)).mono ?_
  rintro e' w3 ⟨rfl, hb⟩
  dsimp only
  replace HB := Lib.hid (HB.out.later hb)
  clear hb
  go_upto_region 47 with fail
  have lb55 := HB.out.2.size
  have qb55 := Lib.hid (fun c hc => lt_of_block (HB.out.1 c hc))
  replace HB := Lib.hid (HB.out.alloc (s1) (s2))
  obtain ⟨A3, hA⟩ : ∃ A, A = w3.alloc (.cells #[.int .i64 (s1), .int .i64 (s2)] 24) := ⟨_, rfl⟩
  obtain ⟨b55, hb55⟩ : ∃ b, b = w3.heap.size := ⟨_, rfl⟩
  rw [← hA, ← hb55] at HB ⊢
  rw [← hb55] at lb55 qb55
  clear hA hb55
  obtain ⟨c0, c1', c2', c3, c4, c5⟩ := ROWZ.out _ HB.out.2
  go_wp2_with fail
  clear c0 c1' c2' c3 c4 c5
  refine (HZW.out _ (HZA.out.later HB.out.2)).mono ?_
  rintro e' w4 ⟨rfl, hb⟩
  dsimp only
  replace HB := Lib.hid (HB.out.later hb)
  clear hb
  go_upto_region 48 with fail
  obtain ⟨x1a, x1b⟩ := HB.out.cell (b := b51) (x := c1) (y := c2) (by simp)
  obtain ⟨x2a, x2b⟩ := HB.out.cell (b := b53) (x := d1) (y := d2) (by simp)
  obtain ⟨x3a, x3b⟩ := HB.out.cell (b := b55) (x := s1) (y := s2) (by simp)
  obtain ⟨x4a, x4b⟩ := HB.out.cell (b := b30) (x := c1) (y := c2) (by simp)
  obtain ⟨x5a, x5b⟩ := HB.out.cell (b := b32) (x := d1) (y := d2) (by simp)
  obtain ⟨x6a, x6b⟩ := HB.out.cell (b := b34) (x := s1) (y := s2) (by simp)
  go_upto_region 50 with fail
  refine HEND.out b51 b53 b55 _ (HB.out.mono (by simp)) ⟨l30, l32, l34, lb51, by have := qb53.out (b51, c1, c2) (by simp); dsimp only at this; omega, by have := qb55.out (b53, d1, d2) (by simp); dsimp only at this; omega⟩ _ _ ?_ ?_ _ _ _ _ _ _ _ _ _ _ _ _ _ _ _ _ _ _ _ _ _ _ _ _ _ _ _ _ _ _ _ _ _ _ _ _ _ _ _ _ _ _ _ _ _ _ _ _ _ _ _ _ _ _ _ _ _ _ _ _ _ _ _ _ _ _ _ _ _ _ _ _ _ _ _ _ _ _ _ _ _ _ _ _ _ _ _ _ _ _ _ _ _ _ _ _ _ _ _ _ _ _ _ _ _ _ _ _ _ _ _ _ _ _ _ _ _ _ _ _ _ _ _ _ _ _ _ _ _ _ _ _ _ _ _ _ _ _ _ _ _ _ _ _ _ _ _ _ _ _ _ _ _ _ _ _ _ _ _ _ _ _ _ _ _ _ _ _ _ _ _ _ _ _ _ _ _ _ _ _ _ _ _ _ _ _ _ _ _ _ _ _ _ _ _ _ _ _ _ _ _ _ _ _ _ _ _ _ _ _ _ _ _ _ _ _ _ _ _ _ _ _ _ _ _ _ _ _ _ _ _ _ _ _ _ _ _ _ _ _ _ _ _ _ _ _ _ _ _ _ _ _ _ _ _ _ _ _ _ _ _ _ _ _ _ _ _ _ _ _ _ _ _ _ _ _ _ _ _ _ _ _ _ _ _ _ _ _ _ _ _ _ _ _ _ _ _ _ _ _ _ _ _ _ _ _ _ _ _ _ _ _ _ _ _ _ _ _ _ _ _ _ _ _ _ _ _ _ _ _ _ _ _ _ _ _ _ _ _ _ _ _ _ _ _ _ _ _ _ _ _ _ _ _ _ _ _ _ _ _ _ _ _ _ _ _ _ _ _ _ _ _ _ _ _ _ _ _ _ _ _ _ _ _ _ _ _ _ _ _ _ _ _ _ _ _ _ _ _ _ _ _ _ _ _ _ _ _ _ _ _ _ _ _ _ _ _ _ _ _ _ _ _ _ _ _ _ _ _ _ _ _ _ _ _ _ _ _ _ _ _ _ _ _ _
  · assumption
  · assumption

end Go.Proofs.Ytlgeggekmdoceaa
