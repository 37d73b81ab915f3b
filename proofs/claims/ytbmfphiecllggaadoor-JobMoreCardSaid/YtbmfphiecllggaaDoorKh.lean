/- Texts Xl, Wj, Wk, Sa, Ta, Tb, Wl, Wm in one file; each begins with a word on what it proves. -/
import Derived.StillTailTactics
import Derived.Deep.Cut
import Derived.BigRegion
import Derived.Shelf.Abstract
import Derived.WalkKit
import Derived.Lib.Hide
import Derived.BigQuiet
import Derived.Deep.QuietTactic
import Derived.Test.YtbmfphiecllggaaDoorKg
import Derived.Test.YtbmfphiecllggaaDoorKa
import Derived.Test.YtbmfphiecllggaaDoorKe

/- What the tables hold that the program lays (plain). -/
namespace Go.Proofs.YtbmfphiecllggaaDoor
set_option linter.unusedVariables false
set_option linter.unusedSimpArgs false
open Go.ChangeShapes Go.WideShapes Go.ChangeAt Go.RowKit Go.Deep

theorem under64 : Tryd.prog.underlying 165 = some (.array 64 5) := by kernel_rfl
theorem cells_u8 : Tryd.prog.cellsOf 5 = 1 := by kernel_rfl
set_option maxRecDepth 100000 in
/-- What the condition on the tables gives the walks. -/
theorem of_laid {W : World} (h : laidMetH Tryd.prog laidB W) : TabZ W := by
  rw [MakeChecks.laidMetH_plain _ _ _ (by kernel_rfl)] at h
  obtain ⟨ps, ⟨g0, t0, cs0, f0, p0, q0, hg0, ht0, hv0, hd0, ⟨g1, t1, cs1, f1, p1, q1, hg1, ht1, hv1, hd1, _, _⟩, _⟩, _, _⟩ := h
  obtain rfl := Option.some.inj (g64.symm.trans hg1)
  obtain rfl := Option.some.inj (t64.symm.trans ht1)
  obtain ⟨xs, m1, rfl, hx1, hlen, hn3, hel⟩ := DataW.trod_array under64 hd1
  have hx := (Prod.mk.inj hx1).1
  unfold Rows.laid_math_bits_deBruijn64tab at hx
  rw [DataW.agg.injEq] at hx
  have hcell : ∀ i (hi : i < 64) (k : Int), (xs.map Prod.fst)[i]? = some (DataW.lit (.int .u8 k)) → W.cell? ⟨1, i, none⟩ = some (.int .u8 k) := by
    intro i hi k hk
    have h0 := hel i hi
    rw [List.getElem?_map] at hk
    cases hxi : xs[i]? with
    | none => rw [hxi] at hk; cases hk
    | some y =>
      rw [hxi] at hk h0
      simp only [Option.map_some, Option.some.injEq] at hk
      obtain ⟨n, e1, e2, _⟩ := DataW.trod_int under_u8 h0
      have hkn : n = k := by
        rw [e2] at hk
        simpa using hk
      subst hkn
      rw [cells_u8, Nat.mul_one] at e1
      have h2 := World.var?_cell hg1 hv1 i
      obtain ⟨l1⟩ := cs1
      have h3 : l1[i]? = some (.int .u8 n) := by
        have h4 := congrArg List.head? e1
        rw [← List.head?_drop]
        cases hd : l1.drop i with
        | nil => simp [hd] at h4
        | cons a l9 => simpa [hd] using h4
      rw [h2]
      simpa using h3
  refine ⟨hcell 0 (by decide) 0 ?_, hcell 1 (by decide) 1 ?_, hcell 3 (by decide) 2 ?_, hcell 7 (by decide) 3 ?_⟩ <;> (rw [← hx]; rfl)
end Go.Proofs.YtbmfphiecllggaaDoor

/- What is wrong with a plan: the searches, and what a plan is. -/
namespace Go.Proofs.YtbmfphiecllggaaDoor
set_option linter.unusedVariables false
set_option linter.unusedSimpArgs false
open Go.RowKit Go.Shelf
attribute [local go_sem] Oper.semAt_some
set_option maxHeartbeats 4000000 in
theorem jindex_any (l : List Nat) (v : Value) (Rd : Nat → Prop) (s : Nat) (hl : l.length ≤ 1000) (w : World) (h : SetsAt w v l Rd) :
    Calls Tryd.prog 86 #[v, .int .u64 s] w fun e w' => (∃ k : Int, e = .returned (.int .i64 k) ∧ (0 ≤ k ↔ s ∈ l)) ∧ w = w' := by
  obtain ⟨ao, cap, rfl, hel⟩ := h
  obtain ⟨n, hn⟩ : ∃ n, n = l.length := ⟨_, rfl⟩
  rw [← hn]
  have HN := Lib.hid hn
  have HEL := Lib.hid hel
  rw [← hn] at hl
  clear hn hel
  go_enter Tryd.func86, Tryd.ntmps86
  go_wp2_with fail
  go_loop [8] (fun iv => ∃ i : Nat, i ≤ n ∧ iv = .int .i64 i ∧ s ∉ l.take i) (fun iv => n - (intOf iv).toNat)
  case atStart => exact ⟨0, Nat.zero_le _, rfl, by simp⟩
  case round =>
    obtain ⟨i, hi, rfl, hpre⟩ := hrel
    have HPRE := Lib.hid hpre
    clear hpre
    by_cases hlt : i < n
    · have hw : IntKind.i64.wrap ((i : Int) + 1) = ((i + 1 : Nat) : Int) := by rw [IntWalk.i64_in _ (by omega)]; omega
      have hlti : (i : Int) < (n : Int) := by omega
      obtain ⟨b, off, rfl, _, _, e1⟩ := HEL.out i (by rw [← HN.out]; exact hlt)
      obtain ⟨x, hx⟩ : ∃ x, x = l[i]'(by rw [← HN.out]; exact hlt) := ⟨_, rfl⟩
      rw [← hx] at e1
      have htk : l.take (i + 1) = l.take i ++ [x] := by rw [List.take_succ_eq_append_getElem (by rw [← HN.out]; exact hlt), hx]
      have hmem : x ∈ l := by rw [hx]; exact List.getElem_mem _
      have HTK := Lib.hid (And.intro htk hmem)
      clear hx htk hmem
      by_cases hs : s = x
      · subst hs
        go_wp2
        go_ret
        exact ⟨⟨i, rfl, ⟨fun _ => HTK.out.2, fun _ => by omega⟩⟩, rfl⟩
      · have hsi : ¬ (s : Int) = (x : Int) := by omega
        go_wp2
        refine ⟨⟨i + 1, hlt, by push_cast; rfl, ?_⟩, by simp [intOf]; omega⟩
        rw [HTK.out.1]
        simp [HPRE.out, hs]
    · obtain rfl : i = n := by omega
      go_wp2
      go_ret
      have hnot : s ∉ l := by have := HPRE.out; rwa [HN.out, List.take_length] at this
      exact ⟨⟨-1, rfl, ⟨fun h => by omega, fun h => absurd h hnot⟩⟩, rfl⟩
set_option maxHeartbeats 4000000 in
theorem jcontains_any (l : List Nat) (v : Value) (Rd : Nat → Prop) (s : Nat) (hl : l.length ≤ 1000) (w : World) (h : SetsAt w v l Rd) :
    Calls Tryd.prog 64 #[v, .int .u64 s] w fun e w' => e = .returned (.bool (decide (s ∈ l))) ∧ w = w' := by
  have H := Lib.hid h
  obtain ⟨ao, cap, rfl, _⟩ := id h
  clear h
  obtain ⟨n, hn⟩ : ∃ n, n = l.length := ⟨_, rfl⟩
  rw [← hn] at H ⊢
  clear hn
  obtain ⟨d, hd⟩ : ∃ d, d = decide (s ∈ l) := ⟨_, rfl⟩
  rw [← hd]
  have HD := Lib.hid hd
  clear hd
  go_enter Tryd.func64, Tryd.ntmps64
  go_wp2_with fail
  refine (jindex_any l _ Rd s hl _ H.out).mono ?_
  rintro e w' ⟨⟨k, rfl, hk⟩, rfl⟩
  have HK := Lib.hid hk
  clear hk
  dsimp only
  cases d with
  | true =>
    have hk0 : 0 ≤ k := HK.out.2 (by have := HD.out; simpa using this.symm)
    go_wp2
    go_ret
    exact ⟨rfl, rfl⟩
  | false =>
    have hk0 : ¬ 0 ≤ k := fun h => by have := HK.out.1 h; have h2 := HD.out; simp [this] at h2
    go_wp2
    go_ret
    exact ⟨rfl, rfl⟩
set_option maxHeartbeats 4000000 in
theorem isPlan1_any {j : JobD} {B pp mp jb : Nat} {bs ws : Value} {r : Nat → Value} (h8 : j.st.bs.length ≤ 8) (n : Int) (w : World) (h : JobO j B pp mp bs ws r w) (hjb : w.cell? ⟨jb, 0, none⟩ = some (.pointer (some ⟨pp, 0, none⟩))) :
    Calls Tryd.prog 84 #[.int .i64 n, .pointer (some ⟨jb, 0, none⟩)] w fun e w' => e = .returned (.bool (!isSetS j.st n)) ∧ w = w' := by
  have H := Lib.hid h
  clear h
  have hal : allD j < 2 ^ 8 := Nat.lt_of_lt_of_le (allD_lt j) (Nat.pow_le_pow_right (by decide : 0 < 2) h8)
  have hw : IntKind.i64.wrap ((allD j : Nat) : Int) = ((allD j : Nat) : Int) := IntWalk.i64_in _ (by omega)
  have hset : isSetS j.st n = (decide (1 ≤ n) && decide (n ≤ ((allD j : Nat) : Int))) := by
    unfold isSetS allD
    have hp := Nat.two_pow_pos j.st.bs.length
    have : ((2 ^ j.st.bs.length - 1 : Nat) : Int) = (2 : Int) ^ j.st.bs.length - 1 := by
      have : ((2 ^ j.st.bs.length : Nat) : Int) = (2 : Int) ^ j.st.bs.length := by simp
      omega
    rw [this]
  rw [hset]
  clear hset
  obtain ⟨al, hal2⟩ : ∃ a, a = allD j := ⟨_, rfl⟩
  rw [← hal2] at hw ⊢
  have HAL := Lib.hid hal2
  clear hal2
  obtain ⟨c, hc⟩ : ∃ c, c = (decide (1 ≤ n) && decide (n ≤ (al : Int))) := ⟨_, rfl⟩
  rw [← hc]
  have HC := Lib.hid hc
  clear hc
  go_enter Tryd.func84, Tryd.ntmps84
  go_wp2_with fail
  refine (jall_any h8 _ H.out).mono ?_
  rintro e w' ⟨rfl, rfl⟩
  rw [← HAL.out]
  go_wp2_with fail
  refine (jwithin_any n 1 al _).mono ?_
  rintro e w' ⟨rfl, rfl⟩
  rw [← HC.out]
  go_wp2
  go_ret
  exact ⟨rfl, rfl⟩
/-- All numbers of a list are sets. -/
def okL (s : StackD) (l : List Int) : Bool := l.all fun n => isSetS s n
set_option maxHeartbeats 4000000 in
theorem jindexf_any {j : JobD} {B pp mp jb : Nat} {bs ws : Value} {r : Nat → Value} (h8 : j.st.bs.length ≤ 8) (l : List Int) (v : Value) (Rd : Nat → Prop) (hl : l.length ≤ 1000) (w : World) (h : JobO j B pp mp bs ws r w) (hjb : w.cell? ⟨jb, 0, none⟩ = some (.pointer (some ⟨pp, 0, none⟩))) (hn : NumsAt w v l Rd) :
    Calls Tryd.prog 97 #[v, .func (.func 84) #[] #[.pointer (some ⟨jb, 0, none⟩)]] w fun e w' => (∃ k : Int, e = .returned (.int .i64 k) ∧ (0 ≤ k ↔ okL j.st l = false)) ∧ w = w' := by
  obtain ⟨ao, cap, rfl, _, _, hel⟩ := hn
  obtain ⟨n, hn⟩ : ∃ n, n = l.length := ⟨_, rfl⟩
  rw [← hn]
  have HN := Lib.hid hn
  have HEL := Lib.hid hel
  have H := Lib.hid h
  have HJB := Lib.hid hjb
  rw [← hn] at hl
  have eg := enters_of (P := Tryd.prog) Tryd.func84 (by kernel_rfl) rfl
  clear hn hel h hjb
  go_enter Tryd.func97, Tryd.ntmps97
  go_wp2_with fail
  go_loop [8] (fun iv => ∃ i : Nat, i ≤ n ∧ iv = .int .i64 i ∧ okL j.st (l.take i) = true) (fun iv => n - (intOf iv).toNat)
  case atStart => exact ⟨0, Nat.zero_le _, rfl, rfl⟩
  case round =>
    obtain ⟨i, hi, rfl, hpre⟩ := hrel
    have HPRE := Lib.hid hpre
    clear hpre
    by_cases hlt : i < n
    · have hw : IntKind.i64.wrap ((i : Int) + 1) = ((i + 1 : Nat) : Int) := by rw [IntWalk.i64_in _ (by omega)]; omega
      have hlti : (i : Int) < (n : Int) := by omega
      obtain ⟨b, off, rfl, _, _, e1⟩ := HEL.out i (by rw [← HN.out]; exact hlt)
      obtain ⟨x, hx⟩ : ∃ x, x = l[i]'(by rw [← HN.out]; exact hlt) := ⟨_, rfl⟩
      rw [← hx] at e1
      have htk : l.take (i + 1) = l.take i ++ [x] := by rw [List.take_succ_eq_append_getElem (by rw [← HN.out]; exact hlt), hx]
      have hmem : x ∈ l := by rw [hx]; exact List.getElem_mem _
      have HTK := Lib.hid (And.intro htk hmem)
      clear hx htk hmem
      go_wp2_with fail
      refine (isPlan1_any h8 x _ H.out HJB.out).mono ?_
      rintro e w' ⟨rfl, rfl⟩
      dsimp only
      cases hs : isSetS j.st x with
      | true =>
        have HS := Lib.hid hs
        clear hs
        go_wp2_with fail
        refine ⟨⟨i + 1, hlt, by push_cast; rfl, ?_⟩, by simp [intOf]; omega⟩
        have hp := HPRE.out
        unfold okL at hp ⊢
        rw [HTK.out.1, List.all_append, hp]
        simp [HS.out]
      | false =>
        have HS := Lib.hid hs
        clear hs
        go_wp2_with fail
        go_ret
        refine ⟨⟨i, rfl, ⟨fun _ => ?_, fun _ => by omega⟩⟩, rfl⟩
        rw [Bool.eq_false_iff]
        intro hall
        unfold okL at hall
        have := List.all_eq_true.1 hall x HTK.out.2
        rw [HS.out] at this
        cases this
    · obtain rfl : i = n := by omega
      have hlti : ¬ (i : Int) < (i : Int) := by omega
      go_wp2_with fail
      go_ret
      have hall : okL j.st l = true := by have := HPRE.out; rwa [HN.out, List.take_length] at this
      exact ⟨⟨-1, rfl, ⟨fun h => by omega, fun h => by rw [hall] at h; cases h⟩⟩, rfl⟩
set_option maxHeartbeats 4000000 in
theorem jcontainsf_any {j : JobD} {B pp mp jb : Nat} {bs ws : Value} {r : Nat → Value} (h8 : j.st.bs.length ≤ 8) (l : List Int) (v : Value) (Rd : Nat → Prop) (hl : l.length ≤ 1000) (w : World) (h : JobO j B pp mp bs ws r w) (hjb : w.cell? ⟨jb, 0, none⟩ = some (.pointer (some ⟨pp, 0, none⟩))) (hn : NumsAt w v l Rd) :
    Calls Tryd.prog 83 #[v, .func (.func 84) #[] #[.pointer (some ⟨jb, 0, none⟩)]] w fun e w' => e = .returned (.bool (!(okL j.st l))) ∧ w = w' := by
  have H := Lib.hid h
  have HNM := Lib.hid hn
  have HJB := Lib.hid hjb
  obtain ⟨ao, cap, rfl, _⟩ := id hn
  clear h hn hjb
  obtain ⟨n, hn⟩ : ∃ n, n = l.length := ⟨_, rfl⟩
  rw [← hn] at HNM ⊢
  clear hn
  obtain ⟨d, hd⟩ : ∃ d, d = okL j.st l := ⟨_, rfl⟩
  rw [← hd]
  have HD := Lib.hid hd
  clear hd
  go_enter Tryd.func83, Tryd.ntmps83
  go_wp2_with fail
  refine (jindexf_any h8 l _ Rd hl _ H.out HJB.out HNM.out).mono ?_
  rintro e w' ⟨⟨k, rfl, hk⟩, rfl⟩
  have HK := Lib.hid hk
  clear hk
  dsimp only
  cases d with
  | true =>
    have hk0 : ¬ 0 ≤ k := fun h => by have := HK.out.1 h; rw [← HD.out] at this; cases this
    go_wp2
    go_ret
    exact ⟨rfl, rfl⟩
  | false =>
    have hk0 : 0 ≤ k := HK.out.2 HD.out.symm
    go_wp2
    go_ret
    exact ⟨rfl, rfl⟩
set_option maxRecDepth 100000 in
set_option maxHeartbeats 4000000 in
theorem isPlanF_any {j : JobD} {B pp mp lb : Nat} {bs ws : Value} {r : Nat → Value} (h8 : j.st.bs.length ≤ 8) (l : List Int) (v : Value) (Rd : Nat → Prop) (hl : l.length ≤ 1000) (w : World) (h : JobO j B pp mp bs ws r w) (hlb : w.cell? ⟨lb, 0, none⟩ = some v) (hn : NumsAt w v l Rd) :
    Calls Tryd.prog 82 #[.pointer (some ⟨pp, 0, none⟩), .pointer (some ⟨lb, 0, none⟩)] w fun e w' => e = .returned (.bool (isPlanD j l)) ∧ Below w.heap.size w w' := by
  have hlbs : lb < w.heap.size := by
    unfold World.cell? at hlb
    rcases Nat.lt_or_ge lb w.heap.size with h1 | h1
    · exact h1
    · rw [Array.getElem?_eq_none h1] at hlb; simp at hlb
  have H := Lib.hid h
  have HNM := Lib.hid hn
  have HLB := Lib.hid hlb
  obtain ⟨ao, cap, rfl, _⟩ := id hn
  obtain ⟨ao2, cap2, hws, _⟩ := h.ws
  subst hws
  clear h hn hlb
  obtain ⟨n, hn⟩ : ∃ n, n = l.length := ⟨_, rfl⟩
  obtain ⟨nw, hnw⟩ : ∃ n, n = j.ws.length := ⟨_, rfl⟩
  have hip : isPlanD j l = (decide (n = nw) && okL j.st l) := by unfold isPlanD okL; rw [hn, hnw]
  rw [hip]
  rw [← hn] at HNM HLB
  rw [← hnw] at H
  clear hn hnw hip
  obtain ⟨d, hd⟩ : ∃ d, d = okL j.st l := ⟨_, rfl⟩
  rw [← hd]
  have HD := Lib.hid hd
  clear hd
  go_enter Tryd.func82, Tryd.ntmps82
  go_wp2_with fail
  refine wp_name (fun W => W.heap[w.heap.size]? = some (.cells #[.pointer (some ⟨pp, 0, none⟩)] 74 (0, 0)) ∧ Below w.heap.size w W) ⟨heap_alloc_at _ _ _ rfl, Below.alloc' _ _⟩ ?_
  rintro W ⟨hx, hb⟩
  have hcells : ∀ W' : World, Below W.heap.size W W' → W'.cell? ⟨lb, 0, none⟩ = some (.slice ao n cap) ∧ W'.cell? ⟨w.heap.size, 0, none⟩ = some (.pointer (some ⟨pp, 0, none⟩)) ∧ W'.cell? ⟨pp, 3, none⟩ = some (.slice ao2 nw cap2) ∧ True := by
    intro W' hW
    have hbs := hb.size
    refine ⟨(World.cell?_of_block (w := w) (w' := W') (a := ⟨lb, 0, none⟩) ((hW.block lb (by omega)).trans (hb.block lb hlbs))).trans HLB.out, ?_, ?_, trivial⟩
    · rw [cell_of_row _ _ _ _ _ _ ((hW.block _ (lt_of_block hx)).trans hx)]; rfl
    · have hpl := lt_of_block H.out.obj
      rw [cell_of_row _ _ _ _ _ _ ((hW.block pp (by omega)).trans ((hb.block pp hpl).trans H.out.obj))]; rfl
  have CELLS := Lib.hid hcells
  have HBW := Lib.hid hb
  have hjd := H.out.later hb
  have HJD := Lib.hid hjd
  have hnd := (HNM.out.later (W := W) hb.size (fun k h1 _ => hb.block k h1))
  have HND := Lib.hid hnd
  clear hcells hx hb hjd hnd
  refine region_fix 15 (fun W' => Below W.heap.size W W') (by kernel_rfl) (by kernel_rfl) (Below.refl _ _).drew ?_
  simp only [List.take_succ_cons, List.take_zero, List.drop_succ_cons, List.drop_zero]
  by_cases hnn : n = nw
  · subst hnn
    iterate 10
      refine WF_step ?_ (fun W' hC => ?_) rfl ?_
      rotate_left
      · (obtain ⟨z0, z1, z2, z3⟩ := CELLS.out W' hC; go_simp; exact fix_value (P := Tryd.prog) (C := fun W' => Below W.heap.size W W') hC)
      simp only [Act.put, List.setIfInBounds_toArray, List.set_cons_zero, List.set_cons_succ]
    refine WF_stepG ?_ (fun W' hC => ?_) (by kernel_rfl) ?_
    rotate_left
    · (obtain ⟨z0, z1, z2, z3⟩ := CELLS.out W' hC; go_simp; exact fix_value (P := Tryd.prog) (C := fun W' => Below W.heap.size W W') hC)
    simp only [Act.put, List.setIfInBounds_toArray, List.set_cons_zero, List.set_cons_succ]
    refine WF_stepG ?_ (fun W' hC => ?_) (by kernel_rfl) ?_
    rotate_left
    · (obtain ⟨z0, z1, z2, z3⟩ := CELLS.out W' hC; go_simp; exact fix_value (P := Tryd.prog) (C := fun W' => Below W.heap.size W W') hC)
    simp only [Act.put, List.setIfInBounds_toArray, List.set_cons_zero, List.set_cons_succ]
    refine WF_stepG (.bool (!d)) (fun W' hC => ?_) (by kernel_rfl) ?_
    · go_simp
      refine fix_enter ((jcontainsf_any h8 l _ Rd hl _ (HJD.out.later hC) (CELLS.out W' hC).2.1 (HND.out.later hC.size (fun k h1 _ => hC.block k h1))).mono ?_)
      rintro e w' ⟨rfl, rfl⟩
      exact ⟨by rw [HD.out], hC⟩
    simp only [Act.put, List.setIfInBounds_toArray, List.set_cons_zero, List.set_cons_succ]
    refine WF_stepG ?_ (fun W' hC => ?_) (by kernel_rfl) ?_
    rotate_left
    · (obtain ⟨z0, z1, z2, z3⟩ := CELLS.out W' hC; go_simp; exact fix_value (P := Tryd.prog) (C := fun W' => Below W.heap.size W W') hC)
    simp only [Act.put, List.setIfInBounds_toArray, List.set_cons_zero, List.set_cons_succ]
    refine WF_step ?_ (fun W' hC => ?_) rfl ?_
    rotate_left
    · (obtain ⟨z0, z1, z2, z3⟩ := CELLS.out W' hC; go_simp; exact fix_value (P := Tryd.prog) (C := fun W' => Below W.heap.size W W') hC)
    simp only [Act.put, List.setIfInBounds_toArray, List.set_cons_zero, List.set_cons_succ]
    refine WF_nil ?_
    intro W' hC
    have HC := Lib.hid hC
    clear hC
    go_wp2
    go_ret
    exact ⟨by simp, HBW.out.trans (HC.out.mono HBW.out.size)⟩
  · have hnni : ¬ (n : Int) = (nw : Int) := by omega
    have hnb : (((n : Int)) == ((nw : Int))) = false := beq_eq_false_iff_ne.2 hnni
    have hnd : decide ((n : Int) = (nw : Int)) = false := decide_eq_false hnni
    iterate 10
      refine WF_step ?_ (fun W' hC => ?_) rfl ?_
      rotate_left
      · (obtain ⟨z0, z1, z2, z3⟩ := CELLS.out W' hC; go_simp; exact fix_value (P := Tryd.prog) (C := fun W' => Below W.heap.size W W') hC)
      simp only [Act.put, List.setIfInBounds_toArray, List.set_cons_zero, List.set_cons_succ]
    iterate 4
      refine WF_skip (by kernel_rfl) ?_
      simp only [Act.put, List.setIfInBounds_toArray, List.set_cons_zero, List.set_cons_succ]
    refine WF_step ?_ (fun W' hC => ?_) rfl ?_
    rotate_left
    · (obtain ⟨z0, z1, z2, z3⟩ := CELLS.out W' hC; go_simp; exact fix_value (P := Tryd.prog) (C := fun W' => Below W.heap.size W W') hC)
    simp only [Act.put, List.setIfInBounds_toArray, List.set_cons_zero, List.set_cons_succ]
    refine WF_nil ?_
    intro W' hC
    have HC := Lib.hid hC
    clear hC
    go_wp2
    go_ret
    exact ⟨by simp [hnn], HBW.out.trans (HC.out.mono HBW.out.size)⟩
end Go.Proofs.YtbmfphiecllggaaDoor

/- What is wrong with a plan: Check. -/
namespace Go.Proofs.YtbmfphiecllggaaDoor
set_option linter.unusedVariables false
set_option linter.unusedSimpArgs false
open Go.RowKit Go.Shelf
attribute [local go_sem] Oper.semAt_some
theorem isPlanC_any (ao : Option Addr) (n cap : Nat) (w : World) :
    Calls Tryd.prog 63 #[.slice ao n cap] w fun e w' => e = .returned (.func (.func 82) #[] #[.pointer (some ⟨w.heap.size, 0, none⟩)]) ∧ w' = w.alloc (.cells #[.slice ao n cap] 32 (0, 0)) := by
  have hmf : ∀ (fn : Fn) (first cap : Array Value) (w : World), (Instr.makeFunc fn first cap).run Tryd.prog w = .ok (.func fn first cap) w := fun _ _ _ _ => rfl
  go_enter Tryd.func63, Tryd.ntmps63
  go_wp2
  go_ret
  exact ⟨rfl, rfl⟩
theorem check_results (t1 t2 : Array Value) (h4 : t1.getD 4 undef = t2.getD 4 undef) (h5 : t1.getD 5 undef = t2.getD 5 undef) (h6 : t1.getD 6 undef = t2.getD 6 undef) : results Tryd.f21 t1 = results Tryd.f21 t2 := by
  have : Tryd.f21.results = #[.tmp 4, .tmp 5, .cell 6 33] := rfl
  unfold results
  rw [this]
  have h4' : t1[4]?.getD undef = t2[4]?.getD undef := by simpa [Array.getD_eq_getD_getElem?] using h4
  have h5' : t1[5]?.getD undef = t2[5]?.getD undef := by simpa [Array.getD_eq_getD_getElem?] using h5
  have h6' : t1[6]?.getD undef = t2[6]?.getD undef := by simpa [Array.getD_eq_getD_getElem?] using h6
  simp [h4', h5', h6']
theorem check_put {R : Ending → World → Prop} {c : List PanicEntry} {d : Nat} {v : Value} {a : Act} {w : World} (h4 : d ≠ 4) (h5 : d ≠ 5) (h6 : d ≠ 6)
    (h : bodyPostD Tryd.prog Tryd.f21 R (.panic c) (a.put (some d) v) w) : bodyPostD Tryd.prog Tryd.f21 R (.panic c) a w := by
  refine Leaves.congr (fun w v hh => ?_) _ _ _ h
  rw [check_results _ a.tmps] at hh
  · exact hh
  · simp [Act.put, Array.getD_eq_getD_getElem?, Array.getElem?_setIfInBounds, h4]
  · simp [Act.put, Array.getD_eq_getD_getElem?, Array.getElem?_setIfInBounds, h5]
  · simp [Act.put, Array.getD_eq_getD_getElem?, Array.getElem?_setIfInBounds, h6]
theorem check_some {j : JobD} {l : List Int} {x : Nat × Int} (he : errD j (isPlanD j l) = 0) (h : wrongJ (rightsD j) 0 0 l = some x) : checkD j l = (((x.1 : Int), x.2), 0) := by
  unfold checkD
  rw [he, if_neg (by decide), h]
theorem wrong_in {R : List (List Nat)} {i used s : Nat} {l : List Int} (h : s ∉ R.getD i []) : wrongJ R i used ((s : Int) :: l) = some (i, 1) := by
  rw [wrongJ, if_pos (by rw [Int.toNat_natCast]; exact h)]
theorem wrong_twice {R : List (List Nat)} {i used s : Nat} {l : List Int} (h : s ∈ R.getD i []) (hz : s &&& used ≠ 0) : wrongJ R i used ((s : Int) :: l) = some (i, 2) := by
  rw [wrongJ, if_neg (by rw [Int.toNat_natCast]; exact fun hn => hn h), if_pos (by rw [Int.toNat_natCast]; exact hz)]
theorem wrong_on {R : List (List Nat)} {i used s : Nat} {l : List Int} (h : s ∈ R.getD i []) (hz : s &&& used = 0) : wrongJ R i used ((s : Int) :: l) = wrongJ R (i + 1) (used ||| s) l := by
  rw [wrongJ, if_neg (by rw [Int.toNat_natCast]; exact fun hn => hn h), if_neg (by rw [Int.toNat_natCast]; exact fun hn => hn hz), Int.toNat_natCast]
set_option maxRecDepth 100000 in
set_option maxHeartbeats 8000000 in
theorem Check_any (j : JobD) (bs ws : Value) (l : List Int) (lv : Value) (w : World) (hbs : SpansAt w bs j.st.bs (fun k => k < w.heap.size)) (hws : SpansAt w ws j.ws (fun k => k < w.heap.size)) (hlv : NumsAt w lv l (fun k => k < w.heap.size)) (hll : l.length ≤ 1000) :
    Calls Tryd.prog 21 #[jobV j bs ws, lv] w fun e w' => e = .returned (.tuple #[.int .i64 (checkD j l).1.1, .int .i64 (checkD j l).1.2, .int .i64 (checkD j l).2]) ∧ Below w.heap.size w w' := by
  have HLV := Lib.hid hlv
  obtain ⟨ao3, cap3, hv3, _⟩ := id hlv
  subst hv3
  obtain ⟨n, hn⟩ : ∃ n, n = l.length := ⟨_, rfl⟩
  rw [← hn] at HLV ⊢
  have HN := Lib.hid hn
  clear hlv hn
  have HBS := Lib.hid hbs
  have HWS := Lib.hid hws
  obtain ⟨ao, cap, hv1, _⟩ := id hbs
  obtain ⟨ao2, cap2, hv2, _⟩ := id hws
  subst hv1 hv2
  obtain ⟨nb, hnb⟩ : ∃ n, n = j.st.bs.length := ⟨_, rfl⟩
  obtain ⟨nw, hnw⟩ : ∃ n, n = j.ws.length := ⟨_, rfl⟩
  rw [← hnb] at HBS
  rw [← hnw] at HWS
  unfold jobV
  rw [← hnb, ← hnw]
  have HNB := Lib.hid hnb
  have HNW := Lib.hid hnw
  clear hbs hws hnb hnw
  go_enter_defers Tryd.func21, Tryd.ntmps21
  go_wp2_with fail
  refine wp_name (fun W => W.heap[w.heap.size]? = some (.cells #[.slice ao nb cap, .int .i64 j.st.film.1, .int .i64 j.st.film.2, .slice ao2 nw cap2] 28 (0, 0)) ∧ W.heap[w.heap.size + 1]? = some (.cells #[.int .i64 0] 33 (0, 0)) ∧ Below w.heap.size w W) ⟨(by repeat (first | (refine heap_alloc_at _ _ _ ?_; (simp <;> omega); done) | (refine (hget_old _ _ _ ?_).trans ?_; · (simp <;> omega)))), (by repeat (first | (refine heap_alloc_at _ _ _ ?_; (simp <;> omega); done) | (refine (hget_old _ _ _ ?_).trans ?_; · (simp <;> omega)))), ((Below.refl _ _).alloc (Nat.le_refl _) _).alloc (by simp) _⟩ ?_
  rintro W0 ⟨hx0, he0, hb0⟩
  refine wp_region_held_drew (S := fun W => W.heap[w.heap.size]? = some (.cells #[.slice ao nb cap, .int .i64 j.st.film.1, .int .i64 j.st.film.2, .slice ao2 nw cap2] 28 (0, 0))) (by kernel_rfl) hx0 fun hS => ?_
  refine wpAnyH_take (i := 0) (v := ?_) rfl (by kernel_rfl) (by kernel_rfl) (by kernel_rfl) (fun c a w h => check_put (by decide) (by decide) (by decide) h) (Or.inl ⟨by rfl, ?_⟩) hS ?_
  rotate_left
  · intro W hSw
    have s0 : W.cell? ⟨w.heap.size, 0, none⟩ = some (.slice ao nb cap) := by rw [cell_of_row _ _ _ _ _ _ hSw]; rfl
    have s1 : W.cell? ⟨w.heap.size, 1, none⟩ = some (.int .i64 j.st.film.1) := by rw [cell_of_row _ _ _ _ _ _ hSw]; rfl
    have s2 : W.cell? ⟨w.heap.size, 2, none⟩ = some (.int .i64 j.st.film.2) := by rw [cell_of_row _ _ _ _ _ _ hSw]; rfl
    have s3 : W.cell? ⟨w.heap.size, 3, none⟩ = some (.slice ao2 nw cap2) := by rw [cell_of_row _ _ _ _ _ _ hSw]; rfl
    go_simp
    try with_reducible rfl
  try simp only [List.getElem_toArray, List.getElem_cons_succ, List.getElem_cons_zero, Act.put, List.setIfInBounds_toArray, List.set_cons_zero, List.set_cons_succ]
  refine wpAnyH_take (i := 1) (v := ?_) rfl (by kernel_rfl) (by kernel_rfl) (by kernel_rfl) (fun c a w h => check_put (by decide) (by decide) (by decide) h) (Or.inl ⟨by rfl, ?_⟩) hS ?_
  rotate_left
  · intro W hSw
    have s0 : W.cell? ⟨w.heap.size, 0, none⟩ = some (.slice ao nb cap) := by rw [cell_of_row _ _ _ _ _ _ hSw]; rfl
    have s1 : W.cell? ⟨w.heap.size, 1, none⟩ = some (.int .i64 j.st.film.1) := by rw [cell_of_row _ _ _ _ _ _ hSw]; rfl
    have s2 : W.cell? ⟨w.heap.size, 2, none⟩ = some (.int .i64 j.st.film.2) := by rw [cell_of_row _ _ _ _ _ _ hSw]; rfl
    have s3 : W.cell? ⟨w.heap.size, 3, none⟩ = some (.slice ao2 nw cap2) := by rw [cell_of_row _ _ _ _ _ _ hSw]; rfl
    go_simp
    try with_reducible rfl
  try simp only [List.getElem_toArray, List.getElem_cons_succ, List.getElem_cons_zero, Act.put, List.setIfInBounds_toArray, List.set_cons_zero, List.set_cons_succ]
  obtain ⟨W1, hW1⟩ : ∃ W, W = W0.drew := ⟨_, rfl⟩
  have he1 : W1.heap[w.heap.size + 1]? = some (.cells #[.int .i64 0] 33 (0, 0)) := by rw [hW1]; exact he0
  have hb1 : Below w.heap.size w W1 := by rw [hW1]; exact hb0.drew
  rw [← hW1] at hS ⊢
  clear hW1 hx0 he0 hb0 W0
  refine wpAnyH_call (k := 2) (by kernel_rfl) rfl rfl (f := 63) (args := #[.slice ao3 n cap3]) (by simp [execOp, go_sem, Act.eval, Act.put]) ?_
  refine (isPlanC_any ao3 n cap3 _).mono ?_
  rintro e w1 ⟨rfl, hw1⟩
  dsimp only
  have hlb : w1.heap[W1.heap.size]? = some (.cells #[.slice ao3 n cap3] 32 (0, 0)) := by rw [hw1]; exact heap_alloc_at _ _ _ rfl
  have hb11 : Below W1.heap.size W1 w1 := by rw [hw1]; exact Below.alloc' _ _
  have hbw1 : Below w.heap.size w w1 := hb1.trans (hb11.mono hb1.size)
  have hx1 := (hb11.block _ (lt_of_block hS)).trans hS
  have he11 := (hb11.block _ (lt_of_block he1)).trans he1
  have hsw1 : W1.heap.size < w1.heap.size := lt_of_block hlb
  clear hw1 hS he1 hb11
  refine ⟨hx1, ?_⟩
  try simp only [List.getElem_toArray, List.getElem_cons_succ, List.getElem_cons_zero, Act.put, List.setIfInBounds_toArray, List.set_cons_zero, List.set_cons_succ]
  refine wpAnyH_call (k := 3) (by kernel_rfl) rfl rfl (f := 47) (args := #[jobV j (.slice ao nb cap) (.slice ao2 nw cap2), .func (.func 82) #[] #[.pointer (some ⟨W1.heap.size, 0, none⟩)]]) (by simp [execOp, go_sem, Act.eval, Act.put, jobV]) ?_
  refine (jopen_any j (.slice ao nb cap) (.slice ao2 nw cap2) 82 #[.pointer (some ⟨W1.heap.size, 0, none⟩)] (isPlanD j l) w1 (by rw [HNB.out] at HBS ⊢; exact (HBS.out.later hbw1.size (fun k h1 h2 => hbw1.block k h1)).low) (by rw [HNW.out] at HWS ⊢; exact (HWS.out.later hbw1.size (fun k h1 h2 => hbw1.block k h1)).low) (enters_of Tryd.func82 (by kernel_rfl) rfl)
    (fun hv W pp mp hjo hb => isPlanF_any (validSt_parts (validJb_parts hv).1).1 l (.slice ao3 n cap3) (fun k => k < w.heap.size) hll W hjo (by rw [cell_of_row _ _ _ _ _ _ ((hb.block _ hsw1).trans hlb)]; rfl) (by rw [HN.out] at HLV ⊢; exact HLV.out.later (by have := hb.size; have := hbw1.size; omega) (fun k h1 _ => (hb.block k (by have := hbw1.size; omega)).trans (hbw1.block k h1))))).mono ?_
  rintro e w2 ⟨hb2, hres⟩
  have he2 := (hb2.block _ (lt_of_block he11)).trans he11
  have hx2 := (hb2.block _ (lt_of_block hx1)).trans hx1
  have hbw2 := hbw1.trans (hb2.mono hbw1.size)
  have hs1 := hbw1.size
  have HE2 := Lib.hid he2
  have HB2 := Lib.hid hbw2
  have HX2 := Lib.hid hx2
  rcases hres with ⟨hne, rfl⟩ | ⟨hez, pp, mp, r, rfl, hj, hm⟩
  · clear hb2 he2 hbw2 hx2 hlb hx1 he11 hbw1
    obtain ⟨er, her⟩ : ∃ x, x = errD j (isPlanD j l) := ⟨_, rfl⟩
    rw [← her] at hne ⊢
    dsimp only
    refine jleaf_stop er (w.heap.size + 1) 0 _ w2 HE2.out (fun W' hkE heE => ?_)
    have e9 : W'.cell? ⟨w.heap.size + 1, 0, none⟩ = some (.int .i64 er) := by rw [cell_of_row _ _ _ _ _ _ heE]; rfl
    have hval : checkD j l = (((0 : Int), (0 : Int)), er) := by unfold checkD; rw [← her, if_pos hne]
    exact ⟨_, by simp [results, Tryd.results21, go_sem, e9, Act.put]; rfl, by rw [hval], HB2.out.trans (hkE.below HB2.out.size (fun k h e => by omega))⟩
  · dsimp only
    refine ⟨hx2, ?_⟩
    have hv := (errD_valid hez).1
    have hip := (errD_valid hez).2
    have HV := Lib.hid hv
    have HIP := Lib.hid hip
    have HEZ := Lib.hid hez
    have HJ := Lib.hid hj
    have hs12 := hb2.size
    have hlm := hj.o.lm
    have hlp := hj.o.lp
    clear hb2 he2 hbw2 hlb hx1 he11 hbw1 hv hip hez hj hm
    try simp only [List.getElem_toArray, List.getElem_cons_succ, List.getElem_cons_zero, Act.put, List.setIfInBounds_toArray, List.set_cons_zero, List.set_cons_succ]
    refine wpAnyH_value (k := 4) (v := .pointer (some ⟨pp, 0, none⟩)) (w' := w2) (by kernel_rfl) rfl rfl rfl hx2 ?_
    clear hx2
    refine wpAnyH_done (by kernel_rfl) ?_ _
    try simp only [List.getElem_toArray, List.getElem_cons_succ, List.getElem_cons_zero, Act.put, List.setIfInBounds_toArray, List.set_cons_zero, List.set_cons_succ]
    have hlen : n = nw ∧ okL j.st l = true := by
      have h1 := HIP.out
      unfold isPlanD at h1
      rw [Bool.and_eq_true, decide_eq_true_eq] at h1
      exact ⟨by rw [HN.out, HNW.out]; exact h1.1, h1.2⟩
    obtain ⟨rfl, hok⟩ := hlen
    have HOK := Lib.hid hok
    have hn4 : n ≤ 4 := by rw [HNW.out]; exact (validJb_parts HV.out).2.1
    have hnb8 : nb ≤ 8 := by rw [HNB.out]; exact (validSt_parts (validJb_parts HV.out).1).1
    clear hok
    go_wp2_with fail
    go_loopw [8, 18] (fun uv iv wr => ∃ i used : Nat, i ≤ n ∧ iv = .int .i64 i ∧ uv = .int .u64 used ∧ used < 2 ^ nb ∧ wrongJ (rightsD j) 0 0 l = wrongJ (rightsD j) i used (l.drop i) ∧ Below w2.heap.size w2 wr) (fun _ iv _ => n - (intOf iv).toNat)
    case atStart => exact ⟨0, 0, Nat.zero_le _, rfl, rfl, Nat.two_pow_pos _, rfl, Below.refl _ _⟩
    case round =>
      obtain ⟨i, used, hi, rfl, rfl, hus, hwr, hb⟩ := hrel
      have HWR := Lib.hid hwr
      have HBR := Lib.hid hb
      clear hwr hb
      have he3 := (HBR.out.block _ (lt_of_block HE2.out)).trans HE2.out
      have hbw3 := HB2.out.trans (HBR.out.mono HB2.out.size)
      have HE3 := Lib.hid he3
      have HB3 := Lib.hid hbw3
      have hc3 : wr.cell? ⟨w.heap.size + 1, 0, none⟩ = some (.int .i64 0) := by rw [cell_of_row _ _ _ _ _ _ he3]; rfl
      have hf3 : wr.frozen? ⟨w.heap.size + 1, 0, none⟩ = false := frozen_of_row _ _ 0 _ _ he3
      clear he3 hbw3
      by_cases hlt : i < n
      · have hw : IntKind.i64.wrap ((i : Int) + 1) = ((i + 1 : Nat) : Int) := by rw [IntWalk.i64_in _ (by omega)]; omega
        have hlti : (i : Int) < (n : Int) := by omega
        obtain ⟨ao3', cap3', hv', _, _, hel⟩ := HLV.out
        injection hv' with ha hb hc
        subst ha hc
        clear hb
        obtain ⟨b, off, rfl, hbw, _, e1⟩ := hel i (by rw [← HN.out]; exact hlt)
        have hbb : Below w.heap.size w wr := HB3.out
        have e1 := (World.cell?_of_block (w := w) (w' := wr) (a := ⟨b, off + i, none⟩) (hbb.block b hbw)).trans e1
        obtain ⟨s, hs, hs1, hs2⟩ : ∃ s : Nat, l[i]'(by rw [← HN.out]; exact hlt) = (s : Int) ∧ 1 ≤ s ∧ s < 2 ^ nb := by
          have hok := HOK.out
          unfold okL at hok
          have h1 := List.all_eq_true.1 hok _ (List.getElem_mem (l := l) (n := i) (by rw [← HN.out]; exact hlt))
          unfold isSetS at h1
          simp only [Bool.and_eq_true, decide_eq_true_eq] at h1
          have h2 : ((2 ^ nb : Nat) : Int) = (2 : Int) ^ j.st.bs.length := by rw [HNB.out]; simp
          exact ⟨(l[i]'(by rw [← HN.out]; exact hlt)).toNat, by omega, by omega, by omega⟩
        rw [hs] at e1
        have hp8 : 2 ^ nb ≤ 256 := Nat.pow_le_pow_right (by decide) hnb8
        have hdrop : l.drop i = (s : Int) :: l.drop (i + 1) := by rw [← hs]; exact (List.getElem_cons_drop (h := by rw [← HN.out]; exact hlt)).symm
        have HD := Lib.hid hdrop
        clear hs hdrop hel hbb
        have hcv : IntKind.u64.wrap (s : Int) = (s : Int) := IntWalk.u64_in _ (by omega)
        obtain ⟨L, hL⟩ : ∃ L, L = (rightsD j).getD i [] := ⟨_, rfl⟩
        have hset := (HJ.out.right i (by omega)).later (W' := wr) (by have := HBR.out.size; omega) (fun k h1 h2 => HBR.out.block k h1)
        rw [← hL] at hset
        obtain ⟨aor, capr, hrv, _⟩ := id hset
        have hpo := (HBR.out.block pp (lt_of_block HJ.out.o.obj)).trans HJ.out.o.obj
        have d4 : wr.cell? ⟨pp, 4 + i, none⟩ = some (.slice aor L.length capr) := by
          rw [cell_of_row _ _ _ _ _ _ hpo, ← hrv]
          have hc : i = 0 ∨ i = 1 ∨ i = 2 ∨ i = 3 := by omega
          rcases hc with rfl | rfl | rfl | rfl <;> rfl
        rw [hrv] at hset
        have hl256 : L.length ≤ 1000 := by rw [hL]; have := rights_len HV.out i; omega
        obtain ⟨nl, hnl⟩ : ∃ n, n = L.length := ⟨_, rfl⟩
        rw [← hnl] at d4 hset
        have HSET := Lib.hid hset
        have HL := Lib.hid hL
        have HPO := Lib.hid hpo
        have hi4 : (i : Int) < 4 := by omega
        clear hset hL hpo hrv hnl
        go_wp2_with fail
        refine (jcontains_any L _ (fun k => k ≠ mp) s hl256 _ HSET.out).mono ?_
        rintro e w' ⟨rfl, rfl⟩
        dsimp only
        by_cases hmem : s ∈ L
        · rw [decide_eq_true hmem]
          go_wp2_with fail
          refine (japart2_any s used (by omega) (by omega) _).mono ?_
          rintro e w' ⟨rfl, rfl⟩
          dsimp only
          have HM := Lib.hid hmem
          by_cases hz : s &&& used = 0
          · rw [decide_eq_true hz]
            go_wp2_with fail
            refine (junion_any used s wr.heap.size (by omega) (by omega) _ (by rw [cell_of_row _ _ _ _ _ _ (heap_alloc_at _ _ _ rfl)]; rfl) (by rw [cell_of_row _ _ _ _ _ _ (heap_alloc_at _ _ _ rfl)]; rfl)).mono ?_
            rintro e w' ⟨rfl, rfl⟩
            dsimp only
            go_wp2_with fail
            refine ⟨⟨i + 1, used ||| s, hlt, by push_cast; rfl, rfl, Nat.or_lt_two_pow hus hs2, ?_, HBR.out.alloc HBR.out.size _⟩, by simp [intOf]; omega⟩
            rw [HWR.out, HD.out]
            exact wrong_on (by rw [← HL.out]; exact HM.out) hz
          · rw [decide_eq_false hz]
            go_wp2_with fail
            have e9 := err_set (y := 0) HE3.out
            have hval : checkD j l = (((i : Int), (2 : Int)), 0) := check_some (x := (i, 2)) HEZ.out (by rw [HWR.out, HD.out]; exact wrong_twice (by rw [← HL.out]; exact HM.out) hz)
            exact jleaf_ret (w.heap.size + 1) _ _ ⟨_, by simp [results, Tryd.results21, go_sem, e9]; rfl, by rw [hval], HB3.out.trans ((Keeps.setCell (Mut := fun k => k = w.heap.size + 1) _ _ _ rfl).below HB3.out.size (fun k h e => by omega))⟩
        · rw [decide_eq_false hmem]
          have HM := Lib.hid hmem
          go_wp2_with fail
          have e9 := err_set (y := 0) HE3.out
          have hval : checkD j l = (((i : Int), (1 : Int)), 0) := check_some (x := (i, 1)) HEZ.out (by rw [HWR.out, HD.out]; exact wrong_in (by rw [← HL.out]; exact HM.out))
          exact jleaf_ret (w.heap.size + 1) _ _ ⟨_, by simp [results, Tryd.results21, go_sem, e9]; rfl, by rw [hval], HB3.out.trans ((Keeps.setCell (Mut := fun k => k = w.heap.size + 1) _ _ _ rfl).below HB3.out.size (fun k h e => by omega))⟩
      · obtain rfl : i = n := by omega
        have hlti : ¬ (i : Int) < (i : Int) := by omega
        go_wp2_with fail
        have e9 := err_set (y := 4) HE3.out
        have hval : checkD j l = (((0 : Int), (0 : Int)), 4) := by
          unfold checkD
          rw [HEZ.out, HWR.out, HN.out, List.drop_of_length_le (Nat.le_refl _)]; rfl
        exact jleaf_ret (w.heap.size + 1) _ _ ⟨_, by simp [results, Tryd.results21, go_sem, e9]; rfl, by rw [hval], HB3.out.trans ((Keeps.setCell (Mut := fun k => k = w.heap.size + 1) _ _ _ rfl).below HB3.out.size (fun k h e => by omega))⟩
end Go.Proofs.YtbmfphiecllggaaDoor

/- The stable sort, in plain words: lists of numbers that come in order, sorted by a strict total order. -/
namespace Go.Proofs.YtbmfphiecllggaaDoor
set_option linter.unusedVariables false
set_option linter.unusedSimpArgs false

namespace Stab
/-- A strict total order. -/
structure STO (lt : Nat → Nat → Prop) : Prop where
  irr : ∀ x, ¬ lt x x
  tr : ∀ {x y z}, lt x y → lt y z → lt x z
  tot : ∀ {x y}, x ≠ y → lt x y ∨ lt y x

variable {lt : Nat → Nat → Prop}
theorem STO.not (h : STO lt) {x y : Nat} (hn : x ≠ y) (h1 : ¬ lt x y) : lt y x := (h.tot hn).resolve_left h1
theorem STO.asymm (h : STO lt) {x y : Nat} (h1 : lt x y) : ¬ lt y x := fun h2 => h.irr x (h.tr h1 h2)

/-- Two elements of a list change places. -/
def swp (l : List Nat) (i j : Nat) : List Nat := (l.set i (l.getD j 0)).set j (l.getD i 0)
theorem getD_mid (a c : List Nat) (x : Nat) : (a ++ x :: c).getD a.length 0 = x := by simp [List.getD]
theorem set_mid (a c : List Nat) (x y : Nat) : (a ++ x :: c).set a.length y = a ++ y :: c := by simp
theorem swp_two (a b c : List Nat) (x y : Nat) : swp (a ++ x :: b ++ y :: c) a.length (a.length + b.length + 1) = a ++ y :: b ++ x :: c := by
  have h1 : (a ++ x :: b ++ y :: c).getD a.length 0 = x := by rw [List.append_assoc, List.cons_append]; exact getD_mid a _ x
  have h2 : (a ++ x :: b ++ y :: c).getD (a.length + b.length + 1) 0 = y := by
    have := getD_mid (a ++ x :: b) c y
    rwa [List.length_append, List.length_cons, ← Nat.add_assoc] at this
  unfold swp
  rw [h1, h2]
  have h3 : (a ++ x :: b ++ y :: c).set a.length y = a ++ y :: b ++ y :: c := by
    rw [List.append_assoc, List.cons_append, set_mid, List.append_assoc, List.cons_append]
  rw [h3]
  have := set_mid (a ++ y :: b) c y x
  rwa [List.length_append, List.length_cons, ← Nat.add_assoc] at this
theorem swp_comm (l : List Nat) (i j : Nat) (hi : i < l.length) (hj : j < l.length) : swp l i j = swp l j i := by
  unfold swp
  by_cases h : i = j
  · subst h; rfl
  · rw [List.set_comm _ _ h]
/-- Next to each other. -/
theorem swp_next (a c : List Nat) (x y : Nat) : swp (a ++ x :: y :: c) a.length (a.length + 1) = a ++ y :: x :: c := by
  have := swp_two a [] c x y
  simpa using this

/-- All of one list come before all of another one. -/
def Bef (lt : Nat → Nat → Prop) (l r : List Nat) : Prop := ∀ x ∈ l, ∀ y ∈ r, lt x y
/-- A list is sorted. -/
def Srt (lt : Nat → Nat → Prop) (l : List Nat) : Prop := l.Pairwise lt
theorem Srt.append {l r : List Nat} : Srt lt (l ++ r) ↔ Srt lt l ∧ Srt lt r ∧ Bef lt l r := by
  unfold Srt Bef
  rw [List.pairwise_append]
/-- A sorted list of the same elements is the same. -/
theorem srt_unique (ho : STO lt) : ∀ {l r : List Nat}, Srt lt l → Srt lt r → l.Perm r → l = r
  | [], r, _, _, h => (List.nil_perm.1 h).symm
  | x :: l, r, hl, hr, h => by
    cases r with
    | nil => exact absurd h.length_eq (by simp)
    | cons y r =>
      have hxy : x = y := by
        by_cases e : x = y
        · exact e
        · have hx : x ∈ y :: r := h.mem_iff.1 (by simp)
          have hy : y ∈ x :: l := h.mem_iff.2 (by simp)
          have e1 : x ∈ r := by rcases List.mem_cons.1 hx with k | k; exact absurd k e; exact k
          have e2 : y ∈ l := by rcases List.mem_cons.1 hy with k | k; exact absurd k.symm e; exact k
          exact absurd ((List.pairwise_cons.1 hr).1 x e1) (ho.asymm ((List.pairwise_cons.1 hl).1 y e2))
      subst hxy
      rw [srt_unique ho (List.pairwise_cons.1 hl).2 (List.pairwise_cons.1 hr).2 (List.perm_cons x |>.1 h)]
/-! ### the rounds of the loops -/
/-- One element that goes through others. -/
def mv (pre : List Nat) (x : Nat) (S post : List Nat) (j : Nat) : List Nat := pre ++ S.take j ++ x :: (S.drop j ++ post)
theorem mv_all (pre : List Nat) (x : Nat) (S post : List Nat) : mv pre x S post S.length = pre ++ S ++ x :: post := by simp [mv]
theorem mv_back (pre : List Nat) (x : Nat) (S post : List Nat) (j : Nat) (hj : j < S.length) : swp (mv pre x S post (j + 1)) (pre.length + j + 1) (pre.length + j) = mv pre x S post j := by
  have e2 := swp_next (pre ++ S.take j) (S.drop (j + 1) ++ post) S[j] x
  rw [show (pre ++ S.take j).length = pre.length + j by simp; omega] at e2
  have hl : mv pre x S post (j + 1) = (pre ++ S.take j) ++ S[j] :: x :: (S.drop (j + 1) ++ post) := by
    unfold mv; rw [List.take_succ_eq_append_getElem hj]; simp only [List.append_assoc, List.cons_append, List.nil_append]
  rw [hl, swp_comm _ _ _ (by simp; omega) (by simp; omega), e2]
  unfold mv
  rw [List.drop_eq_getElem_cons hj]; simp only [List.append_assoc, List.cons_append, List.nil_append]
theorem mv_at (pre : List Nat) (x : Nat) (S post : List Nat) (j : Nat) (hj : j ≤ S.length) : (mv pre x S post j)[pre.length + j]? = some x := by
  unfold mv
  rw [List.getElem?_append_right (by simp; omega)]
  rw [show pre.length + j - (pre ++ S.take j).length = 0 by simp; omega]; rfl
theorem mv_before (pre : List Nat) (x : Nat) (S post : List Nat) (j : Nat) (hj : j < S.length) : (mv pre x S post (j + 1))[pre.length + j]? = some S[j] := by
  unfold mv
  rw [List.append_assoc, List.getElem?_append_right (by omega), List.getElem?_append_left (by simp; omega)]
  rw [show pre.length + j - pre.length = j by omega, List.getElem?_take_of_lt (by omega), List.getElem?_eq_getElem hj]
/-- Put where it belongs. -/
theorem srt_put (ho : STO lt) {S : List Nat} (hs : Srt lt S) {x : Nat} {j : Nat} (hj : j ≤ S.length) (hgt : ∀ y ∈ S.drop j, lt x y) (hlt : ∀ y ∈ S.take j, lt y x) : Srt lt (S.take j ++ x :: S.drop j) := by
  have h := Srt.append.1 ((List.take_append_drop j S).symm ▸ hs : Srt lt (S.take j ++ S.drop j))
  exact Srt.append.2 ⟨h.1, List.pairwise_cons.2 ⟨hgt, h.2.1⟩, fun y hy z hz => by
    rcases List.mem_cons.1 hz with rfl | hz
    · exact hlt y hy
    · exact h.2.2 y hy z hz⟩
theorem srt_below (ho : STO lt) {S : List Nat} (hs : Srt lt S) {x : Nat} {j : Nat} (hj : j < S.length) (h : lt S[j] x) : ∀ y ∈ S.take (j + 1), lt y x := by
  intro y hy
  rw [List.take_succ_eq_append_getElem hj] at hy
  have hs' : Srt lt (S.take j ++ S.drop j) := (List.take_append_drop j S).symm ▸ hs
  rw [List.drop_eq_getElem_cons hj] at hs'
  rcases List.mem_append.1 hy with k | k
  · exact ho.tr ((Srt.append.1 hs').2.2 y k S[j] (List.mem_cons_self ..)) h
  · rw [List.mem_singleton.1 k]; exact h
theorem srt_above (ho : STO lt) {S : List Nat} (hs : Srt lt S) {x : Nat} {j : Nat} (hj : j < S.length) (h : lt x S[j]) : ∀ y ∈ S.drop j, lt x y := by
  intro y hy
  have hs' : Srt lt (S.take j ++ S.drop j) := (List.take_append_drop j S).symm ▸ hs
  rw [List.drop_eq_getElem_cons hj] at hs' hy
  rcases List.mem_cons.1 hy with rfl | k
  · exact h
  · exact ho.tr h ((List.pairwise_cons.1 (Srt.append.1 hs').2.1).1 y k)
/-! ### blocks -/
/-- Numbers of one list are below those of another one. -/
def Nb (l r : List Nat) : Prop := ∀ x ∈ l, ∀ y ∈ r, x < y
/-- Sorted blocks of one size, the last one of no more. -/
inductive Ch (lt : Nat → Nat → Prop) (bs : Nat) : List Nat → Prop
  | last (B : List Nat) : B.length ≤ bs → Srt lt B → Ch lt bs B
  | more (B T : List Nat) : B.length = bs → Srt lt B → Nb B T → Ch lt bs T → Ch lt bs (B ++ T)
end Stab

end Go.Proofs.YtbmfphiecllggaaDoor

/- The stable sort of sets, walked: one block. -/
namespace Go.Proofs.YtbmfphiecllggaaDoor
set_option linter.unusedVariables false
set_option linter.unusedSimpArgs false
open Go.RowKit Go.Shelf
attribute [local go_sem] Oper.semAt_some
open Stab

/-- A row that holds numbers. -/
def RowL (blk : Nat) (l : List Nat) (W : World) : Prop := ∃ cs : Array Value, W.heap[blk]? = some (.cells cs 79 (0, 0)) ∧ ∀ i x : Nat, l[i]? = some x → cs[i]? = some (Value.int .u64 (x : Int))
section
variable {blk : Nat} {l : List Nat} {W W' : World}
theorem RowL.cell (h : RowL blk l W) {i x : Nat} (hx : l[i]? = some x) : W.cell? ⟨blk, i, none⟩ = some (.int .u64 (x : Int)) := by
  obtain ⟨cs, h1, h2⟩ := h
  rw [cell_of_row _ _ _ _ _ _ h1]
  exact h2 i x hx
theorem RowL.frozen (h : RowL blk l W) (k : Nat) : W.frozen? ⟨blk, k, none⟩ = false := by
  obtain ⟨cs, h1, _⟩ := h
  exact frozen_of_row _ _ k _ _ h1
theorem RowL.lt (h : RowL blk l W) : blk < W.heap.size := by
  obtain ⟨cs, h1, _⟩ := h
  exact lt_of_block h1
theorem RowL.block (h : RowL blk l W) (e : W'.heap[blk]? = W.heap[blk]?) : RowL blk l W' := by
  obtain ⟨cs, h1, h2⟩ := h
  exact ⟨cs, e.trans h1, h2⟩
theorem RowL.later (h : RowL blk l W) (hb : Below W.heap.size W W') : RowL blk l W' := h.block (hb.block _ h.lt)
theorem RowL.drew (h : RowL blk l W) : RowL blk l W.drew := h
theorem RowL.drewN (h : RowL blk l W) (n : Nat) : RowL blk l (W.drewN n) := h
theorem RowL.set (h : RowL blk l W) {i x : Nat} (hx : l[i]? = some x) (y : Nat) : RowL blk (l.set i y) (W.setCell ⟨blk, i, none⟩ (.int .u64 (y : Int))) := by
  obtain ⟨cs, h1, h2⟩ := h
  have hi := h2 i x hx
  have his : i < cs.size := (Array.getElem?_eq_some_iff.1 hi).1
  refine ⟨cs.setIfInBounds i (.int .u64 (y : Int)), by simp [World.setCell, Array.getElem?_modify, h1], fun j z hz => ?_⟩
  by_cases e : i = j
  · subst e
    rw [List.getElem?_set_self (List.getElem?_eq_some_iff.1 hx).1] at hz
    rw [← Option.some.inj hz]
    simp [his]
  · rw [List.getElem?_set_ne e] at hz
    rw [Array.getElem?_setIfInBounds_ne e]
    exact h2 j z hz
theorem RowL.swap (h : RowL blk l W) {i j x y : Nat} (hi : l[i]? = some x) (hj : l[j]? = some y) :
    RowL blk (swp l i j) ((W.setCell ⟨blk, i, none⟩ (.int .u64 (y : Int))).setCell ⟨blk, j, none⟩ (.int .u64 (x : Int))) := by
  have e1 : l.getD i 0 = x := by simp [List.getD, hi]
  have e2 : l.getD j 0 = y := by simp [List.getD, hj]
  unfold swp
  rw [e1, e2]
  by_cases e : i = j
  · subst e
    have hy : (l.set i y)[i]? = some y := List.getElem?_set_self (List.getElem?_eq_some_iff.1 hi).1
    exact (h.set hi y).set hy x
  · exact (h.set hi y).set (by rw [List.getElem?_set_ne e]; exact hj) x
theorem keeps_two {i j : Nat} {u v : Value} : Keeps (fun k => k = blk) W ((W.setCell ⟨blk, i, none⟩ u).setCell ⟨blk, j, none⟩ v) :=
  (Keeps.setCell (Mut := fun k => k = blk) W ⟨blk, i, none⟩ u rfl).trans (Keeps.setCell (Mut := fun k => k = blk) _ ⟨blk, j, none⟩ v rfl)
end
/-- What a region that lets two places change reads. -/
def S2r (blk i j x y : Nat) (W : World) : Prop := W.cell? ⟨blk, i, none⟩ = some (.int .u64 (x : Int)) ∧ W.cell? ⟨blk, j, none⟩ = some (.int .u64 (y : Int))
/-- What is asked of the comparison: it says which comes first, of two of which the first stands behind the second one; whatever else it does, it turns nothing. -/
structure CmpOk (g : Nat) (cb : Array Value) (cf : Nat → Nat → Int) (lt : Nat → Nat → Prop) (blk : Nat) (l0 : List Nat) (w0 : World) : Prop where
  call : ∀ W, Keeps (fun k => k = blk) w0 W → ∀ x y : Nat, x ∈ l0 → y ∈ l0 → Calls Tryd.prog g (#[.int .u64 (x : Int), .int .u64 (y : Int)] ++ cb) W fun e w' => e = .returned (.int .i64 (cf x y)) ∧ Below W.heap.size W w'
  ord : ∀ x y : Nat, x ∈ l0 → y ∈ l0 → y < x → (cf x y < 0 ↔ lt x y)
  sto : STO lt
  enter : ∀ args w, (callFunc g args).run Tryd.prog w = .ok (.enter g args) w
theorem CmpOk.yes {g : Nat} {cb : Array Value} {cf : Nat → Nat → Int} {lt : Nat → Nat → Prop} {blk : Nat} {l0 : List Nat} {w0 : World} (h : CmpOk g cb cf lt blk l0 w0) {x y : Nat} (hx : x ∈ l0) (hy : y ∈ l0) (hn : y < x) (hc : cf x y < 0) : lt x y := (h.ord x y hx hy hn).1 hc
theorem CmpOk.no {g : Nat} {cb : Array Value} {cf : Nat → Nat → Int} {lt : Nat → Nat → Prop} {blk : Nat} {l0 : List Nat} {w0 : World} (h : CmpOk g cb cf lt blk l0 w0) {x y : Nat} (hx : x ∈ l0) (hy : y ∈ l0) (hn : y < x) (hc : ¬ cf x y < 0) : lt y x :=
  h.sto.not (by omega) (fun k => hc ((h.ord x y hx hy hn).2 k))
theorem RowL.old {blk : Nat} {l : List Nat} {w W W' : World} (h : RowL blk l W) (hb : Below W.heap.size W W') (hk : Keeps (fun k => k = blk) w W) : RowL blk l W' ∧ Keeps (fun k => k = blk) w W' :=
  ⟨h.later hb, hk.trans (Keeps.of_below hb (fun k h1 h2 => by omega))⟩
theorem keeps_belowS {M : Nat → Prop} {w w' : World} (h : Below w.heap.size w w') : Keeps M w w' := ⟨h.os, h.tape, h.output, h.size, fun k hk _ => h.block k hk⟩
theorem below_drewS {n : Nat} {a w : World} (h : Below n a w) (k : Nat) : Below n a (w.drewN k) := ⟨h.os, h.tape, h.output, h.size, h.block⟩
set_option maxRecDepth 100000 in
set_option maxHeartbeats 4000000 in
theorem insertion_any (g : Nat) (cb : Array Value) (cf : Nat → Nat → Int) (lt : Nat → Nat → Prop) (l0 : List Nat) (w0 : World) (blk n cap a b : Nat) (hc : CmpOk g cb cf lt blk l0 w0) (pre X post : List Nat) (hn : n = (pre ++ X ++ post).length) (hs : n < 1099511627776) (w : World) (hk0 : Keeps (fun k => k = blk) w0 w)
    (hr : RowL blk (pre ++ X ++ post) w) (ha : a = pre.length) (hb : b = pre.length + X.length) (hX : X.Pairwise (· < ·)) (hm : ∀ x ∈ X, x ∈ l0) :
    Calls Tryd.prog 107 #[.slice (some ⟨blk, 0, none⟩) n cap, .int .i64 a, .int .i64 b, .func (.func g) #[] cb] w fun e w' => e = .returned (.tuple #[]) ∧ (∃ M, M.Perm X ∧ Srt lt M ∧ RowL blk (pre ++ M ++ post) w') ∧ Keeps (fun k => k = blk) w w' := by
  have hlen : n = pre.length + X.length + post.length := by rw [hn]; simp; omega
  have HR := Lib.hid hr
  have HC := Lib.hid hc
  have HA := Lib.hid ha
  have HBb := Lib.hid hb
  have HN := Lib.hid hlen
  have HX := Lib.hid hX
  have HM := Lib.hid hm
  have HK0 := Lib.hid hk0
  have eg := hc.enter
  have hw0 : IntKind.i64.wrap ((a : Int) + 1) = ((a + 1 : Nat) : Int) := by rw [IntWalk.i64_in _ (by omega)]; omega
  clear hr hc ha hb hlen hX hm hk0 hn
  go_enter Tryd.func107, Tryd.ntmps107
  go_wp2
  clear hw0
  go_loopw [8] (fun iv wr => ∃ (k ik : Nat) (M : List Nat), ik = a + k ∧ 1 ≤ k ∧ (k ≤ X.length ∨ k = 1) ∧ iv = .int .i64 (ik : Int) ∧ M.Perm (X.take k) ∧ Srt lt M ∧ RowL blk (pre ++ M ++ X.drop k ++ post) wr ∧ Keeps (fun k => k = blk) w wr) (fun iv _ => a + X.length + 2 - (intOf iv).toNat)
  case atStart =>
    refine ⟨1, a + 1, X.take 1, rfl, Nat.le_refl _, .inr rfl, rfl, List.Perm.refl _, ?_, ?_, Keeps.refl _ _⟩
    · cases X with
      | nil => exact List.Pairwise.nil
      | cons x X => simp [Srt]
    · rw [List.append_assoc pre, List.take_append_drop]; exact HR.out
  case round =>
    obtain ⟨k, ik, M, hik, hk1, hkx, rfl, hp, hsr, hrow, hk⟩ := hrel
    have HIK := Lib.hid hik
    clear hik
    have HP := Lib.hid hp
    have HS := Lib.hid hsr
    have HW := Lib.hid hrow
    have HK := Lib.hid hk
    clear hp hsr hrow hk
    by_cases hlk : k < X.length
    case neg =>
      have hd2 : ¬ ik < b := by have := HBb.out; have := HA.out; have := HIK.out; omega
      go_wp2
      go_end0
      have h1 := HP.out
      have h2 := HW.out
      rw [List.take_of_length_le (by omega)] at h1
      rw [List.drop_of_length_le (by omega), List.append_nil] at h2
      exact ⟨rfl, ⟨M, h1, HS.out, h2⟩, HK.out⟩
    have hd2 : ik < b := by have := HBb.out; have := HA.out; have := HIK.out; omega
    obtain ⟨x, hx⟩ : ∃ x, x = X[k] := ⟨_, rfl⟩
    have hml : M.length = k := by rw [HP.out.length_eq, List.length_take]; omega
    obtain ⟨rest, hrest⟩ : ∃ r, r = X.drop (k + 1) ++ post := ⟨_, rfl⟩
    have hmv : pre ++ M ++ X.drop k ++ post = mv pre x M rest M.length := by
      rw [mv_all, hrest, hx, List.drop_eq_getElem_cons hlk]; simp only [List.append_assoc, List.cons_append]
    rw [hmv, hml] at HW
    -- what stands ahead is less, as a number
    have hless : ∀ y ∈ M, y < x ∧ y ∈ l0 := fun y hy => by
      have h1 := HP.out.mem_iff.1 hy
      have h2 : (X.take k ++ X.drop k).Pairwise (· < ·) := (List.take_append_drop k X).symm ▸ HX.out
      rw [List.drop_eq_getElem_cons hlk, ← hx] at h2
      exact ⟨(List.pairwise_append.1 h2).2.2 y h1 x (List.mem_cons_self ..), HM.out y (List.mem_of_mem_take h1)⟩
    have hxl : x ∈ l0 := HM.out x (by rw [hx]; exact List.getElem_mem hlk)
    have HLS := Lib.hid hless
    have HML := Lib.hid hml
    have HRE := Lib.hid hrest
    have HXX := Lib.hid hx
    have hwk : IntKind.i64.wrap ((ik : Int) + 1) = ((ik + 1 : Nat) : Int) := by have := HN.out; have := HA.out; have := HIK.out; rw [IntWalk.i64_in _ (by omega)]; omega
    clear hmv hless hml hrest hx
    go_wp2
    go_loopw [9] (fun jv wq => ∃ q jq : Nat, jq = a + q ∧ q ≤ k ∧ jv = .int .i64 (jq : Int) ∧ RowL blk (mv pre x M rest q) wq ∧ (∀ y ∈ M.drop q, lt x y) ∧ Keeps (fun k => k = blk) w wq) (fun jv _ => (intOf jv).toNat)
    case atStart => exact ⟨k, ik, HIK.out, Nat.le_refl _, rfl, HW.out, (fun y hy => by rw [List.drop_of_length_le (by rw [HML.out]; exact Nat.le_refl _)] at hy; cases hy), HK.out⟩
    case round =>
      clear HW HK
      obtain ⟨q, jq, hjq, hqk, rfl, hrow, hgt, hk⟩ := hrel
      have HJQ := Lib.hid hjq
      have HW := Lib.hid hrow
      have HK := Lib.hid hk
      have HGT := Lib.hid hgt
      clear hjq hrow hk hgt
      have HOUT : ∀ W, RowL blk (mv pre x M rest q) W → (∀ y ∈ M.take q, lt y x) → Keeps (fun k => k = blk) w W → ∃ (k' ik' : Nat) (M' : List Nat), ik' = a + k' ∧ 1 ≤ k' ∧ (k' ≤ X.length ∨ k' = 1) ∧ Value.int .i64 (((ik + 1 : Nat) : Int)) = .int .i64 (ik' : Int) ∧ M'.Perm (X.take k') ∧ Srt lt M' ∧ RowL blk (pre ++ M' ++ X.drop k' ++ post) W ∧ Keeps (fun k => k = blk) w W := fun W h1 h2 h3 => by
        refine ⟨k + 1, ik + 1, M.take q ++ x :: M.drop q, by have := HIK.out; omega, by omega, .inl (by omega), rfl, ?_, srt_put HC.out.sto HS.out (by rw [HML.out]; exact hqk) HGT.out h2, ?_, h3⟩
        · rw [List.take_succ_eq_append_getElem hlk, ← HXX.out]
          have h4 : (M.take q ++ x :: M.drop q).Perm (x :: (M.take q ++ M.drop q)) := List.perm_middle
          rw [List.take_append_drop] at h4
          exact h4.trans ((List.Perm.cons x HP.out).trans (List.perm_append_singleton x _).symm)
        · have h5 := h1
          unfold mv at h5
          rw [HRE.out] at h5
          simpa only [List.append_assoc, List.cons_append] using h5
      have HO := Lib.hid HOUT
      clear HOUT
      rcases Nat.eq_zero_or_pos q with h0 | hq
      · have hj0 : ¬ a < jq := by have := HJQ.out; omega
        go_wp2_with fail
        go_quiet (fail)
        go_wp2
        exact ⟨HO.out _ (HW.out.drewN _) (fun y hy => by rw [h0] at hy; simp at hy) (HK.out.trans (keeps_belowS (below_drewS (Below.refl _ _) _))), by simp [intOf]; have := HIK.out; omega⟩
      · obtain ⟨p, hp⟩ : ∃ p, q = p + 1 := ⟨q - 1, by omega⟩
        subst hp
        obtain ⟨jp, hjp⟩ : ∃ j, j = a + p := ⟨_, rfl⟩
        have hpl : p < M.length := by have := HML.out; omega
        obtain ⟨y, hy⟩ : ∃ y, y = M[p] := ⟨_, rfl⟩
        have e1 := mv_at pre x M rest (p + 1) (by omega)
        have e2 := mv_before pre x M rest p hpl
        have hsw := mv_back pre x M rest p hpl
        rw [← hy] at e2
        rw [← HA.out, show a + (p + 1) = jq by have := HJQ.out; omega] at e1
        rw [← HA.out, ← hjp] at e2
        rw [← HA.out, show a + p + 1 = jq by have := HJQ.out; omega, ← hjp] at hsw
        have hyM : y ∈ M := by rw [hy]; exact List.getElem_mem hpl
        obtain ⟨hyx, hyl⟩ := HLS.out y hyM
        have hj1 : a < jq := by have := HJQ.out; omega
        have hw1 : IntKind.i64.wrap ((jq : Int) - 1) = (jp : Int) := by have := HN.out; have := HA.out; have := HJQ.out; rw [IntWalk.i64_in _ (by omega)]; omega
        have hjn : jq < n := by have := HN.out; have := HA.out; have := HJQ.out; omega
        have hjpn : jp < n := by have := HN.out; have := HA.out; omega
        have hne : jq ≠ jp := by have := HJQ.out; omega
        have c1 := HW.out.cell e1
        have c2 := HW.out.cell e2
        have E1 := Lib.hid e1
        have E2 := Lib.hid e2
        have HSW := Lib.hid hsw
        have HY := Lib.hid hy
        have HJP := Lib.hid hjp
        have HCL := Lib.hid (fun W hk => HC.out.call W hk x y hxl hyl)
        clear e1 e2 hsw hy hjp
        by_cases hcf : cf x y < 0
        · have hcd : decide (cf x y < 0) = true := decide_eq_true hcf
          go_wp2_with fail
          refine wp_region_held_drew (S := S2r blk jq jp x y) (by kernel_rfl) ⟨c1, c2⟩ fun hS => ?_
          refine wpAnyH_take (i := 0) (v := ?_) rfl (by kernel_rfl) (by kernel_rfl) (by kernel_rfl) (fun _ _ _ h => h) (Or.inl ⟨by rfl, ?_⟩) hS ?_
          rotate_left
          · (intro W hSw; obtain ⟨hq1, hq2⟩ := hSw; go_simp; try with_reducible rfl)
          try simp only [List.getElem_toArray, List.getElem_cons_succ, List.getElem_cons_zero, Act.put, List.setIfInBounds_toArray, List.set_cons_zero, List.set_cons_succ]
          refine wpAnyH_take (i := 1) (v := ?_) rfl (by kernel_rfl) (by kernel_rfl) (by kernel_rfl) (fun _ _ _ h => h) (Or.inl ⟨by rfl, ?_⟩) hS ?_
          rotate_left
          · (intro W hSw; obtain ⟨hq1, hq2⟩ := hSw; go_simp; try with_reducible rfl)
          try simp only [List.getElem_toArray, List.getElem_cons_succ, List.getElem_cons_zero, Act.put, List.setIfInBounds_toArray, List.set_cons_zero, List.set_cons_succ]
          refine wpAnyH_take (i := 2) (v := ?_) rfl (by kernel_rfl) (by kernel_rfl) (by kernel_rfl) (fun _ _ _ h => h) (Or.inl ⟨by rfl, ?_⟩) hS ?_
          rotate_left
          · (intro W hSw; obtain ⟨hq1, hq2⟩ := hSw; go_simp; try with_reducible rfl)
          try simp only [List.getElem_toArray, List.getElem_cons_succ, List.getElem_cons_zero, Act.put, List.setIfInBounds_toArray, List.set_cons_zero, List.set_cons_succ]
          refine wpAnyH_take (i := 3) (v := ?_) rfl (by kernel_rfl) (by kernel_rfl) (by kernel_rfl) (fun _ _ _ h => h) (Or.inl ⟨by rfl, ?_⟩) hS ?_
          rotate_left
          · (intro W hSw; obtain ⟨hq1, hq2⟩ := hSw; go_simp; try with_reducible rfl)
          try simp only [List.getElem_toArray, List.getElem_cons_succ, List.getElem_cons_zero, Act.put, List.setIfInBounds_toArray, List.set_cons_zero, List.set_cons_succ]
          refine wpAnyH_take (i := 4) (v := ?_) rfl (by kernel_rfl) (by kernel_rfl) (by kernel_rfl) (fun _ _ _ h => h) (Or.inl ⟨by rfl, ?_⟩) hS ?_
          rotate_left
          · (intro W hSw; obtain ⟨hq1, hq2⟩ := hSw; go_simp; try with_reducible rfl)
          try simp only [List.getElem_toArray, List.getElem_cons_succ, List.getElem_cons_zero, Act.put, List.setIfInBounds_toArray, List.set_cons_zero, List.set_cons_succ]
          refine wpAnyH_take (i := 5) (v := ?_) rfl (by kernel_rfl) (by kernel_rfl) (by kernel_rfl) (fun _ _ _ h => h) (Or.inl ⟨by rfl, ?_⟩) hS ?_
          rotate_left
          · (intro W hSw; obtain ⟨hq1, hq2⟩ := hSw; go_simp; try with_reducible rfl)
          try simp only [List.getElem_toArray, List.getElem_cons_succ, List.getElem_cons_zero, Act.put, List.setIfInBounds_toArray, List.set_cons_zero, List.set_cons_succ]
          refine wpAnyH_take (i := 6) (v := ?_) rfl (by kernel_rfl) (by kernel_rfl) (by kernel_rfl) (fun _ _ _ h => h) (Or.inl ⟨by rfl, ?_⟩) hS ?_
          rotate_left
          · (intro W hSw; obtain ⟨hq1, hq2⟩ := hSw; go_simp; try with_reducible rfl)
          try simp only [List.getElem_toArray, List.getElem_cons_succ, List.getElem_cons_zero, Act.put, List.setIfInBounds_toArray, List.set_cons_zero, List.set_cons_succ]
          refine wpAnyH_take (i := 7) (v := ?_) rfl (by kernel_rfl) (by kernel_rfl) (by kernel_rfl) (fun _ _ _ h => h) (Or.inl ⟨by rfl, ?_⟩) hS ?_
          rotate_left
          · (intro W hSw; obtain ⟨hq1, hq2⟩ := hSw; go_simp; try with_reducible rfl)
          try simp only [List.getElem_toArray, List.getElem_cons_succ, List.getElem_cons_zero, Act.put, List.setIfInBounds_toArray, List.set_cons_zero, List.set_cons_succ]
          refine wpAnyH_take (i := 8) (v := ?_) rfl (by kernel_rfl) (by kernel_rfl) (by kernel_rfl) (fun _ _ _ h => h) (Or.inl ⟨by rfl, ?_⟩) hS ?_
          rotate_left
          · (intro W hSw; obtain ⟨hq1, hq2⟩ := hSw; go_simp; try with_reducible rfl)
          try simp only [List.getElem_toArray, List.getElem_cons_succ, List.getElem_cons_zero, Act.put, List.setIfInBounds_toArray, List.set_cons_zero, List.set_cons_succ]
          refine wpAnyH_take (i := 9) (v := ?_) rfl (by kernel_rfl) (by kernel_rfl) (by kernel_rfl) (fun _ _ _ h => h) (Or.inl ⟨by rfl, ?_⟩) hS ?_
          rotate_left
          · (intro W hSw; obtain ⟨hq1, hq2⟩ := hSw; go_simp; try with_reducible rfl)
          try simp only [List.getElem_toArray, List.getElem_cons_succ, List.getElem_cons_zero, Act.put, List.setIfInBounds_toArray, List.set_cons_zero, List.set_cons_succ]
          refine wpAnyH_take (i := 10) (v := ?_) rfl (by kernel_rfl) (by kernel_rfl) (by kernel_rfl) (fun _ _ _ h => h) (Or.inl ⟨by rfl, ?_⟩) hS ?_
          rotate_left
          · (intro W hSw; obtain ⟨hq1, hq2⟩ := hSw; go_simp; try with_reducible rfl)
          try simp only [List.getElem_toArray, List.getElem_cons_succ, List.getElem_cons_zero, Act.put, List.setIfInBounds_toArray, List.set_cons_zero, List.set_cons_succ]
          refine wpAnyH_take (i := 11) (v := ?_) rfl (by kernel_rfl) (by kernel_rfl) (by kernel_rfl) (fun _ _ _ h => h) (Or.inl ⟨by rfl, ?_⟩) hS ?_
          rotate_left
          · (intro W hSw; obtain ⟨hq1, hq2⟩ := hSw; go_simp; try with_reducible rfl)
          try simp only [List.getElem_toArray, List.getElem_cons_succ, List.getElem_cons_zero, Act.put, List.setIfInBounds_toArray, List.set_cons_zero, List.set_cons_succ]
          refine wpAnyH_take (i := 12) (v := ?_) rfl (by kernel_rfl) (by kernel_rfl) (by kernel_rfl) (fun _ _ _ h => h) (Or.inl ⟨by rfl, ?_⟩) hS ?_
          rotate_left
          · (intro W hSw; obtain ⟨hq1, hq2⟩ := hSw; go_simp; try with_reducible rfl)
          try simp only [List.getElem_toArray, List.getElem_cons_succ, List.getElem_cons_zero, Act.put, List.setIfInBounds_toArray, List.set_cons_zero, List.set_cons_succ]
          refine wpAnyH_take (i := 13) (v := ?_) rfl (by kernel_rfl) (by kernel_rfl) (by kernel_rfl) (fun _ _ _ h => h) (Or.inl ⟨by rfl, ?_⟩) hS ?_
          rotate_left
          · (intro W hSw; obtain ⟨hq1, hq2⟩ := hSw; go_simp; try with_reducible rfl)
          try simp only [List.getElem_toArray, List.getElem_cons_succ, List.getElem_cons_zero, Act.put, List.setIfInBounds_toArray, List.set_cons_zero, List.set_cons_succ]
          refine wpAnyH_ready (rs := [14]) (by kernel_rfl) (by simp) ?_
          refine AllReadyH.cons rfl (fun K hK => ?_) AllReadyH.nil
          go_simp
          go_at_fn g
          refine (HCL.out _ (HK0.out.trans (HK.out.trans (Keeps.drew _ _)))).mono ?_
          rintro e' wc ⟨rfl, hbc⟩
          obtain ⟨hw9, hk9⟩ := RowL.old HW.out.drew hbc (HK.out.trans (Keeps.drew _ _))
          replace HW := Lib.hid hw9
          replace HK := Lib.hid hk9
          clear hbc hw9 hk9 c1 c2 hS
          refine hK.out _ _ ⟨HW.out.cell E1.out, HW.out.cell E2.out⟩ (fun hS => ?_)
          clear hK K
          try simp only [List.getElem_toArray, List.getElem_cons_succ, List.getElem_cons_zero, Act.put, List.setIfInBounds_toArray, List.set_cons_zero, List.set_cons_succ]
          refine wpAnyH_take (i := 15) (v := ?_) rfl (by kernel_rfl) (by kernel_rfl) (by kernel_rfl) (fun _ _ _ h => h) (Or.inl ⟨by rfl, ?_⟩) hS ?_
          rotate_left
          · (intro W hSw; obtain ⟨hq1, hq2⟩ := hSw; go_simp; try with_reducible rfl)
          try simp only [List.getElem_toArray, List.getElem_cons_succ, List.getElem_cons_zero, Act.put, List.setIfInBounds_toArray, List.set_cons_zero, List.set_cons_succ]
          refine wpAnyH_take (i := 16) (v := ?_) rfl (by kernel_rfl) (by kernel_rfl) (by kernel_rfl) (fun _ _ _ h => h) (Or.inl ⟨by rfl, ?_⟩) hS ?_
          rotate_left
          · (intro W hSw; obtain ⟨hq1, hq2⟩ := hSw; go_simp; try with_reducible rfl)
          try simp only [List.getElem_toArray, List.getElem_cons_succ, List.getElem_cons_zero, Act.put, List.setIfInBounds_toArray, List.set_cons_zero, List.set_cons_succ]
          refine wpAnyH_done (by kernel_rfl) ?_ _
          clear hS
          go_wp2_with fail
          have c1 := HW.out.cell E1.out
          have c2 := HW.out.cell E2.out
          have f1 := fun k => HW.out.frozen k
          have c3 : ∀ v, (wc.setCell ⟨blk, jq, none⟩ v).cell? ⟨blk, jp, none⟩ = some (.int .u64 (y : Int)) := fun v => (World.cell?_setCell_other _ _ _ _ (fun e => hne (by injection e))).trans c2
          have f2 : ∀ k, (wc.setCell ⟨blk, jq, none⟩ (.int .u64 (y : Int))).frozen? ⟨blk, k, none⟩ = false := fun k => (HW.out.set E1.out y).frozen k
          replace HK : Hid (Keeps (fun k => k = blk) w ((wc.setCell ⟨blk, jq, none⟩ (.int .u64 (y : Int))).setCell ⟨blk, jp, none⟩ (.int .u64 (x : Int))).drew) := (HK.out.trans (keeps_two (blk := blk) (W := wc) (i := jq) (j := jp) (u := .int .u64 (y : Int)) (v := .int .u64 (x : Int)))).trans (Keeps.drew _ _)
          replace HW : Hid (RowL blk _ ((wc.setCell ⟨blk, jq, none⟩ (.int .u64 (y : Int))).setCell ⟨blk, jp, none⟩ (.int .u64 (x : Int))).drew) := HW.out.swap E1.out E2.out
          go_big_region
          clear c1 c2 c3 f1 f2
          generalize ((wc.setCell ⟨blk, jq, none⟩ (.int .u64 (y : Int))).setCell ⟨blk, jp, none⟩ (.int .u64 (x : Int))).drew = wd at HW HK ⊢
          rw [HSW.out] at HW
          go_wp2
          have hlt := HC.out.yes hxl hyl hyx hcf
          rw [HY.out] at hlt
          exact ⟨⟨p, jp, HJP.out, by omega, rfl, HW.out, srt_above HC.out.sto HS.out hpl hlt, HK.out⟩, by simp [intOf]; have := HJP.out; have := HJQ.out; omega⟩
        · have hcd : decide (cf x y < 0) = false := decide_eq_false hcf
          go_wp2_with fail
          refine wp_region_held_drew (S := S2r blk jq jp x y) (by kernel_rfl) ⟨c1, c2⟩ fun hS => ?_
          refine wpAnyH_take (i := 0) (v := ?_) rfl (by kernel_rfl) (by kernel_rfl) (by kernel_rfl) (fun _ _ _ h => h) (Or.inl ⟨by rfl, ?_⟩) hS ?_
          rotate_left
          · (intro W hSw; obtain ⟨hq1, hq2⟩ := hSw; go_simp; try with_reducible rfl)
          try simp only [List.getElem_toArray, List.getElem_cons_succ, List.getElem_cons_zero, Act.put, List.setIfInBounds_toArray, List.set_cons_zero, List.set_cons_succ]
          refine wpAnyH_take (i := 1) (v := ?_) rfl (by kernel_rfl) (by kernel_rfl) (by kernel_rfl) (fun _ _ _ h => h) (Or.inl ⟨by rfl, ?_⟩) hS ?_
          rotate_left
          · (intro W hSw; obtain ⟨hq1, hq2⟩ := hSw; go_simp; try with_reducible rfl)
          try simp only [List.getElem_toArray, List.getElem_cons_succ, List.getElem_cons_zero, Act.put, List.setIfInBounds_toArray, List.set_cons_zero, List.set_cons_succ]
          refine wpAnyH_take (i := 2) (v := ?_) rfl (by kernel_rfl) (by kernel_rfl) (by kernel_rfl) (fun _ _ _ h => h) (Or.inl ⟨by rfl, ?_⟩) hS ?_
          rotate_left
          · (intro W hSw; obtain ⟨hq1, hq2⟩ := hSw; go_simp; try with_reducible rfl)
          try simp only [List.getElem_toArray, List.getElem_cons_succ, List.getElem_cons_zero, Act.put, List.setIfInBounds_toArray, List.set_cons_zero, List.set_cons_succ]
          refine wpAnyH_take (i := 3) (v := ?_) rfl (by kernel_rfl) (by kernel_rfl) (by kernel_rfl) (fun _ _ _ h => h) (Or.inl ⟨by rfl, ?_⟩) hS ?_
          rotate_left
          · (intro W hSw; obtain ⟨hq1, hq2⟩ := hSw; go_simp; try with_reducible rfl)
          try simp only [List.getElem_toArray, List.getElem_cons_succ, List.getElem_cons_zero, Act.put, List.setIfInBounds_toArray, List.set_cons_zero, List.set_cons_succ]
          refine wpAnyH_take (i := 4) (v := ?_) rfl (by kernel_rfl) (by kernel_rfl) (by kernel_rfl) (fun _ _ _ h => h) (Or.inl ⟨by rfl, ?_⟩) hS ?_
          rotate_left
          · (intro W hSw; obtain ⟨hq1, hq2⟩ := hSw; go_simp; try with_reducible rfl)
          try simp only [List.getElem_toArray, List.getElem_cons_succ, List.getElem_cons_zero, Act.put, List.setIfInBounds_toArray, List.set_cons_zero, List.set_cons_succ]
          refine wpAnyH_take (i := 5) (v := ?_) rfl (by kernel_rfl) (by kernel_rfl) (by kernel_rfl) (fun _ _ _ h => h) (Or.inl ⟨by rfl, ?_⟩) hS ?_
          rotate_left
          · (intro W hSw; obtain ⟨hq1, hq2⟩ := hSw; go_simp; try with_reducible rfl)
          try simp only [List.getElem_toArray, List.getElem_cons_succ, List.getElem_cons_zero, Act.put, List.setIfInBounds_toArray, List.set_cons_zero, List.set_cons_succ]
          refine wpAnyH_take (i := 6) (v := ?_) rfl (by kernel_rfl) (by kernel_rfl) (by kernel_rfl) (fun _ _ _ h => h) (Or.inl ⟨by rfl, ?_⟩) hS ?_
          rotate_left
          · (intro W hSw; obtain ⟨hq1, hq2⟩ := hSw; go_simp; try with_reducible rfl)
          try simp only [List.getElem_toArray, List.getElem_cons_succ, List.getElem_cons_zero, Act.put, List.setIfInBounds_toArray, List.set_cons_zero, List.set_cons_succ]
          refine wpAnyH_take (i := 7) (v := ?_) rfl (by kernel_rfl) (by kernel_rfl) (by kernel_rfl) (fun _ _ _ h => h) (Or.inl ⟨by rfl, ?_⟩) hS ?_
          rotate_left
          · (intro W hSw; obtain ⟨hq1, hq2⟩ := hSw; go_simp; try with_reducible rfl)
          try simp only [List.getElem_toArray, List.getElem_cons_succ, List.getElem_cons_zero, Act.put, List.setIfInBounds_toArray, List.set_cons_zero, List.set_cons_succ]
          refine wpAnyH_take (i := 8) (v := ?_) rfl (by kernel_rfl) (by kernel_rfl) (by kernel_rfl) (fun _ _ _ h => h) (Or.inl ⟨by rfl, ?_⟩) hS ?_
          rotate_left
          · (intro W hSw; obtain ⟨hq1, hq2⟩ := hSw; go_simp; try with_reducible rfl)
          try simp only [List.getElem_toArray, List.getElem_cons_succ, List.getElem_cons_zero, Act.put, List.setIfInBounds_toArray, List.set_cons_zero, List.set_cons_succ]
          refine wpAnyH_take (i := 9) (v := ?_) rfl (by kernel_rfl) (by kernel_rfl) (by kernel_rfl) (fun _ _ _ h => h) (Or.inl ⟨by rfl, ?_⟩) hS ?_
          rotate_left
          · (intro W hSw; obtain ⟨hq1, hq2⟩ := hSw; go_simp; try with_reducible rfl)
          try simp only [List.getElem_toArray, List.getElem_cons_succ, List.getElem_cons_zero, Act.put, List.setIfInBounds_toArray, List.set_cons_zero, List.set_cons_succ]
          refine wpAnyH_take (i := 10) (v := ?_) rfl (by kernel_rfl) (by kernel_rfl) (by kernel_rfl) (fun _ _ _ h => h) (Or.inl ⟨by rfl, ?_⟩) hS ?_
          rotate_left
          · (intro W hSw; obtain ⟨hq1, hq2⟩ := hSw; go_simp; try with_reducible rfl)
          try simp only [List.getElem_toArray, List.getElem_cons_succ, List.getElem_cons_zero, Act.put, List.setIfInBounds_toArray, List.set_cons_zero, List.set_cons_succ]
          refine wpAnyH_take (i := 11) (v := ?_) rfl (by kernel_rfl) (by kernel_rfl) (by kernel_rfl) (fun _ _ _ h => h) (Or.inl ⟨by rfl, ?_⟩) hS ?_
          rotate_left
          · (intro W hSw; obtain ⟨hq1, hq2⟩ := hSw; go_simp; try with_reducible rfl)
          try simp only [List.getElem_toArray, List.getElem_cons_succ, List.getElem_cons_zero, Act.put, List.setIfInBounds_toArray, List.set_cons_zero, List.set_cons_succ]
          refine wpAnyH_take (i := 12) (v := ?_) rfl (by kernel_rfl) (by kernel_rfl) (by kernel_rfl) (fun _ _ _ h => h) (Or.inl ⟨by rfl, ?_⟩) hS ?_
          rotate_left
          · (intro W hSw; obtain ⟨hq1, hq2⟩ := hSw; go_simp; try with_reducible rfl)
          try simp only [List.getElem_toArray, List.getElem_cons_succ, List.getElem_cons_zero, Act.put, List.setIfInBounds_toArray, List.set_cons_zero, List.set_cons_succ]
          refine wpAnyH_take (i := 13) (v := ?_) rfl (by kernel_rfl) (by kernel_rfl) (by kernel_rfl) (fun _ _ _ h => h) (Or.inl ⟨by rfl, ?_⟩) hS ?_
          rotate_left
          · (intro W hSw; obtain ⟨hq1, hq2⟩ := hSw; go_simp; try with_reducible rfl)
          try simp only [List.getElem_toArray, List.getElem_cons_succ, List.getElem_cons_zero, Act.put, List.setIfInBounds_toArray, List.set_cons_zero, List.set_cons_succ]
          refine wpAnyH_ready (rs := [14]) (by kernel_rfl) (by simp) ?_
          refine AllReadyH.cons rfl (fun K hK => ?_) AllReadyH.nil
          go_simp
          go_at_fn g
          refine (HCL.out _ (HK0.out.trans (HK.out.trans (Keeps.drew _ _)))).mono ?_
          rintro e' wc ⟨rfl, hbc⟩
          obtain ⟨hw9, hk9⟩ := RowL.old HW.out.drew hbc (HK.out.trans (Keeps.drew _ _))
          replace HW := Lib.hid hw9
          replace HK := Lib.hid hk9
          clear hbc hw9 hk9 c1 c2 hS
          refine hK.out _ _ ⟨HW.out.cell E1.out, HW.out.cell E2.out⟩ (fun hS => ?_)
          clear hK K
          try simp only [List.getElem_toArray, List.getElem_cons_succ, List.getElem_cons_zero, Act.put, List.setIfInBounds_toArray, List.set_cons_zero, List.set_cons_succ]
          refine wpAnyH_take (i := 15) (v := ?_) rfl (by kernel_rfl) (by kernel_rfl) (by kernel_rfl) (fun _ _ _ h => h) (Or.inl ⟨by rfl, ?_⟩) hS ?_
          rotate_left
          · (intro W hSw; obtain ⟨hq1, hq2⟩ := hSw; go_simp; try with_reducible rfl)
          try simp only [List.getElem_toArray, List.getElem_cons_succ, List.getElem_cons_zero, Act.put, List.setIfInBounds_toArray, List.set_cons_zero, List.set_cons_succ]
          refine wpAnyH_take (i := 16) (v := ?_) rfl (by kernel_rfl) (by kernel_rfl) (by kernel_rfl) (fun _ _ _ h => h) (Or.inl ⟨by rfl, ?_⟩) hS ?_
          rotate_left
          · (intro W hSw; obtain ⟨hq1, hq2⟩ := hSw; go_simp; try with_reducible rfl)
          try simp only [List.getElem_toArray, List.getElem_cons_succ, List.getElem_cons_zero, Act.put, List.setIfInBounds_toArray, List.set_cons_zero, List.set_cons_succ]
          refine wpAnyH_done (by kernel_rfl) ?_ _
          clear hS
          go_wp2
          have hlt := HC.out.no hxl hyl hyx (by omega)
          rw [HY.out] at hlt
          exact ⟨HO.out _ HW.out (srt_below HC.out.sto HS.out hpl hlt) HK.out, by simp [intOf]; have := HIK.out; omega⟩

end Go.Proofs.YtbmfphiecllggaaDoor

/- Few sets are sorted. -/
namespace Go.Proofs.YtbmfphiecllggaaDoor
set_option linter.unusedVariables false
set_option linter.unusedSimpArgs false
open Go.RowKit Go.Shelf
attribute [local go_sem] Oper.semAt_some
open Stab
set_option maxRecDepth 100000 in
set_option maxHeartbeats 4000000 in
theorem stableF_any (g : Nat) (cb : Array Value) (cf : Nat → Nat → Int) (lt : Nat → Nat → Prop) (w0 : World) (blk n cap : Nat) (l : List Nat) (hc : CmpOk g cb cf lt blk l w0) (hs : n < 20) (hn : n = l.length) (hasc : l.Pairwise (· < ·)) (w : World) (hk0 : Keeps (fun k => k = blk) w0 w) (hr : RowL blk l w) :
    Calls Tryd.prog 101 #[.slice (some ⟨blk, 0, none⟩) n cap, .int .i64 n, .func (.func g) #[] cb] w fun e w' => e = .returned (.tuple #[]) ∧ (∃ M, M.Perm l ∧ Srt lt M ∧ RowL blk M w') ∧ Keeps (fun k => k = blk) w w' := by
  have HR := Lib.hid hr
  have HC := Lib.hid hc
  have HN := Lib.hid hn
  have HAS := Lib.hid hasc
  have HK0 := Lib.hid hk0
  have h20 : ¬ (20 : Int) ≤ (n : Int) := by omega
  have h20b : ¬ (20 : Int) < (n : Int) := by omega
  clear hr hc hn hk0 hasc
  go_enter Tryd.func101, Tryd.ntmps101
  go_wp2
  refine wp_loop_once ?_
  go_wp2_with fail
  refine (insertion_any g cb cf lt l w0 blk n cap 0 n HC.out [] l [] (by simpa using HN.out) (by omega) w HK0.out (by simpa using HR.out) rfl (by simpa using HN.out) HAS.out (fun x h => h)).mono ?_
  rintro e w1 ⟨rfl, ⟨M, hp, hs1, hr1⟩, hk1⟩
  dsimp only
  have H1 := Lib.hid (And.intro hp (And.intro hs1 (And.intro (by simpa using hr1 : RowL blk M w1) hk1)))
  clear hp hs1 hr1 hk1
  go_wp2
  refine wp_loop_once ?_
  go_wp2
  go_end0
  exact ⟨rfl, ⟨M, H1.out.1, H1.out.2.1, H1.out.2.2.1⟩, H1.out.2.2.2⟩
set_option maxRecDepth 100000 in
set_option maxHeartbeats 4000000 in
theorem sortF_any (g : Nat) (cb : Array Value) (cf : Nat → Nat → Int) (lt : Nat → Nat → Prop) (w0 : World) (blk n cap : Nat) (l : List Nat) (hc : CmpOk g cb cf lt blk l w0) (hs : n < 20) (hn : n = l.length) (hasc : l.Pairwise (· < ·)) (w : World) (hk0 : Keeps (fun k => k = blk) w0 w) (hr : RowL blk l w) :
    Calls Tryd.prog 91 #[.slice (some ⟨blk, 0, none⟩) n cap, .func (.func g) #[] cb] w fun e w' => e = .returned (.tuple #[]) ∧ (∃ M, M.Perm l ∧ Srt lt M ∧ RowL blk M w') ∧ Keeps (fun k => k = blk) w w' := by
  have HR := Lib.hid hr
  have HC := Lib.hid hc
  have HN := Lib.hid hn
  have HAS := Lib.hid hasc
  have HK0 := Lib.hid hk0
  clear hr hc hn hk0 hasc
  go_enter Tryd.func91, Tryd.ntmps91
  go_wp2_with fail
  refine (stableF_any g cb cf lt w0 blk n cap l HC.out hs HN.out HAS.out w HK0.out HR.out).mono ?_
  rintro e w1 ⟨rfl, h1, h2⟩
  have H1 := Lib.hid (And.intro h1 h2)
  clear h1 h2
  dsimp only
  go_wp2
  go_end0
  exact ⟨rfl, H1.out.1, H1.out.2⟩
end Go.Proofs.YtbmfphiecllggaaDoor

/- All sets of wants, the smaller ones first. -/
namespace Go.Proofs.YtbmfphiecllggaaDoor
set_option linter.unusedVariables false
set_option linter.unusedSimpArgs false
open Go.RowKit Go.Shelf
attribute [local go_sem] Oper.semAt_some
open Stab
def ltM (s t : Nat) : Prop := lessM s t = true
theorem ltM_iff (s t : Nat) : ltM s t ↔ sizeJ 4 s < sizeJ 4 t ∨ (sizeJ 4 s = sizeJ 4 t ∧ s < t) := by
  unfold ltM lessM
  simp
theorem ltM_sto : STO ltM where
  irr x h := by rw [ltM_iff] at h; omega
  tr h1 h2 := by rw [ltM_iff] at *; omega
  tot {x y} hn := by rw [ltM_iff, ltM_iff]; omega
theorem ins_perm (lt : Nat → Nat → Bool) (x : Nat) : ∀ l, (insJ lt x l).Perm (x :: l)
  | [] => List.Perm.refl _
  | y :: l => by
    rw [insJ]
    split
    · exact List.Perm.refl _
    · exact ((ins_perm lt x l).cons y).trans (List.Perm.swap x y l)
theorem sort_perm (lt : Nat → Nat → Bool) : ∀ l, (sortJ lt l).Perm l
  | [] => List.Perm.refl _
  | x :: l => (ins_perm lt x _).trans ((sort_perm lt l).cons x)
theorem ins_srt (x : Nat) : ∀ l, Srt ltM l → x ∉ l → Srt ltM (insJ lessM x l)
  | [], _, _ => by simp [insJ, Srt]
  | y :: l, h, hn => by
    obtain ⟨h1, h2⟩ := List.pairwise_cons.1 h
    rw [insJ]
    split
    · rename_i hc
      refine List.pairwise_cons.2 ⟨fun z hz => ?_, h⟩
      rcases List.mem_cons.1 hz with rfl | hz
      · exact hc
      · exact ltM_sto.tr hc (h1 z hz)
    · rename_i hc
      have hyx : ltM y x := ltM_sto.not (fun e => hn (by rw [e]; exact List.mem_cons_self ..)) hc
      refine List.pairwise_cons.2 ⟨fun z hz => ?_, ins_srt x l h2 (fun hm => hn (List.mem_cons_of_mem _ hm))⟩
      rcases List.mem_cons.1 ((ins_perm lessM x l).mem_iff.1 hz) with rfl | hz
      · exact hyx
      · exact h1 z hz
theorem sort_srt : ∀ l : List Nat, l.Nodup → Srt ltM (sortJ lessM l)
  | [], _ => List.Pairwise.nil
  | x :: l, h => by
    obtain ⟨h1, h2⟩ := List.nodup_cons.1 h
    exact ins_srt x _ (sort_srt l h2) (fun hm => h1 ((sort_perm lessM l).mem_iff.1 hm))
theorem size_four : ∀ x < 16, sizeJ 8 x = sizeJ 4 x := by decide +kernel
def setsM (j : JobD) : List Nat := sortJ lessM (List.range (2 ^ j.ws.length))
set_option maxHeartbeats 4000000 in
theorem cmpM_any (x y : Nat) (hx : x < 256) (hy : y < 256) (w : World) :
    Calls Tryd.prog 92 #[.int .u64 x, .int .u64 y] w fun e w' => e = .returned (.int .i64 ((sizeJ 8 x : Int) - (sizeJ 8 y : Int))) ∧ w = w' := by
  obtain ⟨a, ha⟩ : ∃ a, a = sizeJ 8 x := ⟨_, rfl⟩
  obtain ⟨b, hb⟩ : ∃ a, a = sizeJ 8 y := ⟨_, rfl⟩
  have ha8 : a ≤ 8 := by rw [ha]; exact sizeJ_le 8 x
  have hb8 : b ≤ 8 := by rw [hb]; exact sizeJ_le 8 y
  rw [← ha, ← hb]
  have HA := Lib.hid ha
  have HB := Lib.hid hb
  clear ha hb
  have hw : IntKind.i64.wrap ((a : Int) - (b : Int)) = (a : Int) - (b : Int) := IntWalk.i64_in _ (by omega)
  go_enter Tryd.func92, Tryd.ntmps92
  go_wp2_with fail
  refine (jmany_any x hx _).mono ?_
  rintro e w' ⟨rfl, rfl⟩
  rw [← HA.out]
  go_wp2_with fail
  refine (jmany_any y hy _).mono ?_
  rintro e w' ⟨rfl, rfl⟩
  rw [← HB.out]
  go_wp2
  go_ret
  exact ⟨rfl, rfl⟩
set_option maxRecDepth 100000 in
set_option maxHeartbeats 4000000 in
theorem sets_any {j : JobD} {B pp mp : Nat} {bs ws : Value} {r : Nat → Value} (h4 : j.ws.length ≤ 4) (w : World) (h : JobO j B pp mp bs ws r w) :
    Calls Tryd.prog 76 #[.pointer (some ⟨pp, 0, none⟩)] w fun e w' => (∃ v, e = .returned v ∧ SetsAt w' v (setsM j) (fun k => w.heap.size ≤ k)) ∧ Below w.heap.size w w' := by
  have H := Lib.hid h
  clear h
  obtain ⟨n, hn⟩ : ∃ n, n = 2 ^ j.ws.length := ⟨_, rfl⟩
  have hn16 : n ≤ 16 := by rw [hn]; exact (Nat.pow_le_pow_right (by decide : 0 < 2) h4 : _ ≤ 2 ^ 4)
  have hn1 : 1 ≤ n := by rw [hn]; exact Nat.two_pow_pos _
  have hev : ((everyD j : Nat) : Int) + 1 = (n : Int) := by unfold everyD; omega
  have hwe : IntKind.u64.wrap ((n : Int)) = (n : Int) := IntWalk.u64_in _ (by omega)
  have HN := Lib.hid hn
  clear hn
  obtain ⟨ev, hevd⟩ : ∃ x, x = everyD j := ⟨_, rfl⟩
  rw [← hevd] at hev
  have HEV := Lib.hid hevd
  clear hevd
  go_enter Tryd.func76, Tryd.ntmps76
  go_wp2_with fail
  refine (jevery_any h4 _ H.out).mono ?_
  rintro e w' ⟨rfl, rfl⟩
  rw [← HEV.out]
  go_wp2_with fail
  go_loopw [2, 7] (fun sv iv wr => ∃ i : Nat, i ≤ n ∧ iv = .int .u64 i ∧ wr.ownsRow w.heap.size 79 1 sv i ((List.range i).map fun s : Nat => Value.int .u64 s) ∧ Below w.heap.size w wr) (fun _ iv _ => n - (match iv with | .int _ i => i.toNat | _ => 0))
  case atStart => exact ⟨0, Nat.zero_le _, rfl, World.ownsRow_nil _ _ _ _, Below.refl _ _⟩
  case round =>
    obtain ⟨i, hi, rfl, hown, hb⟩ := hrel
    have HO := Lib.hid hown
    have HB := Lib.hid hb
    have hbs := hb.size
    clear hown hb
    by_cases hlt : i < n
    · have hw : IntKind.u64.wrap ((i : Int) + 1) = ((i + 1 : Nat) : Int) := by rw [IntWalk.u64_in _ (by omega)]; omega
      have hlti : (i : Int) < (n : Int) := by omega
      go_wp2_with (first | (refine wpList_append_here rfl (.tmp 10) (.tmp 12) 82 rfl w.heap.size 79 1 8 _ underSets infoSet rfl (by decide) u2 i _ rfl (own_block HO.out (fun k e => Below.heap_alloc _ _ _ (HO.out.lt k e).2)) wr.heap.size 1 #[.int .u64 i] 79 (0, 0) rfl (heap_alloc_at _ _ _ rfl) rfl (by simp [Value.oneCell']) (by omega) (by decide) (by simp <;> omega) ?_))
      intro v1 W6 hown6 hg6 hat6
      have hb6 : Below w.heap.size w W6 := (HB.out.alloc hbs _).grown hg6 (by simp <;> omega) (own_base HO.out)
      have H6 := Lib.hid (And.intro hown6 hb6)
      clear hown6 hg6 hat6 hb6
      go_wp2
      refine ⟨⟨i + 1, hlt, by push_cast; rfl, ?_, H6.out.2⟩, by simp; omega⟩
      rw [List.range_succ, List.map_append]
      exact H6.out.1
    · obtain rfl : i = n := by omega
      have hlti : ¬ (i : Int) < (i : Int) := by omega
      rcases HO.out.2 with ⟨h2, h3⟩ | ⟨g, cap, cur, h2, h3, h4, h5, h6, h7, h8⟩
      · omega
      subst h2
      have hrow : RowL g (List.range i) wr := by
        refine ⟨cur, h4, fun k x hx => ?_⟩
        have hk : k < i := by have := (List.getElem?_eq_some_iff.1 hx).1; simpa using this
        have h9 : (cur.toList.take (i * 1))[k]? = ((List.range i).map fun s : Nat => Value.int .u64 s)[k]? := by rw [h8]
        rw [Nat.mul_one, List.getElem?_take_of_lt hk, List.getElem?_map, hx] at h9
        rw [← Array.getElem?_toList]; exact h9
      have hcmp : CmpOk 92 #[] (fun x y => (sizeJ 8 x : Int) - (sizeJ 8 y : Int)) ltM g (List.range i) wr := {
        call := fun W _ x y hx hy => (cmpM_any x y (by have := List.mem_range.1 hx; omega) (by have := List.mem_range.1 hy; omega) W).mono fun _ _ ⟨h1, h2⟩ => ⟨h1, h2 ▸ Below.refl _ _⟩
        ord := fun x y hx hy hyx => by
          have h1 := size_four x (by have := List.mem_range.1 hx; omega)
          have h2 := size_four y (by have := List.mem_range.1 hy; omega)
          rw [ltM_iff, h1, h2]; omega
        sto := ltM_sto
        enter := enters_of Tryd.func92 (by kernel_rfl) rfl }
      have HCMP := Lib.hid hcmp
      have HROW := Lib.hid hrow
      clear hrow hcmp h3 h4 h5 h6 h7 h8
      go_wp2_with fail
      refine (sortF_any _ _ _ _ wr g i cap (List.range i) HCMP.out (by omega) (by simp) List.pairwise_lt_range wr (Keeps.refl _ _) HROW.out).mono ?_
      rintro e w5 ⟨rfl, ⟨M, hp, hs, hr⟩, hk⟩
      dsimp only
      have hM : M = setsM j := by
        unfold setsM
        rw [← HN.out]
        exact srt_unique ltM_sto hs (sort_srt _ List.nodup_range) (hp.trans (sort_perm lessM _).symm)
      have hg : w.heap.size ≤ g := own_base HO.out g rfl
      have hML : (setsM j).length = i := by rw [← hM, hp.length_eq]; simp
      have hset : SetsAt w5 (.slice (some ⟨g, 0, none⟩) i cap) (setsM j) (fun k => w.heap.size ≤ k) := by
        refine ⟨some ⟨g, 0, none⟩, cap, by rw [hML], fun q hq => ⟨g, 0, rfl, hg, hr.lt, ?_⟩⟩
        rw [Nat.zero_add]
        exact hr.cell (by rw [hM]; exact List.getElem?_eq_getElem hq)
      have hbw : Below w.heap.size w w5 := HB.out.trans (hk.below hbs (fun k h1 h2 => by omega))
      have HF := Lib.hid (And.intro hset hbw)
      clear hset hbw hp hs hr hk hM hg hML
      go_wp2
      go_ret
      exact ⟨⟨_, rfl, HF.out.1⟩, HF.out.2⟩
end Go.Proofs.YtbmfphiecllggaaDoor

/- How many wants can be met at once, and which cannot. -/
namespace Go.Proofs.YtbmfphiecllggaaDoor
set_option linter.unusedVariables false
set_option linter.unusedSimpArgs false
open Go.RowKit Go.Shelf
attribute [local go_sem] Oper.semAt_some
def stepM (j : JobD) (b s : Nat) : Nat := if sizeJ 4 b < sizeJ 4 s && canD j s then s else b
theorem setsM_lt {j : JobD} : ∀ s ∈ setsM j, s < 2 ^ j.ws.length := fun s hs => List.mem_range.1 ((sort_perm lessM _).mem_iff.1 hs)
theorem setsM_len (j : JobD) : (setsM j).length = 2 ^ j.ws.length := by unfold setsM; rw [(sort_perm lessM _).length_eq]; simp
theorem foldM_lt {j : JobD} : ∀ (l : List Nat) (b : Nat), b < 2 ^ j.ws.length → (∀ s ∈ l, s < 2 ^ j.ws.length) → l.foldl (stepM j) b < 2 ^ j.ws.length
  | [], b, h, _ => h
  | s :: l, b, h, hl => by
    rw [List.foldl_cons]
    refine foldM_lt l _ ?_ (fun x hx => hl x (List.mem_cons_of_mem _ hx))
    unfold stepM; split
    · exact hl s (List.mem_cons_self ..)
    · exact h
set_option maxRecDepth 100000 in
set_option maxHeartbeats 8000000 in
theorem Most_any (j : JobD) (bs ws : Value) (w : World) (hbs : SpansAt w bs j.st.bs (fun k => k < w.heap.size)) (hws : SpansAt w ws j.ws (fun k => k < w.heap.size)) (htz : TabZ w) :
    Calls Tryd.prog 35 #[jobV j bs ws] w fun e w' => e = .returned (.tuple #[.int .i64 (mostD j).1.1, .int .i64 (mostD j).1.2, .int .i64 (mostD j).2]) ∧ Below w.heap.size w w' := by
  have HTZ := Lib.hid htz
  have h1z := htz.lt
  clear htz
  have HBS := Lib.hid hbs
  have HWS := Lib.hid hws
  obtain ⟨ao, cap, hv1, _⟩ := id hbs
  obtain ⟨ao2, cap2, hv2, _⟩ := id hws
  subst hv1 hv2
  obtain ⟨nb, hnb⟩ : ∃ n, n = j.st.bs.length := ⟨_, rfl⟩
  obtain ⟨nw, hnw⟩ : ∃ n, n = j.ws.length := ⟨_, rfl⟩
  rw [← hnb] at HBS
  rw [← hnw] at HWS
  unfold jobV
  rw [← hnb, ← hnw]
  have HNB := Lib.hid hnb
  have HNW := Lib.hid hnw
  clear hbs hws hnb hnw
  go_enter_defers Tryd.func35, Tryd.ntmps35
  go_wp2_with fail
  refine (open_always j (.slice ao nb cap) (.slice ao2 nw cap2) _ (by rw [HNB.out] at HBS ⊢; exact (HBS.out.later (by simp <;> omega) (fun k h1 h2 => (hget_old _ _ _ (by simp; omega)).trans (hget_old _ _ _ (by omega)))).low) (by rw [HNW.out] at HWS ⊢; exact (HWS.out.later (by simp <;> omega) (fun k h1 h2 => (hget_old _ _ _ (by simp; omega)).trans (hget_old _ _ _ (by omega)))).low)).mono ?_
  rintro e w1 ⟨hb1, hres⟩
  have he1 := (hb1.block (w.heap.size + 1) (by simp <;> omega)).trans (heap_alloc_at _ (.cells #[.int .i64 0] 33) _ (by simp))
  have hx1 := (hb1.block w.heap.size (by simp <;> omega)).trans ((hget_old _ _ _ (by simp)).trans (heap_alloc_at w (.cells #[.slice ao nb cap, .int .i64 j.st.film.1, .int .i64 j.st.film.2, .slice ao2 nw cap2] 28) _ rfl))
  have hbw : Below w.heap.size w w1 := (((Below.refl _ _).alloc (Nat.le_refl _) _).alloc (by simp) _).trans (hb1.mono (by simp <;> omega))
  have HE1 := Lib.hid he1
  have HX1 := Lib.hid hx1
  have HBW := Lib.hid hbw
  clear hb1 he1 hx1 hbw
  rcases hres with ⟨hne, rfl⟩ | ⟨he, pp, mp, r, rfl, hj, hm⟩
  · skip
    obtain ⟨er, her⟩ : ∃ x, x = errD j true := ⟨_, rfl⟩
    rw [← her] at hne ⊢
    have HNE := Lib.hid (And.intro hne her)
    clear hne her
    dsimp only
    go_wp2_with fail
    refine jleaf_stop er (w.heap.size + 1) 0 _ w1 HE1.out (fun W' hkE heE => ?_)
    have e9 : W'.cell? ⟨w.heap.size + 1, 0, none⟩ = some (.int .i64 er) := by rw [cell_of_row _ _ _ _ _ _ heE]; rfl
    have hval : mostD j = (((0 : Int), (0 : Int)), er) := by unfold mostD; rw [← HNE.out.2, if_pos HNE.out.1]
    exact ⟨_, by simp [results, Tryd.results35, go_sem, e9]; rfl, by rw [hval], HBW.out.trans (hkE.below HBW.out.size (fun k h e => by omega))⟩
  · skip
    dsimp only
    have hv := (errD_valid he).1
    have HV := Lib.hid hv
    have HERR := Lib.hid he
    obtain ⟨B, hBB⟩ : ∃ B, B = w.heap.size + 1 + 1 := ⟨_, rfl⟩
    have hsz : ((w.alloc (.cells #[.slice ao nb cap, .int .i64 j.st.film.1, .int .i64 j.st.film.2, .slice ao2 nw cap2] 28)).alloc (.cells #[.int .i64 0] 33)).heap.size = B := by rw [hBB]; simp
    rw [hsz] at hj
    have HJ := Lib.hid hj
    have HM := Lib.hid hm
    clear he hj hm hv hsz
    have hjk : JobK j B pp mp (.slice ao nb cap) (.slice ao2 nw cap2) r w1 := ⟨HJ.out, KeptJ.nil HM.out, HTZ.out.below HBW.out h1z, by omega⟩
    have HJK := Lib.hid hjk
    have hlm := hjk.r.o.lm
    have hmps := hjk.kept.lt
    clear hjk HJ HM
    have hnw4 : nw ≤ 4 := by rw [HNW.out]; exact (validJb_parts HV.out).2.1
    have hp16 : 2 ^ nw ≤ 16 := (Nat.pow_le_pow_right (by decide : 0 < 2) hnw4 : _ ≤ 2 ^ 4)
    go_wp2_with fail
    refine (sets_any (validJb_parts HV.out).2.1 _ HJK.out.r.o).mono ?_
    rintro e w2 ⟨⟨v, rfl, hset⟩, hb2⟩
    dsimp only
    obtain ⟨aos, caps, rfl, _⟩ := id hset
    obtain ⟨n, hn⟩ : ∃ n, n = (setsM j).length := ⟨_, rfl⟩
    rw [← hn] at hset ⊢
    have hn16 : n ≤ 16 := by rw [hn, setsM_len, ← HNW.out]; exact hp16
    have HN := Lib.hid hn
    have HSET := Lib.hid hset
    have hbw2 : Below w.heap.size w w2 := HBW.out.trans (hb2.mono HBW.out.size)
    have he2 := (hb2.block _ (lt_of_block HE1.out)).trans HE1.out
    have hjk2 := HJK.out.later hb2
    have HJ2 := Lib.hid hjk2
    have HB2 := Lib.hid hbw2
    have HE2 := Lib.hid he2
    clear hn hset hbw2 he2 hjk2 hb2
    go_wp2_with fail
    go_loopw [6, 14] (fun bv iv wr => ∃ i : Nat, i ≤ n ∧ iv = .int .i64 i ∧ bv = .int .u64 (((setsM j).take i).foldl (stepM j) 0 : Nat) ∧ JobK j B pp mp (.slice ao nb cap) (.slice ao2 nw cap2) r wr ∧ Keeps (fun k => k = mp) w2 wr) (fun _ iv _ => n - (intOf iv).toNat)
    case atStart => exact ⟨0, Nat.zero_le _, rfl, rfl, HJ2.out, Keeps.refl _ _⟩
    case round =>
      obtain ⟨i, hi, rfl, rfl, hjk, hk⟩ := hrel
      have HJR := Lib.hid hjk
      have HKR := Lib.hid hk
      clear hjk hk
      have hblt : ((setsM j).take i).foldl (stepM j) 0 < 2 ^ nw := by
        rw [HNW.out]
        exact foldM_lt _ _ (Nat.two_pow_pos _) (fun s hs => setsM_lt s (List.mem_of_mem_take hs))
      obtain ⟨b, hb⟩ : ∃ b, b = ((setsM j).take i).foldl (stepM j) 0 := ⟨_, rfl⟩
      rw [← hb] at hblt ⊢
      have HBB := Lib.hid hb
      clear hb
      by_cases hlt : i < n
      · have hw : IntKind.i64.wrap ((i : Int) + 1) = ((i + 1 : Nat) : Int) := by rw [IntWalk.i64_in _ (by omega)]; omega
        have hlti : (i : Int) < (n : Int) := by omega
        obtain ⟨aos', caps', he, hel⟩ := HSET.out
        injection he with ha hb hc
        subst ha hc
        clear hb
        obtain ⟨sb, so, rfl, hsb, hsl, e1⟩ := hel i (by rw [← HN.out]; exact hlt)
        obtain ⟨s, hs⟩ : ∃ s, s = (setsM j)[i]'(by rw [← HN.out]; exact hlt) := ⟨_, rfl⟩
        rw [← hs] at e1
        have e1 := (World.cell?_of_block (w := w2) (w' := wr) (a := ⟨sb, so + i, none⟩) (HKR.out.block sb hsl (by omega))).trans e1
        have hs2 : s < 2 ^ nw := by rw [HNW.out, hs]; exact setsM_lt _ (List.getElem_mem _)
        have htk : (setsM j).take (i + 1) = (setsM j).take i ++ [s] := by rw [List.take_succ_eq_append_getElem (by rw [← HN.out]; exact hlt), hs]
        have hstep : ((setsM j).take (i + 1)).foldl (stepM j) 0 = stepM j b s := by rw [htk, List.foldl_append, ← HBB.out]; rfl
        have HST := Lib.hid hstep
        clear hs htk hstep hel
        have hs4 := size_four s (by omega)
        have hb4 := size_four b (by omega)
        obtain ⟨zs, hzs⟩ : ∃ z, z = sizeJ 8 s := ⟨_, rfl⟩
        obtain ⟨zb, hzb⟩ : ∃ z, z = sizeJ 8 b := ⟨_, rfl⟩
        rw [← hzs] at hs4
        rw [← hzb] at hb4
        have HZ := Lib.hid (And.intro hzs (And.intro hzb (And.intro hs4 hb4)))
        clear hs4 hb4 hzs hzb
        go_wp2_with fail
        refine (jmany_any s (by omega) _).mono ?_
        rintro e w' ⟨rfl, rfl⟩
        rw [← HZ.out.1]
        go_wp2_with fail
        refine (jmany_any b (by omega) _).mono ?_
        rintro e w' ⟨rfl, rfl⟩
        rw [← HZ.out.2.1]
        by_cases hc : zb < zs
        · have hci : (zb : Int) < (zs : Int) := by omega
          go_wp2_with fail
          refine (can_any HV.out s (by rw [← HNW.out]; exact hs2) _ HJR.out).mono ?_
          rintro e w5 ⟨rfl, hj5, hk5⟩
          dsimp only
          have H5 := Lib.hid (And.intro hj5 (HKR.out.trans hk5))
          clear hj5 hk5
          cases hcan : canD j s with
          | false =>
            have HC := Lib.hid hcan
            clear hcan
            go_wp2_with fail
            refine ⟨⟨i + 1, hlt, by push_cast; rfl, ?_, H5.out.1, H5.out.2⟩, by simp [intOf]; omega⟩
            rw [HST.out, stepM, HC.out]; simp
          | true =>
            have HC := Lib.hid hcan
            clear hcan
            go_wp2_with fail
            refine ⟨⟨i + 1, hlt, by push_cast; rfl, ?_, H5.out.1, H5.out.2⟩, by simp [intOf]; omega⟩
            rw [HST.out, stepM, HC.out, ← HZ.out.2.2.1, ← HZ.out.2.2.2]; simp [hc]
        · have hci : ¬ (zb : Int) < (zs : Int) := by omega
          go_wp2_with fail
          refine ⟨⟨i + 1, hlt, by push_cast; rfl, ?_, HJR.out, HKR.out⟩, by simp [intOf]; omega⟩
          rw [HST.out, stepM, ← HZ.out.2.2.1, ← HZ.out.2.2.2]; simp [hc]
      · obtain rfl : i = n := by omega
        have hlti : ¬ (i : Int) < (i : Int) := by omega
        have hbe : b = (setsM j).foldl (stepM j) 0 := by rw [HBB.out, HN.out, List.take_length]
        have hval : mostD j = ((((sizeJ 8 b : Nat) : Int), ((b : Nat) : Int)), (0 : Int)) := by
          unfold mostD
          rw [HERR.out]
          have h4 := size_four b (by omega)
          rw [h4, hbe]; rfl
        have HVAL := Lib.hid hval
        have hwb : IntKind.i64.wrap (b : Int) = (b : Int) := IntWalk.i64_in _ (by omega)
        have he3 := (HKR.out.block _ (lt_of_block HE2.out) (by omega)).trans HE2.out
        have hbw3 := HB2.out.trans (HKR.out.below HB2.out.size (fun k h e => by omega))
        have hc3 : wr.cell? ⟨w.heap.size + 1, 0, none⟩ = some (.int .i64 0) := by rw [cell_of_row _ _ _ _ _ _ he3]; rfl
        have hf3 : wr.frozen? ⟨w.heap.size + 1, 0, none⟩ = false := frozen_of_row _ _ 0 _ _ he3
        have H3 := Lib.hid (And.intro he3 hbw3)
        clear he3 hbw3 hval hbe
        go_wp2_with fail
        refine (jmany_any b (by omega) _).mono ?_
        rintro e w' ⟨rfl, rfl⟩
        go_wp2_with fail
        have e9 := err_set (y := 0) H3.out.1
        exact jleaf_ret (w.heap.size + 1) _ _ ⟨_, by simp [results, Tryd.results35, go_sem, e9]; rfl, by rw [HVAL.out], H3.out.2.trans ((Keeps.setCell (Mut := fun k => k = w.heap.size + 1) _ _ _ rfl).below H3.out.2.size (fun k h e => by omega))⟩
/-- The first of which something is so. -/
def whyD (j : JobD) : Int × Int :=
  if errD j true ≠ 0 then (0, errD j true) else match (setsM j).find? (fun s => !canD j s) with
    | none => (0, 4)
    | some s => (((s : Nat) : Int), 0)
set_option maxHeartbeats 4000000 in
theorem whyF_any {j : JobD} (hv : validJb j = true) {B pp mp jb : Nat} {bs ws : Value} {r : Nat → Value} (s : Nat) (hs : s < 2 ^ j.ws.length) (w : World) (h : JobK j B pp mp bs ws r w) (hjb : w.cell? ⟨jb, 0, none⟩ = some (.pointer (some ⟨pp, 0, none⟩))) :
    Calls Tryd.prog 79 #[.int .u64 s, .pointer (some ⟨jb, 0, none⟩)] w fun e w' => e = .returned (.bool (!canD j s)) ∧ JobK j B pp mp bs ws r w' ∧ Keeps (fun k => k = mp) w w' := by
  have H := Lib.hid h
  have HV := Lib.hid hv
  clear h hv
  obtain ⟨c, hc⟩ : ∃ c, c = canD j s := ⟨_, rfl⟩
  rw [← hc]
  have HC := Lib.hid hc
  clear hc
  go_enter Tryd.func79, Tryd.ntmps79
  go_wp2_with fail
  refine (can_any HV.out s hs _ H.out).mono ?_
  rintro e w5 ⟨rfl, hj5, hk5⟩
  rw [← HC.out]
  dsimp only
  have H5 := Lib.hid (And.intro hj5 hk5)
  clear hj5 hk5
  go_wp2
  go_ret
  exact ⟨rfl, H5.out.1, H5.out.2⟩
def firstV : Option Nat → Value
  | none => .tuple #[.int .u64 0, .bool false]
  | some s => .tuple #[.int .u64 s, .bool true]
set_option maxRecDepth 100000 in
set_option maxHeartbeats 4000000 in
theorem jfirst_any {j : JobD} (hv : validJb j = true) {B pp mp jb : Nat} {bs ws : Value} {r : Nat → Value} (l : List Nat) (lv : Value) (hl : l.length ≤ 1000) (hlt : ∀ s ∈ l, s < 2 ^ j.ws.length) (w : World) (h : JobK j B pp mp bs ws r w) (hjb : w.cell? ⟨jb, 0, none⟩ = some (.pointer (some ⟨pp, 0, none⟩))) (hjm : jb < w.heap.size ∧ jb ≠ mp) (hset : SetsAt w lv l (fun k => k ≠ mp)) :
    Calls Tryd.prog 78 #[lv, .agg #[.func (.func 79) #[] #[.pointer (some ⟨jb, 0, none⟩)]]] w fun e w' => e = .returned (firstV (l.find? fun s => !canD j s)) ∧ Keeps (fun k => k = mp) w w' := by
  have H := Lib.hid h
  have HV := Lib.hid hv
  have HSET := Lib.hid hset
  have HJB := Lib.hid hjb
  have HLT := Lib.hid hlt
  have hmps := h.kept.lt
  obtain ⟨aos, caps, rfl, _⟩ := id hset
  obtain ⟨n, hn⟩ : ∃ n, n = l.length := ⟨_, rfl⟩
  rw [← hn] at HSET hl ⊢
  have HN := Lib.hid hn
  have eg := enters_of (P := Tryd.prog) Tryd.func79 (by kernel_rfl) rfl
  clear h hv hset hn hjb hlt
  obtain ⟨res, hres⟩ : ∃ x, x = firstV (l.find? fun s => !canD j s) := ⟨_, rfl⟩
  rw [← hres]
  have HRES := Lib.hid hres
  clear hres
  go_enter Tryd.func78, Tryd.ntmps78
  go_wp2_with fail
  refine wp_name (fun W => W.heap[w.heap.size]? = some (.cells #[.func (.func 79) #[] #[.pointer (some ⟨jb, 0, none⟩)]] 129 (0, 0)) ∧ Below w.heap.size w W) ⟨heap_alloc_at _ _ _ rfl, Below.alloc' _ _⟩ ?_
  rintro W0 ⟨hx0, hb0⟩
  have HX0 := Lib.hid hx0
  have HJ0 := Lib.hid (H.out.later hb0)
  have HB0 := Lib.hid hb0
  have hs0 := hb0.size
  have hxl := lt_of_block hx0
  clear hx0 hb0
  go_loopw [4, 10] (fun zv iv wr => ∃ i : Nat, i ≤ n ∧ zv = .int .u64 0 ∧ iv = .int .i64 i ∧ (l.take i).find? (fun s => !canD j s) = none ∧ JobK j B pp mp bs ws r wr ∧ Keeps (fun k => k = mp) W0 wr) (fun _ iv _ => n - (intOf iv).toNat)
  case atStart => exact ⟨0, Nat.zero_le _, rfl, rfl, rfl, HJ0.out, Keeps.refl _ _⟩
  case round =>
    obtain ⟨i, hi, rfl, rfl, hnone, hjk, hk⟩ := hrel
    have HJR := Lib.hid hjk
    have HKR := Lib.hid hk
    have HNO := Lib.hid hnone
    clear hjk hk hnone
    have hkw : Keeps (fun k => k = mp) w wr := (Keeps.of_below HB0.out (fun k h1 h2 => absurd h2 (by omega))).trans HKR.out
    have HKW := Lib.hid hkw
    by_cases hlt : i < n
    · have hw : IntKind.i64.wrap ((i : Int) + 1) = ((i + 1 : Nat) : Int) := by rw [IntWalk.i64_in _ (by omega)]; omega
      have hlti : (i : Int) < (n : Int) := by omega
      obtain ⟨aos', caps', he, hel⟩ := HSET.out
      injection he with ha hb hc
      subst ha hc
      clear hb
      obtain ⟨sb, so, rfl, hsb, hsl, e1⟩ := hel i (by rw [← HN.out]; exact hlt)
      obtain ⟨s, hs⟩ : ∃ s, s = l[i]'(by rw [← HN.out]; exact hlt) := ⟨_, rfl⟩
      rw [← hs] at e1
      have e1 := (World.cell?_of_block (w := w) (w' := wr) (a := ⟨sb, so + i, none⟩) (hkw.block sb hsl hsb)).trans e1
      have htk : l.take (i + 1) = l.take i ++ [s] := by rw [List.take_succ_eq_append_getElem (by rw [← HN.out]; exact hlt), hs]
      have hsp : l = l.take i ++ s :: l.drop (i + 1) := by
        conv => lhs; rw [← List.take_append_drop i l, ← List.getElem_cons_drop (h := by rw [← HN.out]; exact hlt), ← hs]
      have hs2 : s < 2 ^ j.ws.length := HLT.out s (by rw [hs]; exact List.getElem_mem _)
      have HTK := Lib.hid (And.intro htk hsp)
      clear hs htk hsp hel
      have c0 : wr.cell? ⟨w.heap.size, 0, none⟩ = some (.func (.func 79) #[] #[.pointer (some ⟨jb, 0, none⟩)]) := by rw [cell_of_row _ _ _ _ _ _ ((HKR.out.block _ hxl (by omega)).trans HX0.out)]; rfl
      have hjb5 : wr.cell? ⟨jb, 0, none⟩ = some (.pointer (some ⟨pp, 0, none⟩)) := (World.cell?_of_block (w := w) (w' := wr) (a := ⟨jb, 0, none⟩) (hkw.block jb hjm.1 hjm.2)).trans HJB.out
      have HJB5 := Lib.hid hjb5
      clear hjb5 hkw
      go_wp2_with fail
      refine (whyF_any HV.out s hs2 _ HJR.out HJB5.out).mono ?_
      rintro e w5 ⟨rfl, hj5, hk5⟩
      dsimp only
      have H5 := Lib.hid (And.intro hj5 (And.intro (HKR.out.trans hk5) (HKW.out.trans hk5)))
      clear hj5 hk5
      cases hcan : canD j s with
      | true =>
        have HC := Lib.hid hcan
        clear hcan
        go_wp2_with fail
        refine ⟨⟨i + 1, hlt, rfl, by push_cast; rfl, ?_, H5.out.1, H5.out.2.1⟩, by simp [intOf]; omega⟩
        rw [HTK.out.1, List.find?_append, HNO.out]
        simp [HC.out]
      | false =>
        have HC := Lib.hid hcan
        clear hcan
        have hval : res = .tuple #[.int .u64 s, .bool true] := by
          rw [HRES.out, HTK.out.2, List.find?_append, HNO.out, List.find?_cons, HC.out]; rfl
        have HVAL := Lib.hid hval
        clear hval
        go_wp2_with fail
        exact bodyPost_ret (v := .tuple #[.int .u64 s, .bool true]) (by simp [results, Tryd.results78, go_sem]) rfl ⟨by rw [HVAL.out], H5.out.2.2⟩
    · obtain rfl : i = n := by omega
      have hlti : ¬ (i : Int) < (i : Int) := by omega
      have hval : res = .tuple #[.int .u64 0, .bool false] := by
        have := HNO.out
        rw [HN.out, List.take_length] at this
        rw [HRES.out, this]; rfl
      have HVAL := Lib.hid hval
      clear hval hkw
      go_wp2_with fail
      exact bodyPost_ret (v := .tuple #[.int .u64 0, .bool false]) (by simp [results, Tryd.results78, go_sem]) rfl ⟨by rw [HVAL.out], HKW.out⟩
set_option maxRecDepth 100000 in
set_option maxHeartbeats 8000000 in
theorem Why_any (j : JobD) (bs ws : Value) (w : World) (hbs : SpansAt w bs j.st.bs (fun k => k < w.heap.size)) (hws : SpansAt w ws j.ws (fun k => k < w.heap.size)) (htz : TabZ w) :
    Calls Tryd.prog 36 #[jobV j bs ws] w fun e w' => e = .returned (.tuple #[.int .i64 (whyD j).1, .int .i64 (whyD j).2]) ∧ Below w.heap.size w w' := by
  have HTZ := Lib.hid htz
  have h1z := htz.lt
  clear htz
  have HBS := Lib.hid hbs
  have HWS := Lib.hid hws
  obtain ⟨ao, cap, hv1, _⟩ := id hbs
  obtain ⟨ao2, cap2, hv2, _⟩ := id hws
  subst hv1 hv2
  obtain ⟨nb, hnb⟩ : ∃ n, n = j.st.bs.length := ⟨_, rfl⟩
  obtain ⟨nw, hnw⟩ : ∃ n, n = j.ws.length := ⟨_, rfl⟩
  rw [← hnb] at HBS
  rw [← hnw] at HWS
  unfold jobV
  rw [← hnb, ← hnw]
  have HNB := Lib.hid hnb
  have HNW := Lib.hid hnw
  clear hbs hws hnb hnw
  go_enter_defers Tryd.func36, Tryd.ntmps36
  go_wp2_with fail
  refine (open_always j (.slice ao nb cap) (.slice ao2 nw cap2) _ (by rw [HNB.out] at HBS ⊢; exact (HBS.out.later (by simp <;> omega) (fun k h1 h2 => (hget_old _ _ _ (by simp; omega)).trans (hget_old _ _ _ (by omega)))).low) (by rw [HNW.out] at HWS ⊢; exact (HWS.out.later (by simp <;> omega) (fun k h1 h2 => (hget_old _ _ _ (by simp; omega)).trans (hget_old _ _ _ (by omega)))).low)).mono ?_
  rintro e w1 ⟨hb1, hres⟩
  have he1 := (hb1.block (w.heap.size + 1) (by simp <;> omega)).trans (heap_alloc_at _ (.cells #[.int .i64 0] 33) _ (by simp))
  have hx1 := (hb1.block w.heap.size (by simp <;> omega)).trans ((hget_old _ _ _ (by simp)).trans (heap_alloc_at w (.cells #[.slice ao nb cap, .int .i64 j.st.film.1, .int .i64 j.st.film.2, .slice ao2 nw cap2] 28) _ rfl))
  have hbw : Below w.heap.size w w1 := (((Below.refl _ _).alloc (Nat.le_refl _) _).alloc (by simp) _).trans (hb1.mono (by simp <;> omega))
  have HE1 := Lib.hid he1
  have HX1 := Lib.hid hx1
  have HBW := Lib.hid hbw
  clear hb1 he1 hx1 hbw
  rcases hres with ⟨hne, rfl⟩ | ⟨he, pp, mp, r, rfl, hj, hm⟩
  · skip
    obtain ⟨er, her⟩ : ∃ x, x = errD j true := ⟨_, rfl⟩
    rw [← her] at hne ⊢
    have HNE := Lib.hid (And.intro hne her)
    clear hne her
    dsimp only
    go_wp2_with fail
    refine jleaf_stop er (w.heap.size + 1) 0 _ w1 HE1.out (fun W' hkE heE => ?_)
    have e9 : W'.cell? ⟨w.heap.size + 1, 0, none⟩ = some (.int .i64 er) := by rw [cell_of_row _ _ _ _ _ _ heE]; rfl
    have hval : whyD j = ((0 : Int), er) := by unfold whyD; rw [← HNE.out.2, if_pos HNE.out.1]
    exact ⟨_, by simp [results, Tryd.results36, go_sem, e9]; rfl, by rw [hval], HBW.out.trans (hkE.below HBW.out.size (fun k h e => by omega))⟩
  · skip
    dsimp only
    have hv := (errD_valid he).1
    have HV := Lib.hid hv
    have HERR := Lib.hid he
    obtain ⟨B, hBB⟩ : ∃ B, B = w.heap.size + 1 + 1 := ⟨_, rfl⟩
    have hsz : ((w.alloc (.cells #[.slice ao nb cap, .int .i64 j.st.film.1, .int .i64 j.st.film.2, .slice ao2 nw cap2] 28)).alloc (.cells #[.int .i64 0] 33)).heap.size = B := by rw [hBB]; simp
    rw [hsz] at hj
    have HJ := Lib.hid hj
    have HM := Lib.hid hm
    clear he hj hm hv hsz
    have hjk : JobK j B pp mp (.slice ao nb cap) (.slice ao2 nw cap2) r w1 := ⟨HJ.out, KeptJ.nil HM.out, HTZ.out.below HBW.out h1z, by omega⟩
    have HJK := Lib.hid hjk
    have hlm := hjk.r.o.lm
    have hmps := hjk.kept.lt
    clear hjk HJ HM
    have hnw4 : nw ≤ 4 := by rw [HNW.out]; exact (validJb_parts HV.out).2.1
    have hp16 : 2 ^ nw ≤ 16 := (Nat.pow_le_pow_right (by decide : 0 < 2) hnw4 : _ ≤ 2 ^ 4)
    have hmf : ∀ (fn : Fn) (first cap : Array Value) (w : World), (Instr.makeFunc fn first cap).run Tryd.prog w = .ok (.func fn first cap) w := fun _ _ _ _ => rfl
    go_wp2_with fail
    obtain ⟨W1, hW1⟩ : ∃ W, W = w1.alloc (.cells #[.pointer (some ⟨pp, 0, none⟩)] 74 (0, 0)) := ⟨_, rfl⟩
    have hb11 : Below w1.heap.size w1 W1 := by rw [hW1]; exact Below.alloc' _ _
    have hjb1 : W1.heap[w1.heap.size]? = some (.cells #[.pointer (some ⟨pp, 0, none⟩)] 74 (0, 0)) := by rw [hW1]; exact heap_alloc_at _ _ _ rfl
    try rw [← hW1]
    clear hW1
    refine (sets_any (validJb_parts HV.out).2.1 _ (HJK.out.later hb11).r.o).mono ?_
    rintro e w2 ⟨⟨v, rfl, hset⟩, hb2⟩
    dsimp only
    have hs11 := hb11.size
    have hs2 := hb2.size
    have hjb2 := (hb2.block _ (lt_of_block hjb1)).trans hjb1
    have hbw2 : Below w.heap.size w w2 := (HBW.out.trans (hb11.mono HBW.out.size)).trans (hb2.mono (by have := HBW.out.size; omega))
    have he2 := (hb2.block _ (by have := lt_of_block HE1.out; omega)).trans ((hb11.block _ (lt_of_block HE1.out)).trans HE1.out)
    have hjk2 := (HJK.out.later hb11).later hb2
    have hset2 : SetsAt w2 v (setsM j) (fun k => k ≠ mp) := by
      obtain ⟨a, c, h1, h2⟩ := hset
      exact ⟨a, c, h1, fun i hi => by obtain ⟨b, off, e1, e2, e3⟩ := h2 i hi; exact ⟨b, off, e1, by omega, e3⟩⟩
    have hcj : w2.cell? ⟨w1.heap.size, 0, none⟩ = some (.pointer (some ⟨pp, 0, none⟩)) := by rw [cell_of_row _ _ _ _ _ _ hjb2]; rfl
    have HH := Lib.hid (And.intro hset2 (And.intro hcj (And.intro hjk2 (And.intro he2 hbw2))))
    have hjm : w1.heap.size < w2.heap.size ∧ w1.heap.size ≠ mp := ⟨lt_of_block hjb2, by omega⟩
    clear hset hset2 hcj hjk2 he2 hbw2 hjb2 hjb1 hb2 hb11
    go_wp2_with fail
    refine (jfirst_any HV.out (setsM j) v (by rw [setsM_len, ← HNW.out]; omega) setsM_lt w2 HH.out.2.2.1 HH.out.2.1 hjm HH.out.1).mono ?_
    rintro e w3 ⟨rfl, hk3⟩
    dsimp only
    have he3 := (hk3.block _ (lt_of_block HH.out.2.2.2.1) (by omega)).trans HH.out.2.2.2.1
    have hbw3 := HH.out.2.2.2.2.trans (hk3.below HH.out.2.2.2.2.size (fun k h e => by omega))
    have H3 := Lib.hid (And.intro he3 hbw3)
    have hc3 : w3.cell? ⟨w.heap.size + 1, 0, none⟩ = some (.int .i64 0) := by rw [cell_of_row _ _ _ _ _ _ he3]; rfl
    have hf3 : w3.frozen? ⟨w.heap.size + 1, 0, none⟩ = false := frozen_of_row _ _ 0 _ _ he3
    clear hk3 he3 hbw3
    cases hfi : (setsM j).find? (fun s => !canD j s) with
    | none =>
      have hval : whyD j = ((0 : Int), (4 : Int)) := by unfold whyD; rw [HERR.out, hfi]; rfl
      have HVAL := Lib.hid hval
      have hfv : firstV none = .tuple #[.int .u64 0, .bool false] := rfl
      rw [hfv]
      clear hval hfi hfv
      go_wp2_with fail
      refine (jask_no 4 _).mono ?_
      rintro e w' ⟨rfl, rfl⟩
      dsimp only
      go_wp2_with fail
      refine jleaf_stop 4 (w.heap.size + 1) 0 _ w3 H3.out.1 (fun W' hkE heE => ?_)
      have e9 : W'.cell? ⟨w.heap.size + 1, 0, none⟩ = some (.int .i64 4) := by rw [cell_of_row _ _ _ _ _ _ heE]; rfl
      exact ⟨_, by simp [results, Tryd.results36, go_sem, e9]; rfl, by rw [HVAL.out], H3.out.2.trans (hkE.below H3.out.2.size (fun k h e => by omega))⟩
    | some s =>
      have hval : whyD j = (((s : Nat) : Int), (0 : Int)) := by unfold whyD; rw [HERR.out, hfi]; rfl
      have hs : s < 2 ^ nw := by rw [HNW.out]; exact setsM_lt s (List.mem_of_find?_eq_some hfi)
      have HVAL := Lib.hid hval
      have hfv : firstV (some s) = .tuple #[.int .u64 s, .bool true] := rfl
      rw [hfv]
      clear hval hfi hfv
      have hwb : IntKind.i64.wrap (s : Int) = (s : Int) := IntWalk.i64_in _ (by omega)
      go_wp2_with fail
      refine (jask_ok 4 _).mono ?_
      rintro e w' ⟨rfl, rfl⟩
      dsimp only
      go_wp2_with fail
      have e9 := err_set (y := 0) H3.out.1
      exact jleaf_ret (w.heap.size + 1) _ _ ⟨_, by simp [results, Tryd.results36, go_sem, e9]; rfl, by rw [HVAL.out], H3.out.2.trans ((Keeps.setCell (Mut := fun k => k = w.heap.size + 1) _ _ _ rfl).below H3.out.2.size (fun k h e => by omega))⟩
end Go.Proofs.YtbmfphiecllggaaDoor
