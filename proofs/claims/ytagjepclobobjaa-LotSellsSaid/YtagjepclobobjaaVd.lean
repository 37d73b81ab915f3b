/- Texts Bn, Bo, Bp, Bq, Br, Bs, Bt, Hy in one file; each begins with a word on what it proves. -/
import Derived.Laws.EntriesVeiled
import Derived.Recover
import Derived.Maps.RangeRun
import Derived.Test.YtagjepclobobjaaVc
import Derived.Test.YtagjepclobobjaaVa

/- Package grade: the iterator of all truths: a step of its recursion (under way). -/
namespace Go.Proofs.Ytagjepclobobjaa
set_option linter.unusedVariables false
set_option linter.unusedSimpArgs false
open Go.RowKit Go.Shelf
attribute [local go_sem] Oper.semAt_some

theorem OnW.keeps {yb ob bb nb bp l : Nat} {row : Array Value} {b : List Int} {W W' : World} {M : Nat → Prop} (h : OnW yb ob bb nb bp l row b W) (hk : Keeps M W W') (h1 : ¬ M yb) (h2 : ¬ M ob) (h3 : ¬ M bb) (h4 : ¬ M nb) (h5 : ¬ M bp) : OnW yb ob bb nb bp l row b W' := by
  obtain ⟨y, ⟨junk, hj, o⟩, c, n, p⟩ := h
  exact ⟨(hk.block _ (lt_of_block y) h1).trans y, ⟨junk, hj, (hk.block _ (lt_of_block o) h2).trans o⟩, (hk.block _ (lt_of_block c) h3).trans c, (hk.block _ (lt_of_block n) h4).trans n, (hk.block _ (lt_of_block p) h5).trans p⟩
/-- The ends of a point in a bench's row. -/
theorem pts_at (lv l2 : Value) (p : List (Int × Int)) (step : Int) (n : Nat) (h : n < p.length) : (benchC lv p step l2).toArray[1 + n * 2]? = some (.int .i64 p[n].1) ∧ (benchC lv p step l2).toArray[1 + n * 2 + 1]? = some (.int .i64 p[n].2) := by
  have hl := pts_len p
  have h0 : ∀ k, k < 2 → (benchC lv p step l2).toArray[1 + n * 2 + k]? = (ptsC p)[n * 2 + k]? := fun k hk => by
    unfold benchC gradeC
    rw [List.getElem?_toArray, List.getElem?_append_left (by simp [hl]; omega), show 1 + n * 2 + k = (n * 2 + k) + 1 by omega, List.getElem?_cons_succ, List.getElem?_append_left (by rw [hl]; omega)]
  have hf : ∀ k, k < 2 → (ptsC p)[n * 2 + k]? = (spanG2 p[n])[k]? := fun k hk => flatG2 p n h k hk
  exact ⟨by have := (h0 0 (by decide)).trans (hf 0 (by decide)); simpa [spanG2] using this, by have := (h0 1 (by decide)).trans (hf 1 (by decide)); simpa [spanG2] using this⟩
theorem bench_11 (lv l2 : Value) (p : List (Int × Int)) (hp : p.length = 5) (step : Int) : (benchC lv p step l2).toArray[11]? = some (.int .i64 step) := by
  have hl := pts_len p
  unfold benchC gradeC
  rw [List.getElem?_toArray, List.getElem?_append_left (by simp [hl, hp]), List.getElem?_cons_succ, List.getElem?_append_right (by simp [hl, hp])]
  simp [hl, hp]
theorem slice_at (ob n : Nat) (hn : n < 5) (w : World) : (Instr.sliceAt 156 (.pointer (some ⟨ob, 0, none⟩)) none (some (.int .i64 (n : Int))) none).run Try.prog w = .ok (.slice (some ⟨ob, 0, none⟩) n 5) w := by
  rcases (show n = 0 ∨ n = 1 ∨ n = 2 ∨ n = 3 ∨ n = 4 by omega) with rfl | rfl | rfl | rfl | rfl <;> kernel_rfl
def SN (bb bp : Nat) (st : Int) (W : World) : Prop := W.cell? ⟨bb, 0, none⟩ = some (.pointer (some ⟨bp, 0, none⟩)) ∧ W.cell? ⟨bp, 11, none⟩ = some (.int .i64 st)
set_option maxRecDepth 100000 in
set_option maxHeartbeats 8000000 in
theorem on_step (g : GradeD) (hp : g.pts.length = 5) (hv : validG g = true) (lv l2 : Value) (yb ob bb nb bp l base : Nat) (Mut : Nat → Prop) (J Jx : List (List Int) → (Nat → Prop) → World → Prop) (xs : List (List Int)) (m : Nat) (b : List Int) (hb : b.length + (m + 1) = 5) (hbb : ∀ v ∈ b, -100 ≤ v ∧ v ≤ 100) (pre rest : List (List Int)) (G : Nat → Prop) (W0 W1 : World)
    (hJs : ∀ s G A B, J s G A → Keeps (fun k => base - 3 ≤ k ∧ ¬ G k) A B → J s G B)
    (hob : base - 3 ≤ ob ∧ ob < base) (hne : yb ≠ ob ∧ bb ≠ ob ∧ nb ≠ ob ∧ bp ≠ ob)
    (hM : ∀ k, Mut k → k ≠ yb ∧ k ≠ ob ∧ k ≠ bb ∧ k ≠ nb ∧ k ≠ bp)
    (ih : ∀ (b' : List Int) (pre rest : List (List Int)) (G : Nat → Prop) (W1 : World), b'.length + m = 5 → (∀ v ∈ b', -100 ≤ v ∧ v ≤ 100) → xs = pre ++ fromG g m b' ++ rest → J pre G W1 → (∀ k, G k → base ≤ k) → W0.heap.size ≤ W1.heap.size → base ≤ W1.heap.size → OnW yb ob bb nb bp l (benchC lv g.pts g.step l2).toArray b' W1 →
      CallsIn Fence.wide 0 Try.prog 90 #[.int .i64 (b'.length : Int), .pointer (some ⟨yb, 0, none⟩), .pointer (some ⟨ob, 0, none⟩), .pointer (some ⟨bb, 0, none⟩), .pointer (some ⟨nb, 0, none⟩)] W1 (OnR base ob Mut J Jx xs g m b' pre W1))
    (hxs : xs = pre ++ fromG g (m + 1) b ++ rest) (hJ : J pre G W1) (hG : ∀ k, G k → base ≤ k) (hsz : W0.heap.size ≤ W1.heap.size) (hbs : base ≤ W1.heap.size) (hW : OnW yb ob bb nb bp l (benchC lv g.pts g.step l2).toArray b W1) :
    CallsIn Fence.wide 0 Try.prog 90 #[.int .i64 (b.length : Int), .pointer (some ⟨yb, 0, none⟩), .pointer (some ⟨ob, 0, none⟩), .pointer (some ⟨bb, 0, none⟩), .pointer (some ⟨nb, 0, none⟩)] W1 (OnR base ob Mut J Jx xs g (m + 1) b pre W1) := by
  obtain ⟨n, hn⟩ : ∃ n, n = b.length := ⟨_, rfl⟩
  rw [← hn] at hb ⊢
  have hn5 : n < 5 := by omega
  have hni : ((n : Int) == 5) = false := by rw [beq_eq_false_iff_ne]; omega
  have hn0 : 0 ≤ (n : Int) := by omega
  have hnl : (n : Int) < 5 := by omega
  obtain ⟨⟨lo, hi⟩, hs⟩ : ∃ s, s = g.pts[n]'(by rw [hp]; exact hn5) := ⟨_, rfl⟩
  obtain ⟨e1, e2⟩ := pts_at lv l2 g.pts g.step n (by rw [hp]; exact hn5)
  rw [← hs] at e1 e2
  have c0 : W1.cell? ⟨bb, 0, none⟩ = some (.pointer (some ⟨bp, 0, none⟩)) := cell_of_row _ _ 0 _ _ _ hW.c
  have c1 : W1.cell? ⟨bp, 1 + n * 2, none⟩ = some (.int .i64 lo) := by rw [cell_of_row _ _ _ _ _ _ hW.p]; exact e1
  have hok : -20 ≤ lo ∧ lo ≤ hi ∧ hi ≤ 20 := by
    unfold validG at hv
    rw [Bool.and_eq_true, List.all_eq_true] at hv
    have := hv.2 (lo, hi) (by rw [hs]; exact List.getElem_mem _)
    unfold ptOk at this
    simp only [Bool.and_eq_true, decide_eq_true_eq] at this
    omega
  obtain ⟨k1, k2, k3⟩ := hok
  obtain ⟨cnt, hcnt⟩ : ∃ c, c = (hi - lo + 1).toNat := ⟨_, rfl⟩
  have hcn : (cnt : Int) = hi - lo + 1 := by omega
  have hsl : (spanG (lo, hi)).length = cnt := by unfold spanG; rw [List.length_map, List.length_range, hcnt]
  have hsg : ∀ j (h : j < (spanG (lo, hi)).length), (spanG (lo, hi))[j] = lo + (j : Int) := fun j h => by
    have : ∀ (l : List Int) (e : l = (List.range (hi - lo + 1).toNat).map fun i : Nat => lo + (i : Int)) (h : j < l.length), l[j] = lo + (j : Int) := fun l e h => by subst e; simp
    exact this _ rfl h
  have HSL := Lib.hid (And.intro hsl hsg)
  have HCN := Lib.hid hcn
  clear hcnt hsl hsg hcn
  have HS := Lib.hid hs
  have HN := Lib.hid hn
  have HE := Lib.hid (And.intro e1 e2)
  have HW := Lib.hid hW
  have HIH := Lib.hid ih
  have HXS := Lib.hid hxs
  have HJ := Lib.hid hJ
  have HG := Lib.hid hG
  have HM := Lib.hid hM
  have HJS := Lib.hid hJs
  have HBB := Lib.hid hbb
  clear hbb hs hn e1 e2 hW ih hxs hJ hG hM hJs hv
  refine callsIn_wide.2 ?_
  go_enter Try.func90, Try.ntmps90
  go_wp2_with fail
  refine wp_scope_straight ?_
  go_wp2_with fail
  refine wp_label ?_
  go_wp2_with fail
  clear c0 c1
  go_loopw [7] (fun iv wr => ∃ (j : Nat) (G : Nat → Prop), j ≤ cnt ∧ iv = .int .i64 (lo + j) ∧ J (pre ++ ((spanG (lo, hi)).take j).flatMap fun k => if fitG g.step b k then fromG g m (b ++ [k]) else []) G wr ∧ (∀ k, G k → base ≤ k) ∧ OnW yb ob bb nb bp l (benchC lv g.pts g.step l2).toArray b wr ∧ Keeps (fun k => Mut k ∨ k = ob) W1 wr) (fun iv _ => (hi + 1 - intOf iv).toNat)
  case atStart => exact ⟨0, G, Nat.zero_le _, by simp, by simpa using HJ.out, HG.out, HW.out, Keeps.refl _ _⟩
  case round =>
    obtain ⟨j, G2, hj, rfl, hJ2, hG2, hW2, hK2⟩ := hrel
    have HJ2 := Lib.hid hJ2
    have HG2 := Lib.hid hG2
    have HW2 := Lib.hid hW2
    have HK2 := Lib.hid hK2
    have d0 : wr.cell? ⟨bb, 0, none⟩ = some (.pointer (some ⟨bp, 0, none⟩)) := cell_of_row _ _ 0 _ _ _ hW2.c
    have d1 : wr.cell? ⟨bp, 1 + n * 2 + 1, none⟩ = some (.int .i64 hi) := by rw [cell_of_row _ _ _ _ _ _ hW2.p]; exact HE.out.2
    clear hJ2 hG2 hW2 hK2
    by_cases hlt : j < cnt
    · have hle : lo + (j : Int) ≤ hi := by have := HCN.out; omega
      have hsl := slice_at ob n hn5
      go_wp2_with fail
      clear d0 d1 hsl
      obtain ⟨wo, hwo⟩ : ∃ W, W = wr := ⟨_, rfl⟩
      subst hwo
      have hk40 : -100 ≤ lo + (j : Int) ∧ lo + (j : Int) ≤ 100 := by omega
      obtain ⟨kv, hkv⟩ : ∃ k, k = lo + (j : Int) := ⟨_, rfl⟩
      rw [← hkv] at hle hk40 ⊢
      have HKV := Lib.hid hkv
      clear hkv
      go_loopw [38] (fun iv wq => ∃ i : Nat, i ≤ n ∧ iv = .int .i64 i ∧ Below wo.heap.size wo wq ∧ ∀ i' (h : i' < b.length), i' < i → (nextG i' n = false ∨ apartG b[i'] kv ≤ g.step)) (fun iv _ => n - (intOf iv).toNat)
      case atStart => exact ⟨0, Nat.zero_le _, rfl, Below.refl _ _, fun i' h h2 => absurd h2 (by omega)⟩
      case round =>
        obtain ⟨i, hi', rfl, hbq, hfit⟩ := hrel
        have HBQ := Lib.hid hbq
        have HFIT := Lib.hid hfit
        clear hbq hfit
        by_cases hin : i < n
        · have hw : IntKind.i64.wrap ((i : Int) + 1) = ((i + 1 : Nat) : Int) := by rw [IntWalk.i64_in _ (by omega)]; omega
          have hlti : (i : Int) < (n : Int) := by omega
          obtain ⟨junk, hj5, ho⟩ := HW2.out.o
          have hib : i < b.length := by rw [← HN.out]; exact hin
          obtain ⟨x, hx⟩ : ∃ x, x = b[i] := ⟨_, rfl⟩
          have q1 : wr.cell? ⟨ob, i, none⟩ = some (.int .i64 x) := by
            rw [cell_of_row _ _ _ _ _ _ ((HBQ.out.block _ (lt_of_block ho)).trans ho), List.getElem?_toArray, List.getElem?_map, List.getElem?_append_left hib, List.getElem?_eq_getElem hib, hx]
            rfl
          have HX := Lib.hid hx
          clear ho hj5 hx
          go_upto_region 9 with fail
          clear q1
          have hSX : Hid (∀ Y, Below wo.heap.size wo Y → SN bb bp g.step Y) := Lib.hid fun Y h =>
            ⟨cell_of_row _ _ 0 _ _ _ ((h.block _ (lt_of_block HW2.out.c)).trans HW2.out.c), by rw [cell_of_row _ _ _ _ _ _ ((h.block _ (lt_of_block HW2.out.p)).trans HW2.out.p)]; exact bench_11 _ _ _ hp _⟩
          obtain ⟨D, hD⟩ : ∃ D, D = World.drew wr := ⟨_, rfl⟩
          have HD : Hid (Below wo.heap.size wo D) := Lib.hid (by rw [hD]; exact ⟨HBQ.out.os, HBQ.out.tape, HBQ.out.output, HBQ.out.size, HBQ.out.block⟩)
          refine wp_region_held_drew (S := SN bb bp g.step) (by kernel_rfl) (by rw [← hD]; exact hSX.out _ HD.out) fun hS => ?_
          rw [← hD] at hS ⊢
          clear hD
          refine wpAnyH_take (i := 0) (v := ?_) rfl (by kernel_rfl) (by kernel_rfl) (by kernel_rfl) (fun _ _ _ h => h) (Or.inl ⟨by rfl, ?_⟩) hS ?_
          rotate_left
          · (intro W hSw; obtain ⟨q0, q1⟩ := hSw; go_simp; try with_reducible rfl)
          try simp only [List.getElem_toArray, List.getElem_cons_succ, List.getElem_cons_zero, Act.put, List.setIfInBounds_toArray, List.set_cons_zero, List.set_cons_succ]
          refine wpAnyH_take (i := 1) (v := ?_) rfl (by kernel_rfl) (by kernel_rfl) (by kernel_rfl) (fun _ _ _ h => h) (Or.inl ⟨by rfl, ?_⟩) hS ?_
          rotate_left
          · (intro W hSw; obtain ⟨q0, q1⟩ := hSw; go_simp; try with_reducible rfl)
          try simp only [List.getElem_toArray, List.getElem_cons_succ, List.getElem_cons_zero, Act.put, List.setIfInBounds_toArray, List.set_cons_zero, List.set_cons_succ]
          refine wpAnyH_call (k := 2) (by kernel_rfl) rfl rfl (f := 91) (args := #[.int .i64 (i : Int), .int .i64 (n : Int)]) (by simp [execOp, go_sem, Act.eval, Act.put]) ?_
          refine (far_any i n (by omega) hn5 D).mono ?_
          rintro e w' ⟨⟨fk, rfl, hfk⟩, rfl⟩
          dsimp only
          refine ⟨hS, ?_⟩
          try simp only [List.getElem_toArray, List.getElem_cons_succ, List.getElem_cons_zero, Act.put, List.setIfInBounds_toArray, List.set_cons_zero, List.set_cons_succ]
          cases hnx : nextG i n with
          | false =>
            rw [hnx] at hfk
            refine wpAnyH_take (i := 3) (v := ?_) rfl (by kernel_rfl) (by kernel_rfl) (by kernel_rfl) (fun _ _ _ h => h) (Or.inl ⟨by rfl, ?_⟩) hS ?_
            rotate_left
            · (intro W hSw; obtain ⟨q0, q1⟩ := hSw; go_simp; try with_reducible rfl)
            try simp only [List.getElem_toArray, List.getElem_cons_succ, List.getElem_cons_zero, Act.put, List.setIfInBounds_toArray, List.set_cons_zero, List.set_cons_succ]
            refine wpAnyH_take (i := 4) (v := ?_) rfl (by kernel_rfl) (by kernel_rfl) (by kernel_rfl) (fun _ _ _ h => h) (Or.inl ⟨by rfl, ?_⟩) hS ?_
            rotate_left
            · (intro W hSw; obtain ⟨q0, q1⟩ := hSw; go_simp; try with_reducible rfl)
            try simp only [List.getElem_toArray, List.getElem_cons_succ, List.getElem_cons_zero, Act.put, List.setIfInBounds_toArray, List.set_cons_zero, List.set_cons_succ]
            refine wpAnyH_take (i := 5) (v := undef) rfl (by kernel_rfl) (by kernel_rfl) (by kernel_rfl) (fun _ _ _ h => h) (Or.inr ⟨by rfl, rfl⟩) hS ?_
            try simp only [List.getElem_toArray, List.getElem_cons_succ, List.getElem_cons_zero, Act.put, List.setIfInBounds_toArray, List.set_cons_zero, List.set_cons_succ]
            refine wpAnyH_take (i := 6) (v := undef) rfl (by kernel_rfl) (by kernel_rfl) (by kernel_rfl) (fun _ _ _ h => h) (Or.inr ⟨by rfl, rfl⟩) hS ?_
            try simp only [List.getElem_toArray, List.getElem_cons_succ, List.getElem_cons_zero, Act.put, List.setIfInBounds_toArray, List.set_cons_zero, List.set_cons_succ]
            refine wpAnyH_take (i := 7) (v := undef) rfl (by kernel_rfl) (by kernel_rfl) (by kernel_rfl) (fun _ _ _ h => h) (Or.inr ⟨by rfl, rfl⟩) hS ?_
            try simp only [List.getElem_toArray, List.getElem_cons_succ, List.getElem_cons_zero, Act.put, List.setIfInBounds_toArray, List.set_cons_zero, List.set_cons_succ]
            refine wpAnyH_take (i := 8) (v := undef) rfl (by kernel_rfl) (by kernel_rfl) (by kernel_rfl) (fun _ _ _ h => h) (Or.inr ⟨by rfl, rfl⟩) hS ?_
            try simp only [List.getElem_toArray, List.getElem_cons_succ, List.getElem_cons_zero, Act.put, List.setIfInBounds_toArray, List.set_cons_zero, List.set_cons_succ]
            refine wpAnyH_take (i := 9) (v := undef) rfl (by kernel_rfl) (by kernel_rfl) (by kernel_rfl) (fun _ _ _ h => h) (Or.inr ⟨by rfl, rfl⟩) hS ?_
            try simp only [List.getElem_toArray, List.getElem_cons_succ, List.getElem_cons_zero, Act.put, List.setIfInBounds_toArray, List.set_cons_zero, List.set_cons_succ]
            refine wpAnyH_take (i := 10) (v := undef) rfl (by kernel_rfl) (by kernel_rfl) (by kernel_rfl) (fun _ _ _ h => h) (Or.inr ⟨by rfl, rfl⟩) hS ?_
            try simp only [List.getElem_toArray, List.getElem_cons_succ, List.getElem_cons_zero, Act.put, List.setIfInBounds_toArray, List.set_cons_zero, List.set_cons_succ]
            refine wpAnyH_take (i := 11) (v := undef) rfl (by kernel_rfl) (by kernel_rfl) (by kernel_rfl) (fun _ _ _ h => h) (Or.inr ⟨by rfl, rfl⟩) hS ?_
            try simp only [List.getElem_toArray, List.getElem_cons_succ, List.getElem_cons_zero, Act.put, List.setIfInBounds_toArray, List.set_cons_zero, List.set_cons_succ]
            refine wpAnyH_take (i := 12) (v := undef) rfl (by kernel_rfl) (by kernel_rfl) (by kernel_rfl) (fun _ _ _ h => h) (Or.inr ⟨by rfl, rfl⟩) hS ?_
            try simp only [List.getElem_toArray, List.getElem_cons_succ, List.getElem_cons_zero, Act.put, List.setIfInBounds_toArray, List.set_cons_zero, List.set_cons_succ]
            refine wpAnyH_take (i := 13) (v := undef) rfl (by kernel_rfl) (by kernel_rfl) (by kernel_rfl) (fun _ _ _ h => h) (Or.inr ⟨by rfl, rfl⟩) hS ?_
            try simp only [List.getElem_toArray, List.getElem_cons_succ, List.getElem_cons_zero, Act.put, List.setIfInBounds_toArray, List.set_cons_zero, List.set_cons_succ]
            refine wpAnyH_take (i := 14) (v := undef) rfl (by kernel_rfl) (by kernel_rfl) (by kernel_rfl) (fun _ _ _ h => h) (Or.inr ⟨by rfl, rfl⟩) hS ?_
            try simp only [List.getElem_toArray, List.getElem_cons_succ, List.getElem_cons_zero, Act.put, List.setIfInBounds_toArray, List.set_cons_zero, List.set_cons_succ]
            refine wpAnyH_take (i := 15) (v := undef) rfl (by kernel_rfl) (by kernel_rfl) (by kernel_rfl) (fun _ _ _ h => h) (Or.inr ⟨by rfl, rfl⟩) hS ?_
            try simp only [List.getElem_toArray, List.getElem_cons_succ, List.getElem_cons_zero, Act.put, List.setIfInBounds_toArray, List.set_cons_zero, List.set_cons_succ]
            refine wpAnyH_take (i := 16) (v := undef) rfl (by kernel_rfl) (by kernel_rfl) (by kernel_rfl) (fun _ _ _ h => h) (Or.inr ⟨by rfl, rfl⟩) hS ?_
            try simp only [List.getElem_toArray, List.getElem_cons_succ, List.getElem_cons_zero, Act.put, List.setIfInBounds_toArray, List.set_cons_zero, List.set_cons_succ]
            refine wpAnyH_take (i := 17) (v := undef) rfl (by kernel_rfl) (by kernel_rfl) (by kernel_rfl) (fun _ _ _ h => h) (Or.inr ⟨by rfl, rfl⟩) hS ?_
            try simp only [List.getElem_toArray, List.getElem_cons_succ, List.getElem_cons_zero, Act.put, List.setIfInBounds_toArray, List.set_cons_zero, List.set_cons_succ]
            refine wpAnyH_take (i := 18) (v := undef) rfl (by kernel_rfl) (by kernel_rfl) (by kernel_rfl) (fun _ _ _ h => h) (Or.inr ⟨by rfl, rfl⟩) hS ?_
            try simp only [List.getElem_toArray, List.getElem_cons_succ, List.getElem_cons_zero, Act.put, List.setIfInBounds_toArray, List.set_cons_zero, List.set_cons_succ]
            refine wpAnyH_take (i := 19) (v := ?_) rfl (by kernel_rfl) (by kernel_rfl) (by kernel_rfl) (fun _ _ _ h => h) (Or.inl ⟨by rfl, ?_⟩) hS ?_
            rotate_left
            · (intro W hSw; obtain ⟨q0, q1⟩ := hSw; go_simp; try with_reducible rfl)
            try simp only [List.getElem_toArray, List.getElem_cons_succ, List.getElem_cons_zero, Act.put, List.setIfInBounds_toArray, List.set_cons_zero, List.set_cons_succ]
            refine wpAnyH_done (by kernel_rfl) ?_ _
            try simp only [List.getElem_toArray, List.getElem_cons_succ, List.getElem_cons_zero, Act.put, List.setIfInBounds_toArray, List.set_cons_zero, List.set_cons_succ]
            clear hS hfk
            go_wp2_with fail
            refine ⟨⟨i + 1, hin, by push_cast; rfl, HD.out, fun i' h h2 => ?_⟩, by simp [intOf]; omega⟩
            rcases Nat.lt_or_ge i' i with h3 | h3
            · exact HFIT.out i' h h3
            · have : i' = i := by omega
              subst this
              exact .inl hnx
          | true =>
            rw [hnx] at hfk
            have hxb := HBB.out x (by rw [HX.out]; exact List.getElem_mem _)
            have hwx : IntKind.i64.wrap (x - kv) = x - kv := IntWalk.i64_in _ (by omega)
            have hwy : IntKind.i64.wrap (kv - x) = kv - x := IntWalk.i64_in _ (by omega)
            have HWX := Lib.hid (And.intro hwx hwy)
            refine wpAnyH_take (i := 3) (v := ?_) rfl (by kernel_rfl) (by kernel_rfl) (by kernel_rfl) (fun _ _ _ h => h) (Or.inl ⟨by rfl, ?_⟩) hS ?_
            rotate_left
            · (intro W hSw; obtain ⟨q0, q1⟩ := hSw; go_simp; try with_reducible rfl)
            try simp only [List.getElem_toArray, List.getElem_cons_succ, List.getElem_cons_zero, Act.put, List.setIfInBounds_toArray, List.set_cons_zero, List.set_cons_succ]
            refine wpAnyH_take (i := 4) (v := ?_) rfl (by kernel_rfl) (by kernel_rfl) (by kernel_rfl) (fun _ _ _ h => h) (Or.inl ⟨by rfl, ?_⟩) hS ?_
            rotate_left
            · (intro W hSw; obtain ⟨q0, q1⟩ := hSw; go_simp; try with_reducible rfl)
            try simp only [List.getElem_toArray, List.getElem_cons_succ, List.getElem_cons_zero, Act.put, List.setIfInBounds_toArray, List.set_cons_zero, List.set_cons_succ]
            refine wpAnyH_take (i := 5) (v := ?_) rfl (by kernel_rfl) (by kernel_rfl) (by kernel_rfl) (fun _ _ _ h => h) (Or.inl ⟨by rfl, ?_⟩) hS ?_
            rotate_left
            · (intro W hSw; obtain ⟨q0, q1⟩ := hSw; go_simp; try with_reducible rfl)
            try simp only [List.getElem_toArray, List.getElem_cons_succ, List.getElem_cons_zero, Act.put, List.setIfInBounds_toArray, List.set_cons_zero, List.set_cons_succ]
            refine wpAnyH_take (i := 6) (v := ?_) rfl (by kernel_rfl) (by kernel_rfl) (by kernel_rfl) (fun _ _ _ h => h) (Or.inl ⟨by rfl, ?_⟩) hS ?_
            rotate_left
            · (intro W hSw; obtain ⟨q0, q1⟩ := hSw; go_simp; try with_reducible rfl)
            try simp only [List.getElem_toArray, List.getElem_cons_succ, List.getElem_cons_zero, Act.put, List.setIfInBounds_toArray, List.set_cons_zero, List.set_cons_succ]
            refine wpAnyH_take (i := 7) (v := ?_) rfl (by kernel_rfl) (by kernel_rfl) (by kernel_rfl) (fun _ _ _ h => h) (Or.inl ⟨by rfl, ?_⟩) hS ?_
            rotate_left
            · (intro W hSw; obtain ⟨q0, q1⟩ := hSw; go_simp; try with_reducible rfl)
            try simp only [List.getElem_toArray, List.getElem_cons_succ, List.getElem_cons_zero, Act.put, List.setIfInBounds_toArray, List.set_cons_zero, List.set_cons_succ]
            refine wpAnyH_take (i := 8) (v := ?_) rfl (by kernel_rfl) (by kernel_rfl) (by kernel_rfl) (fun _ _ _ h => h) (Or.inl ⟨by rfl, ?_⟩) hS ?_
            rotate_left
            · (intro W hSw; obtain ⟨q0, q1⟩ := hSw; go_simp; try with_reducible rfl)
            try simp only [List.getElem_toArray, List.getElem_cons_succ, List.getElem_cons_zero, Act.put, List.setIfInBounds_toArray, List.set_cons_zero, List.set_cons_succ]
            refine wpAnyH_take (i := 9) (v := ?_) rfl (by kernel_rfl) (by kernel_rfl) (by kernel_rfl) (fun _ _ _ h => h) (Or.inl ⟨by rfl, ?_⟩) hS ?_
            rotate_left
            · (intro W hSw; obtain ⟨q0, q1⟩ := hSw; go_simp; try with_reducible rfl)
            try simp only [List.getElem_toArray, List.getElem_cons_succ, List.getElem_cons_zero, Act.put, List.setIfInBounds_toArray, List.set_cons_zero, List.set_cons_succ]
            refine wpAnyH_take (i := 10) (v := ?_) rfl (by kernel_rfl) (by kernel_rfl) (by kernel_rfl) (fun _ _ _ h => h) (Or.inl ⟨by rfl, ?_⟩) hS ?_
            rotate_left
            · (intro W hSw; obtain ⟨q0, q1⟩ := hSw; go_simp; try with_reducible rfl)
            try simp only [List.getElem_toArray, List.getElem_cons_succ, List.getElem_cons_zero, Act.put, List.setIfInBounds_toArray, List.set_cons_zero, List.set_cons_succ]
            refine wpAnyH_take (i := 13) (v := ?_) rfl (by kernel_rfl) (by kernel_rfl) (by kernel_rfl) (fun _ _ _ h => h) (Or.inl ⟨by rfl, ?_⟩) hS ?_
            rotate_left
            · (intro W hSw; obtain ⟨q0, q1⟩ := hSw; go_simp; try with_reducible rfl)
            try simp only [List.getElem_toArray, List.getElem_cons_succ, List.getElem_cons_zero, Act.put, List.setIfInBounds_toArray, List.set_cons_zero, List.set_cons_succ]
            refine wpAnyH_take (i := 14) (v := ?_) rfl (by kernel_rfl) (by kernel_rfl) (by kernel_rfl) (fun _ _ _ h => h) (Or.inl ⟨by rfl, ?_⟩) hS ?_
            rotate_left
            · (intro W hSw; obtain ⟨q0, q1⟩ := hSw; go_simp; try with_reducible rfl)
            try simp only [List.getElem_toArray, List.getElem_cons_succ, List.getElem_cons_zero, Act.put, List.setIfInBounds_toArray, List.set_cons_zero, List.set_cons_succ]
            refine wpAnyH_take (i := 15) (v := ?_) rfl (by kernel_rfl) (by kernel_rfl) (by kernel_rfl) (fun _ _ _ h => h) (Or.inl ⟨by rfl, ?_⟩) hS ?_
            rotate_left
            · (intro W hSw; obtain ⟨q0, q1⟩ := hSw; go_simp; try with_reducible rfl)
            try simp only [List.getElem_toArray, List.getElem_cons_succ, List.getElem_cons_zero, Act.put, List.setIfInBounds_toArray, List.set_cons_zero, List.set_cons_succ]
            refine wpAnyH_take (i := 16) (v := ?_) rfl (by kernel_rfl) (by kernel_rfl) (by kernel_rfl) (fun _ _ _ h => h) (Or.inl ⟨by rfl, ?_⟩) hS ?_
            rotate_left
            · (intro W hSw; obtain ⟨q0, q1⟩ := hSw; go_simp; try with_reducible rfl)
            try simp only [List.getElem_toArray, List.getElem_cons_succ, List.getElem_cons_zero, Act.put, List.setIfInBounds_toArray, List.set_cons_zero, List.set_cons_succ]
            refine wpAnyH_take (i := 17) (v := ?_) rfl (by kernel_rfl) (by kernel_rfl) (by kernel_rfl) (fun _ _ _ h => h) (Or.inl ⟨by rfl, ?_⟩) hS ?_
            rotate_left
            · (intro W hSw; obtain ⟨q0, q1⟩ := hSw; go_simp; try with_reducible rfl)
            try simp only [List.getElem_toArray, List.getElem_cons_succ, List.getElem_cons_zero, Act.put, List.setIfInBounds_toArray, List.set_cons_zero, List.set_cons_succ]
            obtain ⟨gh, hgh⟩ : ∃ h, h = D.heap.size := ⟨_, rfl⟩
            have hb3 := below_allocG D (.cells #[.int .i64 (x - kv), .int .i64 (kv - x)] 3)
            have hc3 : (D.alloc (.cells #[.int .i64 (x - kv), .int .i64 (kv - x)] 3)).heap[gh]? = some (.cells #[.int .i64 (x - kv), .int .i64 (kv - x)] 3 (0, 0)) := heap_alloc_at _ _ _ hgh
            obtain ⟨F, hF⟩ : ∃ F, F = D.alloc (.cells #[.int .i64 (x - kv), .int .i64 (kv - x)] 3) := ⟨_, rfl⟩
            rw [← hF] at hb3 hc3
            have HFB := Lib.hid (HD.out.trans (hb3.mono HD.out.size))
            refine wpAnyH_run (k := 11) (v := .slice (some ⟨gh, 0, none⟩) 2 2) (w' := F) (by kernel_rfl) rfl rfl (by rw [hF, hgh]; simp [execOp, go_sem, Act.eval, Act.put]) (hSX.out _ HFB.out) ?_
            have HC3 := Lib.hid hc3
            clear hF hgh hb3 hc3 hS
            have hS := hSX.out _ HFB.out
            try simp only [List.getElem_toArray, List.getElem_cons_succ, List.getElem_cons_zero, Act.put, List.setIfInBounds_toArray, List.set_cons_zero, List.set_cons_succ]
            refine wpAnyH_call (k := 12) (by kernel_rfl) rfl rfl (f := 92) (args := #[.slice (some ⟨gh, 0, none⟩) 2 2]) (by simp [execOp, go_sem, Act.eval, Act.put]) ?_
            refine (greatest_any [x - kv, kv - x] (.slice (some ⟨gh, 0, none⟩) 2 2) F _ (by simp) (nums_row (x := [x - kv, kv - x]) HC3.out (by simp))).mono ?_
            rintro e w' ⟨rfl, rfl⟩
            dsimp only
            have hap : maxG [x - kv, kv - x] = apartG x kv := by unfold maxG apartG; simp
            rw [hap]
            refine ⟨hS, ?_⟩
            try simp only [List.getElem_toArray, List.getElem_cons_succ, List.getElem_cons_zero, Act.put, List.setIfInBounds_toArray, List.set_cons_zero, List.set_cons_succ]
            by_cases hst : g.step < apartG x kv
            · skip
              refine wpAnyH_take (i := 18) (v := ?_) rfl (by kernel_rfl) (by kernel_rfl) (by kernel_rfl) (fun _ _ _ h => h) (Or.inl ⟨by rfl, ?_⟩) hS ?_
              rotate_left
              · (intro W hSw; obtain ⟨q0, q1⟩ := hSw; go_simp; try with_reducible rfl)
              try simp only [List.getElem_toArray, List.getElem_cons_succ, List.getElem_cons_zero, Act.put, List.setIfInBounds_toArray, List.set_cons_zero, List.set_cons_succ]
              refine wpAnyH_take (i := 19) (v := ?_) rfl (by kernel_rfl) (by kernel_rfl) (by kernel_rfl) (fun _ _ _ h => h) (Or.inl ⟨by rfl, ?_⟩) hS ?_
              rotate_left
              · (intro W hSw; obtain ⟨q0, q1⟩ := hSw; go_simp; try with_reducible rfl)
              try simp only [List.getElem_toArray, List.getElem_cons_succ, List.getElem_cons_zero, Act.put, List.setIfInBounds_toArray, List.set_cons_zero, List.set_cons_succ]
              refine wpAnyH_done (by kernel_rfl) ?_ _
              try simp only [List.getElem_toArray, List.getElem_cons_succ, List.getElem_cons_zero, Act.put, List.setIfInBounds_toArray, List.set_cons_zero, List.set_cons_succ]
              clear hS hfk
              have hno : fitG g.step b kv = false := by
                unfold fitG
                rw [List.all_eq_false]
                refine ⟨i, List.mem_range.2 (by rw [← HN.out]; exact hin), ?_⟩
                rw [← HN.out, hnx, List.getD_eq_getElem?_getD, List.getElem?_eq_getElem (by rw [← HN.out]; exact hin), Option.getD_some, ← HX.out]
                simp
                omega
              have hwk : IntKind.i64.wrap (kv + 1) = lo + ((j + 1 : Nat) : Int) := by rw [IntWalk.i64_in _ (by omega), HKV.out]; omega
              have HNO := Lib.hid hno
              clear hno
              go_wp2_with fail
              refine ⟨⟨j + 1, G2, hlt, rfl, ?_, HG2.out, HW2.out.keeps (Keeps.of_below (Mut := fun _ => False) HFB.out (fun k h1 h2 => absurd h2 (by omega))) id id id id id, HK2.out.trans (Keeps.of_below HFB.out (fun k h1 h2 => absurd h2 (by omega)))⟩, ?_⟩
              · have h2 := HJS.out _ _ _ _ HJ2.out (Keeps.of_below HFB.out (fun k h1 h2 => absurd h2 (by omega)))
                rw [List.take_succ_eq_append_getElem (by rw [HSL.out.1]; exact hlt), HSL.out.2, List.flatMap_append, ← HKV.out]
                simp [HNO.out]
                exact h2
              · simp [intOf]
                have := HKV.out
                omega
            · skip
              refine wpAnyH_take (i := 18) (v := ?_) rfl (by kernel_rfl) (by kernel_rfl) (by kernel_rfl) (fun _ _ _ h => h) (Or.inl ⟨by rfl, ?_⟩) hS ?_
              rotate_left
              · (intro W hSw; obtain ⟨q0, q1⟩ := hSw; go_simp; try with_reducible rfl)
              try simp only [List.getElem_toArray, List.getElem_cons_succ, List.getElem_cons_zero, Act.put, List.setIfInBounds_toArray, List.set_cons_zero, List.set_cons_succ]
              refine wpAnyH_take (i := 19) (v := ?_) rfl (by kernel_rfl) (by kernel_rfl) (by kernel_rfl) (fun _ _ _ h => h) (Or.inl ⟨by rfl, ?_⟩) hS ?_
              rotate_left
              · (intro W hSw; obtain ⟨q0, q1⟩ := hSw; go_simp; try with_reducible rfl)
              try simp only [List.getElem_toArray, List.getElem_cons_succ, List.getElem_cons_zero, Act.put, List.setIfInBounds_toArray, List.set_cons_zero, List.set_cons_succ]
              refine wpAnyH_done (by kernel_rfl) ?_ _
              try simp only [List.getElem_toArray, List.getElem_cons_succ, List.getElem_cons_zero, Act.put, List.setIfInBounds_toArray, List.set_cons_zero, List.set_cons_succ]
              clear hS hfk
              go_wp2_with fail
              refine ⟨⟨i + 1, hin, by push_cast; rfl, HFB.out, fun i' h h2 => ?_⟩, by simp [intOf]; omega⟩
              rcases Nat.lt_or_ge i' i with h3 | h3
              · exact HFIT.out i' h h3
              · have : i' = i := by omega
                subst this
                right
                rw [← HX.out]
                omega
        · have hie : n = i := by omega
          subst hie
          have hlti : ¬ (n : Int) < (n : Int) := by omega
          have hyes : fitG g.step b kv = true := by
            unfold fitG
            rw [List.all_eq_true]
            intro i' hi2
            rw [List.mem_range] at hi2
            have := HFIT.out i' hi2 (by rw [HN.out]; exact hi2)
            rw [← HN.out, List.getD_eq_getElem?_getD, List.getElem?_eq_getElem hi2, Option.getD_some]
            rcases this with h | h
            · rw [h]; rfl
            · simp [h]
          have HYES := Lib.hid hyes
          obtain ⟨junk, hj5, ho⟩ := HW2.out.o
          have hjl : junk.length = m + 1 := by rw [List.length_append, ← HN.out] at hj5; omega
          obtain ⟨j0, junk', hjj⟩ : ∃ a t, junk = a :: t := by
            cases junk with
            | nil => simp at hjl
            | cons a t => exact ⟨a, t, rfl⟩
          subst hjj
          have hor := (HBQ.out.block _ (lt_of_block ho)).trans ho
          have q1 : wr.cell? ⟨ob, n, none⟩ = some (.int .i64 j0) := by
            rw [cell_of_row _ _ _ _ _ _ hor, List.getElem?_toArray, List.getElem?_map, List.getElem?_append_right (by rw [← HN.out]; exact Nat.le_refl _), ← HN.out, Nat.sub_self]
            rfl
          have q2 : wr.frozen? ⟨ob, n, none⟩ = false := frozen_of_row _ _ _ _ _ hor
          have HOR := Lib.hid hor
          have HJ5 := Lib.hid hj5
          clear hyes ho hor hj5 hjl hin
          go_upto_region 12 with fail
          have hrow : ((b ++ j0 :: junk').map (Value.int .i64)).toArray.setIfInBounds n (.int .i64 kv) = ((b ++ [kv] ++ junk').map (Value.int .i64)).toArray := by
            rw [List.setIfInBounds_toArray, ← List.map_set, List.set_append_right _ _ (by rw [← HN.out]; exact Nat.le_refl _), ← HN.out, Nat.sub_self]
            simp
          have hk1 : Keeps (fun k => k = ob) wo (wr.setCell ⟨ob, n, none⟩ (.int .i64 kv)) := (Keeps.of_below HBQ.out (fun k h1 h2 => absurd h2 (by omega))).trans (Keeps.setCell _ _ _ rfl)
          have how : (wr.setCell ⟨ob, n, none⟩ (.int .i64 kv)).heap[ob]? = some (.cells ((b ++ [kv] ++ junk').map (Value.int .i64)).toArray 156 (0, 0)) := by
            rw [← hrow]
            exact cells_setG HOR.out
          obtain ⟨wS, hwS⟩ : ∃ W, W = wr.setCell ⟨ob, n, none⟩ (.int .i64 kv) := ⟨_, rfl⟩
          rw [← hwS] at hk1 how ⊢
          have hWS : OnW yb ob bb nb bp l (benchC lv g.pts g.step l2).toArray (b ++ [kv]) wS := by
            obtain ⟨w1, _, w3, w4, w5⟩ := HW2.out
            exact ⟨(hk1.block _ (lt_of_block w1) hne.1).trans w1, ⟨junk', by have := HJ5.out; simp at this ⊢; omega, how⟩, (hk1.block _ (lt_of_block w3) hne.2.1).trans w3, (hk1.block _ (lt_of_block w4) hne.2.2.1).trans w4, (hk1.block _ (lt_of_block w5) hne.2.2.2).trans w5⟩
          have HKS := Lib.hid hk1
          have HWS := Lib.hid hWS
          have n0 : wS.cell? ⟨nb, 0, none⟩ = some (.func (.func 90) #[] #[.pointer (some ⟨yb, 0, none⟩), .pointer (some ⟨ob, 0, none⟩), .pointer (some ⟨bb, 0, none⟩), .pointer (some ⟨nb, 0, none⟩)]) := cell_of_row _ _ 0 _ _ _ hWS.n
          have hwn : IntKind.i64.wrap ((n : Int) + 1) = ((n + 1 : Nat) : Int) := by rw [IntWalk.i64_in _ (by omega)]; omega
          clear hwS hk1 how hWS hrow q1 q2
          have h3 : fromG g (m + 1) b = (spanG (lo, hi)).flatMap fun k => if fitG g.step b k then fromG g m (b ++ [k]) else [] := by
            show ((spanG (g.pts.getD b.length (0, 0))).flatMap fun k => if fitG g.step b k then fromG g m (b ++ [k]) else []) = _
            rw [← HN.out, List.getD_eq_getElem?_getD, List.getElem?_eq_getElem (by rw [hp]; exact hn5), Option.getD_some, ← HS.out]
          have hjs : j < (spanG (lo, hi)).length := by rw [HSL.out.1]; exact hlt
          have hsp : spanG (lo, hi) = (spanG (lo, hi)).take j ++ kv :: (spanG (lo, hi)).drop (j + 1) := by
            have := List.take_append_drop j (spanG (lo, hi))
            rw [List.drop_eq_getElem_cons hjs, HSL.out.2, ← HKV.out] at this
            exact this.symm
          have hxn := HXS.out
          rw [h3, hsp, List.flatMap_append, List.flatMap_cons, if_pos HYES.out] at hxn
          have hnl1 : (((b ++ [kv]).length : Nat) : Int) = (n : Int) + 1 := by rw [List.length_append, ← HN.out]; simp
          have hc := callsIn_wide.1 (HIH.out (b ++ [kv]) (pre ++ ((spanG (lo, hi)).take j).flatMap fun k => if fitG g.step b k then fromG g m (b ++ [k]) else []) (((spanG (lo, hi)).drop (j + 1)).flatMap (fun k => if fitG g.step b k then fromG g m (b ++ [k]) else []) ++ rest) G2 wS (by rw [List.length_append, ← HN.out]; simp; omega) (fun v hv => by
            rcases List.mem_append.1 hv with h | h
            · exact HBB.out v h
            · rw [List.mem_singleton.1 h]; exact hk40) (by rw [hxn]; simp [List.append_assoc]) (HJS.out _ _ _ _ HJ2.out (HKS.out.mono (fun k _ e => by subst e; exact ⟨hob.1, fun hg => by have := HG2.out _ hg; omega⟩))) HG2.out (by have := HK2.out.size; have := HKS.out.size; omega) (by have := HK2.out.size; have := HKS.out.size; omega) HWS.out)
          rw [hnl1] at hc
          have HXN := Lib.hid (And.intro h3 hsp)
          clear h3 hsp hxn hjs hnl1
          have hwk : IntKind.i64.wrap (kv + 1) = lo + ((j + 1 : Nat) : Int) := by rw [IntWalk.i64_in _ (by omega), HKV.out]; omega
          go_wp2_with fail
          clear n0
          refine hc.mono ?_
          clear hc
          rintro e w9 ⟨hk9, ⟨junk9, hl9, ho9⟩, ⟨rfl, G9, hj9, hg9⟩ | ⟨rfl, G9, p9, x9, r9, hx9, hj9⟩⟩
          · dsimp only
            go_wp2_with fail
            have hkk : Keeps (fun k => Mut k ∨ k = ob) W1 w9 := HK2.out.trans ((HKS.out.mono (fun k _ e => Or.inr e)).trans hk9)
            have hww := HWS.out
            refine ⟨⟨j + 1, G9, hlt, by push_cast; rfl, ?_, hg9, ⟨(hk9.block _ (lt_of_block hww.y) (fun h => h.elim (fun h => (HM.out _ h).1 rfl) hne.1)).trans hww.y, ⟨kv :: junk9, by simpa using hl9, by simpa using ho9⟩, (hk9.block _ (lt_of_block hww.c) (fun h => h.elim (fun h => (HM.out _ h).2.2.1 rfl) hne.2.1)).trans hww.c, (hk9.block _ (lt_of_block hww.n) (fun h => h.elim (fun h => (HM.out _ h).2.2.2.1 rfl) hne.2.2.1)).trans hww.n, (hk9.block _ (lt_of_block hww.p) (fun h => h.elim (fun h => (HM.out _ h).2.2.2.2 rfl) hne.2.2.2)).trans hww.p⟩, hkk⟩, ?_⟩
            · rw [List.take_succ_eq_append_getElem (by rw [HSL.out.1]; exact hlt), HSL.out.2, List.flatMap_append, ← HKV.out]
              simp [HYES.out]
              simpa using hj9
            · simp [intOf]
              have := HKV.out
              omega
          · dsimp only
            go_wp2_with fail
            have hkk : Keeps (fun k => Mut k ∨ k = ob) W1 w9 := HK2.out.trans ((HKS.out.mono (fun k _ e => Or.inr e)).trans hk9)
            simp only [Exit.noGoto]
            exact ⟨rfl, .bool false, by kernel_rfl, hkk, ⟨kv :: junk9, by simpa using hl9, by simpa using ho9⟩, .inr ⟨rfl, G9, p9, x9, r9, hx9, hj9⟩⟩
    · have hje : j = cnt := by omega
      subst hje
      have hle : ¬ lo + (j : Int) ≤ hi := by have := HCN.out; omega
      go_wp2_with fail
      refine ⟨rfl, .bool true, by kernel_rfl, HK2.out, HW2.out.o, .inl ⟨rfl, G2, ?_, HG2.out⟩⟩
      have h2 := HJ2.out
      rw [← HSL.out.1, List.take_length] at h2
      have h3 : fromG g (m + 1) b = (spanG (lo, hi)).flatMap fun k => if fitG g.step b k then fromG g m (b ++ [k]) else [] := by
        show ((spanG (g.pts.getD b.length (0, 0))).flatMap fun k => if fitG g.step b k then fromG g m (b ++ [k]) else []) = _
        rw [← HN.out, List.getD_eq_getElem?_getD, List.getElem?_eq_getElem (by rw [hp]; exact hn5), Option.getD_some, ← HS.out]
      rw [h3]
      exact h2
end Go.Proofs.Ytagjepclobobjaa

/- Package grade: the recursion of the iterator of all truths. -/
namespace Go.Proofs.Ytagjepclobobjaa
set_option linter.unusedVariables false
set_option linter.unusedSimpArgs false
open Go.RowKit Go.Shelf

theorem on_any (g : GradeD) (hp : g.pts.length = 5) (hv : validG g = true) (lv l2 : Value) (yb ob bb nb bp l base : Nat) (Mut : Nat → Prop) (J Jx : List (List Int) → (Nat → Prop) → World → Prop) (xs : List (List Int)) (W0 : World)
    (hY : ∀ pre x rest G W1, xs = pre ++ x :: rest → J pre G W1 → W0.heap.size ≤ W1.heap.size → YieldAt Fence.wide 0 Try.prog l (encX x) W1 fun e W2 =>
      Keeps Mut W1 W2 ∧ ((e = .returned (.bool true) ∧ J (pre ++ [x]) (Grow G W1 W2) W2) ∨ (e = .returned (.bool false) ∧ Jx (pre ++ [x]) (Grow G W1 W2) W2)))
    (hJs : ∀ s G A B, J s G A → Keeps (fun k => base - 3 ≤ k ∧ ¬ G k) A B → J s G B) (hob : base - 3 ≤ ob ∧ ob < base) (hne : yb ≠ ob ∧ bb ≠ ob ∧ nb ≠ ob ∧ bp ≠ ob)
    (hM : ∀ k, Mut k → k ≠ yb ∧ k ≠ ob ∧ k ≠ bb ∧ k ≠ nb ∧ k ≠ bp) :
    ∀ (m : Nat) (b : List Int) (pre rest : List (List Int)) (G : Nat → Prop) (W1 : World), b.length + m = 5 → (∀ v ∈ b, -100 ≤ v ∧ v ≤ 100) → xs = pre ++ fromG g m b ++ rest → J pre G W1 → (∀ k, G k → base ≤ k) → W0.heap.size ≤ W1.heap.size → base ≤ W1.heap.size → OnW yb ob bb nb bp l (benchC lv g.pts g.step l2).toArray b W1 →
      CallsIn Fence.wide 0 Try.prog 90 #[.int .i64 (b.length : Int), .pointer (some ⟨yb, 0, none⟩), .pointer (some ⟨ob, 0, none⟩), .pointer (some ⟨bb, 0, none⟩), .pointer (some ⟨nb, 0, none⟩)] W1 (OnR base ob Mut J Jx xs g m b pre W1)
  | 0, b, pre, rest, G, W1, hb, _, hxs, hJ, hG, hsz, hbs, hW => by
    have hb5 : b.length = 5 := by omega
    have h := on_base g yb ob bb nb bp l base _ Mut J Jx xs b hb5 pre rest G W0 W1 hY (fun h => (hM _ h).2.1 rfl) (by rw [hxs]; simp [fromG]) hJ hG hsz hbs hW
    rw [hb5]
    exact h
  | m + 1, b, pre, rest, G, W1, hb, hbb, hxs, hJ, hG, hsz, hbs, hW =>
    on_step g hp hv lv l2 yb ob bb nb bp l base Mut J Jx xs m b hb hbb pre rest G W0 W1 hJs hob hne hM (on_any g hp hv lv l2 yb ob bb nb bp l base Mut J Jx xs W0 hY hJs hob hne hM m) hxs hJ hG hsz hbs hW
end Go.Proofs.Ytagjepclobobjaa

/- Package grade: the iterator of all truths is made. -/
namespace Go.Proofs.Ytagjepclobobjaa
set_option linter.unusedVariables false
set_option linter.unusedSimpArgs false
open Go.RowKit Go.Shelf

def boxB (bp : Nat) : Obj := .cells #[.pointer (some ⟨bp, 0, none⟩)] 118 (0, 0)
theorem gblocks_any (bp : Nat) (w : World) :
    Calls Try.prog 82 #[.pointer (some ⟨bp, 0, none⟩)] w fun e w' => e = .returned (.func (.func 89) #[] #[.pointer (some ⟨w.heap.size, 0, none⟩)]) ∧ w.alloc (boxB bp) = w' := by
  have hmf : ∀ (fn : Fn) (first cap : Array Value) (w : World), (Instr.makeFunc fn first cap).run Try.prog w = .ok (.func fn first cap) w := fun _ _ _ _ => rfl
  go_enter Try.func82, Try.ntmps82
  go_wp2
  go_ret
  exact ⟨rfl, rfl⟩
end Go.Proofs.Ytagjepclobobjaa

/- Package grade: the iterator yields all truths . -/
namespace Go.Proofs.Ytagjepclobobjaa
set_option linter.unusedVariables false
set_option linter.unusedSimpArgs false
open Go.RowKit Go.Shelf
attribute [local go_sem] Oper.semAt_some

theorem at_nameG {P : Program} {f : FuncId} {args : Array Value} {w : World} {R : Ending → World → Prop} (S : World → Prop) (h : S w) (k : ∀ V, S V → Calls P f args V R) : Calls P f args w R := k w h
set_option maxRecDepth 100000 in
set_option maxHeartbeats 4000000 in
theorem blocks_seq (g : GradeD) (hp : g.pts.length = 5) (hv : validG g = true) (lv l2 : Value) (bb bp : Nat) (W : World) (hb : W.heap[bb]? = some (boxB bp)) (hbp : W.heap[bp]? = some (.cells (benchC lv g.pts g.step l2).toArray 154 (0, 0))) :
    SeqAt Try.prog 89 #[.pointer (some ⟨bb, 0, none⟩)] encX (truthsG g) (fun k => k = bb ∨ k = bp) W := by
  intro l Mut J Jx hM hJ hJx hY h0
  have HM := Lib.hid hM
  have HJ := Lib.hid hJ
  have HY := Lib.hid hY
  have H0 := Lib.hid h0
  have HB := Lib.hid hb
  have HP := Lib.hid hbp
  clear hM hJ hJx hY h0 hb hbp
  have hmf : ∀ (fn : Fn) (first cap : Array Value) (w : World), (Instr.makeFunc fn first cap).run Try.prog w = .ok (.func fn first cap) w := fun _ _ _ _ => rfl
  go_enter Try.func89, Try.ntmps89
  go_wp2_with fail
  refine at_nameG (fun V => V.heap[W.heap.size]? = some (.cells #[.func (.yield l) #[] #[]] 162 (0, 0)) ∧ V.heap[W.heap.size + 1]? = some (.cells #[.int .i64 0, .int .i64 0, .int .i64 0, .int .i64 0, .int .i64 0] 156 (0, 0)) ∧ V.heap[W.heap.size + 1 + 1]? = some (.cells #[.func (.func 90) #[] #[.pointer (some ⟨W.heap.size, 0, none⟩), .pointer (some ⟨W.heap.size + 1, 0, none⟩), .pointer (some ⟨bb, 0, none⟩), .pointer (some ⟨W.heap.size + 1 + 1, 0, none⟩)]] 134 (0, 0)) ∧ Below W.heap.size W V ∧ V.heap.size = W.heap.size + 3)
    ⟨(hget_old _ _ _ (by simp; omega)).trans ((hget_old _ _ _ (by simp)).trans (heap_alloc_at _ _ _ (by simp))), (hget_old _ _ _ (by simp)).trans (heap_alloc_at _ _ _ (by simp)), heap_alloc_at _ _ _ (by simp), ((((Below.refl _ _).alloc (Nat.le_refl _) _).alloc (by simp) _).alloc (by simp; omega) _), by simp⟩ ?_
  rintro V ⟨r1, r2, r3, r4, r5⟩
  have hlb := lt_of_block HB.out
  have hlp := lt_of_block HP.out
  have hc := callsIn_wide.1 (on_any g hp hv lv l2 W.heap.size (W.heap.size + 1) bb (W.heap.size + 1 + 1) bp l (W.heap.size + 3) Mut J Jx (truthsG g) W HY.out (fun s G A B h hk => HJ.out s G A B h (hk.mono (fun k _ h => ⟨by omega, h.2⟩))) ⟨by omega, by omega⟩ ⟨by omega, by omega, by omega, by omega⟩ (fun k h => by
    have := HM.out k h
    exact ⟨by omega, by omega, fun e => this.2 (.inl e), by omega, fun e => this.2 (.inr e)⟩) 5 [] [] [] (fun _ => False) V rfl (by simp) (by simp [truthsG]) (HJ.out _ _ _ _ H0.out (Keeps.of_below r4 (fun k h1 h2 => absurd h2 (by omega)))) (fun k h => h.elim) r4.size (by omega)
    ⟨r1, ⟨[0, 0, 0, 0, 0], rfl, r2⟩, (r4.block _ hlb).trans HB.out, r3, (r4.block _ hlp).trans HP.out⟩)
  refine hc.mono ?_
  rintro e w9 ⟨hk9, _, h⟩
  have hkk : Keeps Mut W w9 := ⟨hk9.os.trans r4.os, hk9.tape.trans r4.tape, hk9.output.trans r4.output, Nat.le_trans r4.size hk9.size, fun k h1 h2 => (hk9.block k (by omega) (fun h => h.elim h2 (fun e => by omega))).trans (r4.block k h1)⟩
  rcases h with ⟨rfl, G, hj, _⟩ | ⟨rfl, G, p, x, r, hx, hj⟩
  · dsimp only
    go_wp2_with fail
    first | go_end0 | skip
    exact ⟨⟨_, rfl⟩, hkk, G, .inl (by simpa [truthsG] using hj)⟩
  · dsimp only
    go_wp2_with fail
    first | go_end0 | skip
    exact ⟨⟨_, rfl⟩, hkk, G, .inr ⟨p, x, r, hx, hj⟩⟩
end Go.Proofs.Ytagjepclobobjaa

/- Package grade: is a number that of a grade, of a point; always. -/
namespace Go.Proofs.Ytagjepclobobjaa
set_option linter.unusedVariables false
set_option linter.unusedSimpArgs false
open Go.RowKit Go.Shelf
attribute [local go_sem] Oper.semAt_some

theorem toldFn_any (x : List Int) (w : World) :
    Calls Try.prog 83 #[ptsV x] w fun e w' => e = .returned (.bool true) ∧ Below w.heap.size w w' := by
  unfold ptsV
  go_enter Try.func83, Try.ntmps83
  go_wp2
  go_ret
  exact ⟨rfl, below_allocG _ _⟩
theorem isPoint_any (n : Int) (w : World) :
    Calls Try.prog 86 #[.int .i64 n] w fun e w' => e = .returned (.bool (inN n 0 4)) ∧ w = w' := by
  go_enter Try.func86, Try.ntmps86
  go_wp2_with fail
  refine (gwithin_any n 0 4 w).mono ?_
  rintro e w' ⟨rfl, rfl⟩
  dsimp only
  go_wp2_with fail
  go_ret
  exact ⟨rfl, rfl⟩
end Go.Proofs.Ytagjepclobobjaa

/- Package grade: a stop is caught. -/
namespace Go.Proofs.Ytagjepclobobjaa
set_option linter.unusedVariables false
set_option linter.unusedSimpArgs false
open Go.RowKit Go.Shelf
attribute [local go_sem] Oper.semAt_some

theorem gstopped_nil (ep : Nat) (w : World) :
    Calls Try.prog 57 #[.nilIface, .pointer (some ⟨ep, 0, none⟩)] w fun e w' => e = .returned (.tuple #[]) ∧ w = w' := by
  go_enter Try.func57, Try.ntmps57
  go_wp2
  exact bodyPost_ret (v := .tuple #[]) (by simp [results, Try.results57, go_sem]) rfl ⟨rfl, rfl⟩
set_option maxRecDepth 100000 in
theorem gstopped_stop (n : Int) (ep : Nat) (x : Int) (w : World) (hep : w.heap[ep]? = some (.cells #[.int .i64 x] 24 (0, 0))) :
    Calls Try.prog 57 #[gstopV n, .pointer (some ⟨ep, 0, none⟩)] w fun e w' => e = .returned (.tuple #[]) ∧ Keeps (fun k => k = ep) w w' ∧ w'.heap[ep]? = some (.cells #[.int .i64 n] 24 (0, 0)) := by
  unfold gstopV
  have hlt := lt_of_block hep
  have c0 : ∀ o, (w.alloc o).cell? ⟨ep, 0, none⟩ = some (.int .i64 x) := fun o => by rw [cell_of_row _ _ _ _ _ _ ((hget_old _ _ _ (by omega)).trans hep)]; rfl
  have c1 : ∀ o k, (w.alloc o).frozen? ⟨ep, k, none⟩ = false := fun o k => frozen_of_row _ _ _ _ _ ((hget_old _ _ _ (by omega)).trans hep)
  have c2 : (w.setCell ⟨ep, 0, none⟩ (.int .i64 n)).heap[ep]? = some (.cells #[.int .i64 n] 24 (0, 0)) := by
    simp [World.setCell, Array.getElem?_modify, hep]
  have hta : (Instr.typeAssert (.iface 151 (.agg #[.int .i64 n])) 20 151 true).run Try.prog w = .ok (.tuple #[.agg #[.int .i64 n], .bool true]) w := by kernel_rfl
  have C2 := Lib.hid c2
  clear c2
  go_enter Try.func57, Try.ntmps57
  go_wp2
  go_end0
  refine ⟨rfl, (Keeps.setCell (Mut := fun k => k = ep) _ _ _ rfl).trans (Keeps.alloc _ _ _), (hget_old _ _ _ (by simp; omega)).trans C2.out⟩
theorem catch_idle_gPoint (ep : Nat) (w : World) :
    CallsD Try.prog 85 #[.pointer (some ⟨ep, 0, none⟩)] .returning w fun e u' w' => e = .returned (.tuple #[]) ∧ u' = .returning ∧ w' = w := by
  refine callsD_of_wpS Try.func85 rfl fun c₀ cs hu => ?_
  apply wpS_region
  have hm : c₀ = { c₀ with mode := .returning } := by cases c₀; simp_all
  simp [wpOpsS, go_sem, recoverD, hu, Try.ntmps85, Oper.upon]
  refine (gstopped_nil ep w).mono ?_
  rintro e w' ⟨rfl, rfl⟩
  simp only [bodyPostS]
  exact ⟨trivial, .returning, by rw [← hm], .tuple #[], by simp [results, Try.results85, go_sem], by first | exact ⟨rfl, rfl, rfl⟩ | exact ⟨trivial, rfl, rfl⟩ | simp⟩
theorem catch_stop_gPoint (n : Int) (ep : Nat) (x : Int) (w : World) (hep : w.heap[ep]? = some (.cells #[.int .i64 x] 24 (0, 0))) :
    CallsD Try.prog 85 #[.pointer (some ⟨ep, 0, none⟩)] (.panicking [{ v := gstopV n, recovered := false }]) w fun e u' w' => e = .returned (.tuple #[]) ∧ u' = .panicking [{ v := gstopV n, recovered := true }] ∧ Keeps (fun k => k = ep) w w' ∧ w'.heap[ep]? = some (.cells #[.int .i64 n] 24 (0, 0)) := by
  refine callsD_of_wpS Try.func85 rfl fun c₀ cs hu => ?_
  apply wpS_region
  simp [wpOpsS, go_sem, recoverD, hu, Try.ntmps85, Oper.upon]
  refine (gstopped_stop n ep x w hep).mono ?_
  rintro e w' ⟨rfl, h1, h2⟩
  simp only [bodyPostS]
  exact ⟨trivial, _, rfl, .tuple #[], by simp [results, Try.results85, go_sem], by first | exact ⟨rfl, rfl, h1, h2⟩ | exact ⟨trivial, rfl, h1, h2⟩ | (simp; exact ⟨h1, h2⟩)⟩
theorem leaf_stop_gPoint {fn : Func} (n : Int) {R : Ending → World → Prop} (E : Nat) (x : Int) (tmps : Array Value) (w5 : World) (he : w5.heap[E]? = some (.cells #[.int .i64 x] 24 (0, 0)))
    (hR : ∀ W', Keeps (fun k => k = E) w5 W' → W'.heap[E]? = some (.cells #[.int .i64 n] 24 (0, 0)) → ∃ v, (results fn tmps).run Try.prog W' = .ok v W' ∧ R (.returned v) W') :
    Leaves Try.prog fn tmps R [{ target := .fn (.func 85) #[.pointer (some ⟨E, 0, none⟩)], args := #[] }] (.panicking [{ v := gstopV n, recovered := false }]) w5 := by
  refine leaves_cons (f := 85) (args := #[.pointer (some ⟨E, 0, none⟩)]) (by simp) (by simp [go_sem, invoke]) ?_
  refine (catch_stop_gPoint n E x w5 he).mono ?_
  rintro e u' w' ⟨rfl, rfl, hk, he'⟩
  exact hR _ hk he'
theorem leaf_ret_gPoint {fn : Func} {R : Ending → World → Prop} (E : Nat) (tmps : Array Value) (w5 : World) (hR : ∃ v, (results fn tmps).run Try.prog w5 = .ok v w5 ∧ R (.returned v) w5) :
    Leaves Try.prog fn tmps R [{ target := .fn (.func 85) #[.pointer (some ⟨E, 0, none⟩)], args := #[] }] .returning w5 := by
  refine leaves_cons (f := 85) (args := #[.pointer (some ⟨E, 0, none⟩)]) (by simp) (by simp [go_sem, invoke]) ?_
  refine (catch_idle_gPoint E w5).mono ?_
  rintro e u' w' ⟨rfl, rfl, rfl⟩
  exact hR
theorem catch_idle_gGrades (ep : Nat) (w : World) :
    CallsD Try.prog 56 #[.pointer (some ⟨ep, 0, none⟩)] .returning w fun e u' w' => e = .returned (.tuple #[]) ∧ u' = .returning ∧ w' = w := by
  refine callsD_of_wpS Try.func56 rfl fun c₀ cs hu => ?_
  apply wpS_region
  have hm : c₀ = { c₀ with mode := .returning } := by cases c₀; simp_all
  simp [wpOpsS, go_sem, recoverD, hu, Try.ntmps56, Oper.upon]
  refine (gstopped_nil ep w).mono ?_
  rintro e w' ⟨rfl, rfl⟩
  simp only [bodyPostS]
  exact ⟨trivial, .returning, by rw [← hm], .tuple #[], by simp [results, Try.results56, go_sem], by first | exact ⟨rfl, rfl, rfl⟩ | exact ⟨trivial, rfl, rfl⟩ | simp⟩
theorem catch_stop_gGrades (n : Int) (ep : Nat) (x : Int) (w : World) (hep : w.heap[ep]? = some (.cells #[.int .i64 x] 24 (0, 0))) :
    CallsD Try.prog 56 #[.pointer (some ⟨ep, 0, none⟩)] (.panicking [{ v := gstopV n, recovered := false }]) w fun e u' w' => e = .returned (.tuple #[]) ∧ u' = .panicking [{ v := gstopV n, recovered := true }] ∧ Keeps (fun k => k = ep) w w' ∧ w'.heap[ep]? = some (.cells #[.int .i64 n] 24 (0, 0)) := by
  refine callsD_of_wpS Try.func56 rfl fun c₀ cs hu => ?_
  apply wpS_region
  simp [wpOpsS, go_sem, recoverD, hu, Try.ntmps56, Oper.upon]
  refine (gstopped_stop n ep x w hep).mono ?_
  rintro e w' ⟨rfl, h1, h2⟩
  simp only [bodyPostS]
  exact ⟨trivial, _, rfl, .tuple #[], by simp [results, Try.results56, go_sem], by first | exact ⟨rfl, rfl, h1, h2⟩ | exact ⟨trivial, rfl, h1, h2⟩ | (simp; exact ⟨h1, h2⟩)⟩
theorem leaf_stop_gGrades {fn : Func} (n : Int) {R : Ending → World → Prop} (E : Nat) (x : Int) (tmps : Array Value) (w5 : World) (he : w5.heap[E]? = some (.cells #[.int .i64 x] 24 (0, 0)))
    (hR : ∀ W', Keeps (fun k => k = E) w5 W' → W'.heap[E]? = some (.cells #[.int .i64 n] 24 (0, 0)) → ∃ v, (results fn tmps).run Try.prog W' = .ok v W' ∧ R (.returned v) W') :
    Leaves Try.prog fn tmps R [{ target := .fn (.func 56) #[.pointer (some ⟨E, 0, none⟩)], args := #[] }] (.panicking [{ v := gstopV n, recovered := false }]) w5 := by
  refine leaves_cons (f := 56) (args := #[.pointer (some ⟨E, 0, none⟩)]) (by simp) (by simp [go_sem, invoke]) ?_
  refine (catch_stop_gGrades n E x w5 he).mono ?_
  rintro e u' w' ⟨rfl, rfl, hk, he'⟩
  exact hR _ hk he'
theorem leaf_ret_gGrades {fn : Func} {R : Ending → World → Prop} (E : Nat) (tmps : Array Value) (w5 : World) (hR : ∃ v, (results fn tmps).run Try.prog w5 = .ok v w5 ∧ R (.returned v) w5) :
    Leaves Try.prog fn tmps R [{ target := .fn (.func 56) #[.pointer (some ⟨E, 0, none⟩)], args := #[] }] .returning w5 := by
  refine leaves_cons (f := 56) (args := #[.pointer (some ⟨E, 0, none⟩)]) (by simp) (by simp [go_sem, invoke]) ?_
  refine (catch_idle_gGrades E w5).mono ?_
  rintro e u' w' ⟨rfl, rfl, rfl⟩
  exact hR
theorem catch_idle_gSure (ep : Nat) (w : World) :
    CallsD Try.prog 61 #[.pointer (some ⟨ep, 0, none⟩)] .returning w fun e u' w' => e = .returned (.tuple #[]) ∧ u' = .returning ∧ w' = w := by
  refine callsD_of_wpS Try.func61 rfl fun c₀ cs hu => ?_
  apply wpS_region
  have hm : c₀ = { c₀ with mode := .returning } := by cases c₀; simp_all
  simp [wpOpsS, go_sem, recoverD, hu, Try.ntmps61, Oper.upon]
  refine (gstopped_nil ep w).mono ?_
  rintro e w' ⟨rfl, rfl⟩
  simp only [bodyPostS]
  exact ⟨trivial, .returning, by rw [← hm], .tuple #[], by simp [results, Try.results61, go_sem], by first | exact ⟨rfl, rfl, rfl⟩ | exact ⟨trivial, rfl, rfl⟩ | simp⟩
theorem catch_stop_gSure (n : Int) (ep : Nat) (x : Int) (w : World) (hep : w.heap[ep]? = some (.cells #[.int .i64 x] 24 (0, 0))) :
    CallsD Try.prog 61 #[.pointer (some ⟨ep, 0, none⟩)] (.panicking [{ v := gstopV n, recovered := false }]) w fun e u' w' => e = .returned (.tuple #[]) ∧ u' = .panicking [{ v := gstopV n, recovered := true }] ∧ Keeps (fun k => k = ep) w w' ∧ w'.heap[ep]? = some (.cells #[.int .i64 n] 24 (0, 0)) := by
  refine callsD_of_wpS Try.func61 rfl fun c₀ cs hu => ?_
  apply wpS_region
  simp [wpOpsS, go_sem, recoverD, hu, Try.ntmps61, Oper.upon]
  refine (gstopped_stop n ep x w hep).mono ?_
  rintro e w' ⟨rfl, h1, h2⟩
  simp only [bodyPostS]
  exact ⟨trivial, _, rfl, .tuple #[], by simp [results, Try.results61, go_sem], by first | exact ⟨rfl, rfl, h1, h2⟩ | exact ⟨trivial, rfl, h1, h2⟩ | (simp; exact ⟨h1, h2⟩)⟩
theorem leaf_stop_gSure {fn : Func} (n : Int) {R : Ending → World → Prop} (E : Nat) (x : Int) (tmps : Array Value) (w5 : World) (he : w5.heap[E]? = some (.cells #[.int .i64 x] 24 (0, 0)))
    (hR : ∀ W', Keeps (fun k => k = E) w5 W' → W'.heap[E]? = some (.cells #[.int .i64 n] 24 (0, 0)) → ∃ v, (results fn tmps).run Try.prog W' = .ok v W' ∧ R (.returned v) W') :
    Leaves Try.prog fn tmps R [{ target := .fn (.func 61) #[.pointer (some ⟨E, 0, none⟩)], args := #[] }] (.panicking [{ v := gstopV n, recovered := false }]) w5 := by
  refine leaves_cons (f := 61) (args := #[.pointer (some ⟨E, 0, none⟩)]) (by simp) (by simp [go_sem, invoke]) ?_
  refine (catch_stop_gSure n E x w5 he).mono ?_
  rintro e u' w' ⟨rfl, rfl, hk, he'⟩
  exact hR _ hk he'
theorem leaf_ret_gSure {fn : Func} {R : Ending → World → Prop} (E : Nat) (tmps : Array Value) (w5 : World) (hR : ∃ v, (results fn tmps).run Try.prog w5 = .ok v w5 ∧ R (.returned v) w5) :
    Leaves Try.prog fn tmps R [{ target := .fn (.func 61) #[.pointer (some ⟨E, 0, none⟩)], args := #[] }] .returning w5 := by
  refine leaves_cons (f := 61) (args := #[.pointer (some ⟨E, 0, none⟩)]) (by simp) (by simp [go_sem, invoke]) ?_
  refine (catch_idle_gSure E w5).mono ?_
  rintro e u' w' ⟨rfl, rfl, rfl⟩
  exact hR
theorem catch_idle_gLap (ep : Nat) (w : World) :
    CallsD Try.prog 63 #[.pointer (some ⟨ep, 0, none⟩)] .returning w fun e u' w' => e = .returned (.tuple #[]) ∧ u' = .returning ∧ w' = w := by
  refine callsD_of_wpS Try.func63 rfl fun c₀ cs hu => ?_
  apply wpS_region
  have hm : c₀ = { c₀ with mode := .returning } := by cases c₀; simp_all
  simp [wpOpsS, go_sem, recoverD, hu, Try.ntmps63, Oper.upon]
  refine (gstopped_nil ep w).mono ?_
  rintro e w' ⟨rfl, rfl⟩
  simp only [bodyPostS]
  exact ⟨trivial, .returning, by rw [← hm], .tuple #[], by simp [results, Try.results63, go_sem], by first | exact ⟨rfl, rfl, rfl⟩ | exact ⟨trivial, rfl, rfl⟩ | simp⟩
theorem catch_stop_gLap (n : Int) (ep : Nat) (x : Int) (w : World) (hep : w.heap[ep]? = some (.cells #[.int .i64 x] 24 (0, 0))) :
    CallsD Try.prog 63 #[.pointer (some ⟨ep, 0, none⟩)] (.panicking [{ v := gstopV n, recovered := false }]) w fun e u' w' => e = .returned (.tuple #[]) ∧ u' = .panicking [{ v := gstopV n, recovered := true }] ∧ Keeps (fun k => k = ep) w w' ∧ w'.heap[ep]? = some (.cells #[.int .i64 n] 24 (0, 0)) := by
  refine callsD_of_wpS Try.func63 rfl fun c₀ cs hu => ?_
  apply wpS_region
  simp [wpOpsS, go_sem, recoverD, hu, Try.ntmps63, Oper.upon]
  refine (gstopped_stop n ep x w hep).mono ?_
  rintro e w' ⟨rfl, h1, h2⟩
  simp only [bodyPostS]
  exact ⟨trivial, _, rfl, .tuple #[], by simp [results, Try.results63, go_sem], by first | exact ⟨rfl, rfl, h1, h2⟩ | exact ⟨trivial, rfl, h1, h2⟩ | (simp; exact ⟨h1, h2⟩)⟩
theorem leaf_stop_gLap {fn : Func} (n : Int) {R : Ending → World → Prop} (E : Nat) (x : Int) (tmps : Array Value) (w5 : World) (he : w5.heap[E]? = some (.cells #[.int .i64 x] 24 (0, 0)))
    (hR : ∀ W', Keeps (fun k => k = E) w5 W' → W'.heap[E]? = some (.cells #[.int .i64 n] 24 (0, 0)) → ∃ v, (results fn tmps).run Try.prog W' = .ok v W' ∧ R (.returned v) W') :
    Leaves Try.prog fn tmps R [{ target := .fn (.func 63) #[.pointer (some ⟨E, 0, none⟩)], args := #[] }] (.panicking [{ v := gstopV n, recovered := false }]) w5 := by
  refine leaves_cons (f := 63) (args := #[.pointer (some ⟨E, 0, none⟩)]) (by simp) (by simp [go_sem, invoke]) ?_
  refine (catch_stop_gLap n E x w5 he).mono ?_
  rintro e u' w' ⟨rfl, rfl, hk, he'⟩
  exact hR _ hk he'
theorem leaf_ret_gLap {fn : Func} {R : Ending → World → Prop} (E : Nat) (tmps : Array Value) (w5 : World) (hR : ∃ v, (results fn tmps).run Try.prog w5 = .ok v w5 ∧ R (.returned v) w5) :
    Leaves Try.prog fn tmps R [{ target := .fn (.func 63) #[.pointer (some ⟨E, 0, none⟩)], args := #[] }] .returning w5 := by
  refine leaves_cons (f := 63) (args := #[.pointer (some ⟨E, 0, none⟩)]) (by simp) (by simp [go_sem, invoke]) ?_
  refine (catch_idle_gLap E w5).mono ?_
  rintro e u' w' ⟨rfl, rfl, rfl⟩
  exact hR
end Go.Proofs.Ytagjepclobobjaa

/- Package grade: the first truth there is. -/
namespace Go.Proofs.Ytagjepclobobjaa
set_option linter.unusedVariables false
set_option linter.unusedSimpArgs false
open Go.RowKit Go.Shelf
attribute [local go_sem] Oper.semAt_some

theorem five_setCell {w : World} {b : Nat} {x0 x1 x2 x3 x4 y0 y1 y2 y3 y4 : Value} {t : TypeId} {fr : Nat × Nat} (h : w.heap[b]? = some (.cells #[x0, x1, x2, x3, x4] t fr)) :
    (((((w.setCell ⟨b, 0, none⟩ y0).setCell ⟨b, 1, none⟩ y1).setCell ⟨b, 2, none⟩ y2).setCell ⟨b, 3, none⟩ y3).setCell ⟨b, 4, none⟩ y4).heap[b]? = some (.cells #[y0, y1, y2, y3, y4] t fr) := by
  simp [World.setCell, Array.getElem?_modify, h]
theorem one_setG {w : World} {b : Nat} {x y : Value} {t : TypeId} {fr : Nat × Nat} (h : w.heap[b]? = some (.cells #[x] t fr)) : (w.setCell ⟨b, 0, none⟩ y).heap[b]? = some (.cells #[y] t fr) := by
  simp [World.setCell, Array.getElem?_modify, h]
theorem other_setG (w : World) (p : Addr) (v : Value) (k : Nat) (h : k ≠ p.block) : (w.setCell p v).heap[k]? = w.heap[k]? := Below.heap_setCell w p v k h
def rowG (x : List Int) : Obj := .cells (x.map (Value.int .i64)).toArray 156 (0, 0)
theorem rowG5 (a b c d e : Int) : rowG [a, b, c, d, e] = .cells #[.int .i64 a, .int .i64 b, .int .i64 c, .int .i64 d, .int .i64 e] 156 (0, 0) := rfl
theorem cells5 {W : World} {g : Nat} {a b c d e : Int} (h : W.heap[g]? = some (rowG [a, b, c, d, e])) : W.cell? ⟨g, 0, none⟩ = some (.int .i64 a) ∧ W.cell? ⟨g, 1, none⟩ = some (.int .i64 b) ∧ W.cell? ⟨g, 2, none⟩ = some (.int .i64 c) ∧ W.cell? ⟨g, 3, none⟩ = some (.int .i64 d) ∧ W.cell? ⟨g, 4, none⟩ = some (.int .i64 e) := by
  rw [rowG5] at h
  refine ⟨?_, ?_, ?_, ?_, ?_⟩ <;> (rw [cell_of_row _ _ _ _ _ _ h]; rfl)
set_option maxRecDepth 100000 in
set_option maxHeartbeats 4000000 in
theorem gfirst_any (g : GradeD) (hp : g.pts.length = 5) (hv : validG g = true) (lv l2 : Value) (bb bp : Nat) (w : World) (hb : w.heap[bb]? = some (boxB bp)) (hbp : w.heap[bp]? = some (.cells (benchC lv g.pts g.step l2).toArray 154 (0, 0))) :
    Calls Try.prog 81 #[.func (.func 89) #[] #[.pointer (some ⟨bb, 0, none⟩)], .agg #[.func (.func 83) #[] #[]]] w
      fun e w' => (∃ y : List Int, y.length = 5 ∧ e = .returned (.tuple #[ptsV y, .bool (!(truthsG g).isEmpty)])) ∧ Below w.heap.size w w' := by
  have hlb := lt_of_block hb
  have hlp := lt_of_block hbp
  have HB := Lib.hid hb
  have HP := Lib.hid hbp
  clear hb hbp
  refine calls_of_wp_marks Try.func81 rfl ?_
  simp only [Try.ntmps81, List.size_toArray, List.length_cons, List.length_nil, Nat.reduceAdd, Nat.reduceSub, Array.replicate_succ, Array.replicate_zero, List.push_toArray, List.append_toArray, List.nil_append, List.cons_append]
  go_wp2_with fail
  obtain ⟨WZ, hWZ⟩ : ∃ WZ, WZ = (((w.alloc (.cells #[.func (.func 83) #[] #[]] 164)).alloc (.cells #[.int .i64 0, .int .i64 0, .int .i64 0, .int .i64 0, .int .i64 0] 156)).alloc (.cells #[.bool false] 4)) := ⟨_, rfl⟩
  rw [← hWZ]
  have hzz : WZ.heap.size = w.heap.size + 3 := by rw [hWZ]; simp
  have y0 : WZ.heap[w.heap.size]? = some (.cells #[.func (.func 83) #[] #[]] 164 (0, 0)) := by rw [hWZ]; exact (by repeat (first | (refine heap_alloc_at _ _ _ ?_; (simp <;> omega); done) | (refine (hget_old _ _ _ ?_).trans ?_; · (simp <;> omega))))
  have y1 : WZ.heap[w.heap.size + 1]? = some (rowG [0, 0, 0, 0, 0]) := by rw [hWZ]; exact (by repeat (first | (refine heap_alloc_at _ _ _ ?_; (simp <;> omega); done) | (refine (hget_old _ _ _ ?_).trans ?_; · (simp <;> omega))))
  have y2 : WZ.heap[w.heap.size + 1 + 1]? = some (.cells #[.bool false] 4 (0, 0)) := by rw [hWZ]; exact (by repeat (first | (refine heap_alloc_at _ _ _ ?_; (simp <;> omega); done) | (refine (hget_old _ _ _ ?_).trans ?_; · (simp <;> omega))))
  have hbz : Below w.heap.size w WZ := by rw [hWZ]; exact (((Below.refl _ _).alloc (Nat.le_refl _) _).alloc (by simp) _).alloc (by simp <;> omega) _
  have Y0 := Lib.hid y0
  have Y1 := Lib.hid y1
  have Y2 := Lib.hid y2
  have HBZ := Lib.hid hbz
  clear hWZ y0 y1 y2 hbz
  refine wp_range (gf := 89) (lb := #[.pointer (some ⟨bb, 0, none⟩)]) rfl (enters_of Try.func89 (by kernel_rfl) rfl) (encs := encX) (fun _ => rfl)
    (fun k => k = bb ∨ k = bp) (fun k => k = w.heap.size + 1 ∨ k = w.heap.size + 1 + 1) ?hRd ?hM (truthsG g) ?hseq
    (fun pre G Wr => pre = [] ∧ Wr.heap[w.heap.size]? = some (.cells #[.func (.func 83) #[] #[]] 164 (0, 0)) ∧ Wr.heap[w.heap.size + 1]? = some (rowG [0, 0, 0, 0, 0]) ∧ Wr.heap[w.heap.size + 1 + 1]? = some (.cells #[.bool false] 4 (0, 0)) ∧ Below w.heap.size w Wr)
    (fun c pre G Wr => c = .ret ∧ (∃ a b c d e : Int, Wr.heap[w.heap.size + 1]? = some (rowG [a, b, c, d, e])) ∧ Wr.heap[w.heap.size + 1 + 1]? = some (.cells #[.bool true] 4 (0, 0)) ∧ Below w.heap.size w Wr)
    ?hI ?hIx ?h0 ?hround ?hdone ?hstop
  case hRd => intro k hk; omega
  case hM => intro k hk; exact ⟨by omega, fun h => by omega⟩
  case hseq =>
    intro W' hb
    exact blocks_seq g hp hv lv l2 bb bp W' ((hb.block _ (by omega)).trans ((HBZ.out.block _ hlb).trans HB.out)) ((hb.block _ (by omega)).trans ((HBZ.out.block _ hlp).trans HP.out))
  case hI =>
    rintro s G A B ⟨h1, h2, h3, h4, h5⟩ hk
    exact ⟨h1, (hk.block _ (lt_of_block h2) (by omega)).trans h2, (hk.block _ (lt_of_block h3) (by omega)).trans h3, (hk.block _ (lt_of_block h4) (by omega)).trans h4, h5.trans (hk.below (by have := h5.size; omega) (fun k h => by omega))⟩
  case hIx =>
    rintro c s G A B ⟨h1, ⟨a, b, cc, d, f, h3⟩, h4, h5⟩ hk
    exact ⟨h1, ⟨a, b, cc, d, f, (hk.block _ (lt_of_block h3) (by omega)).trans h3⟩, (hk.block _ (lt_of_block h4) (by omega)).trans h4, h5.trans (hk.below (by have := h5.size; omega) (fun k h => by omega))⟩
  case h0 => exact ⟨rfl, Y0.out, Y1.out, Y2.out, HBZ.out⟩
  case hround =>
    rintro l pre x rest G Wr hxs ⟨rfl, h2, h3, h4, h5⟩ hl1 hl2 hGl
    have hx5 : x.length = 5 := truth_len (g := g) (by rw [hxs]; simp)
    obtain ⟨a, b, c, d, f, rfl⟩ := list5 hx5
    have H2 := Lib.hid h2
    have H3 := Lib.hid h3
    have H4 := Lib.hid h4
    have H5 := Lib.hid h5
    have HXS := Lib.hid hxs
    clear h2 h3 h4 h5 hGl hxs
    unfold encX ptsV
    simp only [List.map_cons, List.map_nil]
    gi_wp2
    refine ⟨Keeps.alloc _ _ _, ?_⟩
    intro W3 hk3 hs3
    have hs3 : W3.heap.size = Wr.heap.size + 1 := by rw [hs3]; simp
    have hW3 : ∀ k, k < Wr.heap.size → k ≠ l → W3.heap[k]? = Wr.heap[k]? := fun k hk hne => (hk3.block k (by simp; omega) hne).trans (Below.heap_alloc _ _ _ hk)
    have hl5 := H5.out.size
    have hl4 := lt_of_block H4.out
    have z0 := (hW3 _ (by omega) (by omega)).trans H2.out
    have z1 := (hW3 _ (by omega) (by omega)).trans H3.out
    have z2 := (hW3 _ (by omega) (by omega)).trans H4.out
    have zx : W3.heap[Wr.heap.size]? = some (rowG [a, b, c, d, f]) := (hk3.block _ (by simp) (by omega)).trans (heap_alloc_at _ _ _ rfl)
    have hb3 : Below w.heap.size w W3 := (H5.out.alloc (by omega) _).trans (hk3.below (by simp; omega) (fun k h => by omega))
    have d0 : W3.cell? ⟨w.heap.size, 0, none⟩ = some (.func (.func 83) #[] #[]) := by rw [cell_of_row W3 _ _ _ _ _ z0]; rfl
    obtain ⟨q0, q1, q2, q3, q4⟩ := cells5 zx
    have Z1 := Lib.hid z1
    have Z2 := Lib.hid z2
    have ZX := Lib.hid zx
    have HB3 := Lib.hid hb3
    have HK3 := Lib.hid hk3
    clear z0 z1 z2 zx hb3 hk3 hW3
    gi_wp2_with fail
    refine ⟨trivial, rfl, callsIn_wide.2 ((toldFn_any [a, b, c, d, f] _).mono ?_)⟩
    rintro e w4 ⟨rfl, hb4⟩
    dsimp only
    have hs4 := hb4.size
    have zx4 := (hb4.block _ (by omega)).trans ZX.out
    have z14 := (hb4.block _ (by omega)).trans Z1.out
    have z24 := (hb4.block _ (by omega)).trans Z2.out
    obtain ⟨q0, q1, q2, q3, q4⟩ := cells5 zx4
    obtain ⟨p0, p1, p2, p3, p4⟩ := cells5 z14
    have p5 : w4.cell? ⟨w.heap.size + 1 + 1, 0, none⟩ = some (.bool false) := by rw [cell_of_row _ _ _ _ _ _ z24]; rfl
    have f1 : ∀ k, w4.frozen? ⟨w.heap.size + 1, k, none⟩ = false := fun k => frozen_of_row _ _ _ _ _ z14
    have f2 : ∀ k, w4.frozen? ⟨w.heap.size + 1 + 1, k, none⟩ = false := fun k => frozen_of_row _ _ _ _ _ z24
    have Z14 := Lib.hid z14
    have Z24 := Lib.hid z24
    have HB4 := Lib.hid hb4
    clear zx4 z14 z24 hb4
    gi_wp2
    obtain ⟨W5, hW5⟩ : ∃ W5, W5 = (((((w4.setCell ⟨w.heap.size + 1, 0, none⟩ (.int .i64 a)).setCell ⟨w.heap.size + 1, 1, none⟩ (.int .i64 b)).setCell ⟨w.heap.size + 1, 2, none⟩ (.int .i64 c)).setCell ⟨w.heap.size + 1, 3, none⟩ (.int .i64 d)).setCell ⟨w.heap.size + 1, 4, none⟩ (.int .i64 f)) := ⟨_, rfl⟩
    rw [← hW5]
    have r1 : W5.heap[w.heap.size + 1]? = some (rowG [a, b, c, d, f]) := by rw [hW5]; exact five_setCell Z14.out
    have hk5 : Keeps (fun k => k = w.heap.size + 1 ∨ k = w.heap.size + 1 + 1) w4 W5 := by
      rw [hW5]
      exact ((((Keeps.setCell _ _ _ (.inl rfl)).trans (Keeps.setCell _ _ _ (.inl rfl))).trans (Keeps.setCell _ _ _ (.inl rfl))).trans (Keeps.setCell _ _ _ (.inl rfl))).trans (Keeps.setCell _ _ _ (.inl rfl))
    have r2 : W5.heap[w.heap.size + 1 + 1]? = some (.cells #[.bool false] 4 (0, 0)) := by
      rw [hW5, other_setG _ _ _ _ (by simp), other_setG _ _ _ _ (by simp), other_setG _ _ _ _ (by simp), other_setG _ _ _ _ (by simp), other_setG _ _ _ _ (by simp)]; exact Z24.out
    clear hW5
    have hk6 : Keeps (fun k => k = w.heap.size + 1 ∨ k = w.heap.size + 1 + 1) W3 (W5.setCell ⟨w.heap.size + 1 + 1, 0, none⟩ (.bool true)) :=
      (Keeps.of_below HB4.out (fun k h1 h2 => absurd h2 (by omega))).trans (hk5.trans (Keeps.setCell _ _ _ (.inr rfl)))
    exact ⟨hk6, rfl, ⟨a, b, c, d, f, (other_setG _ _ _ _ (by simp)).trans r1⟩, one_setG r2, HB3.out.trans (hk6.below (by omega) (fun k h => by omega))⟩
  case hdone =>
    rintro D G W' ⟨hxs, h2, h3, h4, h5⟩ hGD hkk hD hDs
    obtain ⟨p0, p1, p2, p3, p4⟩ := cells5 h3
    have p5 : W'.cell? ⟨w.heap.size + 1 + 1, 0, none⟩ = some (.bool false) := by rw [cell_of_row _ _ _ _ _ _ h4]; rfl
    have f1 : ∀ k, W'.frozen? ⟨w.heap.size + 1, k, none⟩ = false := fun k => frozen_of_row _ _ _ _ _ h3
    have f2 : ∀ k, W'.frozen? ⟨w.heap.size + 1 + 1, k, none⟩ = false := fun k => frozen_of_row _ _ _ _ _ h4
    have H3 := Lib.hid h3
    have H4 := Lib.hid h4
    have H5 := Lib.hid h5
    have HD := Lib.hid hD
    have HX := Lib.hid hxs
    clear h2 h3 h4 h5 hD hxs hGD hkk
    go_wp2
    obtain ⟨W5, hW5⟩ : ∃ W5, W5 = (((((W'.setCell ⟨w.heap.size + 1, 0, none⟩ (.int .i64 0)).setCell ⟨w.heap.size + 1, 1, none⟩ (.int .i64 0)).setCell ⟨w.heap.size + 1, 2, none⟩ (.int .i64 0)).setCell ⟨w.heap.size + 1, 3, none⟩ (.int .i64 0)).setCell ⟨w.heap.size + 1, 4, none⟩ (.int .i64 0)) := ⟨_, rfl⟩
    rw [← hW5]
    have r1 : W5.heap[w.heap.size + 1]? = some (rowG [0, 0, 0, 0, 0]) := by rw [hW5]; exact five_setCell H3.out
    have hk5 : Keeps (fun k => k = w.heap.size + 1 ∨ k = w.heap.size + 1 + 1) W' W5 := by
      rw [hW5]
      exact ((((Keeps.setCell _ _ _ (.inl rfl)).trans (Keeps.setCell _ _ _ (.inl rfl))).trans (Keeps.setCell _ _ _ (.inl rfl))).trans (Keeps.setCell _ _ _ (.inl rfl))).trans (Keeps.setCell _ _ _ (.inl rfl))
    have r2 : W5.heap[w.heap.size + 1 + 1]? = some (.cells #[.bool false] 4 (0, 0)) := by
      rw [hW5, other_setG _ _ _ _ (by simp), other_setG _ _ _ _ (by simp), other_setG _ _ _ _ (by simp), other_setG _ _ _ _ (by simp), other_setG _ _ _ _ (by simp)]; exact H4.out
    have rD : W5.heap[D]? = some (.deferred (some [])) := (hk5.block _ (lt_of_block HD.out) (fun h => by omega)).trans HD.out
    have hne : D ≠ w.heap.size + 1 ∧ D ≠ w.heap.size + 1 + 1 := ⟨by omega, by omega⟩
    clear hW5
    have rD2 : (W5.setCell ⟨w.heap.size + 1 + 1, 0, none⟩ (.bool false)).heap[D]? = some (.deferred (some [])) := (other_setG _ _ _ _ hne.2).trans rD
    refine ⟨by simp, .inl ⟨_, _, rfl, run_takeDeferred rD2, ?_⟩⟩
    obtain ⟨W6, hW6⟩ : ∃ W6, W6 = (W5.setCell ⟨w.heap.size + 1 + 1, 0, none⟩ (.bool false)).putObj D (.deferred none) := ⟨_, rfl⟩
    rw [← hW6]
    have s1 : W6.heap[w.heap.size + 1]? = some (rowG [0, 0, 0, 0, 0]) := by rw [hW6]; exact (World.putObj_heap_other (by omega)).trans ((other_setG _ _ _ _ (by simp)).trans r1)
    have s2 : W6.heap[w.heap.size + 1 + 1]? = some (.cells #[.bool false] 4 (0, 0)) := by rw [hW6]; exact (World.putObj_heap_other (by omega)).trans (one_setG r2)
    have hk6 : Keeps (fun k => w.heap.size ≤ k) W' W6 := by
      rw [hW6]
      exact (hk5.mono (fun k _ h => by omega)).trans ((Keeps.setCell _ _ _ (by simp; omega)).trans (Keeps.putObj _ _ _ (show w.heap.size ≤ D by omega)))
    obtain ⟨u0, u1, u2, u3, u4⟩ := cells5 s1
    have u5 : W6.cell? ⟨w.heap.size + 1 + 1, 0, none⟩ = some (.bool false) := by rw [cell_of_row _ _ _ _ _ _ s2]; rfl
    refine ⟨.tuple #[ptsV [0, 0, 0, 0, 0], .bool false], ?_, ⟨[0, 0, 0, 0, 0], rfl, by rw [HX.out]; rfl⟩, H5.out.trans (hk6.below (by have := H5.out.size; omega) (fun k h => by omega))⟩
    simp [results, Try.results81, go_sem, ptsV, u0, u1, u2, u3, u4, u5]
  case hstop =>
    rintro D c pre x rest G W' hxs ⟨rfl, ⟨a, b, cc, d, f, h3⟩, h4, h5⟩ hGD hkk hD hDs
    have H3 := Lib.hid h3
    have H4 := Lib.hid h4
    have H5 := Lib.hid h5
    have HD := Lib.hid hD
    have HX := Lib.hid hxs
    clear h3 h4 h5 hD hxs hGD hkk
    go_wp2
    refine ⟨by simp, .inl ⟨_, _, rfl, run_takeDeferred HD.out, ?_⟩⟩
    have hne : D ≠ w.heap.size + 1 ∧ D ≠ w.heap.size + 1 + 1 := ⟨by omega, by omega⟩
    have s1 := (World.putObj_heap_other (o := .deferred none) (w := W') hne.1.symm).trans H3.out
    have s2 := (World.putObj_heap_other (o := .deferred none) (w := W') hne.2.symm).trans H4.out
    obtain ⟨u0, u1, u2, u3, u4⟩ := cells5 s1
    have u5 : (W'.putObj D (.deferred none)).cell? ⟨w.heap.size + 1 + 1, 0, none⟩ = some (.bool true) := by rw [cell_of_row _ _ _ _ _ _ s2]; rfl
    refine ⟨.tuple #[ptsV [a, b, cc, d, f], .bool true], ?_, ⟨[a, b, cc, d, f], rfl, by rw [HX.out]; simp⟩, H5.out.trans ((Keeps.putObj (Mut := fun k => k = D) _ _ _ rfl).below (by have := H5.out.size; omega) (fun k h => by omega))⟩
    simp [results, Try.results81, go_sem, ptsV, u0, u1, u2, u3, u4, u5]
end Go.Proofs.Ytagjepclobobjaa

/- A map with structs as keys is ranged over. -/
namespace Go.Proofs.Ytagjepclobobjaa
set_option linter.unusedVariables false
set_option linter.unusedSimpArgs false
open Go.RowKit Go.Shelf Go.ChangeMaps
attribute [local go_sem] Oper.semAt_some

/-- How many entries are still to come. -/
def leftK (w : World) (b r : Nat) : Nat :=
  match w.heap[b]?, w.heap[r]? with
  | some (.map es _), some (.mapIter _ _ seen _) => (leftOf es seen).size
  | _, _ => 0
section
variable {κ : Type} [DecidableEq κ]
omit [DecidableEq κ] in
theorem borns_K (enc : κ → Value) (L : List (κ × Value × Nat)) : (L.map (entK enc)).toArray.toList.map (·.born) = L.map (·.2.2) := by
  simp [entK]
omit [DecidableEq κ] in
/-- 'next': nothing is left, or an entry that has not been seen, and it can be read. -/
theorem next_K {P : Program} {enc : κ → Value} {wr : World} {mb rb c0 clock since : Nat} {seen : Array Nat} {L : List (κ × Value × Nat)} {f : κ → Option Value} (ht : TabK L clock f) (hs : clock ≤ since)
    (hit : wr.heap[rb]? = some (.mapIter (some mb) since seen c0)) (hc : since ≤ c0) (hm : wr.heap[mb]? = some (mapK enc L clock)) (hne : mb ≠ rb) :
    ((∀ x ∈ L, seen.contains x.2.2 = true) ∧ (Instr.next (.pointer (some ⟨rb, 0, none⟩)) false 0).run P wr = .ok (.tuple #[.bool false]) wr) ∨
    ∃ y ∈ L, seen.contains y.2.2 = false ∧ ∃ W, Keeps (fun k => k = rb) wr W ∧ W.heap.size = wr.heap.size ∧ W.heap[rb]? = some (.mapIter (some mb) since (seen.push y.2.2) clock) ∧
      (Instr.next (.pointer (some ⟨rb, 0, none⟩)) false 0).run P wr = .ok (.tuple #[.bool true, enc y.1, y.2.1]) W ∧
      (Instr.entry (.pointer (some ⟨rb, 0, none⟩))).run P W = .ok (.tuple #[enc y.1, y.2.1]) W ∧
      ∀ W', W'.heap[mb]? = some (mapK enc L clock) → W'.heap[rb]? = some (.mapIter (some mb) since (seen.push y.2.2) clock) → leftK W' mb rb < leftK wr mb rb := by
  have hborn : ∀ x ∈ (L.map (entK enc)).toArray.toList, x.born < since := by
    intro x hx
    simp only [List.mem_map] at hx
    obtain ⟨y, hy, rfl⟩ := hx
    have := ht.born y hy
    simp only [entK]; omega
  rcases run_next_at (P := P) wr 0 rb mb since c0 seen (L.map (entK enc)).toArray clock hit hm hborn hc with ⟨hz, hrun⟩ | ⟨e, he, w1, hw1, hrun⟩
  · refine .inl ⟨fun x hx => ?_, hrun⟩
    exact all_seen _ _ hz (entK enc x) (by simp only [List.mem_map]; exact ⟨x, hx, rfl⟩)
  · right
    obtain ⟨hee, hsn⟩ := mem_left he
    have hee' := hee
    simp only [List.mem_map] at hee'
    obtain ⟨y, hy, rfl⟩ := hee'
    have hlt : rb < wr.heap.size := (Array.getElem?_eq_some_iff.1 hit).1
    refine ⟨y, hy, hsn, setBlock w1 rb (.mapIter (some mb) since (seen.push y.2.2) clock), ?_, ?_, ?_, hrun, ?_, ?_⟩
    · rcases hw1 with rfl | rfl
      · exact Keeps.putObj _ _ _ rfl
      · exact (Keeps.drew _ _).trans (Keeps.putObj _ _ _ rfl)
    · rcases hw1 with rfl | rfl <;> simp [setBlock]
    · rcases hw1 with rfl | rfl <;> simp [setBlock, hlt]
    · refine run_entry_at (P := P) _ rb mb since seen (L.map (entK enc)).toArray clock (entK enc y) ?_ ?_ hee ?_
      · rcases hw1 with rfl | rfl <;> simp [setBlock, hlt, entK]
      · have : wr.heap[mb]? = some (.map (L.map (entK enc)).toArray clock) := hm
        have h2 : wr.drew.heap[mb]? = some (.map (L.map (entK enc)).toArray clock) := this
        rcases hw1 with rfl | rfl <;> simp [setBlock, Array.getElem?_setIfInBounds, Ne.symm hne, this, h2]
      · rw [borns_K]; exact ht.borns
    · intro W' h1 h2
      unfold leftK
      rw [h1, h2, hm, hit]
      exact left_shrinks _ seen _ he
end
end Go.Proofs.Ytagjepclobobjaa
