/- Texts Tu, Tv in one file; each begins with a word on what it proves. -/
import Derived.Lib.MinMax
import Derived.Test.YtlgeggekmdoceaaKk
import Derived.Test.YtlgeggekmdoceaaKr

/- PairTrue: draws, a function that returns numbers below others. -/
namespace Go.Proofs.Ytlgeggekmdoceaa
set_option linter.unusedVariables false
set_option linter.unusedSimpArgs false
open Go.RowKit Go.Shelf
attribute [local go_sem] Oper.semAt_some

/-- A slice of numbers of sixteen bits, outside a block. -/
def UsAt (W : World) (v : Value) (l : List Int) (Rd : Nat → Prop) : Prop :=
  ∃ ao cap, v = .slice ao l.length cap ∧ l.length ≤ cap ∧ cap ≤ maxLen ∧ ∀ i (h : i < l.length), (0 ≤ l[i] ∧ l[i] < 65536) ∧ ∃ b off, ao = some ⟨b, off, none⟩ ∧ Rd b ∧ b < W.heap.size ∧ W.cell? ⟨b, off + i, none⟩ = some (.int .u16 l[i])
/-- What is drawn from: the count of draws in a block, the numbers in another one. -/
structure DrawS (l : List Int) (b1 b2 B : Nat) (v : Value) (K : Nat) (w : World) : Prop where
  at1 : ∃ k : Nat, k ≤ K ∧ w.heap[b1]? = some (.cells #[.int .i64 k] 3 (0, 0))
  by1 : w.heap[b2]? = some (.cells #[v] 47 (0, 0))
  us : UsAt w v l (fun k => k ≠ b1 ∧ k < B)
  ne : b2 ≠ b1
  lt1 : b1 < B
  lt2 : b2 < B
theorem UsAt.later {W W' : World} {v : Value} {l : List Int} {Rd : Nat → Prop} (h : UsAt W v l Rd) (hs : W.heap.size ≤ W'.heap.size) (hk : ∀ k, k < W.heap.size → Rd k → W'.heap[k]? = W.heap[k]?) : UsAt W' v l Rd := by
  obtain ⟨ao, cap, h1, h2, h3, h4⟩ := h
  refine ⟨ao, cap, h1, h2, h3, fun i hi => ?_⟩
  obtain ⟨h5, b, off, e1, e2, e3, e4⟩ := h4 i hi
  exact ⟨h5, b, off, e1, e2, by omega, (World.cell?_of_block (w := W) (a := ⟨b, off + i, none⟩) (hk b e3 e2)).trans e4⟩
theorem DrawS.later {l : List Int} {b1 b2 B K : Nat} {v : Value} {w W : World} (h : DrawS l b1 b2 B v K w) (hb : Keeps (fun k => B ≤ k) w W) : DrawS l b1 b2 B v K W := by
  obtain ⟨⟨k, hk, h1⟩, h2, h3, h4, h5, h6⟩ := h
  exact ⟨⟨k, hk, (hb.block _ (lt_of_block h1) (by omega)).trans h1⟩, (hb.block _ (lt_of_block h2) (by omega)).trans h2, h3.later hb.size (fun k hk hr => hb.block k hk (by omega)), h4, h5, h6⟩
theorem DrawS.mono {l : List Int} {b1 b2 B K K' : Nat} {v : Value} {w : World} (h : DrawS l b1 b2 B v K w) (hk : K ≤ K') : DrawS l b1 b2 B v K' w := by
  obtain ⟨⟨k, hk', h1⟩, h2, h3, h4, h5, h6⟩ := h
  exact ⟨⟨k, by omega, h1⟩, h2, h3, h4, h5, h6⟩
def SomeIn (n : Int) (P : World → Prop) (e : Ending) (w' : World) : Prop := ∃ x : Int, 0 ≤ x ∧ x < n ∧ e = .returned (.int .i64 x) ∧ P w'
set_option maxRecDepth 100000 in
set_option maxHeartbeats 4000000 in
theorem draw_any (l : List Int) (b1 b2 B K : Nat) (v : Value) (n : Int) (hn : 1 ≤ n ∧ n ≤ 1000) (hK : K ≤ 100000) (w : World) (hd : DrawS l b1 b2 B v K w) :
    Calls Try.prog 88 #[.int .i64 n, .pointer (some ⟨b1, 0, none⟩), .pointer (some ⟨b2, 0, none⟩)] w (SomeIn n fun w' => DrawS l b1 b2 B v (K + 1) w' ∧ Keeps (fun k => k = b1) w w') := by
  obtain ⟨hn1, hn2⟩ := hn
  obtain ⟨⟨k, hk, h1⟩, h2, hus, hne, hl1, hl2⟩ := hd
  obtain ⟨ao, cap, rfl, hlc, hcm, hel⟩ := id hus
  unfold maxLen at hcm
  have c1 : w.cell? ⟨b1, 0, none⟩ = some (.int .i64 k) := cell_of_row _ _ 0 _ _ _ h1
  have c3 : ∀ j, w.frozen? ⟨b1, j, none⟩ = false := fun j => frozen_of_row _ _ _ _ _ h1
  obtain ⟨W1, hW1⟩ : ∃ W1, W1 = w.setCell ⟨b1, 0, none⟩ (.int .i64 ((k : Int) + 1)) := ⟨_, rfl⟩
  have k1 : W1.heap[b1]? = some (.cells #[.int .i64 ((k + 1 : Nat) : Int)] 3 (0, 0)) := by rw [hW1]; simp [World.setCell, Array.getElem?_modify, h1]
  have kk : Keeps (fun k => k = b1) w W1 := by rw [hW1]; exact Keeps.setCell _ _ _ rfl
  have k2 : W1.heap[b2]? = some (.cells #[.slice ao l.length cap] 47 (0, 0)) := (kk.block _ (lt_of_block h2) hne).trans h2
  have k3 : UsAt W1 (.slice ao l.length cap) l (fun k => k ≠ b1 ∧ k < B) := hus.later kk.size (fun k hk hr => kk.block k hk hr.1)
  have hst : Hid (∀ n, DrawS l b1 b2 B (.slice ao l.length cap) (K + 1) (W1.drewN n) ∧ Keeps (fun k => k = b1) w (W1.drewN n)) := fun n => ⟨⟨⟨k + 1, by omega, k1⟩, k2, k3, hne, hl1, hl2⟩, ⟨kk.os, kk.tape, kk.output, kk.size, kk.block⟩⟩
  have d1 : W1.cell? ⟨b1, 0, none⟩ = some (.int .i64 ((k : Int) + 1)) := by rw [cell_of_row _ _ 0 _ _ _ k1]; simp
  have d2 : W1.cell? ⟨b2, 0, none⟩ = some (.slice ao l.length cap) := cell_of_row _ _ 0 _ _ _ k2
  have hz : (n == 0) = false := by rw [beq_eq_false_iff_ne]; omega
  have HW1 := Lib.hid hW1
  have hwk : IntKind.i64.wrap ((k : Int) + 1) = (k : Int) + 1 := IntWalk.i64_in _ (by omega)
  rcases Nat.eq_zero_or_pos l.length with h0 | h0
  · have hb : (((l.length : Nat) : Int) == 0) = true := by rw [beq_iff_eq]; omega
    rw [hW1] at d1 d2
    clear hel hus k1 k2 k3 kk hW1 h1 h2 h0
    go_enter Try.func88, Try.ntmps88
    go_wp2_with fail
    rw [← HW1.out]
    go_ret
    exact ⟨_, Int.emod_nonneg _ (by omega), Int.emod_lt_of_pos _ (by omega), rfl, hst.out 0⟩
  · have hb : (((l.length : Nat) : Int) == 0) = false := by rw [beq_eq_false_iff_ne]; omega
    obtain ⟨r, hr⟩ : ∃ r : Nat, ((k : Int) + 1) % (l.length : Int) = r := ⟨(((k : Int) + 1) % (l.length : Int)).toNat, by have := Int.emod_nonneg ((k : Int) + 1) (b := (l.length : Int)) (by omega); omega⟩
    have hrl : r < l.length := by have := Int.emod_lt_of_pos ((k : Int) + 1) (b := (l.length : Int)) (by omega); omega
    obtain ⟨ao', cap', e', _, _, hel1⟩ := id k3
    cases e'
    obtain ⟨⟨u1, u2⟩, b, off, rfl, hbb, hbs, hc⟩ := hel1 r hrl
    generalize l[r] = u at *
    rw [hW1] at d1 d2 hc
    have hw2 : IntKind.i64.wrap (83 * ((k : Int) + 1)) = 83 * ((k : Int) + 1) := IntWalk.i64_in _ (by omega)
    have hw3 : IntKind.i64.wrap (u + 83 * ((k : Int) + 1)) = u + 83 * ((k : Int) + 1) := IntWalk.i64_in _ (by omega)
    have h83 : 0 ≤ u + 83 * ((k : Int) + 1) := by omega
    have hrr : 0 ≤ (k : Int) + 1 := by omega
    clear hel hel1 hus k1 k2 k3 kk hW1 h1 h2 h0
    go_enter Try.func88, Try.ntmps88
    go_wp2_with fail
    go_quiet (fail)
    go_wp2
    rw [← HW1.out]
    go_ret
    exact ⟨_, Int.emod_nonneg _ (by omega), Int.emod_lt_of_pos _ (by omega), rfl, hst.out nq⟩
theorem draws_any (l : List Int) (v : Value) (w : World) (hus : UsAt w v l (fun k => k < w.heap.size)) :
    Calls Try.prog 34 #[v] w fun e w' => e = .returned (.func (.func 88) #[] #[.pointer (some ⟨w.heap.size + 1, 0, none⟩), .pointer (some ⟨w.heap.size, 0, none⟩)]) ∧ DrawS l (w.heap.size + 1) w.heap.size (w.heap.size + 2) v 0 w' ∧ Below w.heap.size w w' := by
  obtain ⟨ao, cap, rfl, _⟩ := id hus
  have hmf : ∀ (fn : Fn) (first cap : Array Value) (w : World), (Instr.makeFunc fn first cap).run Try.prog w = .ok (.func fn first cap) w := fun _ _ _ _ => rfl
  have hend : Hid (DrawS l (w.heap.size + 1) w.heap.size (w.heap.size + 2) (.slice ao l.length cap) 0 ((w.alloc (.cells #[.slice ao l.length cap] 47)).alloc (.cells #[.int .i64 0] 3)) ∧ Below w.heap.size w ((w.alloc (.cells #[.slice ao l.length cap] 47)).alloc (.cells #[.int .i64 0] 3))) := by
    have hb : Below w.heap.size w ((w.alloc (.cells #[.slice ao l.length cap] 47)).alloc (.cells #[.int .i64 0] 3)) := ((Below.refl _ _).alloc (Nat.le_refl _) _).alloc (by simp) _
    refine ⟨⟨⟨0, Nat.le_refl _, heap_alloc_at _ _ _ (by simp)⟩, (Below.heap_alloc _ _ _ (by simp)).trans (heap_alloc_at _ _ _ rfl), ?_, by omega, by omega, by omega⟩, hb⟩
    obtain ⟨ao', cap', h1, h2, h3, h4⟩ := hus
    exact ⟨ao', cap', h1, h2, h3, fun i hi => by
      obtain ⟨h5, b, off, e1, e2, e3, e4⟩ := h4 i hi
      exact ⟨h5, b, off, e1, ⟨by omega, by omega⟩, by simp; omega, (World.cell?_of_block (w := w) (a := ⟨b, off + i, none⟩) (hb.block b e3)).trans e4⟩⟩
  clear hus
  go_enter Try.func34, Try.ntmps34
  go_wp2
  go_ret
  exact ⟨rfl, hend.out⟩
/-- What draws, in a variable. -/
def drawV (b1 b2 : Nat) : Value := .func (.func 88) #[] #[.pointer (some ⟨b1, 0, none⟩), .pointer (some ⟨b2, 0, none⟩)]
def AroundP (n wide most : Int) (P : World → Prop) (e : Ending) (w' : World) : Prop := ∃ x y : Int, (0 ≤ x ∧ x < wide) ∧ (0 ≤ y ∧ y < wide) ∧ e = .returned (.agg #[.int .i64 (max (-most) (n - x)), .int .i64 (min most (n + y))]) ∧ P w'
theorem cell_two {w : World} {b g : Nat} {u u' x : Value} (hne : b ≠ g) (h : w.cell? ⟨b, 0, none⟩ = some x) : ((w.setCell ⟨g, 0, none⟩ u).setCell ⟨g, 1, none⟩ u').cell? ⟨b, 0, none⟩ = some x := by
  unfold World.cell? at h ⊢
  rw [Below.heap_setCell _ _ _ _ hne, Below.heap_setCell _ _ _ _ hne]
  exact h
theorem two_set {w : World} {g : Nat} {a b u u' : Value} {t : TypeId} {fr : Nat × Nat} (h : w.heap[g]? = some (.cells #[a, b] t fr)) : ((w.setCell ⟨g, 0, none⟩ u).setCell ⟨g, 1, none⟩ u').heap[g]? = some (.cells #[u, u'] t fr) := by
  simp [World.setCell, Array.getElem?_modify, h]
theorem keeps_two (w : World) (g : Nat) (u u' : Value) : Keeps (fun k => k = g) w ((w.setCell ⟨g, 0, none⟩ u).setCell ⟨g, 1, none⟩ u') :=
  (Keeps.setCell (Mut := fun k => k = g) w ⟨g, 0, none⟩ u rfl).trans (Keeps.setCell (Mut := fun k => k = g) (w.setCell ⟨g, 0, none⟩ u) ⟨g, 1, none⟩ u' rfl)
theorem if_minT (a b : Int) : (if b < a then b else a) = min a b := by split <;> omega
theorem if_maxT (a b : Int) : (if a < b then b else a) = max a b := by split <;> omega
set_option maxRecDepth 100000 in
set_option maxHeartbeats 4000000 in
theorem around_any (l : List Int) (b1 b2 B b3 K : Nat) (v : Value) (n wide most : Int) (hn : -100 ≤ n ∧ n ≤ 100) (hw : 1 ≤ wide ∧ wide ≤ 100) (hm : 0 ≤ most ∧ most ≤ 100) (hK : K ≤ 1000) (w : World) (hB : B ≤ w.heap.size) (hd : DrawS l b1 b2 B v K w) (h3 : w.heap[b3]? = some (.cells #[drawV b1 b2] 48 (0, 0))) (n3 : b3 ≠ b1) :
    Calls Try.prog 89 #[.int .i64 n, .int .i64 wide, .int .i64 most, .pointer (some ⟨b3, 0, none⟩)] w (AroundP n wide most fun w' => DrawS l b1 b2 B v (K + 2) w' ∧ Keeps (fun k => k = b1) w w') := by
  obtain ⟨hn1, hn2⟩ := hn
  obtain ⟨hw1, hw2⟩ := hw
  obtain ⟨hm1, hm2⟩ := hm
  obtain ⟨A, hA⟩ : ∃ A, A = w.alloc (.cells #[.int .i64 0, .int .i64 0] 24) := ⟨_, rfl⟩
  have a0 : Keeps (fun _ => False) w A.drew := by rw [hA]; exact (Keeps.alloc _ _ _).trans (Keeps.drew _ _)
  have a1 := hd.later (a0.mono (fun _ _ h => h.elim))
  have a2 := (a0.block _ (lt_of_block h3) (fun h => h)).trans h3
  have a3 : A.drew.heap[w.heap.size]? = some (.cells #[.int .i64 0, .int .i64 0] 24 (0, 0)) := by rw [hA]; exact heap_alloc_at w _ _ rfl
  have hb1 : b1 < w.heap.size := Nat.lt_of_lt_of_le hd.lt1 hB
  have hb3 := lt_of_block h3
  have c3 : A.drew.cell? ⟨b3, 0, none⟩ = some (.func (.func 88) #[] #[.pointer (some ⟨b1, 0, none⟩), .pointer (some ⟨b2, 0, none⟩)]) := cell_of_row _ _ 0 _ _ _ a2
  have hk := a0.mono (Mut' := fun k => k = b1) (fun _ _ h => h.elim)
  have HS := Lib.hid (And.intro a1 hk)
  have H3 := Lib.hid h3
  have HZ := Lib.hid a3
  have HA := Lib.hid hA
  have eg1 := enters_of Try.func88 (by kernel_rfl) rfl
  clear a0 a1 a2 a3 hA h3 hd hk
  go_enter Try.func89, Try.ntmps89
  go_wp2_with fail
  rw [← HA.out]
  have hwm : IntKind.i64.wrap (-most) = -most := IntWalk.i64_in _ (by omega)
  go_region_held3 (fun w' => w'.cell? ⟨b3, 0, none⟩ = some (.func (.func 88) #[] #[.pointer (some ⟨b1, 0, none⟩), .pointer (some ⟨b2, 0, none⟩)])) (first | exact c3 | exact c4 _ _)
    (first
      | (go_at_call 88; refine (draw_any l b1 b2 B K v wide ⟨hw1, by omega⟩ (by omega) _ HS.out.1).mono ?_; rintro e w1 ⟨x, hx1, hx2, rfl, hd1, hk1⟩; have HZ := Lib.hid ((hk1.block _ (lt_of_block HZ.out) (by omega)).trans HZ.out); have HS := Lib.hid (And.intro hd1 (HS.out.2.trans hk1)); have c3 := cell_of_row _ _ 0 _ _ _ ((HS.out.2.block b3 hb3 n3).trans H3.out); have hsx1 : IntKind.i64.wrap (n - x) = n - x := IntWalk.i64_in _ (by omega); have hsx2 : IntKind.i64.wrap (n + x) = n + x := IntWalk.i64_in _ (by omega); clear hd1 hk1)
      | (go_at_call 88; refine (draw_any l b1 b2 B (K + 1) v wide ⟨hw1, by omega⟩ (by omega) _ HS.out.1).mono ?_; rintro e w2 ⟨y, hy1, hy2, rfl, hd1, hk1⟩; have HZ := Lib.hid ((hk1.block _ (lt_of_block HZ.out) (by omega)).trans HZ.out); have HS := Lib.hid (And.intro hd1 (HS.out.2.trans hk1)); have c3 := cell_of_row _ _ 0 _ _ _ ((HS.out.2.block b3 hb3 n3).trans H3.out); have hsy1 : IntKind.i64.wrap (n - y) = n - y := IntWalk.i64_in _ (by omega); have hsy2 : IntKind.i64.wrap (n + y) = n + y := IntWalk.i64_in _ (by omega); clear hd1 hk1)
      | (go_at_call 33; refine (lspan_any _ _ _).mono ?_; rintro e w31 ⟨rfl, hb31⟩; have hk1 := Keeps.of_below (Mut := fun k => k = b1) hb31 (fun k h1 h2 => by omega); have HZ := Lib.hid ((hb31.block _ (lt_of_block HZ.out)).trans HZ.out); have HS := Lib.hid (And.intro (HS.out.1.later (Keeps.of_below hb31 (fun k h1 h2 => by omega))) (HS.out.2.trans hk1)); have c3 := cell_of_row _ _ 0 _ _ _ ((HS.out.2.block b3 hb3 n3).trans H3.out); unfold spanV; have z0 := cell_of_row _ _ 0 _ _ _ HZ.out; have z1 := cell_of_row _ _ 1 _ _ _ HZ.out; have z2 := fun k => frozen_of_row _ _ k _ _ HZ.out; have c4 := fun u u' => cell_two (u := u) (u' := u') (show b3 ≠ w.heap.size by omega) c3))
  all_goals
    clear hsx1 hsx2 hsy1 hsy2 hwm
    go_wp2
    have q1 := two_set (u := .int .i64 (max (-most) (n - x))) (u' := .int .i64 (min most (n + y))) HZ.out
    have e0 := cell_of_row _ _ 0 _ _ _ q1
    have e1 := cell_of_row _ _ 1 _ _ _ q1
    have kz : Keeps (fun k => k = w.heap.size) w31 ((w31.setCell ⟨w.heap.size, 0, none⟩ (.int .i64 (max (-most) (n - x)))).setCell ⟨w.heap.size, 1, none⟩ (.int .i64 (min most (n + y)))) := keeps_two _ _ _ _
    refine bodyPost_ret (v := .agg #[.int .i64 (max (-most) (n - x)), .int .i64 (min most (n + y))]) (by simp [results, Try.results89, go_sem, e0, e1]) rfl ⟨x, y, ⟨hx1, hx2⟩, ⟨hy1, hy2⟩, rfl, ?_, ?_⟩
    · exact HS.out.1.later (kz.mono (fun k _ h => by omega))
    · exact HS.out.2.transNew kz (fun i hi => by omega)

end Go.Proofs.Ytlgeggekmdoceaa

/- PairTrue: made, a pair whose readings are right, and the truth. -/
namespace Go.Proofs.Ytlgeggekmdoceaa
set_option linter.unusedVariables false
set_option linter.unusedSimpArgs false
open Go.RowKit Go.Shelf
attribute [local go_sem] Oper.semAt_some

/-- The memory of made: what draws, and the pair. -/
structure MadeS (l : List Int) (b1 b2 B b3 g2 K : Nat) (v : Value) (row : Array Value) (w : World) : Prop where
  ds : DrawS l b1 b2 B v K w
  bx : w.heap[b3]? = some (.cells #[drawV b1 b2] 48 (0, 0))
  pr : w.heap[g2]? = some (.cells row 27 (0, 0))
  n3 : b3 ≠ b1
  n2 : g2 ≠ b1
  hB : B ≤ b3
  hB2 : B ≤ g2
theorem MadeS.later {l : List Int} {b1 b2 B b3 g2 K : Nat} {v : Value} {row : Array Value} {w W : World} (h : MadeS l b1 b2 B b3 g2 K v row w) (hb : Below w.heap.size w W) : MadeS l b1 b2 B b3 g2 K v row W :=
  ⟨h.ds.later (Keeps.of_below hb (fun k h1 h2 => by omega)), (hb.block _ (lt_of_block h.bx)).trans h.bx, (hb.block _ (lt_of_block h.pr)).trans h.pr, h.n3, h.n2, h.hB, h.hB2⟩
theorem MadeS.drawn {l : List Int} {b1 b2 B b3 g2 K K' : Nat} {v : Value} {row : Array Value} {w W : World} (h : MadeS l b1 b2 B b3 g2 K v row w) (hd : DrawS l b1 b2 B v K' W) (hk : Keeps (fun k => k = b1) w W) : MadeS l b1 b2 B b3 g2 K' v row W :=
  ⟨hd, (hk.block _ (lt_of_block h.bx) h.n3).trans h.bx, (hk.block _ (lt_of_block h.pr) h.n2).trans h.pr, h.n3, h.n2, h.hB, h.hB2⟩
theorem MadeS.put {l : List Int} {b1 b2 B b3 g2 K : Nat} {v : Value} {row row' : Array Value} {w W : World} (h : MadeS l b1 b2 B b3 g2 K v row w) (hk : Keeps (fun k => k = g2) w W) (hne : b3 ≠ g2) (hr : W.heap[g2]? = some (.cells row' 27 (0, 0))) : MadeS l b1 b2 B b3 g2 K v row' W :=
  ⟨h.ds.later (hk.mono (fun k _ e => by have := h.hB2; omega)), (hk.block _ (lt_of_block h.bx) hne).trans h.bx, hr, h.n3, h.n2, h.hB, h.hB2⟩
theorem MadeS.c3 {l : List Int} {b1 b2 B b3 g2 K : Nat} {v : Value} {row : Array Value} {w : World} (h : MadeS l b1 b2 B b3 g2 K v row w) : w.cell? ⟨b3, 0, none⟩ = some (.func (.func 88) #[] #[.pointer (some ⟨b1, 0, none⟩), .pointer (some ⟨b2, 0, none⟩)]) := cell_of_row _ _ 0 _ _ _ h.bx
theorem cells3 {w : World} {b : Nat} {row : Array Value} {t : TypeId} {fr : Nat × Nat} (h : w.heap[b]? = some (.cells row t fr)) (k : Nat) : w.cell? ⟨b, k, none⟩ = row[k]? ∧ (∀ o, (w.alloc o).cell? ⟨b, k, none⟩ = row[k]?) ∧ ∀ o o', ((w.alloc o).alloc o').cell? ⟨b, k, none⟩ = row[k]? := by
  have hl := lt_of_block h
  refine ⟨cell_of_row _ _ _ _ _ _ h, fun o => cell_of_row _ _ _ _ _ _ ((Below.heap_alloc _ _ _ hl).trans h), fun o o' => cell_of_row _ _ _ _ _ _ ((Below.heap_alloc _ _ _ (by simp; omega)).trans ((Below.heap_alloc _ _ _ hl).trans h))⟩
theorem MadeS.cs {l : List Int} {b1 b2 B b3 g2 K : Nat} {v : Value} {row : Array Value} {w : World} (h : MadeS l b1 b2 B b3 g2 K v row w) : w.cell? ⟨b3, 0, none⟩ = some (.func (.func 88) #[] #[.pointer (some ⟨b1, 0, none⟩), .pointer (some ⟨b2, 0, none⟩)]) ∧
    (∀ o, (w.alloc o).cell? ⟨b3, 0, none⟩ = some (.func (.func 88) #[] #[.pointer (some ⟨b1, 0, none⟩), .pointer (some ⟨b2, 0, none⟩)])) ∧ ∀ o o', ((w.alloc o).alloc o').cell? ⟨b3, 0, none⟩ = some (.func (.func 88) #[] #[.pointer (some ⟨b1, 0, none⟩), .pointer (some ⟨b2, 0, none⟩)]) := cells3 h.bx 0
theorem keeps_four (w : World) (g : Nat) (a b c d : Value) : Keeps (fun k => k = g) w ((((w.setCell ⟨g, 1, none⟩ a).setCell ⟨g, 2, none⟩ b).setCell ⟨g, 3, none⟩ c).setCell ⟨g, 4, none⟩ d) :=
  (((Keeps.setCell (Mut := fun k => k = g) w ⟨g, 1, none⟩ a rfl).trans (Keeps.setCell (Mut := fun k => k = g) _ ⟨g, 2, none⟩ b rfl)).trans (Keeps.setCell (Mut := fun k => k = g) _ ⟨g, 3, none⟩ c rfl)).trans (Keeps.setCell (Mut := fun k => k = g) _ ⟨g, 4, none⟩ d rfl)
theorem four_set {w : World} {g : Nat} {a0 a1 a2 a3 a4 a5 a b c d : Value} {t : TypeId} {fr : Nat × Nat} (h : w.heap[g]? = some (.cells #[a0, a1, a2, a3, a4, a5] t fr)) : ((((w.setCell ⟨g, 1, none⟩ a).setCell ⟨g, 2, none⟩ b).setCell ⟨g, 3, none⟩ c).setCell ⟨g, 4, none⟩ d).heap[g]? = some (.cells #[a0, a, b, c, d, a5] t fr) := by
  simp [World.setCell, Array.getElem?_modify, h]
theorem MadeS.alloc {l : List Int} {b1 b2 B b3 g2 K : Nat} {v : Value} {row : Array Value} {w : World} (h : MadeS l b1 b2 B b3 g2 K v row w) (o : Obj) : MadeS l b1 b2 B b3 g2 K v row (w.alloc o) := h.later ((Below.refl _ _).alloc (Nat.le_refl _) _)
theorem MadeS.below {l : List Int} {b1 b2 B b3 g2 K base : Nat} {v : Value} {row : Array Value} {w W : World} (h : MadeS l b1 b2 B b3 g2 K v row w) (hb : Below base w W) (h3 : b3 < base) (h2 : g2 < base) : MadeS l b1 b2 B b3 g2 K v row W :=
  ⟨h.ds.later (Keeps.of_below hb (fun k h1 _ => by have := h.hB; omega)), (hb.block _ h3).trans h.bx, (hb.block _ h2).trans h.pr, h.n3, h.n2, h.hB, h.hB2⟩
theorem own_thru {w W : World} {base b1 : Nat} {e : TypeId} {size : Nat} {v : Value} {n : Nat} {xs : List Value} (h : w.ownsRow base e size v n xs) (hk : Keeps (fun k => k = b1) w W) (hb : b1 < base) : W.ownsRow base e size v n xs := by
  obtain ⟨h1, h2⟩ := h
  exact ⟨h1, h2.imp id (fun ⟨g, cap, cur, a, b, c, d⟩ => ⟨g, cap, cur, a, b, (hk.block g (lt_of_block c) (by omega)).trans c, d⟩)⟩
theorem own_ne {w : World} {base g : Nat} {e e' : TypeId} {size : Nat} {v : Value} {n : Nat} {xs : List Value} {cs : Array Value} {fr : Nat × Nat} (h : w.ownsRow base e size v n xs) (hc : w.heap[g]? = some (.cells cs e' fr)) (hne : e ≠ e') : v.ownBlock ≠ some g := by
  intro he
  rcases h.2 with ⟨h1, _⟩ | ⟨g', cap, cur, h1, _, h3, _⟩
  · rw [h1] at he; cases he
  · rw [h1] at he
    have : g' = g := by simpa [Value.ownBlock] using he
    rw [this, hc] at h3
    injection h3 with h3
    injection h3 with _ h4 _
    exact hne h4.symm
theorem own_sep {w : World} {base : Nat} {e e' : TypeId} {size size' : Nat} {v v' : Value} {n n' : Nat} {xs xs' : List Value} (h : w.ownsRow base e size v n xs) (h' : w.ownsRow base e' size' v' n' xs') (hne : e' ≠ e) : v.ownBlock = none ∨ v.ownBlock ≠ v'.ownBlock := by
  rcases h.2 with ⟨h1, _⟩ | ⟨g, cap, cur, h1, _, h3, _⟩
  · left; rw [h1]; rfl
  · right
    intro he
    have : v'.ownBlock = some g := by rw [← he, h1]; rfl
    exact own_ne h' h3 hne this
theorem grown_cell {w w' : World} {row : Option Nat} {g : Nat} {cs : Array Value} {t : TypeId} {fr : Nat × Nat} (hg : w.grownBy w' row) (hc : w.heap[g]? = some (.cells cs t fr)) (hne : row ≠ some g) : w'.heap[g]? = some (.cells cs t fr) := (hg.block g (lt_of_block hc) (fun e => hne e.symm)).trans hc
theorem alloc_last (w : World) (a b : Obj) : ((w.alloc a).alloc b).heap[w.heap.size + 1]? = some b := heap_alloc_at _ _ _ (by simp)
theorem alloc_first (w : World) (a b : Obj) : ((w.alloc a).alloc b).heap[w.heap.size]? = some a := (Below.heap_alloc _ _ _ (by simp)).trans (heap_alloc_at _ _ _ rfl)
theorem keeps_base {w a b : World} {base b1 : Nat} (h : Keeps (fun k => k = b1) w a) (hb : Below base a b) (hw : w.heap.size ≤ base) : Keeps (fun k => k = b1) w b :=
  h.transNew (Keeps.of_below (Mut := fun k => base ≤ k) hb (fun k h _ => h)) (fun i hi => by omega)
theorem underSpansT : Try.prog.underlying 22 = some (.slice 24) := by kernel_rfl
theorem infoSpansT : (Try.prog.info? 24).map (fun i => (i.zero, i.size, i.bytes)) = some (some (.agg #[.int .i64 0, .int .i64 0]), 2, 16) := by kernel_rfl
def MadeP (P : Value → World → Prop) (e : Ending) (w' : World) : Prop := ∃ v, e = .returned v ∧ P v w'
/-- What holds when some blocks have been made. -/
def RelA (l : List Int) (b1 b2 B : Nat) (v : Value) (zl zh rl rh n1 : Int) (w : World) (dv i : Value) (wr : World) : Prop :=
  ∃ (pl : List ((Int × Int) × Int)) (bsv : Value), (pl.length : Int) ≤ 1 + n1 ∧ i = .int .i64 pl.length ∧ (∀ q ∈ pl, BlkOk q.1 q.2) ∧ MadeS l b1 b2 B w.heap.size (w.heap.size + 1) (7 + 4 * pl.length) v #[bsv, .int .i64 zl, .int .i64 zh, .int .i64 rl, .int .i64 rh, .slice none 0 0] wr ∧
    wr.ownsRow (w.heap.size + 2) 24 2 bsv pl.length ((pl.map Prod.fst).flatMap spC) ∧ wr.ownsRow (w.heap.size + 2) 3 1 dv pl.length ((pl.map Prod.snd).map (Value.int .i64)) ∧ Keeps (fun k => k = b1) w wr ∧ w.heap.size + 2 ≤ wr.heap.size
theorem own_apart {w W : World} {base g : Nat} {e : TypeId} {size : Nat} {v : Value} {n : Nat} {xs : List Value} (h : w.ownsRow base e size v n xs) (hk : Keeps (fun k => k = g) w W) (hg : g < base) : W.ownsRow base e size v n xs := own_thru h hk hg
theorem set_field0 {w : World} {b : Nat} {a0 a1 a2 a3 a4 a5 x : Value} {t : TypeId} {fr : Nat × Nat} (h : w.heap[b]? = some (.cells #[a0, a1, a2, a3, a4, a5] t fr)) : (w.setCell ⟨b, 0, none⟩ x).heap[b]? = some (.cells #[x, a1, a2, a3, a4, a5] t fr) := by
  simp [World.setCell, Array.getElem?_modify, h]
theorem RelA.next {l : List Int} {b1 b2 B : Nat} {v : Value} {zl zh rl rh n1 : Int} {w w11 : World} {pl : List ((Int × Int) × Int)} {bsv bs' dv' : Value} {s1 s2 n : Int} (hok : ∀ q ∈ pl, BlkOk q.1 q.2) (hl : (pl.length : Int) < 1 + n1) (hs : w.heap.size + 2 ≤ w11.heap.size)
    (hm : MadeS l b1 b2 B w.heap.size (w.heap.size + 1) (7 + 4 * pl.length + 1 + 1 + 2) v #[bsv, .int .i64 zl, .int .i64 zh, .int .i64 rl, .int .i64 rh, .slice none 0 0] w11)
    (ho1 : w11.ownsRow (w.heap.size + 2) 24 2 bs' (pl.length + 1) ((pl.map Prod.fst).flatMap spC ++ [.int .i64 s1, .int .i64 s2])) (ho2 : w11.ownsRow (w.heap.size + 2) 3 1 dv' (pl.length + 1) ((pl.map Prod.snd).map (Value.int .i64) ++ [.int .i64 n]))
    (hk : Keeps (fun k => k = b1) w w11) (hb : BlkOk (s1, s2) n) : RelA l b1 b2 B v zl zh rl rh n1 w dv' (.int .i64 ((pl.length : Int) + 1)) (w11.setCell ⟨w.heap.size + 1, 0, none⟩ bs') := by
  have hkk : Keeps (fun k => k = w.heap.size + 1) w11 (w11.setCell ⟨w.heap.size + 1, 0, none⟩ bs') := Keeps.setCell (Mut := fun k => k = w.heap.size + 1) w11 ⟨w.heap.size + 1, 0, none⟩ bs' rfl
  have hlen : (pl ++ [((s1, s2), n)]).length = pl.length + 1 := by simp
  refine ⟨pl ++ [((s1, s2), n)], bs', by rw [hlen]; omega, by rw [hlen]; simp, ?_, ?_, ?_, ?_, hk.transNew hkk (fun i hi => by omega), by have := hkk.size; omega⟩
  · intro q hq
    rcases List.mem_append.1 hq with h | h
    · exact hok q h
    · rw [List.mem_singleton.1 h]; exact hb
  · rw [hlen, show 7 + 4 * (pl.length + 1) = 7 + 4 * pl.length + 1 + 1 + 2 by omega]
    exact hm.put hkk (by omega) (set_field0 hm.pr)
  · rw [hlen]
    have := own_apart ho1 hkk (by omega)
    simpa [spC] using this
  · rw [hlen]
    have := own_apart ho2 hkk (by omega)
    simpa using this
/-- What holds when some readings have been made. -/
def RelB (l : List Int) (b1 b2 B : Nat) (v : Value) (zl zh rl rh zz rr cnt : Int) (pl : List ((Int × Int) × Int)) (bsv dv : Value) (w : World) (i : Value) (wr : World) : Prop :=
  ∃ (rs : List RdD) (rsv : Value), (rs.length : Int) ≤ cnt ∧ i = .int .i64 rs.length ∧ (∀ r ∈ rs, RdOk (pl.map Prod.snd) zz rr r) ∧ MadeS l b1 b2 B w.heap.size (w.heap.size + 1) (40 + 6 * rs.length) v #[bsv, .int .i64 zl, .int .i64 zh, .int .i64 rl, .int .i64 rh, rsv] wr ∧
    wr.ownsRow (w.heap.size + 2) 24 2 bsv pl.length ((pl.map Prod.fst).flatMap spC) ∧ wr.ownsRow (w.heap.size + 2) 3 1 dv pl.length ((pl.map Prod.snd).map (Value.int .i64)) ∧ wr.ownsRow (w.heap.size + 2) 44 5 rsv rs.length (rs.flatMap rdC) ∧ Keeps (fun k => k = b1) w wr ∧ w.heap.size + 2 ≤ wr.heap.size
theorem own_slice {w : World} {base : Nat} {e : TypeId} {size : Nat} {v : Value} {n : Nat} {xs : List Value} (h : w.ownsRow base e size v n xs) (h0 : 0 < n) : ∃ g cap, v = .slice (some ⟨g, 0, none⟩) n cap := by
  rcases h.2 with h1 | ⟨g, cap, cur, h1, _⟩
  · omega
  · exact ⟨g, cap, h1⟩
theorem ints_cell {w : World} {base g n cap : Nat} {e : TypeId} {xs : List Int} (h : w.ownsRow base e 1 (.slice (some ⟨g, 0, none⟩) n cap) n (xs.map (Value.int .i64))) (hn : xs.length = n) (j : Nat) (hj : j < n) : w.cell? ⟨g, j, none⟩ = some (.int .i64 (xs.getD j 0)) := by
  rw [h.cellAt j (by omega), List.getElem?_map, List.getD_eq_getElem?_getD, List.getElem?_eq_getElem (by omega)]
  rfl
theorem other_block {a y n : Int} (ha : 0 ≤ a ∧ a < n) (hy : 0 ≤ y ∧ y < n - 1) : 0 ≤ (a + 1 + y) % n ∧ (a + 1 + y) % n < n ∧ (a + 1 + y) % n ≠ a := by
  refine ⟨Int.emod_nonneg _ (by omega), Int.emod_lt_of_pos _ (by omega), ?_⟩
  intro e
  rcases Int.lt_or_le (a + 1 + y) n with h | h
  · rw [Int.emod_eq_of_lt (by omega) h] at e
    omega
  · have h2 : (a + 1 + y) % n = a + 1 + y - n := by
      rw [← Int.sub_emod_right, Int.emod_eq_of_lt (by omega) (by omega)]
    omega
theorem own_keepT {w w' : World} {base : Nat} {e : TypeId} {size : Nat} {v : Value} {n : Nat} {xs : List Value} (h : w.ownsRow base e size v n xs) (hb : Below w.heap.size w w') : w'.ownsRow base e size v n xs := by
  obtain ⟨h1, h2⟩ := h
  exact ⟨h1, h2.imp id (fun ⟨g, cap, cur, a, b, c, d⟩ => ⟨g, cap, cur, a, b, (hb.block g (lt_of_block c)).trans c, d⟩)⟩
theorem mul_300T {r m : Int} (hr : -5 ≤ r ∧ r ≤ 5) (hm : 0 ≤ m ∧ m ≤ 60) : -300 ≤ r * m ∧ r * m ≤ 300 := by
  have h1 : -5 * m ≤ r * m := Int.mul_le_mul_of_nonneg_right hr.1 hm.1
  have h2 : r * m ≤ 5 * m := Int.mul_le_mul_of_nonneg_right hr.2 hm.1
  omega
theorem shows_40 {z r m : Int} (hz : -10 ≤ z ∧ z ≤ 10) (hr : -5 ≤ r ∧ r ≤ 5) (hm : 0 ≤ m ∧ m ≤ 60) : -40 ≤ showsC z r m ∧ showsC z r m ≤ 40 := by
  have := mul_300T hr hm
  unfold showsC
  omega
theorem blk_20 {pl : List ((Int × Int) × Int)} (hok : ∀ q ∈ pl, BlkOk q.1 q.2) (i : Nat) : -20 ≤ (pl.map Prod.snd).getD i 0 ∧ (pl.map Prod.snd).getD i 0 ≤ 20 := by
  rw [List.getD_eq_getElem?_getD, List.getElem?_map]
  cases h : pl[i]? with
  | none => exact ⟨by decide, by decide⟩
  | some q =>
    have := hok q (List.mem_of_getElem? h)
    unfold BlkOk at this
    show -20 ≤ q.2 ∧ q.2 ≤ 20
    omega
theorem set_field5T {w : World} {b : Nat} {a0 a1 a2 a3 a4 a5 x : Value} {t : TypeId} {fr : Nat × Nat} (h : w.heap[b]? = some (.cells #[a0, a1, a2, a3, a4, a5] t fr)) : (w.setCell ⟨b, 5, none⟩ x).heap[b]? = some (.cells #[a0, a1, a2, a3, a4, x] t fr) := by
  simp [World.setCell, Array.getElem?_modify, h]
theorem RelB.next {l : List Int} {b1 b2 B : Nat} {v : Value} {zl zh rl rh zz rr cnt : Int} {pl : List ((Int × Int) × Int)} {bsv dv : Value} {w w11 : World} {rs : List RdD} {rsv rs' : Value} {r : RdD} (hok : ∀ r ∈ rs, RdOk (pl.map Prod.snd) zz rr r) (hl : (rs.length : Int) < cnt) (hs : w.heap.size + 2 ≤ w11.heap.size)
    (hm : MadeS l b1 b2 B w.heap.size (w.heap.size + 1) (40 + 6 * rs.length + 1 + 1 + 1 + 1 + 1) v #[bsv, .int .i64 zl, .int .i64 zh, .int .i64 rl, .int .i64 rh, rsv] w11)
    (ho1 : w11.ownsRow (w.heap.size + 2) 24 2 bsv pl.length ((pl.map Prod.fst).flatMap spC)) (ho2 : w11.ownsRow (w.heap.size + 2) 3 1 dv pl.length ((pl.map Prod.snd).map (Value.int .i64)))
    (ho3 : w11.ownsRow (w.heap.size + 2) 44 5 rs' (rs.length + 1) (rs.flatMap rdC ++ rdC r))
    (hk : Keeps (fun k => k = b1) w w11) (hr : RdOk (pl.map Prod.snd) zz rr r) : RelB l b1 b2 B v zl zh rl rh zz rr cnt pl bsv dv w (.int .i64 ((rs.length : Int) + 1)) (w11.setCell ⟨w.heap.size + 1, 5, none⟩ rs') := by
  have hkk : Keeps (fun k => k = w.heap.size + 1) w11 (w11.setCell ⟨w.heap.size + 1, 5, none⟩ rs') := Keeps.setCell (Mut := fun k => k = w.heap.size + 1) w11 ⟨w.heap.size + 1, 5, none⟩ rs' rfl
  have hlen : (rs ++ [r]).length = rs.length + 1 := by simp
  refine ⟨rs ++ [r], rs', by rw [hlen]; omega, by rw [hlen]; simp, ?_, ?_, own_apart ho1 hkk (by omega), own_apart ho2 hkk (by omega), ?_, hk.transNew hkk (fun i hi => by omega), by have := hkk.size; omega⟩
  · intro q hq
    rcases List.mem_append.1 hq with h | h
    · exact hok q h
    · rw [List.mem_singleton.1 h]; exact hr
  · rw [hlen]
    have h2 := hm.put hkk (by omega) (set_field5T (x := rs') hm.pr)
    exact ⟨h2.ds.mono (by omega), h2.bx, h2.pr, h2.n3, h2.n2, h2.hB, h2.hB2⟩
  · rw [hlen]
    have := own_apart ho3 hkk (by omega)
    simpa using this
theorem own_any {w : World} {base : Nat} {e : TypeId} {size : Nat} {v : Value} {n : Nat} {xs : List Value} (h : w.ownsRow base e size v n xs) : ∃ ao cap, v = .slice ao n cap := by
  rcases h.2 with ⟨h1, h2⟩ | ⟨g, cap, cur, h1, _⟩
  · exact ⟨none, 0, by rw [h1, h2]⟩
  · exact ⟨_, cap, h1⟩
/-- What made returns. -/
def MadeOk (l : List Int) (b1 b2 B : Nat) (v : Value) (w : World) (u : Value) (w' : World) : Prop :=
  ∃ (pl : List ((Int × Int) × Int)) (zl zh rl rh zz rr : Int) (rs : List RdD) (bsv rsv : Value) (gD cD : Nat), u = .tuple #[.agg (pairRow (madeD pl zl zh rl rh rs) bsv rsv), .slice (some ⟨gD, 0, none⟩) pl.length cD, .int .i64 zz, .int .i64 rr] ∧
    validB (madeD pl zl zh rl rh rs) = true ∧ (pl.map Prod.snd, (zz, rr)) ∈ truA (madeD pl zl zh rl rh rs) ∧ (SpansAt w' bsv (madeD pl zl zh rl rh rs).bs (fun k => w.heap.size + 2 ≤ k) ∧ ReadsAt w' rsv (madeD pl zl zh rl rh rs).rs (fun k => w.heap.size + 2 ≤ k)) ∧ (-10 ≤ zz ∧ zz ≤ 10 ∧ -5 ≤ rr ∧ rr ≤ 5) ∧
    w'.ownsRow (w.heap.size + 2) 3 1 (.slice (some ⟨gD, 0, none⟩) pl.length cD) pl.length ((pl.map Prod.snd).map (Value.int .i64)) ∧ DrawS l b1 b2 B v 100 w' ∧ Keeps (fun k => k = b1) w w'
/-- What the region that makes a reading reads: what draws, and the readings so far. -/
def S17 (b1 b2 b3 g2 : Nat) (rsv : Value) (w' : World) : Prop := w'.cell? ⟨b3, 0, none⟩ = some (.func (.func 88) #[] #[.pointer (some ⟨b1, 0, none⟩), .pointer (some ⟨b2, 0, none⟩)]) ∧ w'.cell? ⟨g2, 5, none⟩ = some rsv
set_option maxRecDepth 100000 in
set_option maxHeartbeats 8000000 in
theorem made_any (l : List Int) (b1 b2 B : Nat) (v : Value) (w : World) (hB : B ≤ w.heap.size) (hd : DrawS l b1 b2 B v 0 w) :
    Calls Try.prog 35 #[drawV b1 b2] w (MadeP (MadeOk l b1 b2 B v w)) := by
  have hmf : ∀ (fn : Fn) (first cap : Array Value) (w : World), (Instr.makeFunc fn first cap).run Try.prog w = .ok (.func fn first cap) w := fun _ _ _ _ => rfl
  obtain ⟨A, hA⟩ : ∃ A, A = (w.alloc (.cells #[drawV b1 b2] 48)).alloc (.cells #[.slice none 0 0, .int .i64 0, .int .i64 0, .int .i64 0, .int .i64 0, .slice none 0 0] 27) := ⟨_, rfl⟩
  have hb1 := hd.lt1
  have hbA : Below w.heap.size w A := by rw [hA]; exact ((Below.refl _ _).alloc (Nat.le_refl _) _).alloc (by simp) _
  have hm : MadeS l b1 b2 B w.heap.size (w.heap.size + 1) 0 v #[.slice none 0 0, .int .i64 0, .int .i64 0, .int .i64 0, .int .i64 0, .slice none 0 0] A.drew := by
    refine ⟨?_, ?_, ?_, by omega, by omega, hB, by omega⟩
    · exact (hd.later (Keeps.of_below hbA (fun k h1 h2 => by omega))).later (Keeps.drew _ _)
    · rw [hA]; exact (Below.heap_alloc (w.alloc _) _ _ (by simp)).trans (heap_alloc_at w _ _ rfl)
    · rw [hA]; exact heap_alloc_at _ _ _ (by simp)
  have HM := Lib.hid hm
  have HK : Hid (Keeps (fun k => k = b1) w A.drew) := (Keeps.of_below (Mut := fun k => k = b1) hbA (fun k h1 h2 => by omega)).trans (Keeps.drew _ _)
  unfold drawV at hA
  have HA := Lib.hid hA
  have c3 : A.drew.cell? ⟨w.heap.size, 0, none⟩ = some (.func (.func 88) #[] #[.pointer (some ⟨b1, 0, none⟩), .pointer (some ⟨b2, 0, none⟩)]) := cell_of_row _ _ 0 _ _ _ hm.bx
  have eg1 := enters_of Try.func88 (by kernel_rfl) rfl
  have eg2 := enters_of Try.func89 (by kernel_rfl) rfl
  clear hA hm hbA hd
  unfold drawV
  go_enter Try.func35, Try.ntmps35
  go_wp2_with fail
  rw [← HA.out]
  go_region_held3 (fun w' => w'.cell? ⟨w.heap.size, 0, none⟩ = some (.func (.func 88) #[] #[.pointer (some ⟨b1, 0, none⟩), .pointer (some ⟨b2, 0, none⟩)])) (exact c3)
    (first
      | (go_at_call 88; refine (draw_any l b1 b2 B 0 v 21 ⟨by omega, by omega⟩ (by omega) _ HM.out.ds).mono ?_; rintro e w1 ⟨x, hx1, hx2, rfl, hd, hk⟩; have HM := Lib.hid (HM.out.drawn hd hk); have HK := Lib.hid (HK.out.trans hk); have c3 := HM.out.c3; clear hd hk)
      | (go_at_call 88; refine (draw_any l b1 b2 B 1 v 11 ⟨by omega, by omega⟩ (by omega) _ HM.out.ds).mono ?_; rintro e w2 ⟨y, hy1, hy2, rfl, hd, hk⟩; have HM := Lib.hid (HM.out.drawn hd hk); have HK := Lib.hid (HK.out.trans hk); have c3 := HM.out.c3; clear hd hk))
  rw [show IntKind.i64.wrap (x - 10) = x - 10 from IntWalk.i64_in _ (by omega), show IntKind.i64.wrap (y - 5) = y - 5 from IntWalk.i64_in _ (by omega)]
  obtain ⟨zz, hzz⟩ : ∃ zz, zz = x - 10 := ⟨_, rfl⟩
  obtain ⟨rr, hrr⟩ : ∃ rr, rr = y - 5 := ⟨_, rfl⟩
  rw [← hzz, ← hrr]
  have hz1 : -10 ≤ zz := by omega
  have hz2 : zz ≤ 10 := by omega
  have hr1 : -5 ≤ rr := by omega
  have hr2 : rr ≤ 5 := by omega
  clear hzz hrr
  have hs2 : w.heap.size + 2 ≤ w2.heap.size := by have := lt_of_block HM.out.pr; omega
  go_wp2_with fail
  refine (around_any l b1 b2 B w.heap.size 2 v zz 3 10 ⟨by omega, by omega⟩ ⟨by omega, by omega⟩ ⟨by omega, by omega⟩ (by omega) _ (by omega) HM.out.ds HM.out.bx HM.out.n3).mono ?_
  rintro e w3 ⟨za, zb, ⟨hza1, hza2⟩, ⟨hzb1, hzb2⟩, rfl, hd, hk⟩
  have hs3 := hk.size
  have HM3 := Lib.hid (HM.out.drawn hd hk)
  have HK3 := Lib.hid (HK.out.trans hk)
  clear hd hk HM HK c3
  go_wp2_with fail
  refine (around_any l b1 b2 B w.heap.size 4 v rr 2 5 ⟨by omega, by omega⟩ ⟨by omega, by omega⟩ ⟨by omega, by omega⟩ (by omega) _ (by omega) HM3.out.ds HM3.out.bx HM3.out.n3).mono ?_
  rintro e w4 ⟨ra, rb, ⟨hra1, hra2⟩, ⟨hrb1, hrb2⟩, rfl, hd, hk⟩
  have hs4 := hk.size
  have HM4 := Lib.hid (HM3.out.drawn hd hk)
  have HK4 := Lib.hid (HK3.out.trans hk)
  clear hd hk HM3 HK3
  have y1 := cell_of_row _ _ 1 _ _ _ HM4.out.pr
  have y2 := cell_of_row _ _ 2 _ _ _ HM4.out.pr
  have y3 := cell_of_row _ _ 3 _ _ _ HM4.out.pr
  have y4 := cell_of_row _ _ 4 _ _ _ HM4.out.pr
  have y6 : ∀ k, w4.frozen? ⟨w.heap.size + 1, k, none⟩ = false := fun k => frozen_of_row _ _ _ _ _ HM4.out.pr
  have y7 : ∀ a b c d, ((((w4.setCell ⟨w.heap.size + 1, 1, none⟩ a).setCell ⟨w.heap.size + 1, 2, none⟩ b).setCell ⟨w.heap.size + 1, 3, none⟩ c).setCell ⟨w.heap.size + 1, 4, none⟩ d).cell? ⟨w.heap.size, 0, none⟩ = some (.func (.func 88) #[] #[.pointer (some ⟨b1, 0, none⟩), .pointer (some ⟨b2, 0, none⟩)]) := fun a b c d => cell_of_row _ _ 0 _ _ _ (((keeps_four _ _ _ _ _ _).block _ (lt_of_block HM4.out.bx) (by omega)).trans HM4.out.bx)
  go_wp2_with fail
  clear y1 y2 y3 y4 y6 y7
  obtain ⟨W5, hW5⟩ : ∃ W, W = (((w4.setCell ⟨w.heap.size + 1, 1, none⟩ (.int .i64 (max (-10) (zz - za)))).setCell ⟨w.heap.size + 1, 2, none⟩ (.int .i64 (min 10 (zz + zb)))).setCell ⟨w.heap.size + 1, 3, none⟩ (.int .i64 (max (-5) (rr - ra)))).setCell ⟨w.heap.size + 1, 4, none⟩ (.int .i64 (min 5 (rr + rb))) := ⟨_, rfl⟩
  have hr5 : W5.heap[w.heap.size + 1]? = some (.cells #[.slice none 0 0, .int .i64 (max (-10) (zz - za)), .int .i64 (min 10 (zz + zb)), .int .i64 (max (-5) (rr - ra)), .int .i64 (min 5 (rr + rb)), .slice none 0 0] 27 (0, 0)) := by rw [hW5]; exact four_set HM4.out.pr
  have hk5 : Keeps (fun k => k = w.heap.size + 1) w4 W5 := by rw [hW5]; exact keeps_four _ _ _ _ _ _
  have hm5 := HM4.out.put hk5 (by omega) hr5
  have hkk5 := HK4.out.transNew hk5 (fun i hi => by omega)
  have hs5 := hk5.size
  rw [← hW5]
  obtain ⟨zl, hzl⟩ : ∃ zl, zl = max (-10) (zz - za) := ⟨_, rfl⟩
  obtain ⟨zh, hzh⟩ : ∃ zh, zh = min 10 (zz + zb) := ⟨_, rfl⟩
  obtain ⟨rl, hrl⟩ : ∃ rl, rl = max (-5) (rr - ra) := ⟨_, rfl⟩
  obtain ⟨rh, hrh⟩ : ∃ rh, rh = min 5 (rr + rb) := ⟨_, rfl⟩
  rw [← hzl, ← hzh, ← hrl, ← hrh] at hm5
  have hzr : (-10 ≤ zl ∧ zl ≤ zz ∧ zz ≤ zh ∧ zh ≤ 10 ∧ zh - zl ≤ 4) ∧ (-5 ≤ rl ∧ rl ≤ rr ∧ rr ≤ rh ∧ rh ≤ 5 ∧ rh - rl ≤ 4) := by omega
  have HZR := Lib.hid hzr
  have HM := Lib.hid hm5
  have HK := Lib.hid hkk5
  rw [← hzl, ← hzh, ← hrl, ← hrh]
  clear hzl hzh hrl hrh hzr hm5 hkk5 hW5 hr5 hk5 HM4 HK4 hza1 hza2 hzb1 hzb2 hra1 hra2 hrb1 hrb2
  refine (draw_any l b1 b2 B 6 v 5 ⟨by omega, by omega⟩ (by omega) _ HM.out.ds).mono ?_
  rintro e w6 ⟨n1, hn11, hn12, rfl, hd, hk⟩
  have hs6 := hk.size
  replace HM := Lib.hid (HM.out.drawn hd hk)
  replace HK := Lib.hid (HK.out.trans hk)
  clear hd hk
  have hwn : IntKind.i64.wrap (1 + n1) = 1 + n1 := IntWalk.i64_in _ (by omega)
  go_wp2_with fail
  go_loopw [3, 31] (fun dv i wr => RelA l b1 b2 B v zl zh rl rh n1 w dv i wr) (fun _ i _ => (1 + n1 - intOf i).toNat)
  case atStart => exact ⟨[], .slice none 0 0, by simp; omega, rfl, by simp, HM.out, World.ownsRow_nil _ _ _ _, World.ownsRow_nil _ _ _ _, HK.out, by omega⟩
  case round =>
    clear HM HK
    obtain ⟨pl, bsv, hk1, rfl, hok, hm, ho1, ho2, hk, hsz⟩ := hrel
    have HM := Lib.hid hm
    have HK := Lib.hid hk
    have HO1 := Lib.hid ho1
    have HO2 := Lib.hid ho2
    have HOK := Lib.hid hok
    have hlen : pl.length ≤ 5 := by omega
    have c3 := hm.c3
    clear hm hk ho1 ho2 hok
    by_cases hlk : (pl.length : Int) < 1 + n1
    case neg =>
      have hlt : decide ((pl.length : Int) < 1 + n1) = false := by simp; omega
      have hpos : 0 < pl.length := by omega
      obtain ⟨gD, cD, rfl⟩ := own_slice HO2.out hpos
      clear hlt hwn
      go_wp2_with fail
      refine (draw_any l b1 b2 B _ v 9 ⟨by omega, by omega⟩ (by omega) _ HM.out.ds).mono ?_
      rintro e w20 ⟨cnt, hcn1, hcn2, rfl, hd, hk⟩
      have hs20 := hk.size
      replace HO1 := Lib.hid (own_thru HO1.out hk (by omega))
      replace HO2 := Lib.hid (own_thru HO2.out hk (by omega))
      replace HM := Lib.hid (HM.out.drawn hd hk)
      replace HK := Lib.hid (HK.out.trans hk)
      clear hd hk c3
      go_wp2_with fail
      obtain ⟨wo, rfl⟩ : ∃ wo, wo = wr := ⟨_, rfl⟩
      go_loopw [9, 10, 11, 12, 56] (fun _ _ _ _ i wr => RelB l b1 b2 B v zl zh rl rh zz rr cnt pl bsv (.slice (some ⟨gD, 0, none⟩) pl.length cD) w i wr) (fun _ _ _ _ i _ => (cnt - intOf i).toNat)
      case atStart => exact ⟨[], .slice none 0 0, by simpa using hcn1, rfl, by simp, ⟨HM.out.ds.mono (by omega), HM.out.bx, HM.out.pr, HM.out.n3, HM.out.n2, HM.out.hB, HM.out.hB2⟩, HO1.out, HO2.out, World.ownsRow_nil _ _ _ _, HK.out, by omega⟩
      case round =>
        clear HM HK HO1 HO2
        obtain ⟨rs, rsv, hkr, rfl, hrok, hm, ho1, ho2, ho3, hk, hszr⟩ := hrel
        have HM := Lib.hid hm
        have HK := Lib.hid hk
        have HO1 := Lib.hid ho1
        have HO2 := Lib.hid ho2
        have HO3 := Lib.hid ho3
        have HRK := Lib.hid hrok
        have hlen2 : rs.length ≤ 8 := by omega
        have c3 := hm.c3
        clear hm hk ho1 ho2 ho3 hrok
        by_cases hlk : (rs.length : Int) < cnt
        case neg =>
          have hlt : decide ((rs.length : Int) < cnt) = false := by simp; omega
          obtain ⟨gS, cS, rfl⟩ := own_slice HO1.out hpos
          obtain ⟨ao3, cap3, rfl⟩ := own_any HO3.out
          have e0 := cell_of_row _ _ 0 _ _ _ HM.out.pr
          have e1 := cell_of_row _ _ 1 _ _ _ HM.out.pr
          have e2 := cell_of_row _ _ 2 _ _ _ HM.out.pr
          have e3 := cell_of_row _ _ 3 _ _ _ HM.out.pr
          have e4 := cell_of_row _ _ 4 _ _ _ HM.out.pr
          have e5 := cell_of_row _ _ 5 _ _ _ HM.out.pr
          go_wp2_with (first | (refine wpList_storeA rfl 27 _ _ rfl (w.heap.size + 1) #[.slice (some ⟨gS, 0, none⟩) pl.length cS, .int .i64 zl, .int .i64 zh, .int .i64 rl, .int .i64 rh, .slice ao3 rs.length cap3] rfl rfl 27 _ HM.out.pr rfl rfl (by simp [Value.oneCell']) ?_; intro wy hyr hyk hys; have HYR := Lib.hid hyr; have HYK := Lib.hid hyk; clear hyr hyk hys))
          clear e0 e1 e2 e3 e4 e5
          have e0 := cell_of_row _ _ 0 _ _ _ HYR.out
          have e1 := cell_of_row _ _ 1 _ _ _ HYR.out
          have e2 := cell_of_row _ _ 2 _ _ _ HYR.out
          have e3 := cell_of_row _ _ 3 _ _ _ HYR.out
          have e4 := cell_of_row _ _ 4 _ _ _ HYR.out
          have e5 := cell_of_row _ _ 5 _ _ _ HYR.out
          have hky : Keeps (fun k => k = w.heap.size + 1) wr wy := HYK.out
          have hmy := HM.out.put hky (by omega) HYR.out
          refine bodyPost_ret (v := .tuple #[.agg #[.slice (some ⟨gS, 0, none⟩) pl.length cS, .int .i64 zl, .int .i64 zh, .int .i64 rl, .int .i64 rh, .slice ao3 rs.length cap3], .slice (some ⟨gD, 0, none⟩) pl.length cD, .int .i64 zz, .int .i64 rr]) (by simp [results, Try.results35, go_sem, e0, e1, e2, e3, e4, e5]) rfl ⟨_, rfl, pl, zl, zh, rl, rh, zz, rr, rs, .slice (some ⟨gS, 0, none⟩) pl.length cS, .slice ao3 rs.length cap3, gD, cD, rfl, made_valid (by omega) (by omega) hlen2 HOK.out HRK.out HZR.out.1 HZR.out.2, made_truth (by omega) (by omega) hlen2 HOK.out HRK.out HZR.out.1 HZR.out.2, ⟨?_, ?_⟩, ⟨hz1, hz2, hr1, hr2⟩, own_apart HO2.out hky (by omega), hmy.ds.mono (by omega), HK.out.transNew hky (fun i hi => by omega)⟩
          · have h1 := own_apart HO1.out hky (by omega)
            exact spansAt_of_owns (l := pl.map Prod.fst) (by rw [List.length_map]; exact h1)
          · have h3 := own_apart HO3.out hky (by omega)
            exact readsAt_of_owns (l := rs) h3
        have hlt : decide ((rs.length : Int) < cnt) = true := by simp; omega
        by_cases hone : pl.length = 1
        · have hd1 : ((pl.length : Int) == 1) = true := by rw [beq_iff_eq]; omega
          clear hone
          obtain ⟨gS, cS, rfl⟩ := own_slice HO1.out hpos
          obtain ⟨ao3, cap3, rfl⟩ := own_any HO3.out
          have e0 := cell_of_row _ _ 0 _ _ _ HM.out.pr
          have e1 := cell_of_row _ _ 1 _ _ _ HM.out.pr
          have e2 := cell_of_row _ _ 2 _ _ _ HM.out.pr
          have e3 := cell_of_row _ _ 3 _ _ _ HM.out.pr
          have e4 := cell_of_row _ _ 4 _ _ _ HM.out.pr
          have e5 := cell_of_row _ _ 5 _ _ _ HM.out.pr
          go_wp2_with (first | (refine wpList_storeA rfl 27 _ _ rfl (w.heap.size + 1) #[.slice (some ⟨gS, 0, none⟩) pl.length cS, .int .i64 zl, .int .i64 zh, .int .i64 rl, .int .i64 rh, .slice ao3 rs.length cap3] rfl rfl 27 _ HM.out.pr rfl rfl (by simp [Value.oneCell']) ?_; intro wy hyr hyk hys; have HYR := Lib.hid hyr; have HYK := Lib.hid hyk; clear hyr hyk hys))
          clear e0 e1 e2 e3 e4 e5
          have e0 := cell_of_row _ _ 0 _ _ _ HYR.out
          have e1 := cell_of_row _ _ 1 _ _ _ HYR.out
          have e2 := cell_of_row _ _ 2 _ _ _ HYR.out
          have e3 := cell_of_row _ _ 3 _ _ _ HYR.out
          have e4 := cell_of_row _ _ 4 _ _ _ HYR.out
          have e5 := cell_of_row _ _ 5 _ _ _ HYR.out
          have hky : Keeps (fun k => k = w.heap.size + 1) wr wy := HYK.out
          have hmy := HM.out.put hky (by omega) HYR.out
          refine bodyPost_ret (v := .tuple #[.agg #[.slice (some ⟨gS, 0, none⟩) pl.length cS, .int .i64 zl, .int .i64 zh, .int .i64 rl, .int .i64 rh, .slice ao3 rs.length cap3], .slice (some ⟨gD, 0, none⟩) pl.length cD, .int .i64 zz, .int .i64 rr]) (by simp [results, Try.results35, go_sem, e0, e1, e2, e3, e4, e5]) rfl ⟨_, rfl, pl, zl, zh, rl, rh, zz, rr, rs, .slice (some ⟨gS, 0, none⟩) pl.length cS, .slice ao3 rs.length cap3, gD, cD, rfl, made_valid (by omega) (by omega) hlen2 HOK.out HRK.out HZR.out.1 HZR.out.2, made_truth (by omega) (by omega) hlen2 HOK.out HRK.out HZR.out.1 HZR.out.2, ⟨?_, ?_⟩, ⟨hz1, hz2, hr1, hr2⟩, own_apart HO2.out hky (by omega), hmy.ds.mono (by omega), HK.out.transNew hky (fun i hi => by omega)⟩
          · have h1 := own_apart HO1.out hky (by omega)
            exact spansAt_of_owns (l := pl.map Prod.fst) (by rw [List.length_map]; exact h1)
          · have h3 := own_apart HO3.out hky (by omega)
            exact readsAt_of_owns (l := rs) h3
        have hd1 : ((pl.length : Int) == 1) = false := by rw [beq_eq_false_iff_ne]; omega
        go_wp2_with fail
        refine (draw_any l b1 b2 B _ v pl.length ⟨by omega, by omega⟩ (by omega) _ HM.out.ds).mono ?_
        rintro e w21 ⟨a, ha1, ha2, rfl, hd, hk⟩
        have hs21 := hk.size
        replace HO1 := Lib.hid (own_thru HO1.out hk (by omega))
        replace HO2 := Lib.hid (own_thru HO2.out hk (by omega))
        replace HO3 := Lib.hid (own_thru HO3.out hk (by omega))
        replace HM := Lib.hid (HM.out.drawn hd hk)
        replace HK := Lib.hid (HK.out.trans hk)
        clear hd hk c3
        have c3 := HM.out.c3
        have hwa : IntKind.i64.wrap (a + 1) = a + 1 := IntWalk.i64_in _ (by omega)
        go_wp2_with fail
        refine (draw_any l b1 b2 B _ v ((pl.length : Int) - 1) ⟨by omega, by omega⟩ (by omega) _ HM.out.ds).mono ?_
        rintro e w22 ⟨y2, hy21, hy22, rfl, hd, hk⟩
        have hs22 := hk.size
        replace HO1 := Lib.hid (own_thru HO1.out hk (by omega))
        replace HO2 := Lib.hid (own_thru HO2.out hk (by omega))
        replace HO3 := Lib.hid (own_thru HO3.out hk (by omega))
        replace HM := Lib.hid (HM.out.drawn hd hk)
        replace HK := Lib.hid (HK.out.trans hk)
        clear hd hk c3
        have c3 := HM.out.c3
        have hpz : ((pl.length : Int) == 0) = false := by rw [beq_eq_false_iff_ne]; omega
        obtain ⟨b, hb⟩ : ∃ b, b = (a + 1 + y2) % (pl.length : Int) := ⟨_, rfl⟩
        have hob := other_block ⟨ha1, ha2⟩ ⟨hy21, hy22⟩
        rw [← hb] at hob
        obtain ⟨hob1, hob2, hob3⟩ := hob
        go_wp2_with fail
        rw [← hb]
        clear hb hwa
        refine (draw_any l b1 b2 B _ v 61 ⟨by omega, by omega⟩ (by omega) _ HM.out.ds).mono ?_
        rintro e w23 ⟨m, hmn1, hmn2, rfl, hd, hk⟩
        have hs23 := hk.size
        replace HO1 := Lib.hid (own_thru HO1.out hk (by omega))
        replace HO2 := Lib.hid (own_thru HO2.out hk (by omega))
        replace HO3 := Lib.hid (own_thru HO3.out hk (by omega))
        replace HM := Lib.hid (HM.out.drawn hd hk)
        replace HK := Lib.hid (HK.out.trans hk)
        clear hd hk c3
        have hrm := mul_300T (r := rr) (m := m) ⟨hr1, hr2⟩ ⟨hmn1, by omega⟩
        have hsh := shows_40 (z := zz) (r := rr) (m := m) ⟨hz1, hz2⟩ ⟨hr1, hr2⟩ ⟨hmn1, by omega⟩
        obtain ⟨hrm1, hrm2⟩ := hrm
        obtain ⟨hsh1, hsh2⟩ := hsh
        obtain ⟨an, rfl⟩ : ∃ an : Nat, a = an := ⟨a.toNat, by omega⟩
        obtain ⟨bn, rfl⟩ : ∃ bn : Nat, b = bn := ⟨b.toNat, by omega⟩
        have e1 := ints_cell HO2.out (by simp) an (by omega)
        have e2 := ints_cell HO2.out (by simp) bn (by omega)
        obtain ⟨hda1, hda2⟩ := blk_20 HOK.out an
        obtain ⟨hdb1, hdb2⟩ := blk_20 HOK.out bn
        have HRQ : Hid (∀ lo hi, -80 ≤ lo → lo ≤ (pl.map Prod.snd).getD an 0 - (pl.map Prod.snd).getD bn 0 + showsC zz rr m → (pl.map Prod.snd).getD an 0 - (pl.map Prod.snd).getD bn 0 + showsC zz rr m ≤ hi → hi ≤ 80 → RdOk (pl.map Prod.snd) zz rr ⟨an, bn, m, lo, hi⟩) := fun lo hi h1 h2 h3 h4 => by
          refine ⟨⟨by dsimp only; omega, by simp; omega, by dsimp only; omega, by simp; omega, by dsimp only; omega, by dsimp only; omega, by dsimp only; omega⟩, h1, ?_, ?_, h4⟩
          · show lo ≤ (pl.map Prod.snd).getD (an : Int).toNat 0 - (pl.map Prod.snd).getD (bn : Int).toNat 0 + showsC zz rr m
            rw [Int.toNat_natCast, Int.toNat_natCast]; exact h2
          · show (pl.map Prod.snd).getD (an : Int).toNat 0 - (pl.map Prod.snd).getD (bn : Int).toNat 0 + showsC zz rr m ≤ hi
            rw [Int.toNat_natCast, Int.toNat_natCast]; exact h3
        generalize (pl.map Prod.snd).getD an 0 = da at *
        generalize (pl.map Prod.snd).getD bn 0 = db at *
        have hww1 : IntKind.i64.wrap (da - db) = da - db := IntWalk.i64_in _ (by omega)
        have hww2 : IntKind.i64.wrap (da - db + showsC zz rr m) = da - db + showsC zz rr m := IntWalk.i64_in _ (by omega)
        have hanl : an < pl.length := by omega
        have hbnl : bn < pl.length := by omega
        have HLS := Lib.hid (fun W => lshows_any zz rr m ⟨by omega, by omega⟩ ⟨by omega, by omega⟩ W)
        generalize showsC zz rr m = sh at *
        go_wp2_with fail
        go_quiet ((go_at_call 37; exact Calls.quiet_of_same ((HLS.out _).mono fun _ _ ⟨h1, h2⟩ => ⟨h1, h2.symm⟩)))
        obtain ⟨dd, hdd⟩ : ∃ dd, dd = da - db + sh := ⟨_, rfl⟩
        rw [← hdd]
        have hRQ := HRQ.out
        rw [← hdd] at hRQ
        have HRD := Lib.hid hRQ
        have hd80 : -80 ≤ dd := by omega
        have hd80' : dd ≤ 80 := by omega
        obtain ⟨wv, hwv⟩ : ∃ wv, wv = w23.drewN nq := ⟨_, rfl⟩
        have hbq : Below w23.heap.size w23 wv := by rw [hwv]; exact ⟨rfl, rfl, rfl, Nat.le_refl _, fun _ _ => rfl⟩
        have hsv : w.heap.size + 2 ≤ wv.heap.size := by have := hbq.size; omega
        rw [← hwv]
        replace HM := Lib.hid ((HM.out.later hbq).later (Below.refl _ _).drew)
        replace HK := Lib.hid ((keeps_base HK.out (hbq.mono (show w.heap.size ≤ w23.heap.size by omega)) (Nat.le_refl _)).trans (Keeps.drew _ _))
        replace HO1 := Lib.hid (show wv.drew.ownsRow _ _ _ _ _ _ from own_keepT HO1.out hbq.drew)
        replace HO2 := Lib.hid (show wv.drew.ownsRow _ _ _ _ _ _ from own_keepT HO2.out hbq.drew)
        replace HO3 := Lib.hid (show wv.drew.ownsRow _ _ _ _ _ _ from own_keepT HO3.out hbq.drew)
        clear hwv hbq e1 e2 hww1 hww2 hdd hRQ hd1 hpz hlt
        go_wp2_with fail
        have hS : S17 b1 b2 w.heap.size (w.heap.size + 1) rsv wv.drew := ⟨HM.out.c3, cell_of_row _ _ 5 _ _ _ HM.out.pr⟩
        refine wp_region_tail 18 #[false, false, false, false, false, false, false, false, false, false, false, false, false, false, false, false, false, false, true, true] (S17 b1 b2 w.heap.size (w.heap.size + 1) rsv) (by kernel_rfl) (by kernel_rfl) (by rfl) hS fun hS => ?_
        refine wpAnyH_take (i := 0) (v := ?_) rfl (by kernel_rfl) (by kernel_rfl) (by kernel_rfl) (fun _ _ _ h => h) (Or.inl ⟨by rfl, ?_⟩) hS ?_
        rotate_left
        · (intro W hSw; obtain ⟨hq1, hq2⟩ := hSw; go_simp; try with_reducible rfl)
        try simp only [Act.put, List.setIfInBounds_toArray, List.set_cons_zero, List.set_cons_succ]
        refine wpAnyH_take (i := 1) (v := ?_) rfl (by kernel_rfl) (by kernel_rfl) (by kernel_rfl) (fun _ _ _ h => h) (Or.inl ⟨by rfl, ?_⟩) hS ?_
        rotate_left
        · (intro W hSw; obtain ⟨hq1, hq2⟩ := hSw; go_simp; try with_reducible rfl)
        try simp only [Act.put, List.setIfInBounds_toArray, List.set_cons_zero, List.set_cons_succ]
        refine wpAnyH_take (i := 2) (v := ?_) rfl (by kernel_rfl) (by kernel_rfl) (by kernel_rfl) (fun _ _ _ h => h) (Or.inl ⟨by rfl, ?_⟩) hS ?_
        rotate_left
        · (intro W hSw; obtain ⟨hq1, hq2⟩ := hSw; go_simp; try with_reducible rfl)
        try simp only [Act.put, List.setIfInBounds_toArray, List.set_cons_zero, List.set_cons_succ]
        refine wpAnyH_take (i := 3) (v := ?_) rfl (by kernel_rfl) (by kernel_rfl) (by kernel_rfl) (fun _ _ _ h => h) (Or.inl ⟨by rfl, ?_⟩) hS ?_
        rotate_left
        · (intro W hSw; obtain ⟨hq1, hq2⟩ := hSw; go_simp; try with_reducible rfl)
        try simp only [Act.put, List.setIfInBounds_toArray, List.set_cons_zero, List.set_cons_succ]
        refine wpAnyH_take (i := 4) (v := ?_) rfl (by kernel_rfl) (by kernel_rfl) (by kernel_rfl) (fun _ _ _ h => h) (Or.inl ⟨by rfl, ?_⟩) hS ?_
        rotate_left
        · (intro W hSw; obtain ⟨hq1, hq2⟩ := hSw; go_simp; try with_reducible rfl)
        try simp only [Act.put, List.setIfInBounds_toArray, List.set_cons_zero, List.set_cons_succ]
        refine wpAnyH_take (i := 5) (v := ?_) rfl (by kernel_rfl) (by kernel_rfl) (by kernel_rfl) (fun _ _ _ h => h) (Or.inl ⟨by rfl, ?_⟩) hS ?_
        rotate_left
        · (intro W hSw; obtain ⟨hq1, hq2⟩ := hSw; go_simp; try with_reducible rfl)
        try simp only [Act.put, List.setIfInBounds_toArray, List.set_cons_zero, List.set_cons_succ]
        refine wpAnyH_take (i := 6) (v := ?_) rfl (by kernel_rfl) (by kernel_rfl) (by kernel_rfl) (fun _ _ _ h => h) (Or.inl ⟨by rfl, ?_⟩) hS ?_
        rotate_left
        · (intro W hSw; obtain ⟨hq1, hq2⟩ := hSw; go_simp; try with_reducible rfl)
        try simp only [Act.put, List.setIfInBounds_toArray, List.set_cons_zero, List.set_cons_succ]
        refine wpAnyH_take (i := 10) (v := ?_) rfl (by kernel_rfl) (by kernel_rfl) (by kernel_rfl) (fun _ _ _ h => h) (Or.inl ⟨by rfl, ?_⟩) hS ?_
        rotate_left
        · (intro W hSw; obtain ⟨hq1, hq2⟩ := hSw; go_simp; try with_reducible rfl)
        try simp only [Act.put, List.setIfInBounds_toArray, List.set_cons_zero, List.set_cons_succ]
        refine wpAnyH_take (i := 11) (v := ?_) rfl (by kernel_rfl) (by kernel_rfl) (by kernel_rfl) (fun _ _ _ h => h) (Or.inl ⟨by rfl, ?_⟩) hS ?_
        rotate_left
        · (intro W hSw; obtain ⟨hq1, hq2⟩ := hSw; go_simp; try with_reducible rfl)
        try simp only [Act.put, List.setIfInBounds_toArray, List.set_cons_zero, List.set_cons_succ]
        refine wpAnyH_ready (rs := [7]) (by kernel_rfl) (by simp) ?_
        refine AllReadyH.cons rfl (fun K hK => ?_) AllReadyH.nil
        go_simp
        go_at_call 88
        refine (draw_any l b1 b2 B _ v 3 ⟨by omega, by omega⟩ (by omega) _ HM.out.ds).mono ?_
        rintro e w26 ⟨x3, hx31, hx32, rfl, hd, hk⟩
        have hs26 : w.heap.size + 2 ≤ w26.heap.size := by have := hk.size; first | omega | (simp at this; omega)
        replace HO1 := Lib.hid (own_thru HO1.out hk (by omega))
        replace HO2 := Lib.hid (own_thru HO2.out hk (by omega))
        replace HO3 := Lib.hid (own_thru HO3.out hk (by omega))
        replace HM := Lib.hid (HM.out.drawn hd hk)
        replace HK := Lib.hid (HK.out.trans hk)
        have hwx31 : IntKind.i64.wrap (dd - x3) = dd - x3 := IntWalk.i64_in _ (by omega)
        clear hd hk hS
        refine hK.out _ _ ⟨HM.out.c3, cell_of_row _ _ 5 _ _ _ HM.out.pr⟩ (fun hS => ?_)
        clear hK K
        try simp only [Act.put, List.setIfInBounds_toArray, List.set_cons_zero, List.set_cons_succ]
        refine wpAnyH_take (i := 8) (v := ?_) rfl (by kernel_rfl) (by kernel_rfl) (by kernel_rfl) (fun _ _ _ h => h) (Or.inl ⟨by rfl, ?_⟩) hS ?_
        rotate_left
        · (intro W hSw; obtain ⟨hq1, hq2⟩ := hSw; go_simp; try with_reducible rfl)
        try simp only [Act.put, List.setIfInBounds_toArray, List.set_cons_zero, List.set_cons_succ]
        refine wpAnyH_take (i := 9) (v := ?_) rfl (by kernel_rfl) (by kernel_rfl) (by kernel_rfl) (fun _ _ _ h => h) (Or.inl ⟨by rfl, ?_⟩) hS ?_
        rotate_left
        · (intro W hSw; obtain ⟨hq1, hq2⟩ := hSw; go_simp; try with_reducible rfl)
        try simp only [Act.put, List.setIfInBounds_toArray, List.set_cons_zero, List.set_cons_succ]
        refine wpAnyH_ready (rs := [12]) (by kernel_rfl) (by simp) ?_
        refine AllReadyH.cons rfl (fun K hK => ?_) AllReadyH.nil
        go_simp
        go_at_call 88
        refine (draw_any l b1 b2 B _ v 3 ⟨by omega, by omega⟩ (by omega) _ HM.out.ds).mono ?_
        rintro e w27 ⟨y3, hy31, hy32, rfl, hd, hk⟩
        have hs27 : w.heap.size + 2 ≤ w27.heap.size := by have := hk.size; omega
        replace HO1 := Lib.hid (own_thru HO1.out hk (by omega))
        replace HO2 := Lib.hid (own_thru HO2.out hk (by omega))
        replace HO3 := Lib.hid (own_thru HO3.out hk (by omega))
        replace HM := Lib.hid (HM.out.drawn hd hk)
        replace HK := Lib.hid (HK.out.trans hk)
        have hwy32 : IntKind.i64.wrap (dd + y3) = dd + y3 := IntWalk.i64_in _ (by omega)
        clear hd hk hS
        refine hK.out _ _ ⟨HM.out.c3, cell_of_row _ _ 5 _ _ _ HM.out.pr⟩ (fun hS => ?_)
        clear hK K
        try simp only [Act.put, List.setIfInBounds_toArray, List.set_cons_zero, List.set_cons_succ]
        refine wpAnyH_take (i := 13) (v := ?_) rfl (by kernel_rfl) (by kernel_rfl) (by kernel_rfl) (fun _ _ _ h => h) (Or.inl ⟨by rfl, ?_⟩) hS ?_
        rotate_left
        · (intro W hSw; obtain ⟨hq1, hq2⟩ := hSw; go_simp; try with_reducible rfl)
        try simp only [Act.put, List.setIfInBounds_toArray, List.set_cons_zero, List.set_cons_succ]
        refine wpAnyH_take (i := 14) (v := ?_) rfl (by kernel_rfl) (by kernel_rfl) (by kernel_rfl) (fun _ _ _ h => h) (Or.inl ⟨by rfl, ?_⟩) hS ?_
        rotate_left
        · (intro W hSw; obtain ⟨hq1, hq2⟩ := hSw; go_simp; try with_reducible rfl)
        try simp only [Act.put, List.setIfInBounds_toArray, List.set_cons_zero, List.set_cons_succ]
        refine wpAnyH_ready (rs := [15]) (by kernel_rfl) (by simp) ?_
        refine AllReadyH.cons rfl (fun K hK => ?_) AllReadyH.nil
        go_simp
        go_at_call 32
        refine (lread_any ⟨an, bn, m, max (-80) (dd - x3), min 80 (dd + y3)⟩ _).mono ?_
        rintro e w28 ⟨rfl, hb⟩
        have hs28 : w.heap.size + 2 ≤ w28.heap.size := by have := hb.size; omega
        replace HO1 := Lib.hid (own_keepT HO1.out hb)
        replace HO2 := Lib.hid (own_keepT HO2.out hb)
        replace HO3 := Lib.hid (own_keepT HO3.out hb)
        replace HM := Lib.hid (HM.out.later hb)
        replace HK := Lib.hid (keeps_base HK.out (hb.mono (show w.heap.size + 2 ≤ w27.heap.size by omega)) (by omega))
        clear hb hS hwx31 hwy32
        unfold readV
        refine hK.out _ _ ⟨HM.out.c3, cell_of_row _ _ 5 _ _ _ HM.out.pr⟩ (fun hS => ?_)
        clear hK K
        try simp only [Act.put, List.setIfInBounds_toArray, List.set_cons_zero, List.set_cons_succ]
        refine wpAnyH_ready (rs := [16]) (by kernel_rfl) (by simp) ?_
        refine AllReadyH.cons rfl (fun K hK => ?_) AllReadyH.nil
        go_simp
        refine hK.out _ _ ⟨(HM.out.alloc _).c3, cell_of_row _ _ 5 _ _ _ (HM.out.alloc _).pr⟩ (fun hS => ?_)
        clear hK K
        try simp only [Act.put, List.setIfInBounds_toArray, List.set_cons_zero, List.set_cons_succ]
        refine wpAnyH_ready (rs := [17]) (by kernel_rfl) (by simp) ?_
        refine AllReadyH.cons rfl (fun K hK => ?_) AllReadyH.nil
        rw [if_pos (by rfl)]
        refine wp_append_at (.tmp 89) (.tmp 104) 25 rfl (w.heap.size + 2) 44 5 40 _ underReads infoRead rfl (by decide) rsv rs.length _ rfl (HO3.out.alloc _) _ 1 1 (rdC ⟨an, bn, m, max (-80) (dd - x3), min 80 (dd + y3)⟩) rfl rfl (news_block (cs := #[.int .i64 an, .int .i64 bn, .int .i64 m, .int .i64 (max (-80) (dd - x3)), .int .i64 (min 80 (dd + y3))]) (t := 44) (fr := (0, 0)) (heap_alloc_at _ _ _ rfl)) (by simp [rdC, Value.oneCell']) (by omega) (by decide) (by simp; omega) ?_
        intro v1 w30 hown1 hg1 hat1
        have hbl : Below (w.heap.size + 2) _ w30 := (Below.refl _ _).grown hg1 (by simp; omega) (own_base HO3.out)
        have hs30 : w.heap.size + 2 ≤ w30.heap.size := by have := hbl.size; simp at this; omega
        replace HO1 := Lib.hid ((HO1.out.alloc _).kept hg1 (own_sep HO1.out HO3.out (by decide)))
        replace HO2 := Lib.hid ((HO2.out.alloc _).kept hg1 (own_sep HO2.out HO3.out (by decide)))
        replace HM := Lib.hid ((HM.out.alloc _).below hbl (by omega) (by omega))
        replace HK := Lib.hid (keeps_base (HK.out.trans (Keeps.alloc _ _ _)) hbl (by omega))
        replace HO3 := Lib.hid hown1
        clear hS hg1 hat1 hbl hown1
        refine hK.out _ _ ⟨HM.out.c3, cell_of_row _ _ 5 _ _ _ HM.out.pr⟩ (fun hS => ?_)
        clear hK K
        try simp only [Act.put, List.setIfInBounds_toArray, List.set_cons_zero, List.set_cons_succ]
        refine wpAnyH_done (by kernel_rfl) ?_ _
        unfold TailQ
        simp only [List.drop_succ_cons, List.drop_zero]
        obtain ⟨gA, cA, rfl⟩ := own_pos HO3.out
        have p6 := fun k => frozen_of_row _ _ k _ _ HM.out.pr
        have p5 := cell_of_row _ _ 5 _ _ _ HM.out.pr
        clear hS
        go_wp2_with fail
        exact ⟨RelB.next HRK.out hlk (by omega) HM.out HO1.out HO2.out HO3.out HK.out (HRD.out _ _ (by omega) (by omega) (by omega) (by omega)), by simp [intOf]; omega⟩
    have hlt : decide ((pl.length : Int) < 1 + n1) = true := by simp; omega
    go_wp2_with fail
    refine (draw_any l b1 b2 B _ v 41 ⟨by omega, by omega⟩ (by omega) _ HM.out.ds).mono ?_
    rintro e w7 ⟨x, hx1, hx2, rfl, hd, hk⟩
    have hs7 := hk.size
    replace HO1 := Lib.hid (own_thru HO1.out hk (by omega))
    replace HO2 := Lib.hid (own_thru HO2.out hk (by omega))
    replace HM := Lib.hid (HM.out.drawn hd hk)
    replace HK := Lib.hid (HK.out.trans hk)
    clear hd hk c3
    have hwx : IntKind.i64.wrap (x - 20) = x - 20 := IntWalk.i64_in _ (by omega)
    go_wp2_with fail
    obtain ⟨n, hn⟩ : ∃ n, n = x - 20 := ⟨_, rfl⟩
    rw [← hn]
    have hn1 : -20 ≤ n := by omega
    have hn2 : n ≤ 20 := by omega
    clear hn hwx hx1 hx2 hlt
    replace HM := Lib.hid (HM.out.later (Below.refl _ _).drew)
    replace HK := Lib.hid (HK.out.trans (Keeps.drew _ _))
    replace HO1 := Lib.hid (show w7.drew.ownsRow _ _ _ _ _ _ from HO1.out)
    replace HO2 := Lib.hid (show w7.drew.ownsRow _ _ _ _ _ _ from HO2.out)
    obtain ⟨c3, c3a, c3b⟩ := HM.out.cs; obtain ⟨p0, p0a, p0b⟩ := cells3 HM.out.pr 0
    have c3d : ∀ o, (w7.alloc o).drew.cell? ⟨w.heap.size, 0, none⟩ = some (.func (.func 88) #[] #[.pointer (some ⟨b1, 0, none⟩), .pointer (some ⟨b2, 0, none⟩)]) := fun o => c3a o
    have p0d : ∀ o, (w7.alloc o).drew.cell? ⟨w.heap.size + 1, 0, none⟩ = some bsv := fun o => p0a o
    first | (go_region_law (first
        | ((rw [if_pos (by rfl)]; refine wp_append_at (.tmp 37) (.tmp 44) 22 rfl (w.heap.size + 2) 24 2 16 _ underSpansT infoSpansT rfl (by decide) bsv pl.length _ rfl (by first | exact HO1.out.alloc _ | exact (HO1.out.alloc _).alloc _) _ 1 1 [.int .i64 (max (-20) (n - xa)), .int .i64 (min 20 (n + xb))] rfl rfl (news_block (cs := #[.int .i64 (max (-20) (n - xa)), .int .i64 (min 20 (n + xb))]) (t := 24) (fr := (0, 0)) (by first | exact heap_alloc_at _ _ _ rfl | exact heap_alloc_at _ _ _ (by simp) | exact (hget_old _ _ _ (by simp)).trans (heap_alloc_at _ _ _ rfl))) (by simp [Value.oneCell']) (by omega) (by decide) (by simp; omega) ?_; intro v1 w10 hown1 hg1 hat1; have hbl : Below (w.heap.size + 2) _ w10 := (Below.refl _ _).grown hg1 (by simp; omega) (own_base HO1.out); have hs10 : w.heap.size + 2 ≤ w10.heap.size := (by have := hbl.size; simp at this; omega); (first | (have HM := Lib.hid ((HM.out.alloc _).below hbl (by omega) (by omega)); have HK := Lib.hid (keeps_base (HK.out.trans (Keeps.alloc _ _ _)) hbl (by omega)); have HO2 := Lib.hid ((HO2.out.alloc _).kept hg1 (own_sep HO2.out HO1.out (by decide)))) | (have HM := Lib.hid (((HM.out.alloc _).alloc _).below hbl (by omega) (by omega)); have HK := Lib.hid (keeps_base ((HK.out.trans (Keeps.alloc _ _ _)).trans (Keeps.alloc _ _ _)) hbl (by omega)); have HO2 := Lib.hid (((HO2.out.alloc _).alloc _).kept hg1 (own_sep HO2.out HO1.out (by decide))))); (first | (have HC := Lib.hid (grown_cell hg1 ((Below.heap_alloc _ _ _ (lt_of_block HC.out)).trans HC.out) (own_ne HO1.out HC.out (by decide)))) | (have HC := Lib.hid (grown_cell (g := w9.heap.size + 1) (cs := #[.int .i64 n]) (t := 3) (fr := (0, 0)) hg1 (alloc_last _ _ _) (fun e => by have := (HO1.out.lt _ e).2; omega))) | (have HC := Lib.hid (grown_cell (g := w9.heap.size) (cs := #[.int .i64 n]) (t := 3) (fr := (0, 0)) hg1 (alloc_first _ _ _) (fun e => by have := (HO1.out.lt _ e).2; omega))) | skip); have HO1 := Lib.hid hown1; obtain ⟨gA, cA, rfl⟩ := own_pos hown1; obtain ⟨c3, c3a, c3b⟩ := HM.out.cs; obtain ⟨p0, p0a, p0b⟩ := cells3 HM.out.pr 0; clear hown1 hg1 hat1 hbl))
        | ((rw [if_pos (by rfl)]; refine wp_append_at (.tmp 46) (.tmp 48) 50 rfl (w.heap.size + 2) 3 1 8 (.int .i64 0) underInts infoInt rfl (by decide) _ pl.length _ rfl (by first | exact HO2.out | exact HO2.out.alloc _) _ 1 1 [.int .i64 n] rfl rfl (news_block (cs := #[.int .i64 n]) (t := 3) (fr := (0, 0)) (by first | exact HC.out | exact heap_alloc_at _ _ _ rfl)) (by simp [Value.oneCell']) (by omega) (by decide) (by first | omega | (simp; omega)) ?_; intro v2 w11 hown2 hg1 hat2; have hbl : Below (w.heap.size + 2) _ w11 := (Below.refl _ _).grown hg1 (by first | omega | (simp; omega)) (own_base HO2.out); have hs11 : w.heap.size + 2 ≤ w11.heap.size := (by have := hbl.size; first | omega | (simp at this; omega)); (first | (have HM := Lib.hid ((HM.out).below hbl (by omega) (by omega)); have HK := Lib.hid (keeps_base (HK.out) hbl (by omega)); have HO1 := Lib.hid ((HO1.out).kept hg1 (own_sep HO1.out HO2.out (by decide)))) | (have HM := Lib.hid ((HM.out.alloc _).below hbl (by omega) (by omega)); have HK := Lib.hid (keeps_base (HK.out.trans (Keeps.alloc _ _ _)) hbl (by omega)); have HO1 := Lib.hid ((HO1.out.alloc _).kept hg1 (own_sep HO1.out HO2.out (by decide))))); have HO2 := Lib.hid hown2; obtain ⟨c3, c3a, c3b⟩ := HM.out.cs; obtain ⟨p0, p0a, p0b⟩ := cells3 HM.out.pr 0; have p6 := fun k => frozen_of_row _ _ k _ _ HM.out.pr; have c3s := fun u => cell_of_row _ _ 0 _ _ _ ((Below.heap_setCell w11 ⟨w.heap.size + 1, 0, none⟩ u _ (show w.heap.size ≠ w.heap.size + 1 by omega)).trans HM.out.bx); clear hown2 hg1 hat2 hbl))
        | ((go_simp; go_at_call 88; refine (draw_any l b1 b2 B (7 + 4 * pl.length + 1) v 20 ⟨by omega, by omega⟩ (by omega) _ (by first | exact HM.out.ds | exact (HM.out.alloc _).ds)).mono ?_; rintro e w8 ⟨x1, hx1, hx2, rfl, hd, hk⟩; have hs8 : w.heap.size + 2 ≤ w8.heap.size := (by have := hk.size; first | omega | (simp at this; omega)); (first | (have HO1 := Lib.hid (own_thru HO1.out hk (by omega)); have HO2 := Lib.hid (own_thru HO2.out hk (by omega)); have HM := Lib.hid (HM.out.drawn hd hk); have HK := Lib.hid (HK.out.trans hk)) | (have HO1 := Lib.hid (own_thru (HO1.out.alloc _) hk (by omega)); have HO2 := Lib.hid (own_thru (HO2.out.alloc _) hk (by omega)); have HM := Lib.hid ((HM.out.alloc _).drawn hd hk); have HK := Lib.hid ((HK.out.trans (Keeps.alloc _ _ _)).trans hk))); (first | (have HC := Lib.hid ((hk.block _ (lt_of_block HC.out) (by omega)).trans HC.out)) | (have HC := Lib.hid ((hk.block _ (by simp) (by omega)).trans (heap_alloc_at _ _ _ rfl))) | skip); obtain ⟨c3, c3a, c3b⟩ := HM.out.cs; obtain ⟨p0, p0a, p0b⟩ := cells3 HM.out.pr 0; have hwx1 : IntKind.i64.wrap (1 + x1) = 1 + x1 := IntWalk.i64_in _ (by omega); clear hd hk; go_wp2_with fail))
        | ((go_simp; go_at_call 89; refine (around_any l b1 b2 B w.heap.size (7 + 4 * pl.length + 1 + 1) v n (1 + x1) 20 ⟨by omega, by omega⟩ ⟨by omega, by omega⟩ ⟨by omega, by omega⟩ (by omega) _ (by first | omega | (simp; omega)) (by first | exact HM.out.ds | exact (HM.out.alloc _).ds) (by first | exact HM.out.bx | exact (HM.out.alloc _).bx) HM.out.n3).mono ?_; rintro e w9 ⟨xa, xb, ⟨hxa1, hxa2⟩, ⟨hxb1, hxb2⟩, rfl, hd, hk⟩; have hs9 : w.heap.size + 2 ≤ w9.heap.size := (by have := hk.size; first | omega | (simp at this; omega)); (first | (have HO1 := Lib.hid (own_thru HO1.out hk (by omega)); have HO2 := Lib.hid (own_thru HO2.out hk (by omega)); have HM := Lib.hid (HM.out.drawn hd hk); have HK := Lib.hid (HK.out.trans hk)) | (have HO1 := Lib.hid (own_thru (HO1.out.alloc _) hk (by omega)); have HO2 := Lib.hid (own_thru (HO2.out.alloc _) hk (by omega)); have HM := Lib.hid ((HM.out.alloc _).drawn hd hk); have HK := Lib.hid ((HK.out.trans (Keeps.alloc _ _ _)).trans hk))); (first | (have HC := Lib.hid ((hk.block _ (lt_of_block HC.out) (by omega)).trans HC.out)) | (have HC := Lib.hid ((hk.block _ (by simp) (by omega)).trans (heap_alloc_at _ _ _ rfl))) | skip); obtain ⟨c3, c3a, c3b⟩ := HM.out.cs; obtain ⟨p0, p0a, p0b⟩ := cells3 HM.out.pr 0; clear hd hk; go_wp2_with fail)))) | fail
    all_goals
      clear c3d p0d c3s p6 p0 p0a p0b c3 c3a c3b
      go_wp2
      exact ⟨RelA.next HOK.out hlk (by omega) HM.out HO1.out HO2.out HK.out (by unfold BlkOk; dsimp only; omega), by simp [intOf]; omega⟩

end Go.Proofs.Ytlgeggekmdoceaa
