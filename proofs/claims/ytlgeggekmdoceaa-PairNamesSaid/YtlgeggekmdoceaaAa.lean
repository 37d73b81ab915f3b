/- The statements' small functions: span, read, sample. -/
import Derived.Test.YtlgeggekmdoceaaZo
import Derived.Test.YtlgeggekmdoceaaZl
import Derived.Laws.OwnMore
namespace Go.Proofs.Ytlgeggekmdoceaa
set_option linter.unusedVariables false
set_option linter.unusedSimpArgs false
open Go.RowKit Go.Shelf
attribute [local go_sem] Oper.semAt_some

theorem lspan_any (a b : Int) (w : World) : Calls Try.prog 33 #[.int .i64 a, .int .i64 b] w fun e w' => e = .returned (spanV (a, b)) ∧ Below w.heap.size w w' := by
  go_enter Try.func33, Try.ntmps33
  go_wp2
  have hr : (w.alloc (.cells #[.int .i64 a, .int .i64 b] 24)).heap[w.heap.size]? = some (.cells #[.int .i64 a, .int .i64 b] 24 (0, 0)) := heap_alloc_at _ _ _ rfl
  have e0 := cell_of_row _ _ 0 _ _ _ hr
  have e1 := cell_of_row _ _ 1 _ _ _ hr
  exact bodyPost_ret (v := spanV (a, b)) (by simp [results, Try.results33, go_sem, spanV, e0, e1]) rfl ⟨rfl, (Below.refl _ _).alloc (Nat.le_refl _) _⟩
def readV (r : RdD) : Value := .agg #[.int .i64 r.a, .int .i64 r.b, .int .i64 r.m, .int .i64 r.lo, .int .i64 r.hi]
set_option maxRecDepth 100000 in
theorem lread_any (r : RdD) (w : World) : Calls Try.prog 32 #[.int .i64 r.a, .int .i64 r.b, .int .i64 r.m, .int .i64 r.lo, .int .i64 r.hi] w fun e w' => e = .returned (readV r) ∧ Below w.heap.size w w' := by
  obtain ⟨a, b, m, lo, hi⟩ := r
  dsimp only
  go_enter Try.func32, Try.ntmps32
  go_wp2_with fail
  refine (lspan_any lo hi _).mono ?_
  rintro e w1 ⟨rfl, hb1⟩
  have hr1 := (hb1.block w.heap.size (by simp)).trans (heap_alloc_at _ _ _ rfl)
  have HB := Lib.hid (((Below.refl _ _).alloc (Nat.le_refl _) _).trans (hb1.mono (by simp)))
  have HR1 := Lib.hid hr1
  clear hb1 hr1
  unfold spanV
  go_wp2_with (first | (refine wpList_storeA rfl 44 _ _ rfl w.heap.size #[.int .i64 a, .int .i64 b, .int .i64 m, .int .i64 lo, .int .i64 hi] rfl rfl 44 _ HR1.out rfl rfl (by simp [Value.oneCell']) ?_; intro wy hyr hyk hys; have HYR := Lib.hid hyr; have HYK := Lib.hid hyk; clear hyr hyk hys))
  have e0 := cell_of_row _ _ 0 _ _ _ HYR.out
  have e1 := cell_of_row _ _ 1 _ _ _ HYR.out
  have e2 := cell_of_row _ _ 2 _ _ _ HYR.out
  have e3 := cell_of_row _ _ 3 _ _ _ HYR.out
  have e4 := cell_of_row _ _ 4 _ _ _ HYR.out
  refine bodyPost_ret (v := readV ⟨a, b, m, lo, hi⟩) (by simp [results, Try.results32, go_sem, readV, e0, e1, e2, e3, e4]) rfl ⟨rfl, ?_⟩
  exact HB.out.trans (HYK.out.below HB.out.size (fun k h => by omega))
def sampleD (l : List RdD) : PairD := { bs := [(0, 0), (-5, 5), (-5, 5)], zl := 0, zh := 1, rl := 2, rh := 2, rs := [⟨1, 0, 0, 3, 4⟩, ⟨2, 0, 10, 3, 3⟩, ⟨1, 2, 20, 5, 7⟩] ++ l }
theorem flat_len {α : Type} (f : α → List Value) (m : Nat) (hf : ∀ a, (f a).length = m) : ∀ (l : List α) (i q : Nat) (hi : i < l.length), q < m → (l.flatMap f)[i * m + q]? = (f l[i])[q]?
  | a :: l, 0, q, _, hq => by
    simp only [List.flatMap_cons, Nat.zero_mul, Nat.zero_add, List.getElem_cons_zero]
    rw [List.getElem?_append_left (by rw [hf]; exact hq)]
  | a :: l, i + 1, q, hi, hq => by
    simp only [List.flatMap_cons, List.getElem_cons_succ]
    rw [List.getElem?_append_right (by rw [hf, Nat.add_mul]; omega), hf, show (i + 1) * m + q - m = i * m + q by rw [Nat.add_mul]; omega]
    exact flat_len f m hf l i q (by simpa using hi) hq
def spC (s : Int × Int) : List Value := [.int .i64 s.1, .int .i64 s.2]
theorem own_cases {w : World} {base : Nat} {e : TypeId} {size : Nat} {v : Value} {n : Nat} {xs : List Value} (h : w.ownsRow base e size v n xs) :
    (v = .slice none 0 0 ∧ n = 0) ∨ ∃ g cap, v = .slice (some ⟨g, 0, none⟩) n cap ∧ base ≤ g ∧ g < w.heap.size ∧ n ≤ cap ∧ cap ≤ maxLen ∧ ∀ j, j < n * size → w.cell? ⟨g, j, none⟩ = xs[j]? := by
  rcases h.2 with h1 | ⟨g, cap, cur, h1, h2, h3, h4, h5, _, _⟩
  · exact .inl h1
  · subst h1
    exact .inr ⟨g, cap, rfl, h2, lt_of_block h3, h4, h5, fun j hj => h.cellAt j hj⟩
theorem own_pos {w : World} {base : Nat} {e : TypeId} {size : Nat} {v : Value} {n : Nat} {xs : List Value} (h : w.ownsRow base e size v (n + 1) xs) : ∃ g cap, v = .slice (some ⟨g, 0, none⟩) (n + 1) cap := by
  rcases own_cases h with ⟨_, h2⟩ | ⟨g, cap, h1, _⟩
  · omega
  · exact ⟨g, cap, h1⟩
theorem readsAt_of_owns {w : World} {base : Nat} {e : TypeId} {v : Value} {l : List RdD} (h : w.ownsRow base e 5 v l.length (l.flatMap rdC)) : ReadsAt w v l (fun k => base ≤ k) := by
  rcases own_cases h with ⟨h1, h2⟩ | ⟨g, cap, h1, h2, h3, h4, h5, h6⟩
  · have : l = [] := by simpa using h2
    subst this
    exact ⟨none, 0, h1, by simp, by simp, fun i hi => absurd hi (by simp)⟩
  · refine ⟨_, cap, h1, h4, h5, fun i hi => ⟨g, 0, rfl, h2, h3, ?_⟩⟩
    have hc : ∀ q, q < 5 → w.cell? ⟨g, 0 + i * 5 + q, none⟩ = (rdC l[i])[q]? := fun q hq => by
      rw [Nat.zero_add, h6 _ (by omega)]
      exact flat_len rdC 5 (fun _ => rfl) l i q hi hq
    exact ⟨hc 0 (by omega), hc 1 (by omega), hc 2 (by omega), hc 3 (by omega), hc 4 (by omega)⟩
theorem spansAt_of_owns {w : World} {base : Nat} {e : TypeId} {v : Value} {l : List (Int × Int)} (h : w.ownsRow base e 2 v l.length (l.flatMap spC)) : SpansAt w v l (fun k => base ≤ k) := by
  rcases own_cases h with ⟨h1, h2⟩ | ⟨g, cap, h1, h2, h3, h4, h5, h6⟩
  · have : l = [] := by simpa using h2
    subst this
    exact ⟨none, 0, h1, by simp, by simp, fun i hi => absurd hi (by simp)⟩
  · refine ⟨_, cap, h1, h4, h5, fun i hi => ⟨g, 0, rfl, h2, h3, ?_⟩⟩
    have hc : ∀ q, q < 2 → w.cell? ⟨g, 0 + i * 2 + q, none⟩ = (spC l[i])[q]? := fun q hq => by
      rw [Nat.zero_add, h6 _ (by omega)]
      exact flat_len spC 2 (fun _ => rfl) l i q hi hq
    exact ⟨hc 0 (by omega), hc 1 (by omega)⟩
theorem underReads : Try.prog.underlying 25 = some (.slice 44) := by kernel_rfl
set_option maxRecDepth 100000 in
set_option maxHeartbeats 1000000 in
theorem sample0_any (w : World) : Calls Try.prog 31 #[.slice none 0 0] w fun e w' => (∃ bs rs, e = .returned (.agg (pairRow (sampleD []) bs rs)) ∧ SpansAt w' bs (sampleD []).bs (fun k => w.heap.size ≤ k) ∧ ReadsAt w' rs (sampleD []).rs (fun k => w.heap.size ≤ k)) ∧ Below w.heap.size w w' := by
  go_enter Try.func31, Try.ntmps31
  go_wp2_with fail
  obtain ⟨A, hA⟩ : ∃ A, A = w.alloc (.cells #[.slice none 0 0, .int .i64 0, .int .i64 0, .int .i64 0, .int .i64 0, .slice none 0 0] 27) := ⟨_, rfl⟩
  have HA1 := Lib.hid (show A.heap[w.heap.size]? = some (.cells #[.slice none 0 0, .int .i64 0, .int .i64 0, .int .i64 0, .int .i64 0, .slice none 0 0] 27 (0, 0)) by rw [hA]; exact heap_alloc_at _ _ _ rfl)
  have HA2 := Lib.hid (show Below w.heap.size w A by rw [hA]; exact (Below.refl _ _).alloc (Nat.le_refl _) _)
  have hA3 : A.heap.size = w.heap.size + 1 := by rw [hA]; simp
  rw [← hA]
  clear hA
  refine (lspan_any (0) (0) _).mono ?_
  rintro e w1 ⟨rfl, hb1⟩
  have H1 := Lib.hid hb1
  clear hb1
  unfold spanV
  go_wp2_with fail
  refine (lspan_any (-5) (5) _).mono ?_
  rintro e w2 ⟨rfl, hb1⟩
  have H2 := Lib.hid hb1
  clear hb1
  unfold spanV
  go_wp2_with fail
  refine (lspan_any (-5) (5) _).mono ?_
  rintro e w3 ⟨rfl, hb1⟩
  have H3 := Lib.hid hb1
  clear hb1
  unfold spanV
  go_wp2_with fail
  refine (lspan_any (0) (1) _).mono ?_
  rintro e w4 ⟨rfl, hb1⟩
  have H4 := Lib.hid hb1
  clear hb1
  unfold spanV
  go_wp2_with fail
  refine (lspan_any (2) (2) _).mono ?_
  rintro e w5 ⟨rfl, hb1⟩
  have H5 := Lib.hid hb1
  clear hb1
  unfold spanV
  go_wp2_with fail
  refine (lread_any ⟨1, 0, 0, 3, 4⟩ _).mono ?_
  rintro e w6 ⟨rfl, hb1⟩
  have H6 := Lib.hid hb1
  clear hb1
  unfold readV
  go_wp2_with fail
  refine (lread_any ⟨2, 0, 10, 3, 3⟩ _).mono ?_
  rintro e w7 ⟨rfl, hb1⟩
  have H7 := Lib.hid hb1
  clear hb1
  unfold readV
  go_wp2_with fail
  refine (lread_any ⟨1, 2, 20, 5, 7⟩ _).mono ?_
  rintro e w8 ⟨rfl, H8'⟩
  have H8 := Lib.hid H8'
  clear H8'
  unfold readV
  have a1 := H1.out.size
  have a2 := H2.out.size
  have a3 := H3.out.size
  have a4 : w3.heap.size + 1 ≤ w4.heap.size := by have := H4.out.size; simpa using this
  have a5 := H5.out.size
  have a6 := H6.out.size
  have a7 := H7.out.size
  have a8 := H8.out.size
  have b3 : Below A.heap.size A w3 := H1.out.trans ((H2.out.mono a1).trans (H3.out.mono (by omega)) |>.mono (Nat.le_refl _))
  have b4 : Below w3.heap.size w3 w4 := ((Below.refl _ _).alloc (Nat.le_refl _) _).trans (H4.out.mono (by simp))
  have b8 : Below w4.heap.size w4 w8 := H5.out.trans ((H6.out.mono a5).trans ((H7.out.mono (by omega)).trans (H8.out.mono (by omega))))
  have b48 : Below w3.heap.size w3 w8 := b4.trans (b8.mono (by omega))
  have bA8 : Below A.heap.size A w8 := b3.trans (b48.mono (by omega))
  have r8 : w8.heap[w.heap.size]? = some (.cells #[.slice none 0 0, .int .i64 0, .int .i64 0, .int .i64 0, .int .i64 0, .slice none 0 0] 27 (0, 0)) := (bA8.block _ (by omega)).trans HA1.out
  have sB : w4.ownsRow (w.heap.size + 1) 24 2 (.slice (some ⟨w3.heap.size, 0, none⟩) 3 3) 3 [.int .i64 0, .int .i64 0, .int .i64 (-5), .int .i64 5, .int .i64 (-5), .int .i64 5] :=
    own_below (World.ownsRow_lit w3 #[.int .i64 0, .int .i64 0, .int .i64 (-5), .int .i64 5, .int .i64 (-5), .int .i64 5] 3 (by omega) (by unfold maxLen; omega) rfl) H4.out
  have sB8 := own_below sB b8
  have R8 := Lib.hid r8
  have SB8 := Lib.hid sB8
  have BA8 := Lib.hid bA8
  have SR : Hid ((w8.alloc (.cells #[.int .i64 1, .int .i64 0, .int .i64 0, .int .i64 3, .int .i64 4, .int .i64 2, .int .i64 0, .int .i64 10, .int .i64 3, .int .i64 3, .int .i64 1, .int .i64 2, .int .i64 20, .int .i64 5, .int .i64 7] 44)).ownsRow (w8.heap.size) 44 5 (.slice (some ⟨w8.heap.size, 0, none⟩) 3 3) 3 _) := World.ownsRow_lit w8 #[.int .i64 1, .int .i64 0, .int .i64 0, .int .i64 3, .int .i64 4, .int .i64 2, .int .i64 0, .int .i64 10, .int .i64 3, .int .i64 3, .int .i64 1, .int .i64 2, .int .i64 20, .int .i64 5, .int .i64 7] 3 (Nat.le_refl _) (by unfold maxLen; omega) rfl
  clear H1 H2 H3 H4 H5 H6 H7 H8 HA1 b3 b4 b8 b48 bA8 r8 sB sB8
  go_wp2_with (first | (refine wpList_storeA rfl 27 _ _ rfl w.heap.size #[.slice (some ⟨w3.heap.size, 0, none⟩) 3 3, .int .i64 0, .int .i64 1, .int .i64 2, .int .i64 2, .slice (some ⟨w8.heap.size, 0, none⟩) 3 3] rfl rfl 27 _ ((hget_old _ _ _ (by omega)).trans R8.out) rfl rfl (by simp [Value.oneCell']) ?_; intro wy hyr hyk hys; have HYR := Lib.hid hyr; have HYK := Lib.hid hyk; have HYS := Lib.hid hys; clear hyr hyk hys))
  have e0 := cell_of_row _ _ 0 _ _ _ HYR.out
  have e1 := cell_of_row _ _ 1 _ _ _ HYR.out
  have e2 := cell_of_row _ _ 2 _ _ _ HYR.out
  have e3 := cell_of_row _ _ 3 _ _ _ HYR.out
  have e4 := cell_of_row _ _ 4 _ _ _ HYR.out
  have e5 := cell_of_row _ _ 5 _ _ _ HYR.out
  refine bodyPost_ret (v := .agg (pairRow (sampleD []) (.slice (some ⟨w3.heap.size, 0, none⟩) 3 3) (.slice (some ⟨w8.heap.size, 0, none⟩) 3 3))) (by simp [results, Try.results31, go_sem, pairRow, sampleD, e0, e1, e2, e3, e4, e5]) rfl ⟨⟨_, _, rfl, ?_, ?_⟩, ?_⟩
  · refine SpansAt.mono (Rd := fun k => w.heap.size + 1 ≤ k) ((spansAt_of_owns (l := (sampleD []).bs) (SB8.out.alloc _)).later HYK.out.size (fun k hk hr => HYK.out.block k hk (by omega))) (fun k hk => by omega)
  · refine ReadsAt.mono (Rd := fun k => w8.heap.size ≤ k) ((readsAt_of_owns (l := (sampleD []).rs) SR.out).later HYK.out.size (fun k hk hr => HYK.out.block k hk (by omega))) (fun k hk => by omega)
  · exact (HA2.out.trans ((BA8.out.alloc BA8.out.size _).mono (by omega))).trans (HYK.out.below (by simp; omega) (fun k h => by omega))
set_option maxRecDepth 100000 in
set_option maxHeartbeats 1000000 in
theorem sample1_any (r : RdD) (g c : Nat) (w : World) (hg : w.heap[g]? = some (.cells (rdC r).toArray 44 (0, 0))) : Calls Try.prog 31 #[.slice (some ⟨g, 0, none⟩) 1 c] w fun e w' => (∃ bs rs, e = .returned (.agg (pairRow (sampleD [r]) bs rs)) ∧ SpansAt w' bs (sampleD [r]).bs (fun k => w.heap.size ≤ k) ∧ ReadsAt w' rs (sampleD [r]).rs (fun k => w.heap.size ≤ k)) ∧ Below w.heap.size w w' := by
  have hltg := lt_of_block hg
  have HG := Lib.hid hg
  clear hg
  go_enter Try.func31, Try.ntmps31
  go_wp2_with fail
  obtain ⟨A, hA⟩ : ∃ A, A = w.alloc (.cells #[.slice none 0 0, .int .i64 0, .int .i64 0, .int .i64 0, .int .i64 0, .slice none 0 0] 27) := ⟨_, rfl⟩
  have HA1 := Lib.hid (show A.heap[w.heap.size]? = some (.cells #[.slice none 0 0, .int .i64 0, .int .i64 0, .int .i64 0, .int .i64 0, .slice none 0 0] 27 (0, 0)) by rw [hA]; exact heap_alloc_at _ _ _ rfl)
  have HA2 := Lib.hid (show Below w.heap.size w A by rw [hA]; exact (Below.refl _ _).alloc (Nat.le_refl _) _)
  have hA3 : A.heap.size = w.heap.size + 1 := by rw [hA]; simp
  rw [← hA]
  clear hA
  refine (lspan_any (0) (0) _).mono ?_
  rintro e w1 ⟨rfl, hb1⟩
  have H1 := Lib.hid hb1
  clear hb1
  unfold spanV
  go_wp2_with fail
  refine (lspan_any (-5) (5) _).mono ?_
  rintro e w2 ⟨rfl, hb1⟩
  have H2 := Lib.hid hb1
  clear hb1
  unfold spanV
  go_wp2_with fail
  refine (lspan_any (-5) (5) _).mono ?_
  rintro e w3 ⟨rfl, hb1⟩
  have H3 := Lib.hid hb1
  clear hb1
  unfold spanV
  go_wp2_with fail
  refine (lspan_any (0) (1) _).mono ?_
  rintro e w4 ⟨rfl, hb1⟩
  have H4 := Lib.hid hb1
  clear hb1
  unfold spanV
  go_wp2_with fail
  refine (lspan_any (2) (2) _).mono ?_
  rintro e w5 ⟨rfl, hb1⟩
  have H5 := Lib.hid hb1
  clear hb1
  unfold spanV
  go_wp2_with fail
  refine (lread_any ⟨1, 0, 0, 3, 4⟩ _).mono ?_
  rintro e w6 ⟨rfl, hb1⟩
  have H6 := Lib.hid hb1
  clear hb1
  unfold readV
  go_wp2_with fail
  refine (lread_any ⟨2, 0, 10, 3, 3⟩ _).mono ?_
  rintro e w7 ⟨rfl, hb1⟩
  have H7 := Lib.hid hb1
  clear hb1
  unfold readV
  go_wp2_with fail
  refine (lread_any ⟨1, 2, 20, 5, 7⟩ _).mono ?_
  rintro e w8 ⟨rfl, H8'⟩
  have H8 := Lib.hid H8'
  clear H8'
  unfold readV
  have a1 := H1.out.size
  have a2 := H2.out.size
  have a3 := H3.out.size
  have a4 : w3.heap.size + 1 ≤ w4.heap.size := by have := H4.out.size; simpa using this
  have a5 := H5.out.size
  have a6 := H6.out.size
  have a7 := H7.out.size
  have a8 := H8.out.size
  have b3 : Below A.heap.size A w3 := H1.out.trans ((H2.out.mono a1).trans (H3.out.mono (by omega)) |>.mono (Nat.le_refl _))
  have b4 : Below w3.heap.size w3 w4 := ((Below.refl _ _).alloc (Nat.le_refl _) _).trans (H4.out.mono (by simp))
  have b8 : Below w4.heap.size w4 w8 := H5.out.trans ((H6.out.mono a5).trans ((H7.out.mono (by omega)).trans (H8.out.mono (by omega))))
  have b48 : Below w3.heap.size w3 w8 := b4.trans (b8.mono (by omega))
  have bA8 : Below A.heap.size A w8 := b3.trans (b48.mono (by omega))
  have r8 : w8.heap[w.heap.size]? = some (.cells #[.slice none 0 0, .int .i64 0, .int .i64 0, .int .i64 0, .int .i64 0, .slice none 0 0] 27 (0, 0)) := (bA8.block _ (by omega)).trans HA1.out
  have sB : w4.ownsRow (w.heap.size + 1) 24 2 (.slice (some ⟨w3.heap.size, 0, none⟩) 3 3) 3 [.int .i64 0, .int .i64 0, .int .i64 (-5), .int .i64 5, .int .i64 (-5), .int .i64 5] :=
    own_below (World.ownsRow_lit w3 #[.int .i64 0, .int .i64 0, .int .i64 (-5), .int .i64 5, .int .i64 (-5), .int .i64 5] 3 (by omega) (by unfold maxLen; omega) rfl) H4.out
  have sB8 := own_below sB b8
  have R8 := Lib.hid r8
  have SB8 := Lib.hid sB8
  have BA8 := Lib.hid bA8
  have SR : Hid ((w8.alloc (.cells #[.int .i64 1, .int .i64 0, .int .i64 0, .int .i64 3, .int .i64 4, .int .i64 2, .int .i64 0, .int .i64 10, .int .i64 3, .int .i64 3, .int .i64 1, .int .i64 2, .int .i64 20, .int .i64 5, .int .i64 7] 44)).ownsRow (w8.heap.size) 44 5 (.slice (some ⟨w8.heap.size, 0, none⟩) 3 3) 3 _) := World.ownsRow_lit w8 #[.int .i64 1, .int .i64 0, .int .i64 0, .int .i64 3, .int .i64 4, .int .i64 2, .int .i64 0, .int .i64 10, .int .i64 3, .int .i64 3, .int .i64 1, .int .i64 2, .int .i64 20, .int .i64 5, .int .i64 7] 3 (Nat.le_refl _) (by unfold maxLen; omega) rfl
  clear H1 H2 H3 H4 H5 H6 H7 H8 HA1 b3 b4 b8 b48 bA8 r8 sB sB8
  have hg8 : w8.heap[g]? = some (.cells (rdC r).toArray 44 (0, 0)) := (BA8.out.block g (by omega)).trans ((HA2.out.block g hltg).trans HG.out)
  have HG8 := Lib.hid hg8
  clear hg8
  go_wp2_with (first | (at_builtin; refine wpList_append1 rfl _ _ 25 rfl w8.heap.size 44 5 40 _ underReads infoRead rfl (by decide) _ 3 _ rfl SR.out g c (rdC r).toArray 44 (0, 0) rfl ((hget_old _ _ _ (by omega)).trans HG8.out) rfl (by simp [rdC, Value.oneCell']) (by omega) (by decide) (by simp) ?_; intro v' w9 hown' hgrow' hbel'; obtain ⟨g9, c9, rfl⟩ := own_pos hown'; have HO9 := Lib.hid hown'; have HB9 := Lib.hid (((Below.refl _ _).alloc (Nat.le_refl _) _).trans hbel'); clear hown' hgrow' hbel') | (refine wpList_storeA rfl 27 _ _ rfl w.heap.size #[.slice (some ⟨w3.heap.size, 0, none⟩) 3 3, .int .i64 0, .int .i64 1, .int .i64 2, .int .i64 2, .slice (some ⟨g9, 0, none⟩) 4 c9] rfl rfl 27 _ ((HB9.out.block _ (by omega)).trans R8.out) rfl rfl (by simp [Value.oneCell']) ?_; intro wy hyr hyk hys; have HYR := Lib.hid hyr; have HYK := Lib.hid hyk; have HYS := Lib.hid hys; clear hyr hyk hys))
  have e0 := cell_of_row _ _ 0 _ _ _ HYR.out
  have e1 := cell_of_row _ _ 1 _ _ _ HYR.out
  have e2 := cell_of_row _ _ 2 _ _ _ HYR.out
  have e3 := cell_of_row _ _ 3 _ _ _ HYR.out
  have e4 := cell_of_row _ _ 4 _ _ _ HYR.out
  have e5 := cell_of_row _ _ 5 _ _ _ HYR.out
  have hs9 := HB9.out.size
  refine bodyPost_ret (v := .agg (pairRow (sampleD [r]) (.slice (some ⟨w3.heap.size, 0, none⟩) 3 3) (.slice (some ⟨g9, 0, none⟩) 4 c9))) (by simp [results, Try.results31, go_sem, pairRow, sampleD, e0, e1, e2, e3, e4, e5]) rfl ⟨⟨_, _, rfl, ?_, ?_⟩, ?_⟩
  · refine SpansAt.mono (Rd := fun k => w.heap.size + 1 ≤ k) ((spansAt_of_owns (l := (sampleD [r]).bs) (own_below SB8.out HB9.out)).later HYK.out.size (fun k hk hr => HYK.out.block k hk (by omega))) (fun k hk => by omega)
  · refine ReadsAt.mono (Rd := fun k => w8.heap.size ≤ k) ((readsAt_of_owns (l := (sampleD [r]).rs) HO9.out).later HYK.out.size (fun k hk hr => HYK.out.block k hk (by omega))) (fun k hk => by omega)
  · exact (HA2.out.trans ((BA8.out.trans (HB9.out.mono (by omega))).mono (by omega))).trans (HYK.out.below (by omega) (fun k h => by omega))

end Go.Proofs.Ytlgeggekmdoceaa
