/- Texts Ea, Eb, Ec, Ed, Ee, Ef, Eg, Eh, Ei in one file; each begins with a word on what it proves. -/
import Derived.Laws.Tables
import Derived.Test.YtbmfphiecllggaaGreatDoorKg
import Derived.Test.YtbmfphiecllggaaGreatDoorKe
import Derived.Test.YtbmfphiecllggaaGreatDoorKj
import Derived.Test.YtbmfphiecllggaaGreatDoorKl

/- The reference of stacks: what a stack comes to, and whether it is right. -/
namespace Go.Proofs.YtbmfphiecllggaaGreatDoor
set_option linter.unusedVariables false
set_option linter.unusedSimpArgs false
open Go.RowKit Go.Shelf
attribute [local go_sem] Oper.semAt_some

/-! ### plain: the length of a stack as a sum -/
theorem size_up (n s : Nat) (h : s < 2 ^ n) : sizeJ (n + 1) s = sizeJ n s := by
  rw [sizeJ, Nat.testBit_lt_two_pow h]; rfl
theorem size_same : ∀ (m n s : Nat), n ≤ m → s < 2 ^ n → sizeJ m s = sizeJ n s
  | 0, n, s, h, _ => by rw [show n = 0 by omega]
  | m + 1, n, s, h, hs => by
    by_cases hn : n = m + 1
    · rw [hn]
    · rw [size_up m s (Nat.lt_of_lt_of_le hs (Nat.pow_le_pow_right (by decide) (by omega))), size_same m n s (by omega) hs]
theorem sel_size {α : Type} : ∀ (bs : List α) (s : Nat), s < 2 ^ bs.length → (selJ bs s).length = sizeJ bs.length s
  | [], s, _ => by simp [selJ, sizeJ]
  | b :: bs, s, h => by
    rw [List.length_cons, size_succ, selJ]
    have h2 : s / 2 < 2 ^ bs.length := by rw [List.length_cons, Nat.pow_succ] at h; omega
    have ih := sel_size bs (s / 2) h2
    rcases Nat.mod_two_eq_zero_or_one s with hm | hm
    · rw [if_neg (by omega), ih, hm]; omega
    · rw [if_pos hm, List.length_cons, ih, hm]; omega
theorem len_foldJ (film : Int × Int) : ∀ (l : List (Int × Int)) (a : LenJ), 0 < a.many → (l.foldl (fun l b => l.with b film) a).lo = a.lo + l.length * film.1 + (l.map (·.1)).sum ∧ (l.foldl (fun l b => l.with b film) a).hi = a.hi + l.length * film.2 + (l.map (·.2)).sum
  | [], a, _ => by simp
  | b :: l, a, h => by
    have hw : a.with b film = ⟨a.lo + film.1 + b.1, a.hi + film.2 + b.2, a.many + 1⟩ := by unfold LenJ.with; rw [if_pos h]
    have ih := len_foldJ film l (a.with b film) (by rw [hw]; dsimp only; omega)
    rw [List.foldl_cons, List.length_cons, List.map_cons, List.map_cons, List.sum_cons, List.sum_cons]
    rw [hw] at ih ⊢
    dsimp only at ih
    rw [ih.1, ih.2]
    have e1 : ((l.length + 1 : Nat) : Int) * film.1 = (l.length : Int) * film.1 + film.1 := by push_cast; rw [Int.add_mul, Int.one_mul]
    have e2 : ((l.length + 1 : Nat) : Int) * film.2 = (l.length : Int) * film.2 + film.2 := by push_cast; rw [Int.add_mul, Int.one_mul]
    rw [e1, e2]
    constructor <;> omega
def ofS (s : StackD) (set : Nat) : Int × Int := (((sizeJ 8 set : Nat) - 1 : Int) * s.film.1 + ((selJ s.bs set).map (·.1)).sum, ((sizeJ 8 set : Nat) - 1 : Int) * s.film.2 + ((selJ s.bs set).map (·.2)).sum)
theorem of_len {s : StackD} (hv : validSt s = true) {set : Nat} (h1 : 1 ≤ set) (h2 : set < 2 ^ s.bs.length) : ofS s set = ((lenS s set).lo, (lenS s set).hi) := by
  have h8 := (validSt_parts hv).1
  have hl := sel_size s.bs set h2
  rw [← size_same 8 s.bs.length set h8 h2] at hl
  have hb : ∃ i, set.testBit i = true := Nat.exists_testBit_of_ne_zero (by omega)
  have hpos : 0 < (selJ s.bs set).length := by
    cases hs : selJ s.bs set with
    | nil =>
      exfalso
      rw [hs, List.length_nil] at hl
      have : ∀ m, ∀ x < 2 ^ m, sizeJ m x = 0 → x = 0 := by
        intro m
        induction m with
        | zero => intro x hx _; simpa using hx
        | succ m ih =>
          intro x hx h0
          rw [size_succ] at h0
          have := ih (x / 2) (by rw [Nat.pow_succ] at hx; omega) (by omega)
          omega
      have := this 8 set (Nat.lt_of_lt_of_le h2 (Nat.pow_le_pow_right (by decide) h8)) hl.symm
      omega
    | cons _ _ => simp
  unfold ofS lenS lenJ
  rw [← hl]
  generalize selJ s.bs set = q at *
  cases q with
  | nil => simp at hpos
  | cons b t =>
    have hw : LenJ.with .zero b s.film = ⟨0 + b.1, 0 + b.2, 0 + 1⟩ := by unfold LenJ.with LenJ.zero; rw [if_neg (by decide)]
    obtain ⟨e1, e2⟩ := len_foldJ s.film t (LenJ.with .zero b s.film) (by rw [hw]; show (0 : Int) < 0 + 1; decide)
    rw [List.foldl_cons, e1, e2, hw]
    simp only [List.length_cons, List.map_cons, List.sum_cons]
    have e3 : ((t.length + 1 : Nat) : Int) - 1 = t.length := by omega
    rw [e3]
    congr 1 <;> omega
/-- As far as blocks are gone through. -/
def partS (s : StackD) (set i : Nat) : Int × Int := (((sizeJ 8 set : Nat) - 1 : Int) * s.film.1 + ((selJ (s.bs.take i) set).map (·.1)).sum, ((sizeJ 8 set : Nat) - 1 : Int) * s.film.2 + ((selJ (s.bs.take i) set).map (·.2)).sum)
theorem part_next (s : StackD) (set i : Nat) (h : i < s.bs.length) : partS s set (i + 1) = if set.testBit i then ((partS s set i).1 + s.bs[i].1, (partS s set i).2 + s.bs[i].2) else partS s set i := by
  unfold partS
  rw [sel_take _ _ _ h]
  cases set.testBit i with
  | false => simp
  | true => simp [Int.add_assoc]
theorem part_end (s : StackD) (set : Nat) : partS s set s.bs.length = ofS s set := by unfold partS ofS; rw [List.take_length]
theorem part_zero (s : StackD) (set : Nat) : partS s set 0 = (((sizeJ 8 set : Nat) - 1 : Int) * s.film.1, ((sizeJ 8 set : Nat) - 1 : Int) * s.film.2) := by unfold partS; simp [selJ]
theorem sum_bound (l : List Int) (B : Int) (h : ∀ x ∈ l, 0 ≤ x ∧ x ≤ B) : 0 ≤ l.sum ∧ l.sum ≤ l.length * B := by
  induction l with
  | nil => simp
  | cons x l ih =>
    have h1 := ih (fun y hy => h y (List.mem_cons_of_mem _ hy))
    have h2 := h x List.mem_cons_self
    rw [List.sum_cons, List.length_cons]
    have : ((l.length + 1 : Nat) : Int) * B = l.length * B + B := by push_cast; rw [Int.add_mul, Int.one_mul]
    omega
theorem part_bound {s : StackD} (hv : validSt s = true) (set i : Nat) : -1000 ≤ (partS s set i).1 ∧ (partS s set i).1 ≤ 100000 ∧ -1000 ≤ (partS s set i).2 ∧ (partS s set i).2 ≤ 100000 := by
  obtain ⟨k1, k2, k3⟩ := validSt_parts hv
  have hz := sizeJ_le 8 set
  have hlen : (selJ (s.bs.take i) set).length ≤ 8 := by have := sel_lenJ (s.bs.take i) set; rw [List.length_take] at this; omega
  have hmem : ∀ b ∈ selJ (s.bs.take i) set, b ∈ s.bs := fun b hb => by
    have : ∀ (l : List (Int × Int)) (q : Nat), ∀ b ∈ selJ l q, b ∈ l := by
      intro l
      induction l with
      | nil => intro q b hb; simp [selJ] at hb
      | cons x l ih =>
        intro q b hb
        rw [selJ] at hb
        split at hb
        · rcases List.mem_cons.1 hb with rfl | hb
          · exact List.mem_cons_self
          · exact List.mem_cons_of_mem _ (ih _ b hb)
        · exact List.mem_cons_of_mem _ (ih _ b hb)
    exact List.mem_of_mem_take (this _ _ b hb)
  have hok : ∀ b ∈ selJ (s.bs.take i) set, 0 ≤ b.1 ∧ b.1 ≤ 500 ∧ 0 ≤ b.2 ∧ b.2 ≤ 500 := fun b hb => by
    have := k3 b (hmem b hb)
    unfold blockOk at this
    simp only [Bool.and_eq_true, decide_eq_true_eq] at this
    omega
  have h1 := sum_bound ((selJ (s.bs.take i) set).map (·.1)) 500 (fun x hx => by obtain ⟨b, hb, rfl⟩ := List.mem_map.1 hx; have := hok b hb; exact ⟨this.1, this.2.1⟩)
  have h2 := sum_bound ((selJ (s.bs.take i) set).map (·.2)) 500 (fun x hx => by obtain ⟨b, hb, rfl⟩ := List.mem_map.1 hx; have := hok b hb; exact ⟨this.2.2.1, this.2.2.2⟩)
  rw [List.length_map] at h1 h2
  have hm : ∀ f : Int, 0 ≤ f → f ≤ 5 → -5 ≤ ((sizeJ 8 set : Nat) - 1 : Int) * f ∧ ((sizeJ 8 set : Nat) - 1 : Int) * f ≤ 40 := fun f f0 f5 => by
    obtain ⟨g, rfl⟩ : ∃ g : Nat, f = g := ⟨f.toNat, by omega⟩
    have hg : g ≤ 5 := by omega
    generalize sizeJ 8 set = z at *
    have : ∀ z ≤ 8, ∀ g ≤ 5, -5 ≤ ((z : Nat) - 1 : Int) * ((g : Nat) : Int) ∧ ((z : Nat) - 1 : Int) * ((g : Nat) : Int) ≤ 40 := by decide
    exact this z hz g hg
  have h3 := hm s.film.1 (by omega) (by omega)
  have h4 := hm s.film.2 (by omega) (by omega)
  unfold partS
  dsimp only
  generalize ((sizeJ 8 set : Nat) - 1 : Int) * s.film.1 = x1 at *
  generalize ((sizeJ 8 set : Nat) - 1 : Int) * s.film.2 = x2 at *
  generalize (selJ (s.bs.take i) set).length = y at *
  omega
end Go.Proofs.YtbmfphiecllggaaGreatDoor

/- The reference of stacks, walked: what a stack comes to, and whether it is right. -/
namespace Go.Proofs.YtbmfphiecllggaaGreatDoor
set_option linter.unusedVariables false
set_option linter.unusedSimpArgs false
open Go.RowKit Go.Shelf
attribute [local go_sem] Oper.semAt_some

set_option maxHeartbeats 4000000 in
theorem r4power_any (n : Nat) (hn : n ≤ 60) (w : World) :
    Calls Tryz.prog 90 #[.int .i64 n] w fun e w' => e = .returned (.int .i64 ((2 ^ n : Nat) : Int)) ∧ w = w' := by
  go_enter Tryz.func90, Tryz.ntmps90
  go_wp2_with fail
  go_loopw [3, 4] (fun o i wr => ∃ (k : Nat), k ≤ n ∧ i = .int .i64 k ∧ o = .int .i64 ((2 ^ k : Nat) : Int) ∧ w = wr) (fun _ i _ => n - (intOf i).toNat)
  case atStart => exact ⟨0, by omega, rfl, rfl, rfl⟩
  case round =>
    obtain ⟨k, hk, rfl, rfl, rfl⟩ := hrel
    by_cases hlk : k < n
    · have hpk := pow_boundJ k (by omega)
      have HE := Lib.hid (Nat.pow_succ (n := 2) (m := k))
      obtain ⟨v, hv⟩ : ∃ v : Nat, v = 2 ^ k := ⟨_, rfl⟩
      rw [← hv] at hpk HE ⊢
      clear hv
      have hw : wrap64 (2 * (v : Int)) = 2 * (v : Int) := by unfold wrap64; omega
      go_wp2
      refine ⟨⟨k + 1, by omega, by go_num, ?_, by first | rfl | trivial⟩, by simp [intOf]; omega⟩
      rw [HE.out]
      congr 1
      omega
    · obtain rfl : k = n := by omega
      obtain ⟨v, hv⟩ : ∃ v : Nat, v = 2 ^ k := ⟨_, rfl⟩
      rw [← hv]
      have HV := Lib.hid hv
      clear hv
      go_wp2
      go_ret
      refine ⟨?_, rfl⟩
      rw [← HV.out]
      rfl
theorem r4has_any (s n : Nat) (hs : s < 256) (hn : n ≤ 8) (w : World) :
    Calls Tryz.prog 110 #[.int .i64 s, .int .i64 n] w fun e w' => e = .returned (.bool (s.testBit n)) ∧ w = w' := by
  have hb := has_bitJ ⟨n, by omega⟩ ⟨s, hs⟩
  dsimp only at hb
  have hpos : (0 : Nat) < 2 ^ n := Nat.two_pow_pos n
  have hpb := pow_boundJ n (by omega)
  go_enter Tryz.func110, Tryz.ntmps110
  go_wp2_with fail
  refine (r4power_any n (by omega) w).mono ?_
  rintro e w' ⟨rfl, rfl⟩
  generalize hP : 2 ^ n = P at *
  have HB := Lib.hid hb
  clear hb hP
  go_wp2
  go_ret
  exact ⟨by rw [← HB.out]; rfl, rfl⟩
theorem infoSpan2 : (Tryz.prog.info? 24).map (·.size) = some 2 := by kernel_rfl
/-- What is read of a block, and of what it is put to. -/
def SB4 (ob sb b off i : Nat) (x y : Int) (v : Value) (lo hi : Int) (Y : World) : Prop :=
  Y.cell? ⟨ob, 0, none⟩ = some (.int .i64 x) ∧ Y.cell? ⟨ob, 1, none⟩ = some (.int .i64 y) ∧ Y.cell? ⟨sb, 0, none⟩ = some v ∧ Y.cell? ⟨b, off + i * 2, none⟩ = some (.int .i64 lo) ∧ Y.cell? ⟨b, off + i * 2 + 1, none⟩ = some (.int .i64 hi)
set_option maxRecDepth 100000 in
set_option maxHeartbeats 4000000 in
theorem r4of_any (s : StackD) (hv : validSt s = true) (set : Nat) (hset : set < 256) (bs : Value) (w : World) (hbs : SpansAt w bs s.bs (fun k => k < w.heap.size)) :
    Calls Tryz.prog 103 #[stackV s bs, .int .i64 set] w fun e w' => e = .returned (spV (ofS s set)) ∧ Below w.heap.size w w' := by
  have HBS := Lib.hid hbs
  have HV := Lib.hid hv
  obtain ⟨ao, cap, hbv, _⟩ := id hbs
  subst hbv
  obtain ⟨n, hn⟩ : ∃ n, n = s.bs.length := ⟨_, rfl⟩
  have hn8 : n ≤ 8 := by rw [hn]; exact (validSt_parts hv).1
  obtain ⟨fl, hfl⟩ : ∃ x, x = s.film.1 := ⟨_, rfl⟩
  obtain ⟨fh, hfh⟩ : ∃ x, x = s.film.2 := ⟨_, rfl⟩
  have hp0 := part_zero s set
  have hpb := part_bound hv set 0
  unfold stackV
  rw [← hn, ← hfl, ← hfh]
  rw [← hn] at HBS
  rw [← hfl, ← hfh] at hp0
  have HN := Lib.hid hn
  have hz8 := sizeJ_le 8 set
  obtain ⟨z, hz⟩ : ∃ z, z = sizeJ 8 set := ⟨_, rfl⟩
  rw [← hz] at hp0 hz8
  obtain ⟨⟨x0, y0⟩, hxy⟩ : ∃ y, y = partS s set 0 := ⟨_, rfl⟩
  rw [← hxy] at hp0 hpb
  injection hp0 with hx0 hy0
  dsimp only at hpb
  have hwz : IntKind.i64.wrap ((z : Int) - 1) = (z : Int) - 1 := IntWalk.i64_in _ (by omega)
  have hwx : IntKind.i64.wrap (((z : Int) - 1) * fl) = x0 := by rw [← hx0]; exact IntWalk.i64_in _ (by omega)
  have hwy : IntKind.i64.wrap (((z : Int) - 1) * fh) = y0 := by rw [← hy0]; exact IntWalk.i64_in _ (by omega)
  have HXY := Lib.hid hxy
  have HZ := Lib.hid hz
  obtain ⟨sb, hsb⟩ : ∃ x, x = w.heap.size := ⟨_, rfl⟩
  clear hbs hv hn hfl hfh hxy hz hx0 hy0 hpb
  go_enter Tryz.func103, Tryz.ntmps103
  go_wp2_with fail
  refine (r4size_any set hset _).mono ?_
  rintro e w' ⟨rfl, rfl⟩
  dsimp only
  rw [← HZ.out]
  go_wp2_with fail
  refine wp_name (fun W => W.heap[sb]? = some (.cells #[.slice ao n cap, .int .i64 fl, .int .i64 fh] 26 (0, 0)) ∧ W.heap[sb + 1]? = some (.cells #[.int .i64 0, .int .i64 0] 24 (0, 0)) ∧ W.heap[sb + 1 + 1]? = some (.cells #[.int .i64 x0, .int .i64 y0] 24 (0, 0)) ∧ Below w.heap.size w W) ⟨by rw [hsb]; exact (by repeat (first | (refine heap_alloc_at _ _ _ ?_; (simp <;> omega); done) | (refine (hget_old _ _ _ ?_).trans ?_; · (simp <;> omega)))), by rw [hsb]; exact (by repeat (first | (refine heap_alloc_at _ _ _ ?_; (simp <;> omega); done) | (refine (hget_old _ _ _ ?_).trans ?_; · (simp <;> omega)))), by rw [hsb]; exact (by repeat (first | (refine heap_alloc_at _ _ _ ?_; (simp <;> omega); done) | (refine (hget_old _ _ _ ?_).trans ?_; · (simp <;> omega)))), (((Below.refl _ _).alloc (Nat.le_refl _) _).alloc (by simp) _).alloc (by simp <;> omega) _⟩ ?_
  rintro W0 ⟨h1, h2, h3, h4⟩
  have HI := Lib.hid (And.intro h1 (And.intro h2 (And.intro h3 h4)))
  rw [← hsb]
  have HSB := Lib.hid hsb
  clear h1 h2 h3 h4 hsb
  go_loopw [7] (fun iv wr => ∃ i : Nat, i ≤ n ∧ iv = .int .i64 i ∧ wr.heap[sb]? = some (.cells #[.slice ao n cap, .int .i64 fl, .int .i64 fh] 26 (0, 0)) ∧ wr.heap[sb + 1]? = some (.cells #[.int .i64 0, .int .i64 0] 24 (0, 0)) ∧ wr.heap[sb + 1 + 1]? = some (.cells #[.int .i64 (partS s set i).1, .int .i64 (partS s set i).2] 24 (0, 0)) ∧ Below w.heap.size w wr) (fun iv _ => n - (intOf iv).toNat)
  case atStart => exact ⟨0, Nat.zero_le _, rfl, HI.out.1, HI.out.2.1, by rw [← HXY.out]; exact HI.out.2.2.1, HI.out.2.2.2⟩
  case round =>
    obtain ⟨i, hi, rfl, h1, h2, h3, hb⟩ := hrel
    have hpb := part_bound HV.out set i
    obtain ⟨⟨x, y⟩, hxy⟩ : ∃ u, u = partS s set i := ⟨_, rfl⟩
    rw [← hxy] at h3 hpb
    dsimp only at h3 hpb
    have c0 : wr.cell? ⟨sb, 0, none⟩ = some (.slice ao n cap) := by rw [cell_of_row _ _ _ _ _ _ h1]; rfl
    have d0 : wr.cell? ⟨sb + 1 + 1, 0, none⟩ = some (.int .i64 x) := by rw [cell_of_row _ _ _ _ _ _ h3]; rfl
    have d1 : wr.cell? ⟨sb + 1 + 1, 1, none⟩ = some (.int .i64 y) := by rw [cell_of_row _ _ _ _ _ _ h3]; rfl
    have H1 := Lib.hid h1
    have H2 := Lib.hid h2
    have H3 := Lib.hid h3
    have HB := Lib.hid hb
    have HPB := Lib.hid hpb
    have HX := Lib.hid hxy
    clear h1 h2 h3 hb hxy hpb
    by_cases hlt : i < n
    · have hw : IntKind.i64.wrap ((i : Int) + 1) = ((i + 1 : Nat) : Int) := by rw [IntWalk.i64_in _ (by omega)]; omega
      have hlti : (i : Int) < (n : Int) := by omega
      have hi0 : 0 ≤ (i : Int) := by omega
      have hil : i < s.bs.length := by rw [← HN.out]; exact hlt
      have hnx := part_next s set i hil
      have hpb2 := part_bound HV.out set (i + 1)
      rw [← HX.out] at hnx
      go_wp2_with fail
      refine (r4has_any set i hset (by omega) _).mono ?_
      rintro e w' ⟨rfl, rfl⟩
      dsimp only
      cases hbit : set.testBit i with
      | false =>
        rw [hbit, if_neg (by decide)] at hnx
        have HNX := Lib.hid hnx
        clear hbit hnx hpb2 c0 d0 d1
        go_wp2_with fail
        exact ⟨⟨i + 1, hlt, by push_cast; rfl, H1.out, H2.out, by rw [HNX.out]; exact H3.out, HB.out⟩, by simp [intOf]; omega⟩
      | true =>
        rw [hbit, if_pos rfl] at hnx
        rw [hnx] at hpb2
        obtain ⟨a9, c9, e9, _, _, hel⟩ := HBS.out.later (W := wr) HB.out.size (fun k h _ => HB.out.block k h)
        injection e9 with e1 e2 e3
        obtain ⟨b, off, hbe, _, hbl, e6, e7⟩ := hel i hil
        rw [hbe] at e1
        subst e1
        clear hel e2 e3 hbe
        obtain ⟨⟨lo, hi9⟩, hx9⟩ : ∃ u, u = s.bs[i] := ⟨_, rfl⟩
        rw [← hx9] at e6 e7 hnx hpb2
        dsimp only at e6 e7 hnx hpb2
        have hwx : IntKind.i64.wrap (x + lo) = x + lo := IntWalk.i64_in _ (by omega)
        have hwy : IntKind.i64.wrap (y + hi9) = y + hi9 := IntWalk.i64_in _ (by omega)
        have HNX := Lib.hid hnx
        have hS0 : SB4 (sb + 1 + 1) sb b off i x y (.slice (some ⟨b, off, none⟩) n cap) lo hi9 wr := ⟨d0, d1, c0, e6, e7⟩
        have HS0 := Lib.hid hS0
        clear hbit hnx hpb2 c0 d0 d1 e6 e7 hS0
        go_upto_region 7 with fail
        refine wp_region_tail 19 #[false, false, false, false, false, false, false, false, false, false, false, false, false, false, false, false, false, false, false, true] (SB4 (sb + 1 + 1) sb b off i x y (.slice (some ⟨b, off, none⟩) n cap) lo hi9) (by kernel_rfl) (by kernel_rfl) (by rfl) HS0.out fun hS => ?_
        obtain ⟨D, hD⟩ : ∃ D, D = World.drew wr := ⟨_, rfl⟩
        have hAD : Below wr.heap.size wr D := by rw [hD]; exact (Below.refl _ _).drew
        rw [← hD] at hS ⊢
        have HBD := Lib.hid (HB.out.trans (hAD.mono HB.out.size))
        have HA := Lib.hid hAD
        clear hD hAD
        refine wpAnyH_take (i := 0) (v := ?_) rfl (by kernel_rfl) (by kernel_rfl) (by kernel_rfl) (fun _ _ _ h => h) (Or.inl ⟨by rfl, ?_⟩) hS ?_
        rotate_left
        · (intro W hSw; obtain ⟨q0, q1, q2, q3, q4⟩ := hSw; go_simp; try with_reducible rfl)
        try simp only [List.getElem_toArray, List.getElem_cons_succ, List.getElem_cons_zero, Act.put, List.setIfInBounds_toArray, List.set_cons_zero, List.set_cons_succ]
        refine wpAnyH_take (i := 1) (v := ?_) rfl (by kernel_rfl) (by kernel_rfl) (by kernel_rfl) (fun _ _ _ h => h) (Or.inl ⟨by rfl, ?_⟩) hS ?_
        rotate_left
        · (intro W hSw; obtain ⟨q0, q1, q2, q3, q4⟩ := hSw; go_simp; try with_reducible rfl)
        try simp only [List.getElem_toArray, List.getElem_cons_succ, List.getElem_cons_zero, Act.put, List.setIfInBounds_toArray, List.set_cons_zero, List.set_cons_succ]
        refine wpAnyH_take (i := 2) (v := ?_) rfl (by kernel_rfl) (by kernel_rfl) (by kernel_rfl) (fun _ _ _ h => h) (Or.inl ⟨by rfl, ?_⟩) hS ?_
        rotate_left
        · (intro W hSw; obtain ⟨q0, q1, q2, q3, q4⟩ := hSw; go_simp; try with_reducible rfl)
        try simp only [List.getElem_toArray, List.getElem_cons_succ, List.getElem_cons_zero, Act.put, List.setIfInBounds_toArray, List.set_cons_zero, List.set_cons_succ]
        refine wpAnyH_take (i := 3) (v := ?_) rfl (by kernel_rfl) (by kernel_rfl) (by kernel_rfl) (fun _ _ _ h => h) (Or.inl ⟨by rfl, ?_⟩) hS ?_
        rotate_left
        · (intro W hSw; obtain ⟨q0, q1, q2, q3, q4⟩ := hSw; go_simp; try with_reducible rfl)
        try simp only [List.getElem_toArray, List.getElem_cons_succ, List.getElem_cons_zero, Act.put, List.setIfInBounds_toArray, List.set_cons_zero, List.set_cons_succ]
        refine wpAnyH_take (i := 4) (v := ?_) rfl (by kernel_rfl) (by kernel_rfl) (by kernel_rfl) (fun _ _ _ h => h) (Or.inl ⟨by rfl, ?_⟩) hS ?_
        rotate_left
        · (intro W hSw; obtain ⟨q0, q1, q2, q3, q4⟩ := hSw; go_simp; try with_reducible rfl)
        try simp only [List.getElem_toArray, List.getElem_cons_succ, List.getElem_cons_zero, Act.put, List.setIfInBounds_toArray, List.set_cons_zero, List.set_cons_succ]
        refine wpAnyH_take (i := 5) (v := ?_) rfl (by kernel_rfl) (by kernel_rfl) (by kernel_rfl) (fun _ _ _ h => h) (Or.inl ⟨by rfl, ?_⟩) hS ?_
        rotate_left
        · (intro W hSw; obtain ⟨q0, q1, q2, q3, q4⟩ := hSw; go_simp; try with_reducible rfl)
        try simp only [List.getElem_toArray, List.getElem_cons_succ, List.getElem_cons_zero, Act.put, List.setIfInBounds_toArray, List.set_cons_zero, List.set_cons_succ]
        refine wpAnyH_take (i := 6) (v := ?_) rfl (by kernel_rfl) (by kernel_rfl) (by kernel_rfl) (fun _ _ _ h => h) (Or.inl ⟨by rfl, ?_⟩) hS ?_
        rotate_left
        · (intro W hSw; obtain ⟨q0, q1, q2, q3, q4⟩ := hSw; go_simp; try with_reducible rfl)
        try simp only [List.getElem_toArray, List.getElem_cons_succ, List.getElem_cons_zero, Act.put, List.setIfInBounds_toArray, List.set_cons_zero, List.set_cons_succ]
        refine wpAnyH_take (i := 7) (v := ?_) rfl (by kernel_rfl) (by kernel_rfl) (by kernel_rfl) (fun _ _ _ h => h) (Or.inl ⟨by rfl, ?_⟩) hS ?_
        rotate_left
        · (intro W hSw; obtain ⟨q0, q1, q2, q3, q4⟩ := hSw; go_simp; try with_reducible rfl)
        try simp only [List.getElem_toArray, List.getElem_cons_succ, List.getElem_cons_zero, Act.put, List.setIfInBounds_toArray, List.set_cons_zero, List.set_cons_succ]
        refine wpAnyH_take (i := 8) (v := ?_) rfl (by kernel_rfl) (by kernel_rfl) (by kernel_rfl) (fun _ _ _ h => h) (Or.inl ⟨by rfl, ?_⟩) hS ?_
        rotate_left
        · (intro W hSw; obtain ⟨q0, q1, q2, q3, q4⟩ := hSw; go_simp; try with_reducible rfl)
        try simp only [List.getElem_toArray, List.getElem_cons_succ, List.getElem_cons_zero, Act.put, List.setIfInBounds_toArray, List.set_cons_zero, List.set_cons_succ]
        refine wpAnyH_take (i := 9) (v := ?_) rfl (by kernel_rfl) (by kernel_rfl) (by kernel_rfl) (fun _ _ _ h => h) (Or.inl ⟨by rfl, ?_⟩) hS ?_
        rotate_left
        · (intro W hSw; obtain ⟨q0, q1, q2, q3, q4⟩ := hSw; go_simp; try with_reducible rfl)
        try simp only [List.getElem_toArray, List.getElem_cons_succ, List.getElem_cons_zero, Act.put, List.setIfInBounds_toArray, List.set_cons_zero, List.set_cons_succ]
        refine wpAnyH_take (i := 10) (v := ?_) rfl (by kernel_rfl) (by kernel_rfl) (by kernel_rfl) (fun _ _ _ h => h) (Or.inl ⟨by rfl, ?_⟩) hS ?_
        rotate_left
        · (intro W hSw; obtain ⟨q0, q1, q2, q3, q4⟩ := hSw; go_simp; try with_reducible rfl)
        try simp only [List.getElem_toArray, List.getElem_cons_succ, List.getElem_cons_zero, Act.put, List.setIfInBounds_toArray, List.set_cons_zero, List.set_cons_succ]
        refine wpAnyH_take (i := 11) (v := ?_) rfl (by kernel_rfl) (by kernel_rfl) (by kernel_rfl) (fun _ _ _ h => h) (Or.inl ⟨by rfl, ?_⟩) hS ?_
        rotate_left
        · (intro W hSw; obtain ⟨q0, q1, q2, q3, q4⟩ := hSw; go_simp; try with_reducible rfl)
        try simp only [List.getElem_toArray, List.getElem_cons_succ, List.getElem_cons_zero, Act.put, List.setIfInBounds_toArray, List.set_cons_zero, List.set_cons_succ]
        refine wpAnyH_take (i := 12) (v := ?_) rfl (by kernel_rfl) (by kernel_rfl) (by kernel_rfl) (fun _ _ _ h => h) (Or.inl ⟨by rfl, ?_⟩) hS ?_
        rotate_left
        · (intro W hSw; obtain ⟨q0, q1, q2, q3, q4⟩ := hSw; go_simp; try with_reducible rfl)
        try simp only [List.getElem_toArray, List.getElem_cons_succ, List.getElem_cons_zero, Act.put, List.setIfInBounds_toArray, List.set_cons_zero, List.set_cons_succ]
        refine wpAnyH_take (i := 13) (v := ?_) rfl (by kernel_rfl) (by kernel_rfl) (by kernel_rfl) (fun _ _ _ h => h) (Or.inl ⟨by rfl, ?_⟩) hS ?_
        rotate_left
        · (intro W hSw; obtain ⟨q0, q1, q2, q3, q4⟩ := hSw; go_simp; try with_reducible rfl)
        try simp only [List.getElem_toArray, List.getElem_cons_succ, List.getElem_cons_zero, Act.put, List.setIfInBounds_toArray, List.set_cons_zero, List.set_cons_succ]
        refine wpAnyH_take (i := 14) (v := ?_) rfl (by kernel_rfl) (by kernel_rfl) (by kernel_rfl) (fun _ _ _ h => h) (Or.inl ⟨by rfl, ?_⟩) hS ?_
        rotate_left
        · (intro W hSw; obtain ⟨q0, q1, q2, q3, q4⟩ := hSw; go_simp; try with_reducible rfl)
        try simp only [List.getElem_toArray, List.getElem_cons_succ, List.getElem_cons_zero, Act.put, List.setIfInBounds_toArray, List.set_cons_zero, List.set_cons_succ]
        refine wpAnyH_take (i := 15) (v := ?_) rfl (by kernel_rfl) (by kernel_rfl) (by kernel_rfl) (fun _ _ _ h => h) (Or.inl ⟨by rfl, ?_⟩) hS ?_
        rotate_left
        · (intro W hSw; obtain ⟨q0, q1, q2, q3, q4⟩ := hSw; go_simp; try with_reducible rfl)
        try simp only [List.getElem_toArray, List.getElem_cons_succ, List.getElem_cons_zero, Act.put, List.setIfInBounds_toArray, List.set_cons_zero, List.set_cons_succ]
        refine wpAnyH_take (i := 16) (v := ?_) rfl (by kernel_rfl) (by kernel_rfl) (by kernel_rfl) (fun _ _ _ h => h) (Or.inl ⟨by rfl, ?_⟩) hS ?_
        rotate_left
        · (intro W hSw; obtain ⟨q0, q1, q2, q3, q4⟩ := hSw; go_simp; try with_reducible rfl)
        try simp only [List.getElem_toArray, List.getElem_cons_succ, List.getElem_cons_zero, Act.put, List.setIfInBounds_toArray, List.set_cons_zero, List.set_cons_succ]
        refine wpAnyH_take (i := 17) (v := ?_) rfl (by kernel_rfl) (by kernel_rfl) (by kernel_rfl) (fun _ _ _ h => h) (Or.inl ⟨by rfl, ?_⟩) hS ?_
        rotate_left
        · (intro W hSw; obtain ⟨q0, q1, q2, q3, q4⟩ := hSw; go_simp; try with_reducible rfl)
        try simp only [List.getElem_toArray, List.getElem_cons_succ, List.getElem_cons_zero, Act.put, List.setIfInBounds_toArray, List.set_cons_zero, List.set_cons_succ]
        refine wpAnyH_take (i := 18) (v := ?_) rfl (by kernel_rfl) (by kernel_rfl) (by kernel_rfl) (fun _ _ _ h => h) (Or.inl ⟨by rfl, ?_⟩) hS ?_
        rotate_left
        · (intro W hSw; obtain ⟨q0, q1, q2, q3, q4⟩ := hSw; go_simp; try with_reducible rfl)
        try simp only [List.getElem_toArray, List.getElem_cons_succ, List.getElem_cons_zero, Act.put, List.setIfInBounds_toArray, List.set_cons_zero, List.set_cons_succ]
        refine wpAnyH_done (by kernel_rfl) ?_ _
        unfold TailQ
        simp only [List.drop_succ_cons, List.drop_zero]
        have H1D := Lib.hid ((HA.out.block _ (lt_of_block H1.out)).trans H1.out)
        have H2D := Lib.hid ((HA.out.block _ (lt_of_block H2.out)).trans H2.out)
        have H3D := Lib.hid ((HA.out.block _ (lt_of_block H3.out)).trans H3.out)
        clear hS
        go_wp2_with (first | (refine wpList_store_row rfl 24 _ _ rfl (sb + 1 + 1) #[.int .i64 (x + lo), .int .i64 (y + hi9)] rfl rfl 24 _ H3D.out infoSpan2 rfl (by simp [Value.oneCell']) ?_))
        have hk := keeps_setRow D (sb + 1 + 1) #[Value.int .i64 (x + lo), Value.int .i64 (y + hi9)]
        refine ⟨⟨i + 1, hlt, by push_cast; rfl, (hk.block _ (lt_of_block H1D.out) (by omega)).trans H1D.out, (hk.block _ (lt_of_block H2D.out) (by omega)).trans H2D.out, ?_, ?_⟩, by simp [intOf]; omega⟩
        · rw [HNX.out]
          exact setRow_heap _ _ _ _ _ _ H3D.out
        · exact HBD.out.trans (hk.below HBD.out.size (fun k h e => by have := HSB.out; omega))
    · have hin : n = i := by omega
      subst hin
      have hlti : ¬ (n : Int) < (n : Int) := by omega
      have f0 : wr.frozen? ⟨sb + 1, 0, none⟩ = false := frozen_of_row _ _ 0 _ _ H2.out
      have hx := HX.out
      rw [HN.out, part_end] at hx
      have HX2 := Lib.hid hx
      clear hlt hx
      go_wp2_with (first | (refine wpList_store_row rfl 24 _ _ rfl (sb + 1) #[.int .i64 x, .int .i64 y] rfl rfl 24 _ H2.out infoSpan2 rfl (by simp [Value.oneCell']) ?_))
      have hr : (wr.setRow (sb + 1) #[Value.int .i64 x, Value.int .i64 y]).heap[sb + 1]? = some (.cells #[.int .i64 x, .int .i64 y] 24 (0, 0)) := setRow_heap _ _ _ _ _ _ H2.out
      have e0 := cell_of_row _ _ 0 _ _ _ hr
      have e1 := cell_of_row _ _ 1 _ _ _ hr
      have hk := keeps_setRow wr (sb + 1) #[Value.int .i64 x, Value.int .i64 y]
      exact bodyPost_ret (v := spV (x, y)) (by simp [results, Tryz.results103, go_sem, spV, e0, e1]) rfl ⟨by rw [HX2.out], HB.out.trans (hk.below HB.out.size (fun k h e => by have := HSB.out; omega))⟩
theorem lens_le {s : StackD} (hv : validSt s = true) (t : Nat) : (lenS s t).lo ≤ (lenS s t).hi := by
  obtain ⟨h8, hf, hb⟩ := validSt_parts hv
  refine lenJ_le (by omega) _ _ (fun b hb' => ?_) (Int.le_refl _)
  have := hb b (mem_selJ _ _ _ hb')
  unfold blockOk at this
  simp only [Bool.and_eq_true, decide_eq_true_eq] at this
  exact this.1.1.2
set_option maxRecDepth 100000 in
set_option maxHeartbeats 4000000 in
theorem r4right_any (s : StackD) (hv : validSt s = true) (set : Nat) (h1 : 1 ≤ set) (h2 : set < 2 ^ s.bs.length) (wt : Int × Int) (bs : Value) (w : World) (hbs : SpansAt w bs s.bs (fun k => k < w.heap.size)) :
    Calls Tryz.prog 92 #[stackV s bs, .int .i64 set, spV wt] w fun e w' => e = .returned (.int .i64 (gradeS s set wt)) ∧ Below w.heap.size w w' := by
  have HBS := Lib.hid hbs
  have HV := Lib.hid hv
  have hset : set < 256 := Nat.lt_of_lt_of_le h2 (Nat.pow_le_pow_right (by decide) (validSt_parts hv).1)
  have hol := of_len hv h1 h2
  obtain ⟨ao, cap, hbv, _⟩ := id hbs
  subst hbv
  obtain ⟨n, hn⟩ : ∃ n, n = s.bs.length := ⟨_, rfl⟩
  obtain ⟨fl, hfl⟩ : ∃ x, x = s.film.1 := ⟨_, rfl⟩
  obtain ⟨fh, hfh⟩ : ∃ x, x = s.film.2 := ⟨_, rfl⟩
  obtain ⟨lo, hi⟩ := wt
  have hgr : gradeS s set (lo, hi) = (if (lo ≤ (lenS s set).hi) ∧ (lenS s set).lo ≤ hi then 1 else 0) + (if lo ≤ (lenS s set).lo ∧ (lenS s set).hi ≤ hi then 1 else 0) := by
    unfold gradeS meetsJ insideJ
    simp only [Bool.and_eq_true, decide_eq_true_eq]
  obtain ⟨x, hx⟩ : ∃ x, x = (lenS s set).lo := ⟨_, rfl⟩
  obtain ⟨y, hy⟩ : ∃ x, x = (lenS s set).hi := ⟨_, rfl⟩
  have hxy : x ≤ y := by rw [hx, hy]; exact lens_le hv set
  rw [← hx, ← hy] at hgr hol
  have HSV := Lib.hid (show stackV s (.slice ao n cap) = .agg #[.slice ao n cap, .int .i64 fl, .int .i64 fh] by unfold stackV; rw [← hfl, ← hfh])
  have HOL := Lib.hid hol
  unfold stackV spV
  rw [← hn, ← hfl, ← hfh]
  rw [← hn] at HBS
  have HGR := Lib.hid hgr
  have HN := Lib.hid hn
  clear hbs hv hn hfl hfh hol hx hy hgr h1 h2
  go_enter Tryz.func92, Tryz.ntmps92
  go_wp2_with fail
  have hB0 := ((Below.refl w.heap.size w).alloc (Nat.le_refl _) (.cells #[.slice ao n cap, .int .i64 fl, .int .i64 fh] 26)).alloc (by simp) (.cells #[.int .i64 lo, .int .i64 hi] 24)
  have hr0 : ((w.alloc (.cells #[.slice ao n cap, .int .i64 fl, .int .i64 fh] 26)).alloc (.cells #[.int .i64 lo, .int .i64 hi] 24)).heap[w.heap.size + 1]? = some (.cells #[.int .i64 lo, .int .i64 hi] 24 (0, 0)) := heap_alloc_at _ _ _ (by simp)
  obtain ⟨W0, hW0⟩ : ∃ W, W = (w.alloc (.cells #[.slice ao n cap, .int .i64 fl, .int .i64 fh] 26)).alloc (.cells #[.int .i64 lo, .int .i64 hi] 24) := ⟨_, rfl⟩
  rw [← hW0] at hB0 hr0
  rw [← hW0]
  have hc := r4of_any s HV.out set hset (.slice ao n cap) W0 (by rw [HN.out] at HBS ⊢; exact (HBS.out.later hB0.size (fun k h1 _ => hB0.block k h1)).low)
  rw [HSV.out, HOL.out] at hc
  have HB0 := Lib.hid hB0
  have HR0 := Lib.hid hr0
  clear hW0 hB0 hr0
  refine hc.mono ?_
  rintro e w1 ⟨rfl, hb⟩
  clear hc
  unfold spV
  dsimp only
  have HB1 := Lib.hid (HB0.out.trans (hb.mono HB0.out.size))
  have hr1 := (hb.block _ (lt_of_block HR0.out)).trans HR0.out
  have d0 : w1.cell? ⟨w.heap.size + 1, 0, none⟩ = some (.int .i64 lo) := by rw [cell_of_row _ _ _ _ _ _ hr1]; rfl
  have d1 : w1.cell? ⟨w.heap.size + 1, 1, none⟩ = some (.int .i64 hi) := by rw [cell_of_row _ _ _ _ _ _ hr1]; rfl
  have d2 : ∀ o, (w1.alloc o).cell? ⟨w.heap.size + 1, 0, none⟩ = some (.int .i64 lo) := fun o => cell_below d0 (Below.alloc' w1 o)
  have d3 : ∀ o, (w1.alloc o).cell? ⟨w.heap.size + 1, 1, none⟩ = some (.int .i64 hi) := fun o => cell_below d1 (Below.alloc' w1 o)
  clear hb hr1 d0 d1
  by_cases k1 : lo ≤ x
  · by_cases k2 : y ≤ hi
    · have hg := HGR.out
      rw [if_pos ⟨by omega, by omega⟩, if_pos ⟨k1, k2⟩] at hg
      have HG := Lib.hid hg
      clear hg hxy
      go_wp2_with fail
      go_ret
      exact ⟨by rw [HG.out]; rfl, HB1.out.alloc HB1.out.size _⟩
    · by_cases k3 : x ≤ hi
      · have hg := HGR.out
        have k4 : ¬ y < lo := by omega
        have k5 : ¬ hi < x := by omega
        rw [if_pos ⟨by omega, k3⟩, if_neg (fun h => k2 h.2)] at hg
        have HG := Lib.hid hg
        clear hg hxy
        go_wp2_with fail
        go_ret
        exact ⟨by rw [HG.out]; rfl, HB1.out.alloc HB1.out.size _⟩
      · have hg := HGR.out
        have k4 : ¬ y < lo := by omega
        have k5 : hi < x := by omega
        rw [if_neg (fun h => k3 h.2), if_neg (fun h => k2 h.2)] at hg
        have HG := Lib.hid hg
        clear hg hxy
        go_wp2_with fail
        go_ret
        exact ⟨by rw [HG.out]; rfl, HB1.out.alloc HB1.out.size _⟩
  · by_cases k3 : y < lo
    · have hg := HGR.out
      rw [if_neg (fun h => by have := h.1; omega), if_neg (fun h => k1 h.1)] at hg
      have HG := Lib.hid hg
      clear hg hxy
      go_wp2_with fail
      go_ret
      exact ⟨by rw [HG.out]; rfl, HB1.out.alloc HB1.out.size _⟩
    · by_cases k4 : hi < x
      · have hg := HGR.out
        rw [if_neg (fun h => by have := h.2; omega), if_neg (fun h => k1 h.1)] at hg
        have HG := Lib.hid hg
        clear hg hxy
        go_wp2_with fail
        go_ret
        exact ⟨by rw [HG.out]; rfl, HB1.out.alloc HB1.out.size _⟩
      · have hg := HGR.out
        rw [if_pos ⟨by omega, by omega⟩, if_neg (fun h => k1 h.1)] at hg
        have HG := Lib.hid hg
        clear hg hxy
        go_wp2_with fail
        go_ret
        exact ⟨by rw [HG.out]; rfl, HB1.out.alloc HB1.out.size _⟩
set_option maxHeartbeats 4000000 in
theorem r4in_any (x a b : Int) (w : World) : Calls Tryz.prog 89 #[.int .i64 x, .int .i64 a, .int .i64 b] w fun e w' => e = .returned (.bool (decide (a ≤ x) && decide (x ≤ b))) ∧ w = w' := by
  by_cases h1 : a ≤ x
  · by_cases h2 : x ≤ b
    · have hb : (decide (a ≤ x) && decide (x ≤ b)) = true := by rw [decide_eq_true h1, decide_eq_true h2]; rfl
      rw [hb]
      clear hb
      go_enter Tryz.func89, Tryz.ntmps89
      go_wp2
      go_ret
      exact ⟨rfl, rfl⟩
    · have hb : (decide (a ≤ x) && decide (x ≤ b)) = false := by rw [decide_eq_true h1, decide_eq_false h2]; rfl
      rw [hb]
      clear hb
      go_enter Tryz.func89, Tryz.ntmps89
      go_wp2
      go_ret
      exact ⟨rfl, rfl⟩
  · have hb : (decide (a ≤ x) && decide (x ≤ b)) = false := by rw [decide_eq_false h1]; rfl
    rw [hb]
    clear hb
    go_enter Tryz.func89, Tryz.ntmps89
    go_wp2
    go_ret
    exact ⟨rfl, rfl⟩
end Go.Proofs.YtbmfphiecllggaaGreatDoor

/- The reference of jobs, in plain words: all plans, in order; the one that is told is the first of the cheapest. -/
namespace Go.Proofs.YtbmfphiecllggaaGreatDoor
set_option linter.unusedVariables false
set_option linter.unusedSimpArgs false

def brokenL (j : JobD) (p : List Nat) (i : Nat) : Nat :=
  if p.getD i 0 ∉ rightsS j.st (j.ws.getD i (0, 0)) then 1 else if unionJ (p.take i) &&& p.getD i 0 ≠ 0 then 2 else 0
def lastOk (j : JobD) (b : List Nat) : Bool := b.isEmpty || brokenL j b (b.length - 1) == 0
/-- All plans that go on from a beginning, with so many wants more. -/
def plansL (j : JobD) : Nat → List Nat → List (List Nat)
  | 0, b => if lastOk j b then [b] else []
  | k + 1, b => if lastOk j b then (List.range (2 ^ j.st.bs.length - 1)).flatMap fun s => plansL j k (b ++ [s + 1]) else []
theorem getD_lt {α : Type} (l : List α) (d : α) (i : Nat) (h : i < l.length) : l.getD i d = l[i] := by
  rw [List.getD_eq_getElem?_getD, List.getElem?_eq_getElem h]; rfl
theorem broken_pre (j : JobD) (b t : List Nat) (i : Nat) (h : i < b.length) : brokenL j (b ++ t) i = brokenL j b i := by
  unfold brokenL
  rw [List.take_append_of_le_length (Nat.le_of_lt h), getD_lt (b ++ t) 0 i (by simp; omega), getD_lt b 0 i h, List.getElem_append_left h]
theorem plans_mem (j : JobD) : ∀ (k : Nat) (b p : List Nat), p ∈ plansL j k b ↔ ∃ t, p = b ++ t ∧ t.length = k ∧ (∀ s ∈ t, 1 ≤ s ∧ s < 2 ^ j.st.bs.length) ∧ ∀ i, b.length ≤ i + 1 → i < p.length → brokenL j p i = 0
  | 0, b, p => by
    rw [plansL]
    constructor
    · intro h
      by_cases hl : lastOk j b = true
      · rw [if_pos hl, List.mem_singleton] at h
        subst h
        refine ⟨[], by simp, rfl, by simp, fun i h1 h2 => ?_⟩
        unfold lastOk at hl
        rw [Bool.or_eq_true, beq_iff_eq] at hl
        rcases hl with hl | hl
        · rw [List.isEmpty_iff] at hl; subst hl; simp at h2
        · rw [show i = p.length - 1 by omega]; exact hl
      · rw [if_neg hl] at h; cases h
    · rintro ⟨t, rfl, ht, _, h⟩
      have : t = [] := List.length_eq_zero_iff.1 ht
      subst this
      rw [List.append_nil] at h ⊢
      rw [if_pos, List.mem_singleton]
      unfold lastOk
      rw [Bool.or_eq_true, beq_iff_eq]
      cases b with
      | nil => exact .inl rfl
      | cons x b => exact .inr (h _ (by simp) (by simp))
  | k + 1, b, p => by
    rw [plansL]
    constructor
    · intro h
      by_cases hl : lastOk j b = true
      · rw [if_pos hl, List.mem_flatMap] at h
        obtain ⟨s, hs, h⟩ := h
        rw [List.mem_range] at hs
        obtain ⟨t, rfl, ht, hs2, h2⟩ := (plans_mem j k _ _).1 h
        refine ⟨(s + 1) :: t, by simp, by simp [ht], fun x hx => ?_, fun i h3 h4 => ?_⟩
        · rcases List.mem_cons.1 hx with rfl | hx
          · omega
          · exact hs2 x hx
        · by_cases hi : b.length ≤ i
          · exact h2 i (by simp; omega) h4
          · unfold lastOk at hl
            rw [Bool.or_eq_true, beq_iff_eq] at hl
            rcases hl with hl | hl
            · rw [List.isEmpty_iff] at hl; subst hl; simp at hi
            · rw [List.append_assoc, broken_pre j b _ i (by omega), show i = b.length - 1 by omega]; exact hl
      · rw [if_neg hl] at h; cases h
    · rintro ⟨t, rfl, ht, hs, h⟩
      obtain ⟨s, t, rfl⟩ : ∃ s u, t = s :: u := by
        cases t with
        | nil => simp at ht
        | cons s u => exact ⟨s, u, rfl⟩
      have hs0 := hs s List.mem_cons_self
      rw [if_pos, List.mem_flatMap]
      · refine ⟨s - 1, List.mem_range.2 (by omega), (plans_mem j k _ _).2 ⟨t, by rw [show s - 1 + 1 = s by omega]; simp, by simpa using ht, fun x hx => hs x (List.mem_cons_of_mem _ hx), fun i h1 h2 => h i (by simp at h1; omega) h2⟩⟩
      · unfold lastOk
        rw [Bool.or_eq_true, beq_iff_eq]
        cases b with
        | nil => exact .inl rfl
        | cons x b =>
          right
          have := h b.length (by simp) (by simp; omega)
          rw [broken_pre j (x :: b) (s :: t) b.length (by simp)] at this
          simpa using this
/-- They are just the plans. -/
theorem plans_iff {j : JobD} {p : List Nat} : p ∈ plansL j j.ws.length [] ↔ PlanJ (rightsD j) (allD j) p := by
  rw [plans_mem]
  constructor
  · rintro ⟨t, hpt, ht, hs, h⟩
    rw [List.nil_append] at hpt
    subst hpt
    have h : ∀ i, 0 ≤ i → i < p.length → brokenL j p i = 0 := fun i _ h2 => h i (by simp) h2
    have hb : ∀ (Rs : List (List Nat)) (av : Nat) (i : Nat) (l : List Nat), Rs = (rightsD j).drop i → l = p.drop i → (∀ b, b < j.st.bs.length → (unionJ (p.take i)).testBit b = false → av.testBit b = true) → PlanJ Rs av l := by
      intro Rs
      induction Rs with
      | nil =>
        intro av i l hR hl _
        have h1 := congrArg List.length hR
        rw [List.length_drop] at h1
        simp [rightsD] at h1
        rw [hl]
        exact List.drop_eq_nil_of_le (by omega)
      | cons R Rs ih =>
        intro av i l hR hl hav
        have hi : i < j.ws.length := by
          have h1 := congrArg List.length hR
          rw [List.length_drop] at h1
          simp [rightsD] at h1
          omega
        have hit : i < p.length := by omega
        have hR2 : R = rightsS j.st j.ws[i] := by
          have h1 := congrArg List.head? hR
          rw [List.head?_drop] at h1
          simp [rightsD, hi] at h1
          exact h1
        have hR3 : Rs = (rightsD j).drop (i + 1) := by
          have h1 := congrArg List.tail hR
          rw [List.tail_drop] at h1
          exact h1
        have hbr := h i (by omega) hit
        unfold brokenL at hbr
        rw [getD_lt p 0 i hit, getD_lt j.ws (0, 0) i hi] at hbr
        have hst := hs p[i] (List.getElem_mem hit)
        split at hbr
        · cases hbr
        rename_i h1
        split at hbr
        · cases hbr
        rename_i h2
        have h1 : p[i] ∈ rightsS j.st j.ws[i] := Classical.byContradiction h1
        have h2 : unionJ (p.take i) &&& p[i] = 0 := Classical.byContradiction h2
        rw [hl, List.drop_eq_getElem_cons hit]
        refine ⟨p[i], p.drop (i + 1), rfl, by rw [hR2]; exact h1, (subJ_iff _ _).2 fun b hb => ?_, ih _ (i + 1) _ hR3 rfl fun b hb hu => ?_⟩
        · have hbn : b < j.st.bs.length := by
            apply Classical.byContradiction
            intro hn
            rw [Nat.testBit_lt_two_pow (Nat.lt_of_lt_of_le hst.2 (Nat.pow_le_pow_right (by decide) (by omega)))] at hb
            cases hb
          refine hav b hbn ?_
          have := congrArg (fun x => x.testBit b) h2
          simpa [Nat.testBit_and, hb] using this
        · rw [union_take p i hit, Nat.testBit_or, Bool.or_eq_false_iff] at hu
          rw [afterJ_bit, hav b hb hu.1, hu.2]; rfl
    exact hb (rightsD j) (allD j) 0 p (by simp) (by simp) fun b hb _ => by
      unfold allD
      rw [Nat.testBit_two_pow_sub_one]
      exact decide_eq_true hb
  · intro hp
    have hf := plan_facts hp
    refine ⟨p, rfl, hf.len, fun s hs => ?_, fun i _ hi => ?_⟩
    · obtain ⟨k, hk, rfl⟩ := List.getElem_of_mem hs
      have := mem_rightsJ.1 (hf.right k hk (by rw [← hf.len]; exact hk))
      exact ⟨by have := this.2.1; omega, this.1⟩
    · have hw : i < j.ws.length := by rw [← hf.len]; exact hi
      unfold brokenL
      rw [getD_lt p 0 i hi, getD_lt j.ws (0, 0) i hw]
      rw [if_neg (fun h => h (hf.right i hi hw)), if_neg (fun h => h (hf.free i hi))]
/-- Before, in order. -/
def LtL (p q : List Nat) : Prop := ∃ i, i < p.length ∧ i < q.length ∧ (∀ r, r < i → p[r]? = q[r]?) ∧ p.getD i 0 < q.getD i 0
theorem plans_sorted (j : JobD) : ∀ (k : Nat) (b : List Nat), (plansL j k b).Pairwise LtL
  | 0, b => by rw [plansL]; split <;> simp
  | k + 1, b => by
    rw [plansL]
    split
    · rw [List.pairwise_flatMap]
      refine ⟨fun s _ => plans_sorted j k _, List.Pairwise.imp ?_ List.pairwise_lt_range⟩
      intro s s' hlt p hp q hq
      obtain ⟨t, rfl, _⟩ := (plans_mem j k _ _).1 hp
      obtain ⟨u, rfl, _⟩ := (plans_mem j k _ _).1 hq
      refine ⟨b.length, by simp, by simp, fun r hr => ?_, ?_⟩
      · rw [List.append_assoc, List.append_assoc, List.getElem?_append_left hr, List.getElem?_append_left hr]
      · simp [List.getD_eq_getElem?_getD]
        exact hlt
    · simp
/-- The first of the least. -/
theorem first_min {α : Type} (cost : α → Nat) (R : α → α → Prop) : ∀ (l : List α) (b : α), (b :: l).Pairwise R →
    let r := l.foldl (fun b p => if cost p < cost b then p else b) b
    (r = b ∨ cost r < cost b) ∧ r ∈ b :: l ∧ ∀ y ∈ b :: l, cost r ≤ cost y ∧ (cost y = cost r → y = r ∨ R r y)
  | [], b, _ => by simp
  | y :: l, b, h => by
    dsimp only
    rw [List.foldl_cons]
    obtain ⟨hb, hyl⟩ := List.pairwise_cons.1 h
    by_cases hc : cost y < cost b
    · rw [if_pos hc]
      obtain ⟨h1, h2, h3⟩ := first_min cost R l y hyl
      refine ⟨.inr ?_, List.mem_cons_of_mem _ h2, fun z hz => ?_⟩
      · have := (h3 y List.mem_cons_self).1
        omega
      · rcases List.mem_cons.1 hz with rfl | hz
        · have := (h3 y List.mem_cons_self).1
          exact ⟨by omega, fun he => by omega⟩
        · exact h3 z hz
    · rw [if_neg hc]
      have hbl : (b :: l).Pairwise R := List.pairwise_cons.2 ⟨fun z hz => hb z (List.mem_cons_of_mem _ hz), (List.pairwise_cons.1 hyl).2⟩
      obtain ⟨h1, h2, h3⟩ := first_min cost R l b hbl
      refine ⟨h1, ?_, fun z hz => ?_⟩
      · rcases List.mem_cons.1 h2 with h2 | h2
        · rw [h2]; exact List.mem_cons_self
        · exact List.mem_cons_of_mem _ (List.mem_cons_of_mem _ h2)
      · rcases List.mem_cons.1 hz with rfl | hz
        · exact h3 _ List.mem_cons_self
        rcases List.mem_cons.1 hz with rfl | hz
        · have h4 := (h3 b List.mem_cons_self).1
          refine ⟨by omega, fun he => ?_⟩
          rcases h1 with h1 | h1
          · rw [h1]; exact .inr (hb _ List.mem_cons_self)
          · omega
        · exact h3 z (List.mem_cons_of_mem _ hz)
theorem plans_none (j : JobD) : (plansL j j.ws.length [] = []) ↔ canD j (everyD j) = false := by
  constructor
  · intro h
    cases hc : canD j (everyD j) with
    | false => rfl
    | true =>
      have := plans_iff.2 (can_told hc)
      rw [h] at this; cases this
  · intro h
    cases hl : plansL j j.ws.length [] with
    | nil => rfl
    | cons p l =>
      have : p ∈ plansL j j.ws.length [] := by rw [hl]; exact List.mem_cons_self
      rw [can_of_plan (plans_iff.1 this)] at h
      cases h
/-- The plan that is told is the first of the cheapest. -/
theorem plans_best (j : JobD) (p : List Nat) (l : List (List Nat)) (h : plansL j j.ws.length [] = p :: l) :
    (p :: l).foldl (fun b q => if costJ 8 q < costJ 8 b then q else b) p = toldJ 8 (rightsD j) (allD j) := by
  have hs := plans_sorted j j.ws.length []
  rw [h] at hs
  have hc : canD j (everyD j) = true := by
    cases hc : canD j (everyD j) with
    | true => rfl
    | false => rw [(plans_none j).2 hc] at h; cases h
  have hpl := can_told hc
  have hmem := plans_iff.2 hpl
  rw [h] at hmem
  rw [List.foldl_cons, if_neg (Nat.lt_irrefl _)]
  obtain ⟨_, h2, h3⟩ := first_min (costJ 8) LtL l p hs
  generalize l.foldl (fun b q => if costJ 8 q < costJ 8 b then q else b) p = r at *
  have hrp : PlanJ (rightsD j) (allD j) r := plans_iff.1 (by rw [h]; exact h2)
  obtain ⟨h4, h5⟩ := h3 _ hmem
  rw [can_every] at hc
  obtain ⟨y, hy⟩ := Option.isSome_iff_exists.1 hc
  have hcm := ((score_specJ 8 _ _).2 y hy).2.2 r hrp
  rw [← ((score_specJ 8 _ _).2 y hy).2.1] at hcm
  have hft := told_first 8 (rightsD j) (allD j) r (rights_sorted j) hrp (Nat.le_antisymm h4 hcm)
  rcases h5 (Nat.le_antisymm hcm h4) with he | ⟨i, hi1, hi2, hi3, hi4⟩
  · exact he.symm
  · exfalso
    have := hft i hi1 hi2 fun q hq hq' hlt => by
      have := hi3 q hlt
      rw [List.getElem?_eq_getElem hq, List.getElem?_eq_getElem hq'] at this
      exact Option.some.inj this
    rw [getD_lt _ 0 i hi1, getD_lt _ 0 i hi2] at hi4
    omega
end Go.Proofs.YtbmfphiecllggaaGreatDoor

/- The reference of stacks, walked: Set, check, Right. -/
namespace Go.Proofs.YtbmfphiecllggaaGreatDoor
set_option linter.unusedVariables false
set_option linter.unusedSimpArgs false
open Go.RowKit Go.Shelf
attribute [local go_sem] Oper.semAt_some

set_option maxRecDepth 100000 in
set_option maxHeartbeats 4000000 in
theorem r4set_any (s : StackD) (h8 : s.bs.length ≤ 60) (x : Int) (bs : Value) (hbv : ∃ a c, bs = .slice a s.bs.length c) (w : World) :
    Calls Tryz.prog 71 #[stackV s bs, .int .i64 x] w fun e w' => e = .returned (.bool (isSetS s x)) ∧ Below w.heap.size w w' := by
  obtain ⟨a, c, rfl⟩ := hbv
  unfold stackV isSetS
  obtain ⟨n, hn⟩ : ∃ n, n = s.bs.length := ⟨_, rfl⟩
  rw [← hn] at h8 ⊢
  clear hn
  have hpb := pow_boundJ n h8
  have hpos : (0 : Nat) < 2 ^ n := Nat.two_pow_pos n
  have hp2 : ((2 ^ n : Nat) : Int) = (2 : Int) ^ n := by simp
  rw [← hp2]
  clear hp2
  go_enter Tryz.func71, Tryz.ntmps71
  go_wp2_with fail
  refine (r4power_any n h8 _).mono ?_
  rintro e w' ⟨rfl, rfl⟩
  dsimp only
  generalize hP : 2 ^ n = P at *
  have hw : IntKind.i64.wrap ((P : Int) - 1) = (P : Int) - 1 := IntWalk.i64_in _ (by omega)
  have HP := Lib.hid hP
  clear hP
  go_wp2_with fail
  refine (r4in_any x 1 ((P : Int) - 1) _).mono ?_
  rintro e w' ⟨rfl, rfl⟩
  dsimp only
  go_wp2_with fail
  go_ret
  refine ⟨?_, (Below.refl _ _).alloc (Nat.le_refl _) _⟩
  rw [HP.out]
  rfl
set_option maxHeartbeats 4000000 in
theorem r4check_any (s : StackD) (hv : validSt s = true) (bs : Value) (w : World) (hbs : SpansAt w bs s.bs (fun k => k < w.heap.size)) :
    Calls Tryz.prog 91 #[stackV s bs, .bool true] w fun e w' => e = .returned (.int .i64 0) ∧ Below w.heap.size w w' := by
  have HBS := Lib.hid hbs
  obtain ⟨ao, cap, hbv, _⟩ := id hbs
  subst hbv
  have HSV := Lib.hid (show stackV s (.slice ao s.bs.length cap) = .agg #[.slice ao s.bs.length cap, .int .i64 s.film.1, .int .i64 s.film.2] from rfl)
  unfold stackV
  have hB0 := (Below.refl w.heap.size w).alloc (Nat.le_refl _) (.cells #[.slice ao s.bs.length cap, .int .i64 s.film.1, .int .i64 s.film.2] 26)
  clear hbs
  go_enter Tryz.func91, Tryz.ntmps91
  go_wp2_with fail
  have hc := r4stack_any s (.slice ao s.bs.length cap) _ (HBS.out.later hB0.size (fun k h1 _ => hB0.block k h1)).low
  rw [HSV.out, hv] at hc
  have HB0 := Lib.hid hB0
  clear hB0
  refine hc.mono ?_
  rintro e w1 ⟨rfl, hb⟩
  clear hc
  dsimp only
  have HB1 := Lib.hid (HB0.out.trans (hb.mono HB0.out.size))
  clear hb
  go_wp2_with fail
  go_ret
  exact ⟨rfl, HB1.out⟩
/-- What is read of the two boxes. -/
def SR4 (x : Nat) (v0 : Value) (f1 f2 lo hi : Int) (Y : World) : Prop :=
  Y.cell? ⟨x, 0, none⟩ = some v0 ∧ Y.cell? ⟨x, 1, none⟩ = some (.int .i64 f1) ∧ Y.cell? ⟨x, 2, none⟩ = some (.int .i64 f2) ∧ Y.cell? ⟨x + 1, 0, none⟩ = some (.int .i64 lo) ∧ Y.cell? ⟨x + 1, 1, none⟩ = some (.int .i64 hi)
theorem SR4.below {x : Nat} {v0 : Value} {f1 f2 lo hi : Int} {Y Y' : World} (h : SR4 x v0 f1 f2 lo hi Y) (hb : Below Y.heap.size Y Y') : SR4 x v0 f1 f2 lo hi Y' :=
  ⟨cell_below h.1 hb, cell_below h.2.1 hb, cell_below h.2.2.1 hb, cell_below h.2.2.2.1 hb, cell_below h.2.2.2.2 hb⟩
set_option maxRecDepth 100000 in
set_option maxHeartbeats 4000000 in
theorem r4Right_any (s : StackD) (hv : validSt s = true) (set : Nat) (h1 : 1 ≤ set) (h2 : set < 2 ^ s.bs.length) (wt : Int × Int) (hwt : wantOk wt = true) (bs : Value) (w : World) (hbs : SpansAt w bs s.bs (fun k => k < w.heap.size)) :
    Calls Tryz.prog 72 #[stackV s bs, .int .i64 set, spV wt] w fun e w' => e = .returned (.tuple #[.int .i64 (gradeS s set wt), .int .i64 0]) ∧ Below w.heap.size w w' := by
  have HBS := Lib.hid hbs
  have HV := Lib.hid hv
  have h8 : s.bs.length ≤ 60 := by have := (validSt_parts hv).1; omega
  have hset : isSetS s (set : Nat) = true := by
    unfold isSetS
    have : ((2 ^ s.bs.length : Nat) : Int) = (2 : Int) ^ s.bs.length := by simp
    simp only [Bool.and_eq_true, decide_eq_true_eq]
    omega
  obtain ⟨ao, cap, hbv, _⟩ := id hbs
  subst hbv
  have HP := Lib.hid (And.intro h1 (And.intro h2 (And.intro hwt (And.intro h8 hset))))
  obtain ⟨n, hn⟩ : ∃ n, n = s.bs.length := ⟨_, rfl⟩
  obtain ⟨fl, hfl⟩ : ∃ x, x = s.film.1 := ⟨_, rfl⟩
  obtain ⟨fh, hfh⟩ : ∃ x, x = s.film.2 := ⟨_, rfl⟩
  have HSV := Lib.hid (show stackV s (.slice ao n cap) = .agg #[.slice ao n cap, .int .i64 fl, .int .i64 fh] by unfold stackV; rw [← hfl, ← hfh])
  obtain ⟨lo, hi⟩ := wt
  have HWV := Lib.hid (show spV (lo, hi) = .agg #[.int .i64 lo, .int .i64 hi] from rfl)
  have HN := Lib.hid hn
  rw [← hn] at HBS
  unfold stackV spV
  rw [← hn, ← hfl, ← hfh]
  obtain ⟨gr, hgr⟩ : ∃ g, g = gradeS s set (lo, hi) := ⟨_, rfl⟩
  rw [← hgr]
  have HGR := Lib.hid hgr
  clear hbs hv hn hfl hfh h1 h2 hwt hset h8 hgr
  go_enter Tryz.func72, Tryz.ntmps72
  go_upto_region 1 with fail
  refine wp_name (fun W => W.heap[w.heap.size]? = some (.cells #[.slice ao n cap, .int .i64 fl, .int .i64 fh] 26 (0, 0)) ∧ W.heap[w.heap.size + 1]? = some (.cells #[.int .i64 lo, .int .i64 hi] 24 (0, 0)) ∧ Below w.heap.size w W) ⟨(by repeat (first | (refine heap_alloc_at _ _ _ ?_; (simp <;> omega); done) | (refine (hget_old _ _ _ ?_).trans ?_; · (simp <;> omega)))), (by repeat (first | (refine heap_alloc_at _ _ _ ?_; (simp <;> omega); done) | (refine (hget_old _ _ _ ?_).trans ?_; · (simp <;> omega)))), ((Below.refl _ _).alloc (Nat.le_refl _) _).alloc (by simp) _⟩ ?_
  rintro w0 ⟨h1, h2, hb⟩
  have HBw0 := Lib.hid hb
  have hS0 : SR4 w.heap.size (.slice ao n cap) fl fh lo hi w0 := ⟨by rw [cell_of_row _ _ _ _ _ _ h1]; rfl, by rw [cell_of_row _ _ _ _ _ _ h1]; rfl, by rw [cell_of_row _ _ _ _ _ _ h1]; rfl, by rw [cell_of_row _ _ _ _ _ _ h2]; rfl, by rw [cell_of_row _ _ _ _ _ _ h2]; rfl⟩
  have HS0 := Lib.hid hS0
  clear h1 h2 hb hS0
  refine wp_region_held_drew (S := SR4 w.heap.size (.slice ao n cap) fl fh lo hi) (by kernel_rfl) (HS0.out.below (Below.refl _ _).drew) fun hS => ?_
  obtain ⟨D, hD⟩ : ∃ D, D = World.drew w0 := ⟨_, rfl⟩
  have hAD : Below w0.heap.size w0 D := by rw [hD]; exact (Below.refl _ _).drew
  rw [← hD] at hS ⊢
  have HBD := Lib.hid (HBw0.out.trans (hAD.mono HBw0.out.size))
  clear hD hAD HS0
  refine wpAnyH_take (i := 0) (v := ?_) rfl (by kernel_rfl) (by kernel_rfl) (by kernel_rfl) (fun _ _ _ h => h) (Or.inl ⟨by rfl, ?_⟩) hS ?_
  rotate_left
  · (intro W hSw; obtain ⟨q0, q1, q2, q3, q4⟩ := hSw; go_simp; try with_reducible rfl)
  try simp only [List.getElem_toArray, List.getElem_cons_succ, List.getElem_cons_zero, Act.put, List.setIfInBounds_toArray, List.set_cons_zero, List.set_cons_succ]
  refine wpAnyH_take (i := 1) (v := ?_) rfl (by kernel_rfl) (by kernel_rfl) (by kernel_rfl) (fun _ _ _ h => h) (Or.inl ⟨by rfl, ?_⟩) hS ?_
  rotate_left
  · (intro W hSw; obtain ⟨q0, q1, q2, q3, q4⟩ := hSw; go_simp; try with_reducible rfl)
  try simp only [List.getElem_toArray, List.getElem_cons_succ, List.getElem_cons_zero, Act.put, List.setIfInBounds_toArray, List.set_cons_zero, List.set_cons_succ]
  refine wpAnyH_take (i := 2) (v := ?_) rfl (by kernel_rfl) (by kernel_rfl) (by kernel_rfl) (fun _ _ _ h => h) (Or.inl ⟨by rfl, ?_⟩) hS ?_
  rotate_left
  · (intro W hSw; obtain ⟨q0, q1, q2, q3, q4⟩ := hSw; go_simp; try with_reducible rfl)
  try simp only [List.getElem_toArray, List.getElem_cons_succ, List.getElem_cons_zero, Act.put, List.setIfInBounds_toArray, List.set_cons_zero, List.set_cons_succ]
  have hc := r4set_any s HP.out.2.2.2.1 (set : Nat) (.slice ao n cap) ⟨ao, cap, by rw [HN.out]⟩ D
  rw [HSV.out, HP.out.2.2.2.2] at hc
  refine wpAnyH_call (k := 3) (by kernel_rfl) rfl rfl (f := 71) (args := #[.agg #[.slice ao n cap, .int .i64 fl, .int .i64 fh], .int .i64 set]) (by simp [execOp, go_sem, Act.eval, Act.put]) ?_
  refine hc.mono ?_
  rintro e w1 ⟨rfl, hb⟩
  clear hc
  dsimp only
  have HBw1 := Lib.hid (HBD.out.trans (hb.mono HBD.out.size))
  have hS9 := hS.below hb
  clear hb hS
  refine ⟨hS9, ?_⟩
  have hS := hS9
  clear hS9
  try simp only [List.getElem_toArray, List.getElem_cons_succ, List.getElem_cons_zero, Act.put, List.setIfInBounds_toArray, List.set_cons_zero, List.set_cons_succ]
  refine wpAnyH_take (i := 4) (v := ?_) rfl (by kernel_rfl) (by kernel_rfl) (by kernel_rfl) (fun _ _ _ h => h) (Or.inl ⟨by rfl, ?_⟩) hS ?_
  rotate_left
  · (intro W hSw; obtain ⟨q0, q1, q2, q3, q4⟩ := hSw; go_simp; try with_reducible rfl)
  try simp only [List.getElem_toArray, List.getElem_cons_succ, List.getElem_cons_zero, Act.put, List.setIfInBounds_toArray, List.set_cons_zero, List.set_cons_succ]
  refine wpAnyH_take (i := 5) (v := ?_) rfl (by kernel_rfl) (by kernel_rfl) (by kernel_rfl) (fun _ _ _ h => h) (Or.inl ⟨by rfl, ?_⟩) hS ?_
  rotate_left
  · (intro W hSw; obtain ⟨q0, q1, q2, q3, q4⟩ := hSw; go_simp; try with_reducible rfl)
  try simp only [List.getElem_toArray, List.getElem_cons_succ, List.getElem_cons_zero, Act.put, List.setIfInBounds_toArray, List.set_cons_zero, List.set_cons_succ]
  have hc := r4want_any (lo, hi) w1
  rw [HWV.out, HP.out.2.2.1] at hc
  refine wpAnyH_call (k := 6) (by kernel_rfl) rfl rfl (f := 62) (args := #[.agg #[.int .i64 lo, .int .i64 hi]]) (by simp [execOp, go_sem, Act.eval, Act.put]) ?_
  refine hc.mono ?_
  rintro e w2 ⟨rfl, hb⟩
  clear hc
  dsimp only
  have HBw2 := Lib.hid (HBw1.out.trans (hb.mono HBw1.out.size))
  have hS9 := hS.below hb
  clear hb hS
  refine ⟨hS9, ?_⟩
  have hS := hS9
  clear hS9
  try simp only [List.getElem_toArray, List.getElem_cons_succ, List.getElem_cons_zero, Act.put, List.setIfInBounds_toArray, List.set_cons_zero, List.set_cons_succ]
  refine wpAnyH_take (i := 7) (v := ?_) rfl (by kernel_rfl) (by kernel_rfl) (by kernel_rfl) (fun _ _ _ h => h) (Or.inl ⟨by rfl, ?_⟩) hS ?_
  rotate_left
  · (intro W hSw; obtain ⟨q0, q1, q2, q3, q4⟩ := hSw; go_simp; try with_reducible rfl)
  try simp only [List.getElem_toArray, List.getElem_cons_succ, List.getElem_cons_zero, Act.put, List.setIfInBounds_toArray, List.set_cons_zero, List.set_cons_succ]
  have hc := r4check_any s HV.out (.slice ao n cap) w2 (by rw [HN.out] at HBS ⊢; exact (HBS.out.later HBw2.out.size (fun k h1 _ => HBw2.out.block k h1)).low)
  rw [HSV.out] at hc
  refine wpAnyH_call (k := 8) (by kernel_rfl) rfl rfl (f := 91) (args := #[.agg #[.slice ao n cap, .int .i64 fl, .int .i64 fh], .bool true]) (by simp [execOp, go_sem, Act.eval, Act.put]) ?_
  refine hc.mono ?_
  rintro e w3 ⟨rfl, hb⟩
  clear hc
  dsimp only
  have HBw3 := Lib.hid (HBw2.out.trans (hb.mono HBw2.out.size))
  have hS9 := hS.below hb
  clear hb hS
  refine ⟨hS9, ?_⟩
  have hS := hS9
  clear hS9
  try simp only [List.getElem_toArray, List.getElem_cons_succ, List.getElem_cons_zero, Act.put, List.setIfInBounds_toArray, List.set_cons_zero, List.set_cons_succ]
  refine wpAnyH_take (i := 9) (v := ?_) rfl (by kernel_rfl) (by kernel_rfl) (by kernel_rfl) (fun _ _ _ h => h) (Or.inl ⟨by rfl, ?_⟩) hS ?_
  rotate_left
  · (intro W hSw; obtain ⟨q0, q1, q2, q3, q4⟩ := hSw; go_simp; try with_reducible rfl)
  try simp only [List.getElem_toArray, List.getElem_cons_succ, List.getElem_cons_zero, Act.put, List.setIfInBounds_toArray, List.set_cons_zero, List.set_cons_succ]
  refine wpAnyH_done (by kernel_rfl) ?_ _
  try simp only [List.getElem_toArray, List.getElem_cons_succ, List.getElem_cons_zero, Act.put, List.setIfInBounds_toArray, List.set_cons_zero, List.set_cons_succ]
  obtain ⟨c0, c1, c2, c3, c4⟩ := id hS
  clear hS
  go_wp2_with fail
  have hc := r4right_any s HV.out set HP.out.1 HP.out.2.1 (lo, hi) (.slice ao n cap) w3 (by rw [HN.out] at HBS ⊢; exact (HBS.out.later HBw3.out.size (fun k h1 _ => HBw3.out.block k h1)).low)
  rw [HSV.out, HWV.out, ← HGR.out] at hc
  refine hc.mono ?_
  rintro e w4 ⟨rfl, hb⟩
  clear hc c0 c1 c2 c3 c4
  dsimp only
  have HBw4 := Lib.hid (HBw3.out.trans (hb.mono HBw3.out.size))
  clear hb
  go_wp2_with fail
  exact bodyPost_ret (v := .tuple #[.int .i64 gr, .int .i64 0]) (by simp [results, Tryz.results72, go_sem]) rfl ⟨rfl, HBw4.out⟩
end Go.Proofs.YtbmfphiecllggaaGreatDoor

/- The reference of jobs, walked: Common, Broken. -/
namespace Go.Proofs.YtbmfphiecllggaaGreatDoor
set_option linter.unusedVariables false
set_option linter.unusedSimpArgs false
open Go.RowKit Go.Shelf
attribute [local go_sem] Oper.semAt_some

set_option maxHeartbeats 4000000 in
theorem r12common_any (a b : Nat) (ha : a < 256) (hb : b < 256) (w : World) :
    Calls Tryz.prog 73 #[.int .i64 a, .int .i64 b] w fun e w' => e = .returned (.bool (decide (a &&& b ≠ 0))) ∧ w = w' := by
  obtain ⟨g, hg⟩ : ∃ g, g = decide (a &&& b ≠ 0) := ⟨_, rfl⟩
  rw [← hg]
  have HG := Lib.hid hg
  clear hg
  go_enter Tryz.func73, Tryz.ntmps73
  go_wp2_with fail
  go_loopw [0, 5] (fun av iv wr => ∃ i k : Nat, i ≤ 8 ∧ iv = .int .i64 i ∧ av = .int .i64 k ∧ k = a / 2 ^ i ∧ (∀ q, q < i → a.testBit q = true → b.testBit q = false) ∧ w = wr) (fun av _ _ => (intOf av).toNat)
  case atStart => exact ⟨0, a, by omega, rfl, rfl, by simp, fun q h => absurd h (by omega), rfl⟩
  case round =>
    obtain ⟨i, k, hi, rfl, rfl, hk, hall, rfl⟩ := hrel
    by_cases h0 : k = 0
    · have hgf : g = false := by
        rw [HG.out, decide_eq_false_iff_not, Classical.not_not]
        apply Nat.eq_of_testBit_eq
        intro q
        rw [Nat.testBit_and, Nat.zero_testBit]
        by_cases hq : q < i
        · cases hab : a.testBit q with
          | false => rfl
          | true => rw [hall q hq hab]; rfl
        · have hlt : a < 2 ^ i := by
            rw [h0] at hk
            have hpos := Nat.two_pow_pos i
            rcases Nat.div_eq_zero_iff.1 hk.symm with h | h
            · omega
            · exact h
          rw [Nat.testBit_lt_two_pow (Nat.lt_of_lt_of_le hlt (Nat.pow_le_pow_right (by decide) (by omega)))]; rfl
      subst hgf h0
      clear HG hk hall
      go_wp2
      go_ret
      exact ⟨rfl, rfl⟩
    · have hk256 : k < 256 := by rw [hk]; exact Nat.lt_of_le_of_lt (Nat.div_le_self _ _) ha
      have hi8 : i < 8 := by
        apply Classical.byContradiction
        intro hn
        have : 2 ^ 8 ≤ 2 ^ i := Nat.pow_le_pow_right (by decide) (by omega)
        have : a / 2 ^ i = 0 := Nat.div_eq_of_lt (by omega)
        omega
      have hbit : a.testBit i = decide (k % 2 = 1) := by rw [Nat.testBit_eq_decide_div_mod_eq, hk]
      have hk2 : k / 2 = a / 2 ^ (i + 1) := by rw [hk, Nat.pow_succ, Nat.div_div_eq_div_mul]
      have hpos : (0 : Int) < (k : Int) := by omega
      obtain ⟨q, hq⟩ : ∃ q, q = k / 2 := ⟨_, rfl⟩
      have hqa : q < 256 ∧ q < k := by omega
      obtain ⟨r, hr⟩ : ∃ r, r = k % 2 := ⟨_, rfl⟩
      have hr2 : r = 0 ∨ r = 1 := by omega
      have hrm : (k : Int).tmod 2 = (r : Int) := by rw [Int.tmod_eq_emod_of_nonneg (by omega)]; omega
      have hrm2 : (k : Int) % 2 = (r : Int) := by omega
      have hqd : (k : Int).tdiv 2 = (q : Int) := by rw [Int.tdiv_eq_ediv_of_nonneg (by omega)]; omega
      have hqd2 : (k : Int) / 2 = (q : Int) := by omega
      have hw2 : IntKind.i64.wrap (q : Int) = (q : Int) := IntWalk.i64_in _ (by omega)
      have hw3 : wrap64 (q : Int) = (q : Int) := by unfold wrap64; omega
      have hwi : IntKind.i64.wrap ((i : Int) + 1) = ((i + 1 : Nat) : Int) := by rw [IntWalk.i64_in _ (by omega)]; omega
      rw [← hr] at hbit
      rw [← hq] at hk2
      have HALL := Lib.hid hall
      have HK2 := Lib.hid (And.intro hk2 hqa.2)
      have HBIT := Lib.hid hbit
      clear hk hq hr hk2 hall hbit hqa
      rcases hr2 with rfl | rfl
      · go_wp2
        refine ⟨⟨i + 1, q, hi8, by push_cast; rfl, by rfl, HK2.out.1, fun x hx hax => ?_, by first | rfl | trivial⟩, HK2.out.2⟩
        by_cases hxi : x < i
        · exact HALL.out x hxi hax
        · rw [show x = i by omega, HBIT.out] at hax
          cases hax
      · go_wp2_with fail
        refine (r12has_any b i hb (by omega) w).mono ?_
        rintro e w' ⟨rfl, rfl⟩
        dsimp only
        cases hbb : b.testBit i with
        | true =>
          have hgt : g = true := by
            rw [HG.out, decide_eq_true_iff]
            intro h
            have := congrArg (fun x => x.testBit i) h
            rw [Nat.testBit_and, HBIT.out, hbb] at this
            simp at this
          subst hgt
          clear HG hbb
          go_wp2
          go_ret
          exact ⟨rfl, rfl⟩
        | false =>
          have HBB := Lib.hid hbb
          clear hbb
          go_wp2
          refine ⟨⟨i + 1, q, hi8, by push_cast; rfl, by rfl, HK2.out.1, fun x hx hax => ?_, by first | rfl | trivial⟩, HK2.out.2⟩
          by_cases hxi : x < i
          · exact HALL.out x hxi hax
          · rw [show x = i by omega]; exact HBB.out
end Go.Proofs.YtbmfphiecllggaaGreatDoor

/- The reference of jobs, walked: Broken. -/
namespace Go.Proofs.YtbmfphiecllggaaGreatDoor
set_option linter.unusedVariables false
set_option linter.unusedSimpArgs false
open Go.RowKit Go.Shelf
attribute [local go_sem] Oper.semAt_some

theorem or_zero (a b : Nat) : a ||| b = 0 ↔ a = 0 ∧ b = 0 := by
  constructor
  · intro h
    constructor
    · apply Nat.eq_of_testBit_eq
      intro i
      have := congrArg (fun x => x.testBit i) h
      simp only [Nat.testBit_or, Nat.zero_testBit, Bool.or_eq_false_iff] at this
      rw [this.1, Nat.zero_testBit]
    · apply Nat.eq_of_testBit_eq
      intro i
      have := congrArg (fun x => x.testBit i) h
      simp only [Nat.testBit_or, Nat.zero_testBit, Bool.or_eq_false_iff] at this
      rw [this.2, Nat.zero_testBit]
  · rintro ⟨rfl, rfl⟩; rfl
theorem fold_and (s : Nat) : ∀ (l : List Nat) (u : Nat), l.foldl (· ||| ·) u &&& s = 0 ↔ u &&& s = 0 ∧ ∀ x ∈ l, x &&& s = 0
  | [], u => by simp
  | x :: l, u => by
    rw [List.foldl_cons, fold_and s l (u ||| x), Nat.and_or_distrib_right, or_zero]
    simp only [List.mem_cons, forall_eq_or_imp]
    exact and_assoc
theorem union_and (s : Nat) (l : List Nat) : unionJ l &&& s = 0 ↔ ∀ x ∈ l, x &&& s = 0 := by
  unfold unionJ
  rw [fold_and]
  simp
theorem broken_at {j : JobD} {p : List Nat} {i : Nat} (h : i < p.length) (h' : i < j.ws.length) : brokenL j p i = if p[i] ∉ rightsS j.st j.ws[i] then 1 else if unionJ (p.take i) &&& p[i] ≠ 0 then 2 else 0 := by
  unfold brokenL
  rw [getD_lt p 0 i h, getD_lt j.ws (0, 0) i h']
theorem grade_right9 {j : JobD} (hv : validJb j = true) {s : Nat} (hs : 1 ≤ s ∧ s < 2 ^ j.st.bs.length) (w : Int × Int) : gradeS j.st s w = 2 ↔ s ∈ rightsS j.st w := by
  rw [grade_two (validJb_parts hv).1]
  constructor
  · intro h
    exact mem_rightsJ.2 ⟨hs.2, by omega, h⟩
  · intro h
    exact (mem_rightsJ.1 h).2.2
/-- What Broken reads. -/
def SB1 (x : Nat) (v0 v3 : Value) (f1 f2 : Int) (pb po i s : Nat) (b off : Nat) (lo hi : Int) (Y : World) : Prop :=
  Y.cell? ⟨x, 0, none⟩ = some v0 ∧ Y.cell? ⟨x, 1, none⟩ = some (.int .i64 f1) ∧ Y.cell? ⟨x, 2, none⟩ = some (.int .i64 f2) ∧ Y.cell? ⟨x, 3, none⟩ = some v3 ∧ Y.cell? ⟨pb, po + i, none⟩ = some (.int .i64 s) ∧ Y.cell? ⟨b, off + i * 2, none⟩ = some (.int .i64 lo) ∧ Y.cell? ⟨b, off + i * 2 + 1, none⟩ = some (.int .i64 hi)
theorem SB1.below {x : Nat} {v0 v3 : Value} {f1 f2 : Int} {pb po i s b off : Nat} {lo hi : Int} {Y Y' : World} (h : SB1 x v0 v3 f1 f2 pb po i s b off lo hi Y) (hb : Below Y.heap.size Y Y') : SB1 x v0 v3 f1 f2 pb po i s b off lo hi Y' :=
  ⟨cell_below h.1 hb, cell_below h.2.1 hb, cell_below h.2.2.1 hb, cell_below h.2.2.2.1 hb, cell_below h.2.2.2.2.1 hb, cell_below h.2.2.2.2.2.1 hb, cell_below h.2.2.2.2.2.2 hb⟩
def SB2 (pb po i k s t : Nat) (Y : World) : Prop := Y.cell? ⟨pb, po + i, none⟩ = some (.int .i64 s) ∧ Y.cell? ⟨pb, po + k, none⟩ = some (.int .i64 t)
set_option maxRecDepth 100000 in
set_option maxHeartbeats 4000000 in
theorem r12broken_any (j : JobD) (hv : validJb j = true) (p : List Nat) (hp : ∀ s ∈ p, 1 ≤ s ∧ s < 2 ^ j.st.bs.length) (i : Nat) (hi : i < p.length) (hiw : i < j.ws.length) (bs ws v : Value) (w : World)
    (hbs : SpansAt w bs j.st.bs (fun k => k < w.heap.size)) (hws : SpansAt w ws j.ws (fun k => k < w.heap.size)) (hpv : NumsAt w v (p.map fun s : Nat => (s : Int)) (fun k => k < w.heap.size)) :
    Calls Tryz.prog 35 #[jobV j bs ws, v, .int .i64 i] w fun e w' => e = .returned (.int .i64 (brokenL j p i : Nat)) ∧ Below w.heap.size w w' := by
  have HBS := Lib.hid hbs
  have HWS := Lib.hid hws
  have HPV := Lib.hid hpv
  have HP := Lib.hid hp
  have HV := Lib.hid hv
  have hi4 : i < 4 := Nat.lt_of_lt_of_le hiw (validJb_parts hv).2.1
  have hsp := hp p[i] (List.getElem_mem hi)
  have hwo : wantOk j.ws[i] = true := (validJb_parts hv).2.2 _ (List.getElem_mem hiw)
  have hgr := grade_right9 hv hsp j.ws[i]
  have hbr := broken_at (j := j) hi hiw
  have h8 := (validSt_parts (validJb_parts hv).1).1
  obtain ⟨ao, cap, hv1, _⟩ := id hbs
  obtain ⟨ao2, cap2, hv2, _, _, hel⟩ := id hws
  obtain ⟨ao3, cap3, hv3, _, _, hel3⟩ := id hpv
  subst hv1 hv2 hv3
  obtain ⟨wb, wo, rfl, _, hwl, e7, e8⟩ := hel i hiw
  obtain ⟨pb, po, rfl, _, hpl, e6⟩ := hel3 i (by rw [List.length_map]; exact hi)
  rw [List.getElem_map] at e6
  have hpk : ∀ k (h : k < p.length), w.cell? ⟨pb, po + k, none⟩ = some (.int .i64 (p[k] : Nat)) := fun k h => by
    obtain ⟨b', o', e1, _, _, e3⟩ := hel3 k (by rw [List.length_map]; exact h)
    injection e1 with e1
    injection e1 with e1 e2 _
    subst e1 e2
    rw [List.getElem_map] at e3
    exact e3
  rw [List.length_map] at HPV ⊢
  obtain ⟨nb, hnb⟩ : ∃ n, n = j.st.bs.length := ⟨_, rfl⟩
  obtain ⟨nw, hnw⟩ : ∃ n, n = j.ws.length := ⟨_, rfl⟩
  obtain ⟨np, hnp⟩ : ∃ n, n = p.length := ⟨_, rfl⟩
  obtain ⟨fl, hfl⟩ : ∃ x, x = j.st.film.1 := ⟨_, rfl⟩
  obtain ⟨fh, hfh⟩ : ∃ x, x = j.st.film.2 := ⟨_, rfl⟩
  obtain ⟨⟨lo, hi9⟩, hwant⟩ : ∃ y, y = j.ws[i] := ⟨_, rfl⟩
  obtain ⟨s, hs⟩ : ∃ y, y = p[i] := ⟨_, rfl⟩
  obtain ⟨br, hbre⟩ : ∃ y, y = brokenL j p i := ⟨_, rfl⟩
  rw [← hs] at e6 hsp hgr hbr
  rw [← hwant] at e7 e8 hwo hgr hbr
  rw [← hbre] at hbr ⊢
  have hsv : stackV j.st (.slice ao nb cap) = .agg #[.slice ao nb cap, .int .i64 fl, .int .i64 fh] := by unfold stackV; rw [← hfl, ← hfh]
  have HSV := Lib.hid hsv
  have HBR := Lib.hid (And.intro hbr (And.intro hgr (And.intro hsp hwo)))
  have HPK := Lib.hid hpk
  have HPL := Lib.hid hpl
  have hs256 : s < 256 := Nat.lt_of_lt_of_le hsp.2 (Nat.pow_le_pow_right (by decide) h8 : _ ≤ 2 ^ 8)
  have hinw : i < nw := by rw [hnw]; exact hiw
  have hinp : i < np := by rw [hnp]; exact hi
  have hini : (i : Int) < (nw : Int) := by omega
  have hinpi : (i : Int) < (np : Int) := by omega
  have hi0 : 0 ≤ (i : Int) := by omega
  have HI := Lib.hid (And.intro hi hnp)
  unfold jobV
  rw [← hnb, ← hnw, ← hnp, ← hfl, ← hfh]
  rw [← hnb] at HBS
  have HXE := Lib.hid (And.intro e6 (And.intro e7 e8))
  clear hbs hws hpv hp hv hsp hwo hgr hbr h8 hel hel3 hwl hpl e6 e7 e8 hpk hnw hnp hfl hfh hwant hs hbre hsv hi hiw
  have HNB := Lib.hid hnb
  clear hnb
  go_enter Tryz.func35, Tryz.ntmps35
  go_upto_region 1 with fail
  refine wp_name (fun W => W.heap[w.heap.size]? = some (.cells #[.slice ao nb cap, .int .i64 fl, .int .i64 fh, .slice (some ⟨wb, wo, none⟩) nw cap2] 28 (0, 0)) ∧ Below w.heap.size w W) ⟨heap_alloc_at _ _ _ rfl, Below.alloc' _ _⟩ ?_
  rintro w0 ⟨h1, hb⟩
  have HBw0 := Lib.hid hb
  have hS0 : SB1 w.heap.size (.slice ao nb cap) (.slice (some ⟨wb, wo, none⟩) nw cap2) fl fh pb po i s wb wo lo hi9 w0 := ⟨by rw [cell_of_row _ _ _ _ _ _ h1]; rfl, by rw [cell_of_row _ _ _ _ _ _ h1]; rfl, by rw [cell_of_row _ _ _ _ _ _ h1]; rfl, by rw [cell_of_row _ _ _ _ _ _ h1]; rfl, cell_below HXE.out.1 hb, cell_below HXE.out.2.1 hb, cell_below HXE.out.2.2 hb⟩
  have HS0 := Lib.hid hS0
  clear h1 hb hS0
  refine wp_region_held_drew (S := SB1 w.heap.size (.slice ao nb cap) (.slice (some ⟨wb, wo, none⟩) nw cap2) fl fh pb po i s wb wo lo hi9) (by kernel_rfl) (HS0.out.below (Below.refl _ _).drew) fun hS => ?_
  obtain ⟨D, hD⟩ : ∃ D, D = World.drew w0 := ⟨_, rfl⟩
  have hAD : Below w0.heap.size w0 D := by rw [hD]; exact (Below.refl _ _).drew
  rw [← hD] at hS ⊢
  have HBD := Lib.hid (HBw0.out.trans (hAD.mono HBw0.out.size))
  clear hD hAD HS0
  refine wpAnyH_take (i := 0) (v := ?_) rfl (by kernel_rfl) (by kernel_rfl) (by kernel_rfl) (fun _ _ _ h => h) (Or.inl ⟨by rfl, ?_⟩) hS ?_
  rotate_left
  · (intro W hSw; obtain ⟨q0, q1, q2, q3, q4, q5, q6⟩ := hSw; go_simp; try with_reducible rfl)
  try simp only [List.getElem_toArray, List.getElem_cons_succ, List.getElem_cons_zero, Act.put, List.setIfInBounds_toArray, List.set_cons_zero, List.set_cons_succ]
  refine wpAnyH_take (i := 1) (v := ?_) rfl (by kernel_rfl) (by kernel_rfl) (by kernel_rfl) (fun _ _ _ h => h) (Or.inl ⟨by rfl, ?_⟩) hS ?_
  rotate_left
  · (intro W hSw; obtain ⟨q0, q1, q2, q3, q4, q5, q6⟩ := hSw; go_simp; try with_reducible rfl)
  try simp only [List.getElem_toArray, List.getElem_cons_succ, List.getElem_cons_zero, Act.put, List.setIfInBounds_toArray, List.set_cons_zero, List.set_cons_succ]
  refine wpAnyH_take (i := 2) (v := ?_) rfl (by kernel_rfl) (by kernel_rfl) (by kernel_rfl) (fun _ _ _ h => h) (Or.inl ⟨by rfl, ?_⟩) hS ?_
  rotate_left
  · (intro W hSw; obtain ⟨q0, q1, q2, q3, q4, q5, q6⟩ := hSw; go_simp; try with_reducible rfl)
  try simp only [List.getElem_toArray, List.getElem_cons_succ, List.getElem_cons_zero, Act.put, List.setIfInBounds_toArray, List.set_cons_zero, List.set_cons_succ]
  refine wpAnyH_take (i := 3) (v := ?_) rfl (by kernel_rfl) (by kernel_rfl) (by kernel_rfl) (fun _ _ _ h => h) (Or.inl ⟨by rfl, ?_⟩) hS ?_
  rotate_left
  · (intro W hSw; obtain ⟨q0, q1, q2, q3, q4, q5, q6⟩ := hSw; go_simp; try with_reducible rfl)
  try simp only [List.getElem_toArray, List.getElem_cons_succ, List.getElem_cons_zero, Act.put, List.setIfInBounds_toArray, List.set_cons_zero, List.set_cons_succ]
  refine wpAnyH_take (i := 4) (v := ?_) rfl (by kernel_rfl) (by kernel_rfl) (by kernel_rfl) (fun _ _ _ h => h) (Or.inl ⟨by rfl, ?_⟩) hS ?_
  rotate_left
  · (intro W hSw; obtain ⟨q0, q1, q2, q3, q4, q5, q6⟩ := hSw; go_simp; try with_reducible rfl)
  try simp only [List.getElem_toArray, List.getElem_cons_succ, List.getElem_cons_zero, Act.put, List.setIfInBounds_toArray, List.set_cons_zero, List.set_cons_succ]
  refine wpAnyH_take (i := 5) (v := ?_) rfl (by kernel_rfl) (by kernel_rfl) (by kernel_rfl) (fun _ _ _ h => h) (Or.inl ⟨by rfl, ?_⟩) hS ?_
  rotate_left
  · (intro W hSw; obtain ⟨q0, q1, q2, q3, q4, q5, q6⟩ := hSw; go_simp; try with_reducible rfl)
  try simp only [List.getElem_toArray, List.getElem_cons_succ, List.getElem_cons_zero, Act.put, List.setIfInBounds_toArray, List.set_cons_zero, List.set_cons_succ]
  refine wpAnyH_take (i := 6) (v := ?_) rfl (by kernel_rfl) (by kernel_rfl) (by kernel_rfl) (fun _ _ _ h => h) (Or.inl ⟨by rfl, ?_⟩) hS ?_
  rotate_left
  · (intro W hSw; obtain ⟨q0, q1, q2, q3, q4, q5, q6⟩ := hSw; go_simp; try with_reducible rfl)
  try simp only [List.getElem_toArray, List.getElem_cons_succ, List.getElem_cons_zero, Act.put, List.setIfInBounds_toArray, List.set_cons_zero, List.set_cons_succ]
  refine wpAnyH_take (i := 7) (v := ?_) rfl (by kernel_rfl) (by kernel_rfl) (by kernel_rfl) (fun _ _ _ h => h) (Or.inl ⟨by rfl, ?_⟩) hS ?_
  rotate_left
  · (intro W hSw; obtain ⟨q0, q1, q2, q3, q4, q5, q6⟩ := hSw; go_simp; try with_reducible rfl)
  try simp only [List.getElem_toArray, List.getElem_cons_succ, List.getElem_cons_zero, Act.put, List.setIfInBounds_toArray, List.set_cons_zero, List.set_cons_succ]
  refine wpAnyH_take (i := 8) (v := ?_) rfl (by kernel_rfl) (by kernel_rfl) (by kernel_rfl) (fun _ _ _ h => h) (Or.inl ⟨by rfl, ?_⟩) hS ?_
  rotate_left
  · (intro W hSw; obtain ⟨q0, q1, q2, q3, q4, q5, q6⟩ := hSw; go_simp; try with_reducible rfl)
  try simp only [List.getElem_toArray, List.getElem_cons_succ, List.getElem_cons_zero, Act.put, List.setIfInBounds_toArray, List.set_cons_zero, List.set_cons_succ]
  refine wpAnyH_take (i := 9) (v := ?_) rfl (by kernel_rfl) (by kernel_rfl) (by kernel_rfl) (fun _ _ _ h => h) (Or.inl ⟨by rfl, ?_⟩) hS ?_
  rotate_left
  · (intro W hSw; obtain ⟨q0, q1, q2, q3, q4, q5, q6⟩ := hSw; go_simp; try with_reducible rfl)
  try simp only [List.getElem_toArray, List.getElem_cons_succ, List.getElem_cons_zero, Act.put, List.setIfInBounds_toArray, List.set_cons_zero, List.set_cons_succ]
  refine wpAnyH_take (i := 10) (v := ?_) rfl (by kernel_rfl) (by kernel_rfl) (by kernel_rfl) (fun _ _ _ h => h) (Or.inl ⟨by rfl, ?_⟩) hS ?_
  rotate_left
  · (intro W hSw; obtain ⟨q0, q1, q2, q3, q4, q5, q6⟩ := hSw; go_simp; try with_reducible rfl)
  try simp only [List.getElem_toArray, List.getElem_cons_succ, List.getElem_cons_zero, Act.put, List.setIfInBounds_toArray, List.set_cons_zero, List.set_cons_succ]
  have hc := r4Right_any j.st (validJb_parts HV.out).1 s HBR.out.2.2.1.1 HBR.out.2.2.1.2 (lo, hi9) HBR.out.2.2.2 (.slice ao nb cap) D (by rw [HNB.out] at HBS ⊢; exact (HBS.out.later HBD.out.size (fun k h1 _ => HBD.out.block k h1)).low)
  obtain ⟨gr, hgre⟩ : ∃ g, g = gradeS j.st s (lo, hi9) := ⟨_, rfl⟩
  rw [HSV.out, ← hgre] at hc
  have HGR := Lib.hid hgre
  refine wpAnyH_call (k := 11) (by kernel_rfl) rfl rfl (f := 72) (args := #[.agg #[.slice ao nb cap, .int .i64 fl, .int .i64 fh], .int .i64 s, .agg #[.int .i64 lo, .int .i64 hi9]]) (by simp [execOp, go_sem, Act.eval, Act.put]) ?_
  refine hc.mono ?_
  rintro e w1 ⟨rfl, hb⟩
  clear hc hgre
  dsimp only
  have HBw1 := Lib.hid (HBD.out.trans (hb.mono HBD.out.size))
  have hS1 := hS.below hb
  clear hb hS
  refine ⟨hS1, ?_⟩
  have hS := hS1
  clear hS1
  try simp only [List.getElem_toArray, List.getElem_cons_succ, List.getElem_cons_zero, Act.put, List.setIfInBounds_toArray, List.set_cons_zero, List.set_cons_succ]
  refine wpAnyH_take (i := 12) (v := ?_) rfl (by kernel_rfl) (by kernel_rfl) (by kernel_rfl) (fun _ _ _ h => h) (Or.inl ⟨by rfl, ?_⟩) hS ?_
  rotate_left
  · (intro W hSw; obtain ⟨q0, q1, q2, q3, q4, q5, q6⟩ := hSw; go_simp; try with_reducible rfl)
  try simp only [List.getElem_toArray, List.getElem_cons_succ, List.getElem_cons_zero, Act.put, List.setIfInBounds_toArray, List.set_cons_zero, List.set_cons_succ]
  refine wpAnyH_take (i := 13) (v := ?_) rfl (by kernel_rfl) (by kernel_rfl) (by kernel_rfl) (fun _ _ _ h => h) (Or.inl ⟨by rfl, ?_⟩) hS ?_
  rotate_left
  · (intro W hSw; obtain ⟨q0, q1, q2, q3, q4, q5, q6⟩ := hSw; go_simp; try with_reducible rfl)
  try simp only [List.getElem_toArray, List.getElem_cons_succ, List.getElem_cons_zero, Act.put, List.setIfInBounds_toArray, List.set_cons_zero, List.set_cons_succ]
  refine wpAnyH_take (i := 14) (v := ?_) rfl (by kernel_rfl) (by kernel_rfl) (by kernel_rfl) (fun _ _ _ h => h) (Or.inl ⟨by rfl, ?_⟩) hS ?_
  rotate_left
  · (intro W hSw; obtain ⟨q0, q1, q2, q3, q4, q5, q6⟩ := hSw; go_simp; try with_reducible rfl)
  try simp only [List.getElem_toArray, List.getElem_cons_succ, List.getElem_cons_zero, Act.put, List.setIfInBounds_toArray, List.set_cons_zero, List.set_cons_succ]
  refine wpAnyH_take (i := 15) (v := ?_) rfl (by kernel_rfl) (by kernel_rfl) (by kernel_rfl) (fun _ _ _ h => h) (Or.inl ⟨by rfl, ?_⟩) hS ?_
  rotate_left
  · (intro W hSw; obtain ⟨q0, q1, q2, q3, q4, q5, q6⟩ := hSw; go_simp; try with_reducible rfl)
  try simp only [List.getElem_toArray, List.getElem_cons_succ, List.getElem_cons_zero, Act.put, List.setIfInBounds_toArray, List.set_cons_zero, List.set_cons_succ]
  refine wpAnyH_take (i := 16) (v := ?_) rfl (by kernel_rfl) (by kernel_rfl) (by kernel_rfl) (fun _ _ _ h => h) (Or.inl ⟨by rfl, ?_⟩) hS ?_
  rotate_left
  · (intro W hSw; obtain ⟨q0, q1, q2, q3, q4, q5, q6⟩ := hSw; go_simp; try with_reducible rfl)
  try simp only [List.getElem_toArray, List.getElem_cons_succ, List.getElem_cons_zero, Act.put, List.setIfInBounds_toArray, List.set_cons_zero, List.set_cons_succ]
  refine wpAnyH_done (by kernel_rfl) ?_ _
  try simp only [List.getElem_toArray, List.getElem_cons_succ, List.getElem_cons_zero, Act.put, List.setIfInBounds_toArray, List.set_cons_zero, List.set_cons_succ]
  clear hS
  by_cases hr : s ∈ rightsS j.st (lo, hi9)
  · have hg2 : gr = 2 := by rw [HGR.out]; exact HBR.out.2.1.2 hr
    subst hg2
    have hbr := HBR.out.1
    rw [if_neg (fun h => h hr)] at hbr
    have HB2 := Lib.hid hbr
    clear hr hbr
    go_wp2_with fail
    go_loopw [9] (fun iv wr => ∃ k : Nat, k ≤ i ∧ iv = .int .i64 k ∧ Below w.heap.size w wr ∧ ∀ q (h : q < p.length), q < k → p[q] &&& s = 0) (fun iv _ => i - (intOf iv).toNat)
    case atStart => exact ⟨0, Nat.zero_le _, rfl, HBw1.out, fun q _ h => absurd h (by omega)⟩
    case round =>
      obtain ⟨k, hk, rfl, hb, hall⟩ := hrel
      have HB := Lib.hid hb
      have HALL := Lib.hid hall
      clear hb hall
      by_cases hlt : k < i
      · have hw : IntKind.i64.wrap ((k : Int) + 1) = ((k + 1 : Nat) : Int) := by rw [IntWalk.i64_in _ (by omega)]; omega
        have hlti : (k : Int) < (i : Int) := by omega
        have hk0 : 0 ≤ (k : Int) := by omega
        have hknp : k < np := by omega
        have hknpi : (k : Int) < (np : Int) := by omega
        have hkl : k < p.length := by rw [← HI.out.2]; exact hknp
        have e9 := HPK.out k hkl
        have htp := HP.out p[k] (List.getElem_mem hkl)
        obtain ⟨t, ht⟩ : ∃ y, y = p[k] := ⟨_, rfl⟩
        rw [← ht] at e9 htp
        have ht256 : t < 256 := Nat.lt_of_lt_of_le htp.2 (Nat.pow_le_pow_right (by decide) (validSt_parts (validJb_parts HV.out).1).1 : _ ≤ 2 ^ 8)
        have HT := Lib.hid ht
        have hS0 : SB2 pb po i k s t wr := ⟨(HB.out.cell HPL.out).trans HXE.out.1, (HB.out.cell HPL.out).trans e9⟩
        have HS0 := Lib.hid hS0
        clear e9 htp ht hS0
        go_upto_region 7 with fail
        refine wp_region_held_drew (S := SB2 pb po i k s t) (by kernel_rfl) (show SB2 pb po i k s t wr.drew from HS0.out) fun hS => ?_
        obtain ⟨D, hD⟩ : ∃ D, D = World.drew wr := ⟨_, rfl⟩
        have hAD : Below wr.heap.size wr D := by rw [hD]; exact (Below.refl _ _).drew
        rw [← hD] at hS ⊢
        have HBD := Lib.hid (HB.out.trans (hAD.mono HB.out.size))
        clear hD hAD HS0
        refine wpAnyH_take (i := 0) (v := ?_) rfl (by kernel_rfl) (by kernel_rfl) (by kernel_rfl) (fun _ _ _ h => h) (Or.inl ⟨by rfl, ?_⟩) hS ?_
        rotate_left
        · (intro W hSw; obtain ⟨q0, q1⟩ := hSw; go_simp; try with_reducible rfl)
        try simp only [List.getElem_toArray, List.getElem_cons_succ, List.getElem_cons_zero, Act.put, List.setIfInBounds_toArray, List.set_cons_zero, List.set_cons_succ]
        refine wpAnyH_take (i := 1) (v := ?_) rfl (by kernel_rfl) (by kernel_rfl) (by kernel_rfl) (fun _ _ _ h => h) (Or.inl ⟨by rfl, ?_⟩) hS ?_
        rotate_left
        · (intro W hSw; obtain ⟨q0, q1⟩ := hSw; go_simp; try with_reducible rfl)
        try simp only [List.getElem_toArray, List.getElem_cons_succ, List.getElem_cons_zero, Act.put, List.setIfInBounds_toArray, List.set_cons_zero, List.set_cons_succ]
        refine wpAnyH_take (i := 2) (v := ?_) rfl (by kernel_rfl) (by kernel_rfl) (by kernel_rfl) (fun _ _ _ h => h) (Or.inl ⟨by rfl, ?_⟩) hS ?_
        rotate_left
        · (intro W hSw; obtain ⟨q0, q1⟩ := hSw; go_simp; try with_reducible rfl)
        try simp only [List.getElem_toArray, List.getElem_cons_succ, List.getElem_cons_zero, Act.put, List.setIfInBounds_toArray, List.set_cons_zero, List.set_cons_succ]
        refine wpAnyH_take (i := 3) (v := ?_) rfl (by kernel_rfl) (by kernel_rfl) (by kernel_rfl) (fun _ _ _ h => h) (Or.inl ⟨by rfl, ?_⟩) hS ?_
        rotate_left
        · (intro W hSw; obtain ⟨q0, q1⟩ := hSw; go_simp; try with_reducible rfl)
        try simp only [List.getElem_toArray, List.getElem_cons_succ, List.getElem_cons_zero, Act.put, List.setIfInBounds_toArray, List.set_cons_zero, List.set_cons_succ]
        refine wpAnyH_take (i := 4) (v := ?_) rfl (by kernel_rfl) (by kernel_rfl) (by kernel_rfl) (fun _ _ _ h => h) (Or.inl ⟨by rfl, ?_⟩) hS ?_
        rotate_left
        · (intro W hSw; obtain ⟨q0, q1⟩ := hSw; go_simp; try with_reducible rfl)
        try simp only [List.getElem_toArray, List.getElem_cons_succ, List.getElem_cons_zero, Act.put, List.setIfInBounds_toArray, List.set_cons_zero, List.set_cons_succ]
        refine wpAnyH_take (i := 5) (v := ?_) rfl (by kernel_rfl) (by kernel_rfl) (by kernel_rfl) (fun _ _ _ h => h) (Or.inl ⟨by rfl, ?_⟩) hS ?_
        rotate_left
        · (intro W hSw; obtain ⟨q0, q1⟩ := hSw; go_simp; try with_reducible rfl)
        try simp only [List.getElem_toArray, List.getElem_cons_succ, List.getElem_cons_zero, Act.put, List.setIfInBounds_toArray, List.set_cons_zero, List.set_cons_succ]
        refine wpAnyH_take (i := 6) (v := ?_) rfl (by kernel_rfl) (by kernel_rfl) (by kernel_rfl) (fun _ _ _ h => h) (Or.inl ⟨by rfl, ?_⟩) hS ?_
        rotate_left
        · (intro W hSw; obtain ⟨q0, q1⟩ := hSw; go_simp; try with_reducible rfl)
        try simp only [List.getElem_toArray, List.getElem_cons_succ, List.getElem_cons_zero, Act.put, List.setIfInBounds_toArray, List.set_cons_zero, List.set_cons_succ]
        refine wpAnyH_take (i := 7) (v := ?_) rfl (by kernel_rfl) (by kernel_rfl) (by kernel_rfl) (fun _ _ _ h => h) (Or.inl ⟨by rfl, ?_⟩) hS ?_
        rotate_left
        · (intro W hSw; obtain ⟨q0, q1⟩ := hSw; go_simp; try with_reducible rfl)
        try simp only [List.getElem_toArray, List.getElem_cons_succ, List.getElem_cons_zero, Act.put, List.setIfInBounds_toArray, List.set_cons_zero, List.set_cons_succ]
        refine wpAnyH_call (k := 8) (by kernel_rfl) rfl rfl (f := 73) (args := #[.int .i64 t, .int .i64 s]) (by simp [execOp, go_sem, Act.eval, Act.put]) ?_
        refine (r12common_any t s ht256 hs256 D).mono ?_
        rintro e w' ⟨rfl, rfl⟩
        dsimp only
        refine ⟨hS, ?_⟩
        try simp only [List.getElem_toArray, List.getElem_cons_succ, List.getElem_cons_zero, Act.put, List.setIfInBounds_toArray, List.set_cons_zero, List.set_cons_succ]
        refine wpAnyH_done (by kernel_rfl) ?_ _
        try simp only [List.getElem_toArray, List.getElem_cons_succ, List.getElem_cons_zero, Act.put, List.setIfInBounds_toArray, List.set_cons_zero, List.set_cons_succ]
        clear hS
        by_cases hz : t &&& s = 0
        · rw [show decide (t &&& s ≠ 0) = false by rw [decide_eq_false_iff_not, Classical.not_not]; exact hz]
          have HZ := Lib.hid hz
          clear hz
          go_wp2_with fail
          refine ⟨⟨k + 1, hlt, by push_cast; rfl, HBD.out, fun q h hq => ?_⟩, by simp [intOf]; omega⟩
          by_cases hqk : q < k
          · exact HALL.out q h hqk
          · obtain rfl : q = k := by omega
            rw [← HT.out]; exact HZ.out
        · rw [show decide (t &&& s ≠ 0) = true by rw [decide_eq_true_iff]; exact hz]
          have hbr := HB2.out
          rw [if_pos (fun h => hz (by rw [HT.out]; exact (union_and s _).1 h _ (List.mem_take_iff_getElem.2 ⟨k, by omega, rfl⟩)))] at hbr
          subst hbr
          clear hz
          go_wp2_with fail
          go_ret
          exact ⟨rfl, HBD.out⟩
      · have hin : i = k := by omega
        subst hin
        have hlti : ¬ (i : Int) < (i : Int) := by omega
        have hbr := HB2.out
        rw [if_neg (fun h => h ((union_and s _).2 fun x hx => by
          obtain ⟨q, hq, rfl⟩ := List.mem_take_iff_getElem.1 hx
          exact HALL.out q (by omega) (by omega)))] at hbr
        subst hbr
        clear hlt
        go_wp2_with fail
        go_ret
        exact ⟨rfl, HB.out⟩
  · have hg2 : ¬ gr = 2 := by rw [HGR.out]; exact fun h => hr (HBR.out.2.1.1 h)
    have hg3 : (gr == 2) = false := by rw [beq_eq_false_iff_ne]; exact hg2
    have hbr := HBR.out.1
    rw [if_pos hr] at hbr
    subst hbr
    clear hr
    go_wp2_with fail
    go_ret
    exact ⟨rfl, HBw1.out⟩
end Go.Proofs.YtbmfphiecllggaaGreatDoor

/- The reference of jobs, walked: Size, blocks, List, check, Check. -/
namespace Go.Proofs.YtbmfphiecllggaaGreatDoor
set_option linter.unusedVariables false
set_option linter.unusedSimpArgs false
open Go.RowKit Go.Shelf
attribute [local go_sem] Oper.semAt_some

/-! ### plain -/
theorem cost_take9 (p : List Nat) (k : Nat) (h : k < p.length) : costJ 8 (p.take (k + 1)) = costJ 8 (p.take k) + sizeJ 8 p[k] := by
  unfold costJ
  rw [List.take_succ_eq_append_getElem h, List.map_append, List.sum_append]
  simp
theorem cost_le9 (p : List Nat) : costJ 8 p ≤ 8 * p.length := by
  induction p with
  | nil => simp [costJ]
  | cons s p ih =>
    have h2 := sizeJ_le 8 s
    unfold costJ at ih ⊢
    simp only [List.map_cons, List.sum_cons, List.length_cons]
    omega
def fromE (j : JobD) (p : List Nat) (i : Nat) : Option (Nat × Int) := wrongJ (rightsD j) i (unionJ (p.take i)) ((p.drop i).map fun n : Nat => (n : Int))
def tellE : Option (Nat × Int) → (Int × Int) × Int
  | none => ((0, 0), 4)
  | some x => ((x.1, x.2), 0)
theorem checkE_from {j : JobD} {l : List Int} (he : errD j (isPlanD j l) = 0) {p : List Nat} (hl : l = p.map fun n : Nat => (n : Int)) : checkD j l = tellE (fromE j p 0) := by
  unfold checkD
  rw [he, if_neg (by decide), hl]
  show _ = tellE (wrongJ (rightsD j) 0 0 (p.map fun n : Nat => (n : Int)))
  generalize wrongJ (rightsD j) 0 0 (p.map fun n : Nat => (n : Int)) = r
  cases r <;> rfl
theorem checkE_bad {j : JobD} {l : List Int} (he : errD j (isPlanD j l) ≠ 0) : checkD j l = ((0, 0), errD j (isPlanD j l)) := by
  unfold checkD
  rw [if_pos he]
theorem fromE_end (j : JobD) (p : List Nat) : fromE j p p.length = none := by unfold fromE; rw [List.drop_length]; rfl
theorem fromE_next (j : JobD) (p : List Nat) (i : Nat) (h : i < p.length) (h' : i < j.ws.length) : fromE j p i = if brokenL j p i ≠ 0 then some (i, ((brokenL j p i : Nat) : Int)) else fromE j p (i + 1) := by
  rw [broken_at h h']
  unfold fromE
  rw [List.drop_eq_getElem_cons h, List.map_cons, wrongJ]
  have hr : (rightsD j).getD i [] = rightsS j.st j.ws[i] := by
    rw [List.getD_eq_getElem?_getD]
    simp [rightsD, h']
  rw [hr, Int.toNat_natCast, union_take p i h, Nat.and_comm (unionJ (p.take i)) p[i]]
  by_cases h1 : p[i] ∈ rightsS j.st j.ws[i]
  · by_cases h2 : p[i] &&& unionJ (p.take i) = 0
    · simp [h1, h2]
    · simp [h1, h2]
  · simp [h1]
theorem errD_two {j : JobD} {ok : Bool} : errD j ok = 0 ↔ validJb j = true ∧ ok = true := by
  unfold errD
  cases validJb j <;> cases ok <;> simp
theorem errD_range (j : JobD) (ok : Bool) : 0 ≤ errD j ok ∧ errD j ok ≤ 2 := by unfold errD; split <;> (try split) <;> omega
theorem isPlan_nat {j : JobD} {l : List Int} (h : isPlanD j l = true) : ∃ p : List Nat, l = p.map (fun n : Nat => (n : Int)) ∧ p.length = j.ws.length ∧ ∀ s ∈ p, 1 ≤ s ∧ s < 2 ^ j.st.bs.length := by
  unfold isPlanD at h
  rw [Bool.and_eq_true, decide_eq_true_eq, List.all_eq_true] at h
  have hs : ∀ n ∈ l, 1 ≤ n ∧ n ≤ (2 : Int) ^ j.st.bs.length - 1 := fun n hn => by
    have := h.2 n hn
    unfold isSetS at this
    simpa [Bool.and_eq_true] using this
  refine ⟨l.map Int.toNat, ?_, by simpa using h.1, fun s hs2 => ?_⟩
  · rw [List.map_map]
    symm
    calc l.map ((fun n : Nat => (n : Int)) ∘ Int.toNat) = l.map id := List.map_congr_left fun n hn => by have := hs n hn; simp; omega
      _ = l := List.map_id l
  · obtain ⟨n, hn, rfl⟩ := List.mem_map.1 hs2
    have h1 := hs n hn
    have h2 : ((2 ^ j.st.bs.length : Nat) : Int) = (2 : Int) ^ j.st.bs.length := by simp
    omega

/-! ### walked -/
set_option maxHeartbeats 4000000 in
theorem r12size_any (s : Nat) (hs : s < 256) (w : World) :
    Calls Tryz.prog 51 #[.int .i64 s] w fun e w' => e = .returned (.int .i64 (sizeJ 8 s : Nat)) ∧ w = w' := by
  go_enter Tryz.func51, Tryz.ntmps51
  go_wp2_with fail
  go_loopw [0, 3] (fun av nv wr => ∃ a b : Nat, a < 256 ∧ av = .int .i64 a ∧ nv = .int .i64 b ∧ b + sizeJ 8 a = sizeJ 8 s ∧ w = wr) (fun av _ _ => (intOf av).toNat)
  case atStart => exact ⟨s, 0, hs, rfl, rfl, by omega, rfl⟩
  case round =>
    obtain ⟨a, b, ha, rfl, rfl, hab, rfl⟩ := hrel
    have hb8 : b ≤ 8 := by have := sizeJ_le 8 s; omega
    have HAB := Lib.hid hab
    clear hab
    by_cases h0 : a = 0
    · subst h0
      go_wp2
      go_ret
      have h1 := HAB.out
      rw [show sizeJ 8 0 = 0 by decide] at h1
      exact ⟨by rw [← h1]; rfl, rfl⟩
    · have hpos : (0 : Int) < (a : Int) := by omega
      have HH := Lib.hid (size_half a ha)
      obtain ⟨r, hr⟩ : ∃ r, r = a % 2 := ⟨_, rfl⟩
      obtain ⟨q, hq⟩ : ∃ q, q = a / 2 := ⟨_, rfl⟩
      have hqa : q < 256 ∧ q < a := by omega
      have hrm : (a : Int).tmod 2 = (r : Int) := by rw [Int.tmod_eq_emod_of_nonneg (by omega)]; omega
      have hqd : (a : Int).tdiv 2 = (q : Int) := by rw [Int.tdiv_eq_ediv_of_nonneg (by omega)]; omega
      have hqd2 : (a : Int) / 2 = (q : Int) := by omega
      have hw1 : IntKind.i64.wrap ((b : Int) + (r : Int)) = ((b + r : Nat) : Int) := by rw [IntWalk.i64_in _ (by omega)]; omega
      have hw2 : IntKind.i64.wrap (q : Int) = (q : Int) := IntWalk.i64_in _ (by omega)
      have hw3 : wrap64 (q : Int) = (q : Int) := by unfold wrap64; omega
      have HQ := Lib.hid (And.intro hr hq)
      have HQA := Lib.hid hqa
      clear hr hq hqa
      go_wp2
      refine ⟨⟨q, b + r, HQA.out.1, by rfl, by rw [Int.natCast_add], ?_, by first | rfl | trivial⟩, HQA.out.2⟩
      have h1 := HAB.out
      rw [HH.out, ← HQ.out.1, ← HQ.out.2] at h1
      omega
set_option maxHeartbeats 4000000 in
theorem r12blocks_any (p : List Nat) (hp : ∀ s ∈ p, s < 256) (h4 : p.length ≤ 1000) (v : Value) (Rd : Nat → Prop) (w : World) (hlv : NumsAt w v (p.map fun s : Nat => (s : Int)) Rd) :
    Calls Tryz.prog 44 #[v] w fun e w' => e = .returned (.int .i64 (costJ 8 p : Nat)) ∧ w = w' := by
  have HP := Lib.hid hp
  have HLV := Lib.hid hlv
  obtain ⟨ao, cap, hv, _, _, hel⟩ := id hlv
  subst hv
  rw [List.length_map] at *
  obtain ⟨n, hn⟩ : ∃ n, n = p.length := ⟨_, rfl⟩
  have HN := Lib.hid hn
  have HEL := Lib.hid hel
  rw [← hn] at h4 ⊢
  clear hp hlv hn hel
  go_enter Tryz.func44, Tryz.ntmps44
  go_wp2_with fail
  go_loopw [3, 4] (fun uv kv wr => ∃ k : Nat, k ≤ n ∧ kv = .int .i64 k ∧ uv = .int .i64 (costJ 8 (p.take k) : Nat) ∧ w = wr) (fun _ kv _ => n - (intOf kv).toNat)
  case atStart => exact ⟨0, Nat.zero_le _, rfl, rfl, rfl⟩
  case round =>
    obtain ⟨k, hk, rfl, rfl, hwr⟩ := hrel
    subst hwr
    have hcl := cost_le9 (p.take k)
    rw [List.length_take] at hcl
    obtain ⟨c, hc⟩ : ∃ c, c = costJ 8 (p.take k) := ⟨_, rfl⟩
    rw [← hc] at hcl ⊢
    by_cases hlt : k < n
    · have hw : IntKind.i64.wrap ((k : Int) + 1) = ((k + 1 : Nat) : Int) := by rw [IntWalk.i64_in _ (by omega)]; omega
      have hlti : (k : Int) < (n : Int) := by omega
      have hk0 : 0 ≤ (k : Int) := by omega
      have hkl : k < p.length := by rw [← HN.out]; exact hlt
      obtain ⟨b, off, rfl, _, _, e1⟩ := HEL.out k (by rw [List.length_map]; exact hkl)
      rw [List.getElem_map] at e1
      have hct := cost_take9 p k hkl
      rw [← hc] at hct
      obtain ⟨s, hs⟩ : ∃ s, s = p[k] := ⟨_, rfl⟩
      have hs2 : s < 256 := by rw [hs]; exact HP.out _ (List.getElem_mem hkl)
      have hz := sizeJ_le 8 s
      rw [← hs] at e1 hct
      obtain ⟨z, hze⟩ : ∃ z, z = sizeJ 8 s := ⟨_, rfl⟩
      rw [← hze] at hct hz
      have HZ := Lib.hid hze
      have HCT := Lib.hid hct
      have hwz : IntKind.i64.wrap ((c : Int) + (z : Int)) = ((c + z : Nat) : Int) := by rw [IntWalk.i64_in _ (by omega)]; omega
      clear hc hs hze hct
      go_wp2_with fail
      refine (r12size_any s hs2 w).mono ?_
      rintro e w' ⟨rfl, rfl⟩
      dsimp only
      rw [← HZ.out]
      go_wp2_with fail
      exact ⟨⟨k + 1, hlt, by push_cast; rfl, by rw [HCT.out]; push_cast; rfl, by first | rfl | trivial⟩, by simp [intOf]; omega⟩
    · have hin : n = k := by omega
      subst hin
      have hlti : ¬ (n : Int) < (n : Int) := by omega
      have hce : c = costJ 8 p := by rw [hc, List.take_of_length_le (by rw [← HN.out]; exact Nat.le_refl _)]
      have HC := Lib.hid hce
      clear hc hce hlt
      go_wp2_with fail
      go_ret
      exact ⟨by rw [← HC.out]; rfl, rfl⟩
set_option maxHeartbeats 4000000 in
theorem r12check_any (j : JobD) (ok : Bool) (bs ws : Value) (w : World) (hbs : SpansAt w bs j.st.bs (fun k => k < w.heap.size)) (hws : SpansAt w ws j.ws (fun k => k < w.heap.size)) :
    Calls Tryz.prog 33 #[jobV j bs ws, .bool ok] w fun e w' => e = .returned (.int .i64 (errD j ok)) ∧ Below w.heap.size w w' := by
  have HBS := Lib.hid hbs
  have HWS := Lib.hid hws
  obtain ⟨ao, cap, hv1, _⟩ := id hbs
  obtain ⟨ao2, cap2, hv2, _⟩ := id hws
  subst hv1 hv2
  have HJV := Lib.hid (show jobV j (.slice ao j.st.bs.length cap) (.slice ao2 j.ws.length cap2) = .agg #[.slice ao j.st.bs.length cap, .int .i64 j.st.film.1, .int .i64 j.st.film.2, .slice ao2 j.ws.length cap2] from rfl)
  unfold jobV
  have hB0 := Below.alloc' w (.cells #[.slice ao j.st.bs.length cap, .int .i64 j.st.film.1, .int .i64 j.st.film.2, .slice ao2 j.ws.length cap2] 28)
  obtain ⟨er, her⟩ : ∃ x, x = errD j ok := ⟨_, rfl⟩
  rw [← her]
  have HER := Lib.hid her
  clear hbs hws her
  go_enter Tryz.func33, Tryz.ntmps33
  go_wp2_with fail
  have hc := r12job_any j (.slice ao j.st.bs.length cap) (.slice ao2 j.ws.length cap2) _ (HBS.out.later hB0.size (fun k h1 _ => hB0.block k h1)).low (HWS.out.later hB0.size (fun k h1 _ => hB0.block k h1)).low
  rw [HJV.out] at hc
  have HB0 := Lib.hid hB0
  clear hB0
  refine hc.mono ?_
  rintro e w1 ⟨rfl, hb⟩
  clear hc
  dsimp only
  have HB1 := Lib.hid (HB0.out.trans (hb.mono HB0.out.size))
  have hev := HER.out
  unfold errD at hev
  clear hb
  cases hv : validJb j with
  | false =>
    rw [hv, if_pos rfl] at hev
    subst hev
    clear hv
    go_wp2_with fail
    go_ret
    exact ⟨rfl, HB1.out⟩
  | true =>
    rw [hv, if_neg (by decide)] at hev
    cases ok with
    | false =>
      rw [if_pos rfl] at hev
      subst hev
      clear hv
      go_wp2_with fail
      go_ret
      exact ⟨rfl, HB1.out⟩
    | true =>
      rw [if_neg (by decide)] at hev
      subst hev
      clear hv
      go_wp2_with fail
      go_ret
      exact ⟨rfl, HB1.out⟩
end Go.Proofs.YtbmfphiecllggaaGreatDoor

/- The reference of jobs, walked: List, Check. -/
namespace Go.Proofs.YtbmfphiecllggaaGreatDoor
set_option linter.unusedVariables false
set_option linter.unusedSimpArgs false
open Go.RowKit Go.Shelf
attribute [local go_sem] Oper.semAt_some

/-- What List reads. -/
def SL5 (x : Nat) (v0 : Value) (f1 f2 : Int) (pb po i : Nat) (s : Int) (Y : World) : Prop :=
  Y.cell? ⟨x, 0, none⟩ = some v0 ∧ Y.cell? ⟨x, 1, none⟩ = some (.int .i64 f1) ∧ Y.cell? ⟨x, 2, none⟩ = some (.int .i64 f2) ∧ Y.cell? ⟨pb, po + i, none⟩ = some (.int .i64 s)
theorem SL5.below {x : Nat} {v0 : Value} {f1 f2 : Int} {pb po i : Nat} {s : Int} {Y Y' : World} (h : SL5 x v0 f1 f2 pb po i s Y) (hb : Below Y.heap.size Y Y') : SL5 x v0 f1 f2 pb po i s Y' :=
  ⟨cell_below h.1 hb, cell_below h.2.1 hb, cell_below h.2.2.1 hb, cell_below h.2.2.2 hb⟩
def SJ4 (x : Nat) (v0 v3 : Value) (f1 f2 : Int) (Y : World) : Prop :=
  Y.cell? ⟨x, 0, none⟩ = some v0 ∧ Y.cell? ⟨x, 1, none⟩ = some (.int .i64 f1) ∧ Y.cell? ⟨x, 2, none⟩ = some (.int .i64 f2) ∧ Y.cell? ⟨x, 3, none⟩ = some v3
theorem SJ4.below {x : Nat} {v0 v3 : Value} {f1 f2 : Int} {Y Y' : World} (h : SJ4 x v0 v3 f1 f2 Y) (hb : Below Y.heap.size Y Y') : SJ4 x v0 v3 f1 f2 Y' :=
  ⟨cell_below h.1 hb, cell_below h.2.1 hb, cell_below h.2.2.1 hb, cell_below h.2.2.2 hb⟩
theorem isplan_false {j : JobD} {l : List Int} {i : Nat} (h : i < l.length) (hs : isSetS j.st l[i] = false) : isPlanD j l = false := by
  unfold isPlanD
  cases hl : l.all fun n => isSetS j.st n with
  | false => rw [Bool.and_false]
  | true => rw [List.all_eq_true.1 hl _ (List.getElem_mem h)] at hs; cases hs
theorem isplan_len {j : JobD} {l : List Int} (h : ∀ i (h : i < l.length), isSetS j.st l[i] = true) : isPlanD j l = decide (l.length = j.ws.length) := by
  unfold isPlanD
  rw [List.all_eq_true.2 fun n hn => by obtain ⟨i, hi, rfl⟩ := List.getElem_of_mem hn; exact h i hi, Bool.and_true]
set_option maxRecDepth 100000 in
set_option maxHeartbeats 4000000 in
theorem r12list_any (j : JobD) (h60 : j.st.bs.length ≤ 60) (l : List Int) (hl : l.length ≤ 1000) (a1 a2 : Option Addr) (c1 c2 : Nat) (v : Value) (w : World) (hpv : NumsAt w v l (fun k => k < w.heap.size)) :
    Calls Tryz.prog 34 #[jobV j (.slice a1 j.st.bs.length c1) (.slice a2 j.ws.length c2), v] w fun e w' => e = .returned (.bool (isPlanD j l)) ∧ Below w.heap.size w w' := by
  obtain ⟨ao3, cap3, hv3, _, _, hel⟩ := id hpv
  subst hv3
  have HEL := Lib.hid hel
  have HSV := Lib.hid (show stackV j.st (.slice a1 j.st.bs.length c1) = .agg #[.slice a1 j.st.bs.length c1, .int .i64 j.st.film.1, .int .i64 j.st.film.2] from rfl)
  unfold jobV
  have H60 := Lib.hid h60
  obtain ⟨nb, hnb⟩ : ∃ n, n = j.st.bs.length := ⟨_, rfl⟩
  obtain ⟨nw, hnw⟩ : ∃ n, n = j.ws.length := ⟨_, rfl⟩
  obtain ⟨np, hnp⟩ : ∃ n, n = l.length := ⟨_, rfl⟩
  obtain ⟨fl, hfl⟩ : ∃ x, x = j.st.film.1 := ⟨_, rfl⟩
  obtain ⟨fh, hfh⟩ : ∃ x, x = j.st.film.2 := ⟨_, rfl⟩
  have hs4 := r4set_any j.st h60
  rw [← hnb, ← hfl, ← hfh] at HSV
  rw [← hnb] at hs4
  rw [← hnb, ← hnw, ← hnp, ← hfl, ← hfh]
  rw [← hnp] at hl
  obtain ⟨ip, hip⟩ : ∃ b, b = isPlanD j l := ⟨_, rfl⟩
  rw [← hip]
  have HIP := Lib.hid hip
  have HN := Lib.hid (And.intro hnw hnp)
  have HS4 := Lib.hid hs4
  clear hpv hel h60 hnb hnw hnp hfl hfh hip hs4
  go_enter Tryz.func34, Tryz.ntmps34
  go_wp2_with fail
  refine wp_name (fun W => W.heap[w.heap.size]? = some (.cells #[.slice a1 nb c1, .int .i64 fl, .int .i64 fh, .slice a2 nw c2] 28 (0, 0)) ∧ Below w.heap.size w W) ⟨heap_alloc_at _ _ _ rfl, Below.alloc' _ _⟩ ?_
  rintro w0 ⟨h1, hb⟩
  have HX0 := Lib.hid h1
  have HB0 := Lib.hid hb
  clear h1 hb
  go_loopw [5] (fun iv wr => ∃ i : Nat, i ≤ np ∧ iv = .int .i64 i ∧ Below w0.heap.size w0 wr ∧ ∀ q (h : q < l.length), q < i → isSetS j.st l[q] = true) (fun iv _ => np - (intOf iv).toNat)
  case atStart => exact ⟨0, Nat.zero_le _, rfl, Below.refl _ _, fun q _ h => absurd h (by omega)⟩
  case round =>
    obtain ⟨i, hi, rfl, hb, hall⟩ := hrel
    have HALL := Lib.hid hall
    have HX := Lib.hid ((hb.block _ (lt_of_block HX0.out)).trans HX0.out)
    have HBwr := Lib.hid (HB0.out.trans (hb.mono HB0.out.size))
    have HBr0 := Lib.hid hb
    clear hb hall
    by_cases hlt : i < np
    · have hw : IntKind.i64.wrap ((i : Int) + 1) = ((i + 1 : Nat) : Int) := by rw [IntWalk.i64_in _ (by omega)]; omega
      have hlti : (i : Int) < (np : Int) := by omega
      have hi0 : 0 ≤ (i : Int) := by omega
      have hil : i < l.length := by rw [← HN.out.2]; exact hlt
      obtain ⟨pb, po, rfl, _, hpl, e6⟩ := HEL.out i hil
      obtain ⟨s, hs⟩ : ∃ y, y = l[i] := ⟨_, rfl⟩
      rw [← hs] at e6
      have HS := Lib.hid hs
      have hS0 : SL5 w.heap.size (.slice a1 nb c1) fl fh pb po i s wr := ⟨by rw [cell_of_row _ _ _ _ _ _ HX.out]; rfl, by rw [cell_of_row _ _ _ _ _ _ HX.out]; rfl, by rw [cell_of_row _ _ _ _ _ _ HX.out]; rfl, (HBwr.out.cell (p := ⟨pb, po + i, none⟩) hpl).trans e6⟩
      have HS0 := Lib.hid hS0
      clear e6 hs hS0 hpl
      go_upto_region 4 with fail
      refine wp_region_held_drew (S := SL5 w.heap.size (.slice a1 nb c1) fl fh pb po i s) (by kernel_rfl) (HS0.out.below (Below.refl _ _).drew) fun hS => ?_
      obtain ⟨D, hD⟩ : ∃ D, D = World.drew wr := ⟨_, rfl⟩
      have hAD : Below wr.heap.size wr D := by rw [hD]; exact (Below.refl _ _).drew
      rw [← hD] at hS ⊢
      have HBD := Lib.hid (HBr0.out.trans (hAD.mono HBr0.out.size))
      have HBwD := Lib.hid (HBwr.out.trans (hAD.mono HBwr.out.size))
      clear hD hAD HS0
      refine wpAnyH_take (i := 0) (v := ?_) rfl (by kernel_rfl) (by kernel_rfl) (by kernel_rfl) (fun _ _ _ h => h) (Or.inl ⟨by rfl, ?_⟩) hS ?_
      rotate_left
      · (intro W hSw; obtain ⟨q0, q1, q2, q3⟩ := hSw; go_simp; try with_reducible rfl)
      try simp only [List.getElem_toArray, List.getElem_cons_succ, List.getElem_cons_zero, Act.put, List.setIfInBounds_toArray, List.set_cons_zero, List.set_cons_succ]
      refine wpAnyH_take (i := 1) (v := ?_) rfl (by kernel_rfl) (by kernel_rfl) (by kernel_rfl) (fun _ _ _ h => h) (Or.inl ⟨by rfl, ?_⟩) hS ?_
      rotate_left
      · (intro W hSw; obtain ⟨q0, q1, q2, q3⟩ := hSw; go_simp; try with_reducible rfl)
      try simp only [List.getElem_toArray, List.getElem_cons_succ, List.getElem_cons_zero, Act.put, List.setIfInBounds_toArray, List.set_cons_zero, List.set_cons_succ]
      refine wpAnyH_take (i := 2) (v := ?_) rfl (by kernel_rfl) (by kernel_rfl) (by kernel_rfl) (fun _ _ _ h => h) (Or.inl ⟨by rfl, ?_⟩) hS ?_
      rotate_left
      · (intro W hSw; obtain ⟨q0, q1, q2, q3⟩ := hSw; go_simp; try with_reducible rfl)
      try simp only [List.getElem_toArray, List.getElem_cons_succ, List.getElem_cons_zero, Act.put, List.setIfInBounds_toArray, List.set_cons_zero, List.set_cons_succ]
      refine wpAnyH_take (i := 3) (v := ?_) rfl (by kernel_rfl) (by kernel_rfl) (by kernel_rfl) (fun _ _ _ h => h) (Or.inl ⟨by rfl, ?_⟩) hS ?_
      rotate_left
      · (intro W hSw; obtain ⟨q0, q1, q2, q3⟩ := hSw; go_simp; try with_reducible rfl)
      try simp only [List.getElem_toArray, List.getElem_cons_succ, List.getElem_cons_zero, Act.put, List.setIfInBounds_toArray, List.set_cons_zero, List.set_cons_succ]
      refine wpAnyH_take (i := 4) (v := ?_) rfl (by kernel_rfl) (by kernel_rfl) (by kernel_rfl) (fun _ _ _ h => h) (Or.inl ⟨by rfl, ?_⟩) hS ?_
      rotate_left
      · (intro W hSw; obtain ⟨q0, q1, q2, q3⟩ := hSw; go_simp; try with_reducible rfl)
      try simp only [List.getElem_toArray, List.getElem_cons_succ, List.getElem_cons_zero, Act.put, List.setIfInBounds_toArray, List.set_cons_zero, List.set_cons_succ]
      refine wpAnyH_take (i := 5) (v := ?_) rfl (by kernel_rfl) (by kernel_rfl) (by kernel_rfl) (fun _ _ _ h => h) (Or.inl ⟨by rfl, ?_⟩) hS ?_
      rotate_left
      · (intro W hSw; obtain ⟨q0, q1, q2, q3⟩ := hSw; go_simp; try with_reducible rfl)
      try simp only [List.getElem_toArray, List.getElem_cons_succ, List.getElem_cons_zero, Act.put, List.setIfInBounds_toArray, List.set_cons_zero, List.set_cons_succ]
      have hc := HS4.out s (.slice a1 nb c1) ⟨a1, c1, rfl⟩ D
      rw [HSV.out] at hc
      refine wpAnyH_call (k := 6) (by kernel_rfl) rfl rfl (f := 71) (args := #[.agg #[.slice a1 nb c1, .int .i64 fl, .int .i64 fh], .int .i64 s]) (by simp [execOp, go_sem, Act.eval, Act.put]) ?_
      refine hc.mono ?_
      rintro e w1 ⟨rfl, hb⟩
      clear hc
      dsimp only
      have HBw1 := Lib.hid (HBwD.out.trans (hb.mono HBwD.out.size))
      have HBx1 := Lib.hid (HBD.out.trans (hb.mono HBD.out.size))
      have hS9 := hS.below hb
      clear hb hS
      refine ⟨hS9, ?_⟩
      have hS := hS9
      clear hS9
      try simp only [List.getElem_toArray, List.getElem_cons_succ, List.getElem_cons_zero, Act.put, List.setIfInBounds_toArray, List.set_cons_zero, List.set_cons_succ]
      cases hst : isSetS j.st s with
      | true =>
        have HT := Lib.hid hst
        clear hst
        refine wpAnyH_take (i := 7) (v := ?_) rfl (by kernel_rfl) (by kernel_rfl) (by kernel_rfl) (fun _ _ _ h => h) (Or.inl ⟨by rfl, ?_⟩) hS ?_
        rotate_left
        · (intro W hSw; obtain ⟨q0, q1, q2, q3⟩ := hSw; go_simp; try with_reducible rfl)
        try simp only [List.getElem_toArray, List.getElem_cons_succ, List.getElem_cons_zero, Act.put, List.setIfInBounds_toArray, List.set_cons_zero, List.set_cons_succ]
        refine wpAnyH_done (by kernel_rfl) ?_ _
        try simp only [List.getElem_toArray, List.getElem_cons_succ, List.getElem_cons_zero, Act.put, List.setIfInBounds_toArray, List.set_cons_zero, List.set_cons_succ]
        clear hS
        go_wp2_with fail
        refine ⟨⟨i + 1, hlt, by push_cast; rfl, HBx1.out, fun q h hq => ?_⟩, by simp [intOf]; omega⟩
        by_cases hqi : q < i
        · exact HALL.out q h hqi
        · obtain rfl : q = i := by omega
          rw [← HS.out]; exact HT.out
      | false =>
        have hif := isplan_false (j := j) hil (by rw [← HS.out]; exact hst)
        rw [← HIP.out] at hif
        subst hif
        clear hst
        refine wpAnyH_take (i := 7) (v := ?_) rfl (by kernel_rfl) (by kernel_rfl) (by kernel_rfl) (fun _ _ _ h => h) (Or.inl ⟨by rfl, ?_⟩) hS ?_
        rotate_left
        · (intro W hSw; obtain ⟨q0, q1, q2, q3⟩ := hSw; go_simp; try with_reducible rfl)
        try simp only [List.getElem_toArray, List.getElem_cons_succ, List.getElem_cons_zero, Act.put, List.setIfInBounds_toArray, List.set_cons_zero, List.set_cons_succ]
        refine wpAnyH_done (by kernel_rfl) ?_ _
        try simp only [List.getElem_toArray, List.getElem_cons_succ, List.getElem_cons_zero, Act.put, List.setIfInBounds_toArray, List.set_cons_zero, List.set_cons_succ]
        clear hS
        go_wp2_with fail
        go_ret
        exact ⟨rfl, HBw1.out⟩
    · have hin : np = i := by omega
      subst hin
      have hlti : ¬ (np : Int) < (np : Int) := by omega
      have hpl := isplan_len (j := j) fun q h => HALL.out q h (by rw [HN.out.2]; exact h)
      rw [← HIP.out, ← HN.out.1, ← HN.out.2] at hpl
      have c3 : wr.cell? ⟨w.heap.size, 3, none⟩ = some (.slice a2 nw c2) := by rw [cell_of_row _ _ _ _ _ _ HX.out]; rfl
      clear hlt
      by_cases he : np = nw
      · rw [decide_eq_true he] at hpl
        subst hpl
        have he2 : ((np : Int) == (nw : Int)) = true := by rw [beq_iff_eq]; omega
        clear he
        go_wp2_with fail
        go_ret
        exact ⟨rfl, HBwr.out⟩
      · rw [decide_eq_false he] at hpl
        subst hpl
        have he2 : ((np : Int) == (nw : Int)) = false := by rw [beq_eq_false_iff_ne]; omega
        clear he
        go_wp2_with fail
        go_ret
        exact ⟨rfl, HBwr.out⟩
end Go.Proofs.YtbmfphiecllggaaGreatDoor

/- The reference of jobs, walked: Check. -/
namespace Go.Proofs.YtbmfphiecllggaaGreatDoor
set_option linter.unusedVariables false
set_option linter.unusedSimpArgs false
open Go.RowKit Go.Shelf
attribute [local go_sem] Oper.semAt_some

theorem NumsAt.lowE {W : World} {v : Value} {l : List Int} {Rd : Nat → Prop} (h : NumsAt W v l Rd) : NumsAt W v l (fun k => k < W.heap.size) := by
  obtain ⟨ao, cap, h1, h2, h3, h4⟩ := h
  exact ⟨ao, cap, h1, h2, h3, fun i hi => by obtain ⟨b, off, e1, e2, e3⟩ := h4 i hi; exact ⟨b, off, e1, e3.1, e3⟩⟩
set_option maxRecDepth 100000 in
set_option maxHeartbeats 4000000 in
theorem r12Check_any (j : JobD) (h60 : j.st.bs.length ≤ 60) (bs ws : Value) (l : List Int) (hl : l.length ≤ 1000) (v : Value) (w : World) (hbs : SpansAt w bs j.st.bs (fun k => k < w.heap.size)) (hws : SpansAt w ws j.ws (fun k => k < w.heap.size)) (hpv : NumsAt w v l (fun k => k < w.heap.size)) :
    Calls Tryz.prog 9 #[jobV j bs ws, v] w fun e w' => e = .returned (.tuple #[.int .i64 (checkD j l).1.1, .int .i64 (checkD j l).1.2, .int .i64 (checkD j l).2]) ∧ Below w.heap.size w w' := by
  have HBS := Lib.hid hbs
  have HWS := Lib.hid hws
  have HPV := Lib.hid hpv
  have H60 := Lib.hid h60
  have HLL := Lib.hid hl
  obtain ⟨ao, cap, hv1, _⟩ := id hbs
  obtain ⟨ao2, cap2, hv2, _⟩ := id hws
  obtain ⟨ao3, cap3, hv3, _⟩ := id hpv
  subst hv1 hv2 hv3
  obtain ⟨nb, hnb⟩ : ∃ n, n = j.st.bs.length := ⟨_, rfl⟩
  obtain ⟨nw, hnw⟩ : ∃ n, n = j.ws.length := ⟨_, rfl⟩
  obtain ⟨np, hnp⟩ : ∃ n, n = l.length := ⟨_, rfl⟩
  obtain ⟨fl, hfl⟩ : ∃ x, x = j.st.film.1 := ⟨_, rfl⟩
  obtain ⟨fh, hfh⟩ : ∃ x, x = j.st.film.2 := ⟨_, rfl⟩
  have HJV := Lib.hid (show jobV j (.slice ao nb cap) (.slice ao2 nw cap2) = .agg #[.slice ao nb cap, .int .i64 fl, .int .i64 fh, .slice ao2 nw cap2] by unfold jobV; rw [← hfl, ← hfh])
  unfold jobV
  rw [← hnb, ← hnw, ← hnp, ← hfl, ← hfh]
  rw [← hnb] at HBS
  rw [← hnw] at HWS
  rw [← hnp] at HPV
  have HN := Lib.hid (And.intro hnb (And.intro hnw hnp))
  have hcb := checkE_bad (j := j) (l := l)
  obtain ⟨⟨⟨wh, ru⟩, er⟩, hres⟩ : ∃ y : (Int × Int) × Int, y = checkD j l := ⟨_, rfl⟩
  rw [← hres] at hcb
  have hcg : ∀ (p : List Nat), errD j (isPlanD j l) = 0 → l = p.map (fun n : Nat => (n : Int)) → ((wh, ru), er) = tellE (fromE j p 0) := fun p h1 h2 => by rw [hres]; exact checkE_from h1 h2
  rw [← hres]
  dsimp only
  have HCB := Lib.hid hcb
  have HCG := Lib.hid hcg
  clear hbs hws hpv h60 hl hnb hnw hnp hfl hfh hres hcb hcg
  go_enter Tryz.func9, Tryz.ntmps9
  go_upto_region 1 with fail
  refine wp_name (fun W => W.heap[w.heap.size]? = some (.cells #[.slice ao nb cap, .int .i64 fl, .int .i64 fh, .slice ao2 nw cap2] 28 (0, 0)) ∧ Below w.heap.size w W) ⟨heap_alloc_at _ _ _ rfl, Below.alloc' _ _⟩ ?_
  rintro w0 ⟨h1, hb⟩
  have HXw0 := Lib.hid h1
  have HBw0 := Lib.hid hb
  have hS0 : SJ4 w.heap.size (.slice ao nb cap) (.slice ao2 nw cap2) fl fh w0 := ⟨by rw [cell_of_row _ _ _ _ _ _ h1]; rfl, by rw [cell_of_row _ _ _ _ _ _ h1]; rfl, by rw [cell_of_row _ _ _ _ _ _ h1]; rfl, by rw [cell_of_row _ _ _ _ _ _ h1]; rfl⟩
  have HS0 := Lib.hid hS0
  clear h1 hb hS0
  refine wp_region_held_drew (S := SJ4 w.heap.size (.slice ao nb cap) (.slice ao2 nw cap2) fl fh) (by kernel_rfl) (HS0.out.below (Below.refl _ _).drew) fun hS => ?_
  obtain ⟨D, hD⟩ : ∃ D, D = World.drew w0 := ⟨_, rfl⟩
  have hAD : Below w0.heap.size w0 D := by rw [hD]; exact (Below.refl _ _).drew
  rw [← hD] at hS ⊢
  have HBD := Lib.hid (HBw0.out.trans (hAD.mono HBw0.out.size))
  clear hD hAD HS0
  refine wpAnyH_take (i := 0) (v := ?_) rfl (by kernel_rfl) (by kernel_rfl) (by kernel_rfl) (fun _ _ _ h => h) (Or.inl ⟨by rfl, ?_⟩) hS ?_
  rotate_left
  · (intro W hSw; obtain ⟨q0, q1, q2, q3⟩ := hSw; go_simp; try with_reducible rfl)
  try simp only [List.getElem_toArray, List.getElem_cons_succ, List.getElem_cons_zero, Act.put, List.setIfInBounds_toArray, List.set_cons_zero, List.set_cons_succ]
  refine wpAnyH_take (i := 1) (v := ?_) rfl (by kernel_rfl) (by kernel_rfl) (by kernel_rfl) (fun _ _ _ h => h) (Or.inl ⟨by rfl, ?_⟩) hS ?_
  rotate_left
  · (intro W hSw; obtain ⟨q0, q1, q2, q3⟩ := hSw; go_simp; try with_reducible rfl)
  try simp only [List.getElem_toArray, List.getElem_cons_succ, List.getElem_cons_zero, Act.put, List.setIfInBounds_toArray, List.set_cons_zero, List.set_cons_succ]
  refine wpAnyH_take (i := 2) (v := ?_) rfl (by kernel_rfl) (by kernel_rfl) (by kernel_rfl) (fun _ _ _ h => h) (Or.inl ⟨by rfl, ?_⟩) hS ?_
  rotate_left
  · (intro W hSw; obtain ⟨q0, q1, q2, q3⟩ := hSw; go_simp; try with_reducible rfl)
  try simp only [List.getElem_toArray, List.getElem_cons_succ, List.getElem_cons_zero, Act.put, List.setIfInBounds_toArray, List.set_cons_zero, List.set_cons_succ]
  have hc := r12list_any j H60.out l HLL.out ao ao2 cap cap2 (.slice ao3 np cap3) D (HPV.out.later HBD.out.size (fun k h1 _ => HBD.out.block k h1)).lowE
  rw [← HN.out.1, ← HN.out.2.1, HJV.out] at hc
  refine wpAnyH_call (k := 3) (by kernel_rfl) rfl rfl (f := 34) (args := #[.agg #[.slice ao nb cap, .int .i64 fl, .int .i64 fh, .slice ao2 nw cap2], .slice ao3 np cap3]) (by simp [execOp, go_sem, Act.eval, Act.put]) ?_
  refine hc.mono ?_
  rintro e w1 ⟨rfl, hb⟩
  clear hc
  dsimp only
  have HBw1 := Lib.hid (HBD.out.trans (hb.mono HBD.out.size))
  have hS9 := hS.below hb
  clear hb hS
  refine ⟨hS9, ?_⟩
  have hS := hS9
  clear hS9
  try simp only [List.getElem_toArray, List.getElem_cons_succ, List.getElem_cons_zero, Act.put, List.setIfInBounds_toArray, List.set_cons_zero, List.set_cons_succ]
  obtain ⟨ip, hip⟩ : ∃ b, b = isPlanD j l := ⟨_, rfl⟩
  rw [← hip]
  have HIPE := Lib.hid hip
  clear hip
  have hc := r12check_any j ip (.slice ao nb cap) (.slice ao2 nw cap2) w1 (HBS.out.later HBw1.out.size (fun k h1 _ => HBw1.out.block k h1)).low (HWS.out.later HBw1.out.size (fun k h1 _ => HBw1.out.block k h1)).low
  rw [HJV.out] at hc
  refine wpAnyH_call (k := 4) (by kernel_rfl) rfl rfl (f := 33) (args := #[.agg #[.slice ao nb cap, .int .i64 fl, .int .i64 fh, .slice ao2 nw cap2], .bool ip]) (by simp [execOp, go_sem, Act.eval, Act.put]) ?_
  refine hc.mono ?_
  rintro e w2 ⟨rfl, hb⟩
  clear hc
  dsimp only
  have HBw2 := Lib.hid (HBw1.out.trans (hb.mono HBw1.out.size))
  have hS9 := hS.below hb
  clear hb hS
  refine ⟨hS9, ?_⟩
  have hS := hS9
  clear hS9
  try simp only [List.getElem_toArray, List.getElem_cons_succ, List.getElem_cons_zero, Act.put, List.setIfInBounds_toArray, List.set_cons_zero, List.set_cons_succ]
  refine wpAnyH_take (i := 5) (v := ?_) rfl (by kernel_rfl) (by kernel_rfl) (by kernel_rfl) (fun _ _ _ h => h) (Or.inl ⟨by rfl, ?_⟩) hS ?_
  rotate_left
  · (intro W hSw; obtain ⟨q0, q1, q2, q3⟩ := hSw; go_simp; try with_reducible rfl)
  try simp only [List.getElem_toArray, List.getElem_cons_succ, List.getElem_cons_zero, Act.put, List.setIfInBounds_toArray, List.set_cons_zero, List.set_cons_succ]
  refine wpAnyH_done (by kernel_rfl) ?_ _
  try simp only [List.getElem_toArray, List.getElem_cons_succ, List.getElem_cons_zero, Act.put, List.setIfInBounds_toArray, List.set_cons_zero, List.set_cons_succ]
  by_cases he : errD j ip = 0
  · have hvp := errD_two.1 he
    obtain ⟨p, hlp, hpl, hps⟩ := isPlan_nat (by rw [← HIPE.out]; exact hvp.2)
    have hres := HCG.out p (by rw [← HIPE.out]; exact he) hlp
    rw [he]
    have hnw4 : nw ≤ 4 := by rw [HN.out.2.1]; exact (validJb_parts hvp.1).2.1
    have hnpw : np = nw := by rw [HN.out.2.2, hlp, List.length_map, hpl, HN.out.2.1]
    subst hnpw
    have HP := Lib.hid (And.intro hpl hps)
    have HRES := Lib.hid hres
    have HV := Lib.hid hvp.1
    have HPVw2 := Lib.hid (show NumsAt w2 (.slice ao3 np cap3) (p.map fun n : Nat => (n : Int)) (fun k => k < w2.heap.size) by rw [← hlp]; exact (HPV.out.later HBw2.out.size (fun k h1 _ => HBw2.out.block k h1)).lowE)
    have HS2 := Lib.hid hS
    clear he hvp hlp hpl hps hres HPV HCB HCG HLL hS
    go_wp2_with fail
    go_loopw [8] (fun iv wr => ∃ i : Nat, i ≤ np ∧ iv = .int .i64 i ∧ Below w2.heap.size w2 wr ∧ fromE j p 0 = fromE j p i) (fun iv _ => np - (intOf iv).toNat)
    case atStart => exact ⟨0, Nat.zero_le _, rfl, Below.refl _ _, rfl⟩
    case round =>
      obtain ⟨i, hi, rfl, hb, hfr⟩ := hrel
      have HFR := Lib.hid hfr
      have HB2 := Lib.hid hb
      have HBwr := Lib.hid (HBw2.out.trans (hb.mono HBw2.out.size))
      have hS := HS2.out.below hb
      clear hfr hb
      by_cases hlt : i < np
      · have hw : IntKind.i64.wrap ((i : Int) + 1) = ((i + 1 : Nat) : Int) := by rw [IntWalk.i64_in _ (by omega)]; omega
        have hlti : (i : Int) < (np : Int) := by omega
        have hip : i < p.length := by rw [HP.out.1, ← HN.out.2.1]; exact hlt
        have hiw : i < j.ws.length := by rw [← HN.out.2.1]; exact hlt
        have hnx := fromE_next j p i hip hiw
        obtain ⟨c0, c1, c2, c3⟩ := id hS
        go_wp2_with fail
        have hc := r12broken_any j HV.out p HP.out.2 i hip hiw (.slice ao nb cap) (.slice ao2 np cap2) (.slice ao3 np cap3) wr (HBS.out.later HBwr.out.size (fun k h1 _ => HBwr.out.block k h1)).low (HWS.out.later HBwr.out.size (fun k h1 _ => HBwr.out.block k h1)).low (HPVw2.out.later HB2.out.size (fun k h1 _ => HB2.out.block k h1)).lowE
        rw [HJV.out] at hc
        obtain ⟨br, hbr⟩ : ∃ b, b = brokenL j p i := ⟨_, rfl⟩
        rw [← hbr] at hc hnx
        refine hc.mono ?_
        rintro e w3 ⟨rfl, hb⟩
        clear hc c0 c1 c2 c3 hS hbr
        dsimp only
        have HB23 := Lib.hid (HB2.out.trans (hb.mono HB2.out.size))
        have HBw3 := Lib.hid (HBwr.out.trans (hb.mono HBwr.out.size))
        clear hb
        by_cases hz : br = 0
        · rw [hz, if_neg (by decide)] at hnx
          have HF2 := Lib.hid (HFR.out.trans hnx)
          subst hz
          clear hnx
          go_wp2_with fail
          exact ⟨⟨i + 1, hlt, by push_cast; rfl, HB23.out, HF2.out⟩, by simp [intOf]; omega⟩
        · rw [if_pos hz] at hnx
          have hres := HRES.out
          rw [HFR.out, hnx] at hres
          injection hres with h1 h3
          injection h1 with h1 h2
          subst h1 h2 h3
          have hz2 : ((br : Int) == 0) = false := by rw [beq_eq_false_iff_ne]; omega
          have hz3 : ¬ (br : Int) = 0 := by omega
          clear hnx
          go_wp2_with fail
          exact bodyPost_ret (v := .tuple #[.int .i64 i, .int .i64 br, .int .i64 0]) (by simp [results, Tryz.results9, go_sem]) rfl ⟨rfl, HBw3.out⟩
      · have hin : np = i := by omega
        subst hin
        have hlti : ¬ (np : Int) < (np : Int) := by omega
        have hres := HRES.out
        have hpn : np = p.length := by rw [HP.out.1, HN.out.2.1]
        rw [HFR.out, hpn, fromE_end] at hres
        injection hres with h1 h3
        injection h1 with h1 h2
        subst h1 h2 h3
        clear hlt hS hpn
        go_wp2_with fail
        exact bodyPost_ret (v := .tuple #[.int .i64 0, .int .i64 0, .int .i64 4]) (by simp [results, Tryz.results9, go_sem]) rfl ⟨rfl, HBwr.out⟩
  · have hcb := HCB.out (by rw [← HIPE.out]; exact he)
    rw [← HIPE.out] at hcb
    injection hcb with h1 h3
    injection h1 with h1 h2
    obtain ⟨ee, hee⟩ : ∃ y, y = errD j ip := ⟨_, rfl⟩
    rw [← hee] at he h3 ⊢
    subst h1 h2 h3
    have he2 : (er == 0) = false := by rw [beq_eq_false_iff_ne]; exact he
    clear HCB HCG hS hee
    go_wp2_with fail
    exact bodyPost_ret (v := .tuple #[.int .i64 0, .int .i64 0, .int .i64 er]) (by simp [results, Tryz.results9, go_sem]) rfl ⟨rfl, HBw2.out⟩
end Go.Proofs.YtbmfphiecllggaaGreatDoor
