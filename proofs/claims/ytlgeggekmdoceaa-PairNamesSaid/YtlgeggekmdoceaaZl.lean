/- Longest. -/
import Derived.Test.YtlgeggekmdoceaaW
import Derived.Test.YtlgeggekmdoceaaLa
namespace Go.Proofs.Ytlgeggekmdoceaa
set_option linter.unusedVariables false
set_option linter.unusedSimpArgs false
open Go.RowKit Go.Shelf
attribute [local go_sem] Oper.semAt_some

/-- A set of numbers below another one. -/
def setN (f : Nat → Bool) : Nat → Nat
  | 0 => 0
  | i + 1 => if f i then setN f i + 2 ^ i else setN f i
theorem setN_lt (f : Nat → Bool) : ∀ n, setN f n < 2 ^ n
  | 0 => by simp [setN]
  | n + 1 => by
    have := setN_lt f n
    unfold setN
    split <;> omega
theorem shl_bit : ∀ i : Fin 5, wrap64 (2 ^ i.val) = ((2 ^ i.val : Nat) : Int) := by decide +kernel
theorem or_bit : ∀ i : Fin 5, ∀ s : Fin 32, s.val < 2 ^ i.val → bits BinOp.or IntKind.i64 (s.val : Int) ((2 ^ i.val : Nat) : Int) = ((s.val + 2 ^ i.val : Nat) : Int) := by decide +kernel
theorem or_bits (s i : Nat) (hi : i < 5) (h1 : s < 2 ^ i) : bits BinOp.or IntKind.i64 ((s : Nat) : Int) (wrap64 (2 ^ i)) = ((s + 2 ^ i : Nat) : Int) := by
  have h2 : 2 ^ i ≤ 2 ^ 5 := Nat.pow_le_pow_right (by decide) (by omega)
  have h3 : wrap64 (2 ^ i) = ((2 ^ i : Nat) : Int) := shl_bit ⟨i, hi⟩
  rw [h3]
  exact or_bit ⟨i, hi⟩ ⟨s, by omega⟩ h1
/-- Is a block no shorter than each of some? -/
def sureK (p : PairD) (i m : Nat) : Bool := (List.range m).all fun k => decide (0 ≤ (difS p i k).1)
theorem sureK_next (p : PairD) (i m : Nat) : sureK p i (m + 1) = (sureK p i m && decide (0 ≤ (difS p i m).1)) := by simp [sureK, List.range_succ]
def sureB (p : PairD) (i : Nat) : Bool := sureK p i p.bs.length
def canB (p : PairD) (i : Nat) : Bool := decide (outs (boundsL p (allR p) ++ longL i p.bs.length) (comps p.zl p.zh p.rl p.rh) ≠ [])
/-- What Longest returns. -/
def longF (p : PairD) : (Int × Int) × Int :=
  if validB p = false then ((0, 0), 1) else if pairOuts p (allR p) = [] then ((0, 0), 10) else (((setN (sureB p) p.bs.length : Nat), (setN (canB p) p.bs.length : Nat)), 0)

theorem own_below {B : Nat} {e : TypeId} {k : Nat} {v : Value} {n : Nat} {xs : List Value} {w w' : World} (h : w.ownsRow B e k v n xs) (hb : Below w.heap.size w w') : w'.ownsRow B e k v n xs :=
  h.kept (row := none) ⟨hb.os, hb.tape, hb.output, hb.size, fun j hj _ => hb.block j hj⟩ (by cases hv : v.ownBlock <;> simp)
theorem longL_length (i n : Nat) : (longL i n).length = n := by simp [longL]
theorem okB_long (p : PairD) (hp : OkP p) (s i n : Nat) (hi : i < 5) (hn : n ≤ 5) : ∀ x ∈ boundsL p s ++ longL i n, okB x := by
  intro x hx
  rcases List.mem_append.1 hx with hx | hx
  · exact okB_bounds p hp s x hx
  · obtain ⟨k, hk, rfl⟩ := List.mem_map.1 hx
    have : k < n := by simpa using hk
    unfold okB longB
    dsimp only
    refine ⟨by omega, by omega, by omega, by omega, by omega, by omega, by simp, by simp, by simp⟩

theorem longest_results (t1 t2 : Array Value) (h2 : t1.getD 2 undef = t2.getD 2 undef) (h3 : t1.getD 3 undef = t2.getD 3 undef) (h4 : t1.getD 4 undef = t2.getD 4 undef) : results Try.f21 t1 = results Try.f21 t2 := by
  have : Try.f21.results = #[.tmp 2, .tmp 3, .cell 4 30] := rfl
  unfold results
  rw [this]
  simp only [Array.getD_eq_getD_getElem?] at h2 h3 h4
  simp [h2, h3, h4]
theorem longest_run (tmps : Array Value) (E : Nat) (x y n : Int) (W : World) (h2 : tmps.getD 2 undef = .int .i64 x) (h3 : tmps.getD 3 undef = .int .i64 y) (h4 : tmps.getD 4 undef = .pointer (some ⟨E, 0, none⟩))
    (he : W.heap[E]? = some (.cells #[.int .i64 n] 30 (0, 0))) :
    (results Try.f21 tmps).run Try.prog W = .ok (.tuple #[.int .i64 x, .int .i64 y, .int .i64 n]) W := by
  have e2 : W.cell? ⟨E, 0, none⟩ = some (.int .i64 n) := by rw [cell_of_row W _ _ _ _ _ he]; rfl
  rw [longest_results tmps #[undef, undef, .int .i64 x, .int .i64 y, .pointer (some ⟨E, 0, none⟩)] h2 h3 h4]
  simp [results, Try.results21, go_sem, e2]
theorem longest_leaf (n : Int) (R : Ending → World → Prop) (E : Nat) (tmps : Array Value) (w5 : World) (h2 : tmps.getD 2 undef = .int .i64 0) (h3 : tmps.getD 3 undef = .int .i64 0) (h4 : tmps.getD 4 undef = .pointer (some ⟨E, 0, none⟩))
    (he : w5.heap[E]? = some (.cells #[.int .i64 0] 30 (0, 0)))
    (hR : ∀ W', Keeps (fun k => k = E) w5 W' → R (.returned (.tuple #[.int .i64 0, .int .i64 0, .int .i64 n])) W') :
    Leaves Try.prog Try.f21 tmps R [{ target := .fn (.func 66) #[.pointer (some ⟨E, 0, none⟩)], args := #[] }] (.panicking [{ v := stopV n, recovered := false }]) w5 := by
  refine leaves_cons (f := 66) (args := #[.pointer (some ⟨E, 0, none⟩)]) (by simp) (by simp [go_sem, invoke]) ?_
  refine (catch_stop_longest n E 0 w5 he).mono ?_
  rintro e u' w' ⟨rfl, rfl, hk, he'⟩
  exact ⟨_, longest_run tmps E 0 0 n w' h2 h3 h4 he', hR _ hk⟩
theorem longest_leaf_ret (R : Ending → World → Prop) (E : Nat) (x y : Int) (tmps : Array Value) (w5 : World) (h2 : tmps.getD 2 undef = .int .i64 x) (h3 : tmps.getD 3 undef = .int .i64 y) (h4 : tmps.getD 4 undef = .pointer (some ⟨E, 0, none⟩))
    (he : w5.heap[E]? = some (.cells #[.int .i64 0] 30 (0, 0)))
    (hR : R (.returned (.tuple #[.int .i64 x, .int .i64 y, .int .i64 0])) w5) :
    Leaves Try.prog Try.f21 tmps R [{ target := .fn (.func 66) #[.pointer (some ⟨E, 0, none⟩)], args := #[] }] .returning w5 := by
  refine leaves_cons (f := 66) (args := #[.pointer (some ⟨E, 0, none⟩)]) (by simp) (by simp [go_sem, invoke]) ?_
  refine (catch_idle_longest E w5).mono ?_
  rintro e u' w' ⟨rfl, rfl, rfl⟩
  exact ⟨_, longest_run tmps E x y 0 w' h2 h3 h4 he, hR⟩

set_option maxRecDepth 100000 in
set_option maxHeartbeats 8000000 in
theorem longestp_any (p : PairD) (bs rs : Value) (Rd : Nat → Prop) (w : World) (hRd : ∀ k, Rd k → k < w.heap.size) (hbs : SpansAt w bs p.bs Rd) (hrs : ReadsAt w rs p.rs Rd) :
    Calls Try.prog 21 #[.agg (pairRow p bs rs)] w fun e w' => e = .returned (.tuple #[.int .i64 (longF p).1.1, .int .i64 (longF p).1.2, .int .i64 (longF p).2]) ∧ Below w.heap.size w w' := by
  have hmf : ∀ fn first cap w, (Instr.makeFunc fn first cap).run Try.prog w = .ok (.func fn first cap) w := fun _ _ _ _ => rfl
  have hfd : ∀ (x y : Value) (w : World), (Instr.field 24 (.agg #[x, y]) 0).run Try.prog w = .ok x w := fun _ _ _ => rfl
  obtain ⟨r, hr⟩ : ∃ r, r = longF p := ⟨_, rfl⟩
  rw [← hr]
  obtain ⟨W0, hW0⟩ : ∃ W0, W0 = (w.alloc (.cells (pairRow p bs rs) 27 (0, 0))).alloc (.cells #[.int .i64 0] 30 (0, 0)) := ⟨_, rfl⟩
  have w0 : W0.heap[w.heap.size]? = some (.cells (pairRow p bs rs) 27 (0, 0)) := by rw [hW0]; exact (by repeat (first | (refine heap_alloc_at _ _ _ ?_; (simp <;> omega); done) | (refine (hget_old _ _ _ ?_).trans ?_; · (simp <;> omega))))
  have w3 : W0.heap[w.heap.size + 1]? = some (.cells #[.int .i64 0] 30 (0, 0)) := by rw [hW0]; exact (by repeat (first | (refine heap_alloc_at _ _ _ ?_; (simp <;> omega); done) | (refine (hget_old _ _ _ ?_).trans ?_; · (simp <;> omega))))
  have hbW : Below w.heap.size w W0 := by rw [hW0]; exact ((Below.refl _ _).alloc (Nat.le_refl _) _).alloc (by simp) _
  have hsW : W0.heap.size = w.heap.size + 2 := by rw [hW0]; simp
  have hbsW : SpansAt W0 bs p.bs Rd := hbs.later (by omega) (fun k hk _ => hbW.block k hk)
  have hrsW : ReadsAt W0 rs p.rs Rd := hrs.later (by omega) (fun k hk _ => hbW.block k hk)
  have hf : validB p = true → ∀ W bp, Below W0.heap.size W0 W → W.heap[bp]? = some (benchObj bs rs p.zl p.zh p.rl p.rh (.map none)) → Calls Try.prog 67 (#[.pointer (some ⟨bp, 0, none⟩)] ++ #[]) W fun e W' => e = .returned (.bool true) ∧ W = W' := fun hv W bp hb hbp => always_any _ _
  have HF := Lib.hid hf
  have HBS := Lib.hid hbsW
  have HRS := Lib.hid hrsW
  have HB := Lib.hid hbW
  clear hf hbsW hrsW hbW hrs
  have c0 : W0.cell? ⟨w.heap.size, 0, none⟩ = some bs := by rw [cell_of_row W0 _ _ _ _ _ w0]; rfl
  have c1 : W0.cell? ⟨w.heap.size, 1, none⟩ = some (.int .i64 p.zl) := by rw [cell_of_row W0 _ _ _ _ _ w0]; rfl
  have c2 : W0.cell? ⟨w.heap.size, 2, none⟩ = some (.int .i64 p.zh) := by rw [cell_of_row W0 _ _ _ _ _ w0]; rfl
  have c3 : W0.cell? ⟨w.heap.size, 3, none⟩ = some (.int .i64 p.rl) := by rw [cell_of_row W0 _ _ _ _ _ w0]; rfl
  have c4 : W0.cell? ⟨w.heap.size, 4, none⟩ = some (.int .i64 p.rh) := by rw [cell_of_row W0 _ _ _ _ _ w0]; rfl
  have c5 : W0.cell? ⟨w.heap.size, 5, none⟩ = some rs := by rw [cell_of_row W0 _ _ _ _ _ w0]; rfl
  have eg := enters_of Try.func67 (by kernel_rfl) rfl
  have h3 := Lib.hid w3
  have h0 := Lib.hid w0
  clear w3 w0
  unfold pairRow at hW0 ⊢
  go_enter_defers Try.func21, Try.ntmps21
  go_wp2_with fail
  rw [← hW0]
  clear hW0
  cases hv : validB p with
  | false =>
    have hF : r = ((0, 0), 1) := by rw [hr]; unfold longF; rw [if_pos hv]
    refine (open_bad p bs rs Rd W0 (by exact HBS.out) (by exact HRS.out) 67 #[] true eg (by exact HF.out) hv).mono ?_
    rintro e w5 ⟨rfl, hb5⟩
    refine longest_leaf 1 _ (w.heap.size + 1) _ w5 rfl rfl rfl ((hb5.block _ (by omega)).trans h3.out) (fun W' hk => ⟨by rw [hF], ?_⟩)
    exact HB.out.trans ((hb5.mono (by omega)).trans (hk.below (by have := hb5.size; omega) (fun k h => by omega)))
  | true =>
    have hp := OkP.of p hv
    refine (open_yes p bs rs Rd W0 (by exact HBS.out) (by exact HRS.out) 67 #[] true eg (by exact HF.out) hv rfl).mono ?_
    rintro e w5 ⟨bp, rfl, hle, hbp, hb5⟩
    have hle5 : W0.heap.size ≤ w5.heap.size := hb5.size
    have hltb := lt_of_block hbp
    have HB5 := Lib.hid (HB.out.trans (hb5.mono (by omega)))
    have hbs5 : SpansAt w5 bs p.bs Rd := HBS.out.later hle5 (fun k hk _ => hb5.block k hk)
    have hrs5 : ReadsAt w5 rs p.rs Rd := HRS.out.later hle5 (fun k hk _ => hb5.block k hk)
    have HBP := Lib.hid hbp
    have HB5' := Lib.hid hb5
    clear hbp hb5
    go_wp2_with fail
    by_cases hne : pairOuts p (allR p) = []
    · have hF : r = ((0, 0), 10) := by rw [hr]; unfold longF; rw [if_neg (by simp [hv]), if_pos hne]
      refine (told_no p hp bp bs rs w5 HBP.out Rd (fun k hk => by have := hRd k hk; omega) hbs5 hrs5 hne).mono ?_
      rintro e w6 ⟨rfl, hb6⟩
      refine longest_leaf 10 _ (w.heap.size + 1) _ w6 rfl rfl rfl ((hb6.block _ (by omega) (by omega)).trans ((HB5'.out.block _ (by omega)).trans h3.out)) (fun W' hk => ⟨by rw [hF], ?_⟩)
      exact HB5.out.trans ((hb6.below (by omega) (fun k h => by omega)).trans (hk.below (by have := hb6.size; omega) (fun k h => by omega)))
    · have hF : r = ((((setN (sureB p) p.bs.length : Nat) : Int), ((setN (canB p) p.bs.length : Nat) : Int)), 0) := by rw [hr]; unfold longF; rw [if_neg (by simp [hv]), if_neg hne]
      have HF' := Lib.hid hF
      clear hF hr
      refine (told_yes p hp bp bs rs w5 HBP.out Rd (fun k hk => by have := hRd k hk; omega) hbs5 hrs5 hne).mono ?_
      rintro e w6 ⟨rfl, ⟨mb, ht⟩, hb6⟩
      have hs6 := hb6.size
      have f0 := (hb6.block (w.heap.size) (by omega) (by omega)).trans ((HB5'.out.block _ (by omega)).trans h0.out)
      have f3 := (hb6.block (w.heap.size + 1) (by omega) (by omega)).trans ((HB5'.out.block _ (by omega)).trans h3.out)
      have HB6 := Lib.hid (HB5.out.trans (hb6.below (by omega) (fun k h => by omega)))
      have hbs6 : SpansAt w6 bs p.bs Rd := hbs5.later hs6 (fun k hk hr => hb6.block k hk (by have := hRd k hr; omega))
      have hrs6 : ReadsAt w6 rs p.rs Rd := hrs5.later hs6 (fun k hk hr => hb6.block k hk (by have := hRd k hr; omega))
      have hbse := hbs
      obtain ⟨ao, cap, rfl, hc1, hc2, _⟩ := hbse
      obtain ⟨aor, capr, hrse, _⟩ := id hrs6
      subst hrse
      clear c0 c1 c2 c3 c4 c5
      have c0 : w6.cell? ⟨w.heap.size, 0, none⟩ = some (.slice ao p.bs.length cap) := by rw [cell_of_row w6 _ _ _ _ _ f0]; rfl
      have F0 := Lib.hid f0
      have F3 := Lib.hid f3
      have HT := Lib.hid ht
      have HBS6 := Lib.hid hbs6
      have HRS6 := Lib.hid hrs6
      clear f0 f3 ht hb6 hbs5 hrs5 hbs6 hrs6 hbs
      go_wp2_with fail
      have h62 := HB6.out.size
      have hn5 := hp.n5
      go_loopw [6, 7, 19] (fun a b i wr => ∃ k : Nat, k ≤ p.bs.length ∧ i = .int .i64 k ∧ a = .int .i64 ((setN (sureB p) k : Nat)) ∧ b = .int .i64 ((setN (canB p) k : Nat)) ∧ Below w6.heap.size w6 wr) (fun _ _ i _ => p.bs.length - (intOf i).toNat)
      case atStart => exact ⟨0, by omega, rfl, rfl, rfl, Below.refl _ _⟩
      case round =>
        obtain ⟨k, hk, rfl, rfl, rfl, hb⟩ := hrel
        have HBr := Lib.hid hb
        clear hb c0
        by_cases hlk : k < p.bs.length
        · have hbpr := (HBr.out.block bp (lt_of_block HT.out.b)).trans HT.out.b
          have HBPR := Lib.hid hbpr
          clear hbpr
          go_wp2_with fail
          refine (every_any bp p.rs.length capr aor _ _ _ _ _ _ hp.m8 wr (by exact HBPR.out)).mono ?_
          rintro e w' ⟨rfl, rfl⟩
          go_wp2_with fail
          refine (bounds_any p bp (allR p) (allR_lt _ hp.m8) _ _ _ Rd wr (by exact HBPR.out) hp.n5 hp.m8 (HBS6.out.later HBr.out.size (fun k hk _ => HBr.out.block k hk)) (HRS6.out.later HBr.out.size (fun k hk _ => HBr.out.block k hk)) (fun r hr => ⟨(hp.rs r hr).1, (hp.rs r hr).2.2.1⟩)).mono ?_
          rintro e w7 ⟨lv, rfl, hown, hb7⟩
          have HOWN := Lib.hid hown
          have HB7 := Lib.hid hb7
          clear hown hb7
          have hb67 : Below w6.heap.size w6 w7 := HBr.out.trans (HB7.out.mono HBr.out.size)
          have HB67 := Lib.hid hb67
          clear hb67
          have q0 := (HB67.out.block _ (lt_of_block F0.out)).trans F0.out
          have c0 : w7.cell? ⟨w.heap.size, 0, none⟩ = some (.slice ao p.bs.length cap) := by rw [cell_of_row w7 _ _ _ _ _ q0]; rfl
          clear q0
          have hlen : (boundsL p (allR p)).length ≤ 13 := boundsL_length p hp _
          have h67 := HB67.out.size
          have hr7 := HB7.out.size
          go_wp2_with fail
          obtain ⟨wa, rfl⟩ : ∃ wa, wa = wr := ⟨_, rfl⟩
          go_loopw [9, 10, 29] (fun s l i wq => ∃ m : Nat, m ≤ p.bs.length ∧ i = .int .i64 m ∧ s = .bool (sureK p k m) ∧ wq.ownsRow wa.heap.size 134 1 l ((boundsL p (allR p)).length + m) ((boundsL p (allR p) ++ longL k m).map encB) ∧ Below wa.heap.size wa wq) (fun _ _ i _ => p.bs.length - (intOf i).toNat)
          case atStart => exact ⟨0, by omega, rfl, rfl, by simpa [longL] using HOWN.out, HB7.out⟩
          case round =>
            obtain ⟨m, hm, rfl, rfl, hown, hbq2⟩ := hrel
            have HBQ2 := Lib.hid hbq2
            have HOWN2 := Lib.hid hown
            clear hown hbq2 c0
            by_cases hlm : m < p.bs.length
            · have hqr := HBQ2.out.size
              have HSN := Lib.hid (sureK_next p k m)
              have HLN : Hid ((boundsL p (allR p) ++ longL k (m + 1)).map encB = (boundsL p (allR p) ++ longL k m).map encB ++ [encB (longB k m)]) := by
                rw [longL_next, ← List.append_assoc, List.map_append]; rfl
              cases hsu : sureK p k m with
              | false =>
                have hsn : sureK p k (m + 1) = false := by rw [HSN.out, hsu]; rfl
                have HSN2 := Lib.hid hsn
                clear hsn HSN hsu
                go_wp2_with (at_builtin; go_loud (refine wpList_append1 rfl _ _ 87 rfl wa.heap.size 134 1 16 .nilIface underBounds infoBound rfl (by decide) _ ((boundsL p (allR p)).length + m) _ rfl (HOWN2.out.alloc _) wr.heap.size 1 #[encB (longB k m)] 134 (0, 0) rfl (heap_alloc_at _ _ _ rfl) rfl (encB_one _) (by omega) (by decide) (by simp; omega) ?_; intro v' w1 hown' hgrow' hbel'; have HO1 := Lib.hid hown'; have HB2 := Lib.hid ((HBQ2.out.alloc (by omega) _).trans hbel'); clear hown' hgrow' hbel'))
                go_roundw
                case rel => exact ⟨m + 1, by omega, by go_num, by rw [HSN2.out], by rw [HLN.out]; exact HO1.out, HB2.out⟩
                case measure => simp [intOf]; omega
              | true =>
                go_wp2_with fail
                refine (differ_any p hp hne bp mb _ _ k m (by omega) (by omega) wr (HT.out.later (HBr.out.trans (HBQ2.out.mono (by have := HBr.out.size; omega))))).mono ?_
                rintro e w8 ⟨⟨⟨lo, hi⟩, hh, rfl⟩, hb8⟩
                have he : (lo, hi) = difS p k m := hh.eq
                have hsn : sureK p k (m + 1) = decide (0 ≤ lo) := by rw [HSN.out, hsu, ← he]; simp
                have HSN2 := Lib.hid hsn
                have hs8 := hb8.size
                have HO8 := Lib.hid (own_below HOWN2.out hb8)
                have HR8 := Lib.hid (HBQ2.out.trans (hb8.mono (by omega)))
                clear hsn HSN hsu hh he hb8 HOWN2 HBQ2
                unfold spanV
                go_wp2_with (at_builtin; go_loud (refine wpList_append1 rfl _ _ 87 rfl wa.heap.size 134 1 16 .nilIface underBounds infoBound rfl (by decide) _ ((boundsL p (allR p)).length + m) _ rfl (HO8.out.alloc _) w8.heap.size 1 #[encB (longB k m)] 134 (0, 0) rfl (heap_alloc_at _ _ _ rfl) rfl (encB_one _) (by omega) (by decide) (by simp; omega) ?_; intro v' w1 hown' hgrow' hbel'; have HO1 := Lib.hid hown'; have HB2 := Lib.hid ((HR8.out.alloc (by omega) _).trans hbel'); clear hown' hgrow' hbel'))
                go_roundw
                case rel => exact ⟨m + 1, by omega, by go_num, by rw [HSN2.out], by rw [HLN.out]; exact HO1.out, HB2.out⟩
                case measure => simp [intOf]; omega
            · obtain rfl : m = p.bs.length := by omega
              have hbpq := (HBQ2.out.block bp (lt_of_block HBPR.out)).trans HBPR.out
              have HBPQ := Lib.hid hbpq
              clear hbpq
              have hzz := hp.zz
              have hrr := hp.rr
              have hk5 : k < 5 := by omega
              have HS1 : Hid (∀ b, sureK p k p.bs.length = b → setN (sureB p) (k + 1) = if b then setN (sureB p) k + 2 ^ k else setN (sureB p) k) := fun b hb => by
                subst hb; rfl
              have HS2 : Hid (∀ b, canB p k = b → setN (canB p) (k + 1) = if b then setN (canB p) k + 2 ^ k else setN (canB p) k) := fun b hb => by
                subst hb; rfl
              have HO1 : Hid (bits BinOp.or IntKind.i64 ((setN (sureB p) k : Nat) : Int) (wrap64 (2 ^ k)) = ((setN (sureB p) k + 2 ^ k : Nat) : Int)) := or_bits _ k hk5 (setN_lt _ _)
              have HO2 : Hid (bits BinOp.or IntKind.i64 ((setN (canB p) k : Nat) : Int) (wrap64 (2 ^ k)) = ((setN (canB p) k + 2 ^ k : Nat) : Int)) := or_bits _ k hk5 (setN_lt _ _)
              have hcan : Calls Try.prog 70 #[.pointer (some ⟨bp, 0, none⟩), u10] wr fun e w' => e = .returned (.bool (canB p k)) ∧ Below wr.heap.size wr w' := by
                refine can_any (boundsL p (allR p) ++ longL k p.bs.length) (okB_long p hp _ k _ hk5 hp.n5) (by rw [List.length_append, longL_length]; omega) bp wa.heap.size _ _ _ _ p.zl p.zh p.rl p.rh (by omega) (by omega) (by omega) (by omega) (by omega) (by omega) wr (by exact HBPQ.out) ?_
                rw [List.length_append, longL_length]
                exact HOWN2.out
              have HCAN := Lib.hid hcan
              clear hcan HOWN2 hzz hrr
              cases hsu : sureK p k p.bs.length with
              | true =>
                go_wp2_with fail
                refine HCAN.out.mono ?_
                rintro e w8 ⟨rfl, hb8⟩
                have HB8 := Lib.hid (HBr.out.trans ((HBQ2.out.trans (hb8.mono HBQ2.out.size)).mono (by have := HBr.out.size; omega)))
                clear hb8
                cases hcb : canB p k with
                | true =>
                  have e1 := HS1.out _ hsu
                  have e2 := HS2.out _ hcb
                  have E1 := Lib.hid e1
                  have E2 := Lib.hid e2
                  clear e1 e2
                  go_wp2
                  exact ⟨⟨k + 1, by omega, by go_num, by rw [E1.out, HO1.out]; rfl, by rw [E2.out, HO2.out]; rfl, HB8.out⟩, by simp [intOf]; omega⟩
                | false =>
                  have e1 := HS1.out _ hsu
                  have e2 := HS2.out _ hcb
                  have E1 := Lib.hid e1
                  have E2 := Lib.hid e2
                  clear e1 e2
                  go_wp2
                  exact ⟨⟨k + 1, by omega, by go_num, by rw [E1.out, HO1.out]; rfl, by rw [E2.out]; rfl, HB8.out⟩, by simp [intOf]; omega⟩
              | false =>
                go_wp2_with fail
                refine HCAN.out.mono ?_
                rintro e w8 ⟨rfl, hb8⟩
                have HB8 := Lib.hid (HBr.out.trans ((HBQ2.out.trans (hb8.mono HBQ2.out.size)).mono (by have := HBr.out.size; omega)))
                clear hb8
                cases hcb : canB p k with
                | true =>
                  have e1 := HS1.out _ hsu
                  have e2 := HS2.out _ hcb
                  have E1 := Lib.hid e1
                  have E2 := Lib.hid e2
                  clear e1 e2
                  go_wp2
                  exact ⟨⟨k + 1, by omega, by go_num, by rw [E1.out]; rfl, by rw [E2.out, HO2.out]; rfl, HB8.out⟩, by simp [intOf]; omega⟩
                | false =>
                  have e1 := HS1.out _ hsu
                  have e2 := HS2.out _ hcb
                  have E1 := Lib.hid e1
                  have E2 := Lib.hid e2
                  clear e1 e2
                  go_wp2
                  exact ⟨⟨k + 1, by omega, by go_num, by rw [E1.out]; rfl, by rw [E2.out]; rfl, HB8.out⟩, by simp [intOf]; omega⟩
        · obtain rfl : k = p.bs.length := by omega
          have k3 := (HBr.out.block (w.heap.size + 1) (by omega)).trans F3.out
          have d0 : wr.cell? ⟨w.heap.size + 1, 0, none⟩ = some (.int .i64 0) := by rw [cell_of_row wr _ _ _ _ _ k3]; rfl
          have d1 : ∀ j, wr.frozen? ⟨w.heap.size + 1, j, none⟩ = false := fun j => frozen_of_row _ _ _ _ _ k3
          have K3 := Lib.hid k3
          clear k3
          go_wp2
          obtain ⟨W9, hW9⟩ : ∃ W9, W9 = wr.setCell ⟨w.heap.size + 1, 0, none⟩ (.int .i64 0) := ⟨_, rfl⟩
          have l3 : W9.heap[w.heap.size + 1]? = some (.cells #[.int .i64 0] 30 (0, 0)) := by rw [hW9]; simp [World.setCell, Array.getElem?_modify, K3.out]
          have hb9 : Below w.heap.size w W9 := by rw [hW9]; exact (HB6.out.trans (HBr.out.mono (by omega))).setCell (by simp) _
          rw [← hW9]
          exact longest_leaf_ret _ (w.heap.size + 1) _ _ _ W9 rfl rfl rfl l3 ⟨by rw [HF'.out], hb9⟩

end Go.Proofs.Ytlgeggekmdoceaa
