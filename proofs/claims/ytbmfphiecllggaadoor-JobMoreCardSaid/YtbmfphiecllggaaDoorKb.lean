/- Texts Ua, Uc, Ud, Ue, Uf, Ug, Uh, Ui, Ig, Ia in one file; each begins with a word on what it proves. -/
import Derived.Laws.StructEq
import Derived.Deep.Cut
import Derived.Maps.RangeRun
import Derived.Test.YtbmfphiecllggaaDoorKa

/- Stacks and jobs in plain words: what is told. -/
namespace Go.Proofs.YtbmfphiecllggaaDoor
set_option linter.unusedVariables false
set_option linter.unusedSimpArgs false

/-- A score is no more than the blocks that are left. -/
theorem sizeJ_after (m s av : Nat) (h : subJ s av = true) : sizeJ m s + sizeJ m (afterJ av s) = sizeJ m av := by
  rw [subJ_iff] at h
  induction m with
  | zero => rfl
  | succ n ih =>
    rw [sizeJ, sizeJ, sizeJ, afterJ_bit]
    have hn := h n
    cases hs : s.testBit n with
    | true => rw [hn hs]; simp; omega
    | false => simp; omega
theorem score_leJ (m : Nat) (Rs : List (List Nat)) (av : Nat) (x : Nat × Nat) (h : scoreJ m Rs av = some x) : x.2 ≤ sizeJ m av := by
  have hs := (score_specJ m Rs av).2 x h
  rw [← hs.2.1]
  have : ∀ (Rs : List (List Nat)) (av : Nat) (l : List Nat), PlanJ Rs av l → costJ m l ≤ sizeJ m av := by
    intro Rs
    induction Rs with
    | nil => intro av l h; have h : l = [] := h; subst h; exact Nat.zero_le _
    | cons R Rs ih =>
      intro av l h
      obtain ⟨s, t, rfl, _, h2, h3⟩ := h
      have h4 := ih _ _ h3
      have h5 := sizeJ_after m s av h2
      have h6 : costJ m (s :: t) = sizeJ m s + costJ m t := rfl
      omega
  exact this _ _ _ hs.1
theorem sizeJ_le (m s : Nat) : sizeJ m s ≤ m := by
  induction m with
  | zero => exact Nat.le_refl _
  | succ n ih => rw [sizeJ]; split <;> omega

/-- The set of the numbers of which something is so. -/
def setJ (f : Nat → Bool) : Nat → Nat
  | 0 => 0
  | n + 1 => setJ f n + (if f n then 2 ^ n else 0)
def insJ (lt : Nat → Nat → Bool) (x : Nat) : List Nat → List Nat
  | [] => [x]
  | y :: l => if lt x y then x :: y :: l else y :: insJ lt x l
/-- A sorted list. -/
def sortJ (lt : Nat → Nat → Bool) : List Nat → List Nat
  | [] => []
  | x :: l => insJ lt x (sortJ lt l)

/-! ### a set of blocks -/
structure StackD where
  bs : List (Int × Int)
  film : Int × Int
def blockOk (b : Int × Int) : Bool := decide (1 ≤ b.1) && decide (b.1 ≤ b.2) && decide (b.2 ≤ 500) && decide (b.2 - b.1 ≤ 6)
def filmOk (f : Int × Int) : Bool := decide (0 ≤ f.1) && decide (f.1 ≤ f.2) && decide (f.2 ≤ 5)
def wantOk (w : Int × Int) : Bool := decide (0 ≤ w.1) && decide (w.1 ≤ w.2) && decide (w.2 ≤ 5000)
def validSt (s : StackD) : Bool := decide (s.bs.length ≤ 8) && filmOk s.film && s.bs.all blockOk
def lenS (s : StackD) (set : Nat) : LenJ := lenJ s.film (selJ s.bs set)
def rightsS (s : StackD) (w : Int × Int) : List Nat := rightsJ s.film s.bs w
def errS (s : StackD) (ok : Bool) : Int := if validSt s = false then 1 else if ok = false then 2 else 0
/-- The least of a list. -/
def leastJ : List Nat → Option Nat
  | [] => none
  | x :: l => some (l.foldl (fun t s => if LessJ 8 s t then s else t) x)
def gradeS (s : StackD) (set : Nat) (w : Int × Int) : Int := (if meetsJ w (lenS s set) then 1 else 0) + (if insideJ w (lenS s set) then 1 else 0)
def isSetS (s : StackD) (n : Int) : Bool := decide (1 ≤ n) && decide (n ≤ 2 ^ s.bs.length - 1)
def fewestS (s : StackD) (w : Int × Int) : Int × Int :=
  if errS s (wantOk w) ≠ 0 then (0, errS s (wantOk w)) else match leastJ (rightsS s w) with
    | none => (0, 4)
    | some t => ((t : Nat), 0)

/-! ### a job -/
structure JobD where
  st : StackD
  ws : List (Int × Int)
def validJb (j : JobD) : Bool := validSt j.st && decide (j.ws.length ≤ 4) && j.ws.all wantOk
def rightsD (j : JobD) : List (List Nat) := j.ws.map (rightsS j.st)
def allD (j : JobD) : Nat := 2 ^ j.st.bs.length - 1
def everyD (j : JobD) : Nat := 2 ^ j.ws.length - 1
def scoreD (j : JobD) (wants blocks : Nat) : Option (Nat × Nat) := scoreJ 8 (selJ (rightsD j) wants) blocks
def canD (j : JobD) (wants : Nat) : Bool := (scoreD j wants (allD j)).isSome
def errD (j : JobD) (ok : Bool) : Int := if validJb j = false then 1 else if ok = false then 2 else 0
def planD (j : JobD) : List Nat × Int :=
  if errD j true ≠ 0 then ([], errD j true) else if canD j (everyD j) then (toldJ 8 (rightsD j) (allD j), 0) else ([], 4)
def aloneN (j : JobD) : Nat := setJ (fun i => !((rightsS j.st (j.ws.getD i (0, 0))).isEmpty)) j.ws.length
def aloneD (j : JobD) : Int × Int := if errD j true ≠ 0 then (0, errD j true) else ((aloneN j : Nat), 0)
def roundsN (j : JobD) : Option (List Nat) := (List.range (j.ws.length + 1)).findSome? fun most => onJ (canD j) most j.ws.length [] []
def roundsD (j : JobD) : List Nat × Int :=
  if errD j true ≠ 0 then ([], errD j true) else if aloneN j = everyD j then ((roundsN j).getD [], 0) else ([], 4)
def lendN (j : JobD) : Nat := setJ (fun b => (scoreD j (everyD j) (afterJ (allD j) (2 ^ b))).isSome) j.st.bs.length
def lendD (j : JobD) : Int × Int := if errD j true ≠ 0 then (0, errD j true) else if canD j (everyD j) then ((lendN j : Nat), 0) else (0, 4)
/-- What is wrong with a plan: the want, and the rule. -/
def wrongJ (R : List (List Nat)) : Nat → Nat → List Int → Option (Nat × Int)
  | _, _, [] => none
  | i, used, n :: l => if n.toNat ∉ R.getD i [] then some (i, 1) else if n.toNat &&& used ≠ 0 then some (i, 2) else wrongJ R (i + 1) (used ||| n.toNat) l
def isPlanD (j : JobD) (l : List Int) : Bool := decide (l.length = j.ws.length) && l.all (fun n => isSetS j.st n)
def checkD (j : JobD) (l : List Int) : (Int × Int) × Int :=
  if errD j (isPlanD j l) ≠ 0 then ((0, 0), errD j (isPlanD j l)) else match wrongJ (rightsD j) 0 0 l with
    | none => ((0, 0), 4)
    | some x => ((x.1, x.2), 0)
/-- All sets of wants, the smaller ones first. -/
def lessM (s t : Nat) : Bool := decide (sizeJ 4 s < sizeJ 4 t) || (decide (sizeJ 4 s = sizeJ 4 t) && decide (s < t))
def mostD (j : JobD) : (Int × Int) × Int :=
  if errD j true ≠ 0 then ((0, 0), errD j true) else
    let b := (sortJ lessM (List.range (2 ^ j.ws.length))).foldl (fun b s => if sizeJ 4 b < sizeJ 4 s && canD j s then s else b) 0
    ((sizeJ 4 b, b), 0)

/-! ### the document's examples -/
def stackS : StackD := ⟨[(10, 10), (12, 13), (20, 20), (31, 32)], (1, 2)⟩
def jobK : JobD := ⟨stackS, [(31, 36), (20, 24), (31, 33)]⟩
theorem val_rounds : roundsD jobK = ([0, 0, 1], 0) := by decide +kernel
theorem val_most : mostD jobK = ((2, 3), 0) := by decide +kernel
end Go.Proofs.YtbmfphiecllggaaDoor

/- What is told of jobs, in plain words: the laws that TopServed asks for. -/
namespace Go.Proofs.YtbmfphiecllggaaDoor
set_option linter.unusedVariables false
set_option linter.unusedSimpArgs false

/-! ### the least stack -/
theorem least_foldJ (m : Nat) : ∀ (l : List Nat) (t : Nat) (P : Nat → Prop), IsFewJ m P t → IsFewJ m (fun s => P s ∨ s ∈ l) (l.foldl (fun t s => if LessJ m s t then s else t) t)
  | [], t, P, h => h.congr fun s => ⟨.inl, fun hs => hs.elim id (fun hs => by cases hs)⟩
  | x :: l, t, P, h => by
    have h1 : IsFewJ m (fun s => s = x) x := ⟨rfl, fun s hs => .inl hs⟩
    refine (least_foldJ m l _ _ (h.join h1)).congr fun s => ?_
    rw [List.mem_cons]
    constructor
    · rintro ((hs | hs) | hs)
      · exact .inl hs
      · exact .inr (.inl hs)
      · exact .inr (.inr hs)
    · rintro (hs | hs | hs)
      · exact .inl (.inl hs)
      · exact .inl (.inr hs)
      · exact .inr hs
theorem least_none {l : List Nat} : leastJ l = none ↔ l = [] := by cases l <;> simp [leastJ]
theorem least_some {l : List Nat} {t : Nat} (h : leastJ l = some t) : IsFewJ 8 (fun s => s ∈ l) t := by
  cases l with
  | nil => cases h
  | cons x l =>
    simp only [leastJ, Option.some.injEq] at h
    subst h
    have h1 : IsFewJ 8 (fun s => s = x) x := ⟨rfl, fun s hs => .inl hs⟩
    exact (least_foldJ 8 l x _ h1).congr fun s => by rw [List.mem_cons]
/-- Whoever finds the least one finds this. -/
theorem least_is {l : List Nat} {P : Nat → Prop} {t : Nat} (h : IsFewJ 8 P t) (hp : ∀ s, P s ↔ s ∈ l) : leastJ l = some t := by
  cases hl : leastJ l with
  | none => rw [least_none] at hl; subst hl; exact absurd ((hp t).1 h.is) (by simp)
  | some u => rw [(least_some hl).eq (h.congr hp)]

/-! ### a job of some wants alone -/
theorem can_every (j : JobD) : canD j (everyD j) = (scoreJ 8 (rightsD j) (allD j)).isSome := by
  unfold canD scoreD everyD
  rw [show j.ws.length = (rightsD j).length by simp [rightsD], sel_allJ]
theorem sel_memJ {α : Type} : ∀ (bs : List α) (s : Nat) (x : α), x ∈ selJ bs s → x ∈ bs
  | [], _, _, h => h
  | b :: bs, s, x, h => by
    rw [selJ] at h
    split at h
    · rcases List.mem_cons.1 h with rfl | h
      · exact List.mem_cons_self
      · exact List.mem_cons_of_mem _ (sel_memJ bs _ x h)
    · exact List.mem_cons_of_mem _ (sel_memJ bs _ x h)
theorem sel_lenJ {α : Type} : ∀ (bs : List α) (s : Nat), (selJ bs s).length ≤ bs.length
  | [], _ => Nat.le_refl _
  | b :: bs, s => by
    have := sel_lenJ bs (s / 2)
    rw [selJ]
    split <;> simp only [List.length_cons] <;> omega
/-! ### rounds -/
theorem alone_bit (j : JobD) : aloneN j = everyD j ↔ ∀ w, (h : w < j.ws.length) → rightsS j.st j.ws[w] ≠ [] := by
  have hl : ∀ (f : Nat → Bool) n, setJ f n < 2 ^ n := by
    intro f n
    induction n with
    | zero => simp [setJ]
    | succ n ih => rw [setJ, Nat.pow_succ]; split <;> omega
  have hall : ∀ (f : Nat → Bool) n, setJ f n = 2 ^ n - 1 ↔ ∀ i, i < n → f i = true := by
    intro f n
    induction n with
    | zero => simp [setJ]
    | succ n ih =>
      have h1 := hl f n
      have hp := Nat.two_pow_pos n
      rw [setJ, Nat.pow_succ]
      constructor
      · intro e
        have hf : f n = true := by
          cases hf : f n with
          | true => rfl
          | false => rw [hf] at e; simp only [Bool.false_eq_true, if_false] at e; omega
        rw [hf] at e
        simp only [if_true] at e
        have := ih.1 (by omega)
        intro i hi
        by_cases h : i = n
        · rw [h]; exact hf
        · exact this i (by omega)
      · intro h
        rw [h n (by omega), if_pos rfl, ih.2 (fun i hi => h i (by omega))]
        omega
  unfold aloneN everyD
  rw [hall]
  constructor
  · intro h w hw
    have := h w hw
    rw [show j.ws.getD w (0, 0) = j.ws[w] by simp [List.getD, hw]] at this
    intro e
    rw [e] at this
    simp at this
  · intro h i hi
    have := h i hi
    rw [show j.ws.getD i (0, 0) = j.ws[i] by simp [List.getD, hi]]
    cases hr : rightsS j.st j.ws[i] with
    | nil => exact absurd hr this
    | cons a l => rfl
theorem sub_all {s n : Nat} (h : s < 2 ^ n) : subJ s (2 ^ n - 1) = true := by
  rw [subJ_iff]
  intro i hi
  rw [Nat.testBit_two_pow_sub_one]
  have : i < n := by
    rcases Nat.lt_or_ge i n with h' | h'
    · exact h'
    · have := Nat.testBit_lt_two_pow (Nat.lt_of_lt_of_le h (Nat.pow_le_pow_right (by decide) h'))
      rw [this] at hi; cases hi
  simp [this]
theorem sel_oneJ {α : Type} : ∀ (bs : List α) (w : Nat) (h : w < bs.length), selJ bs (2 ^ w) = [bs[w]]
  | [], _, h => by simp at h
  | b :: bs, 0, _ => by
    rw [selJ, if_pos (by decide), show 2 ^ 0 / 2 = 0 by decide, sel_zeroJ]; rfl
  | b :: bs, w + 1, h => by
    rw [selJ, if_neg (by rw [Nat.pow_succ]; omega), show 2 ^ (w + 1) / 2 = 2 ^ w by rw [Nat.pow_succ]; omega, sel_oneJ bs w (by simpa using h)]
    simp
theorem can_one (j : JobD) (w : Nat) (h : w < j.ws.length) (hr : rightsS j.st j.ws[w] ≠ []) : canD j (2 ^ w) = true := by
  unfold canD scoreD
  have hl : w < (rightsD j).length := by simpa [rightsD] using h
  rw [sel_oneJ _ w hl]
  have he : (rightsD j)[w] = rightsS j.st j.ws[w] := by simp [rightsD]
  obtain ⟨s, l, hs⟩ := List.exists_cons_of_ne_nil hr
  rw [he, hs]
  cases hsc : scoreJ 8 [s :: l] (allD j) with
  | some x => rfl
  | none =>
    exfalso
    have hm : s ∈ rightsS j.st j.ws[w] := by rw [hs]; exact List.mem_cons_self
    exact (score_specJ 8 [s :: l] (allD j)).1 hsc [s] ⟨s, [], rfl, List.mem_cons_self, sub_all (mem_rightsJ.1 hm).1, rfl⟩
theorem rounds_some (j : JobD) (h : aloneN j = everyD j) : ∃ l rs, roundsN j = some l ∧ l.length = j.ws.length ∧ GoodJ (canD j) rs l := by
  have hc := on_someJ (canD j) j.ws.length (fun w hw => can_one j w hw ((alone_bit j).1 h w hw)) j.ws.length [] [] (by simp) (by simp)
  have : (roundsN j).isSome = true := by
    unfold roundsN
    rw [List.isSome_findSome?, List.any_eq_true]
    exact ⟨j.ws.length, by rw [List.mem_range]; omega, hc⟩
  obtain ⟨l, hl⟩ := Option.isSome_iff_exists.1 this
  obtain ⟨most, _, hm⟩ := List.exists_of_findSome?_eq_some hl
  obtain ⟨h1, rs, h2⟩ := on_goodJ (canD j) most j.ws.length [] [] l (GoodJ.nil _) hm
  exact ⟨l, rs, hl, by simpa using h1, h2⟩
/-- How many numbers rounds have. -/
def numbersJ (l : List Nat) : Nat := l.foldl (fun n x => max n (x + 1)) 0
theorem numbers_le : ∀ (l : List Nat) (a n : Nat), a ≤ n → (∀ x ∈ l, x < n) → l.foldl (fun n x => max n (x + 1)) a ≤ n
  | [], _, _, h, _ => h
  | x :: l, a, n, h, hx => by
    have := hx x List.mem_cons_self
    exact numbers_le l (max a (x + 1)) n (by omega) (fun y hy => hx y (List.mem_cons_of_mem _ hy))
theorem numbers_ge : ∀ (l : List Nat) (a : Nat), a ≤ l.foldl (fun n x => max n (x + 1)) a ∧ ∀ x ∈ l, x < l.foldl (fun n x => max n (x + 1)) a
  | [], a => ⟨Nat.le_refl _, fun x h => by cases h⟩
  | x :: l, a => by
    obtain ⟨h1, h2⟩ := numbers_ge l (max a (x + 1))
    refine ⟨by simp only [List.foldl_cons]; omega, fun y hy => ?_⟩
    rcases List.mem_cons.1 hy with rfl | hy
    · simp only [List.foldl_cons]; omega
    · exact h2 y hy
/-- The wants of a round can be met at once. -/
theorem rounds_can {can : Nat → Bool} {rs l : List Nat} (h : GoodJ can rs l) (n : Nat) (hn : n < numbersJ l) : can (withJ l 0 n) = true := by
  have h1 : n < rs.length := Nat.lt_of_lt_of_le hn (numbers_le l 0 _ (Nat.zero_le _) h.lt)
  refine h.can _ ?_
  rw [h.eq]
  exact List.mem_map.2 ⟨n, List.mem_range.2 h1, rfl⟩
theorem with_upJ : ∀ (l : List Nat) (w n : Nat), withJ l (w + 1) n = 2 * withJ l w n
  | [], _, _ => rfl
  | x :: l, w, n => by
    rw [withJ, withJ, with_upJ l (w + 1) n, Nat.pow_succ]
    split <;> omega
/-! ### a job without a block -/
theorem setJ_lt (f : Nat → Bool) : ∀ n, setJ f n < 2 ^ n
  | 0 => by simp [setJ]
  | n + 1 => by have := setJ_lt f n; rw [setJ, Nat.pow_succ]; split <;> omega
/-! ### a plan that is told is right -/
end Go.Proofs.YtbmfphiecllggaaDoor

/- The small functions of package stack. -/
namespace Go.Proofs.YtbmfphiecllggaaDoor
set_option linter.unusedVariables false
set_option linter.unusedSimpArgs false
open Go.RowKit Go.Shelf
attribute [local go_sem] Oper.semAt_some

set_option maxRecDepth 100000 in
set_option maxHeartbeats 8000000 in
theorem onesJ64_any (x : Nat) (hx : x < 256) (w : World) :
    Calls Tryd.prog 103 #[.int .u64 x] w fun e w' => e = .returned (.int .i64 (sizeJ 8 x)) ∧ w = w' := by
  go_enter Tryd.func103, Tryd.ntmps103
  go_wp2
  go_ret
  refine ⟨?_, rfl⟩
  refine congrArg (fun n => Ending.returned (Value.int .i64 n)) ?_
  obtain ⟨y, rfl⟩ : ∃ y : Fin 256, x = y.val := ⟨⟨x, hx⟩, rfl⟩
  clear hx
  revert y
  decide +kernel
set_option maxRecDepth 100000 in
theorem onesJ_any (x : Nat) (hx : x < 256) (w : World) :
    Calls Tryd.prog 93 #[.int .u64 x] w fun e w' => e = .returned (.int .i64 (sizeJ 8 x)) ∧ w = w' := by
  go_enter Tryd.func93, Tryd.ntmps93
  go_wp2_with (first | (go_at_call 103; refine (onesJ64_any x hx _).mono ?_; rintro e w' ⟨rfl, rfl⟩))
  go_ret
  exact ⟨rfl, rfl⟩
theorem smany_any (s : Nat) (hs : s < 256) (w : World) :
    Calls Tryd.prog 106 #[.int .u64 s] w fun e w' => e = .returned (.int .i64 (sizeJ 8 s)) ∧ w = w' := by
  go_enter Tryd.func106, Tryd.ntmps106
  go_wp2_with (go_at_call 93; refine (onesJ_any s hs _).mono ?_; rintro e w' ⟨rfl, rfl⟩)
  go_ret
  exact ⟨rfl, rfl⟩
theorem or_u64J : ∀ n : Fin 8, ∀ s : Fin 256, bits BinOp.or IntKind.u64 (s.val : Int) (IntKind.u64.wrap (2 ^ n.val)) = ((s.val ||| 2 ^ n.val : Nat) : Int) := by decide +kernel
theorem swith_any (s n : Nat) (hs : s < 256) (hn : n < 8) (w : World) :
    Calls Tryd.prog 105 #[.int .u64 s, .int .i64 n] w fun e w' => e = .returned (.int .u64 ((s ||| 2 ^ n : Nat) : Int)) ∧ w = w' := by
  have hb := or_u64J ⟨n, hn⟩ ⟨s, hs⟩
  simp only at hb
  have HB := Lib.hid hb
  clear hb
  go_enter Tryd.func105, Tryd.ntmps105
  go_wp2
  go_ret
  exact ⟨by rw [← HB.out]; rfl, rfl⟩
set_option maxRecDepth 100000 in
set_option maxHeartbeats 1000000 in
theorem slesser_any (s t : Nat) (hs : s < 256) (ht : t < 256) (w : World) :
    Calls Tryd.prog 100 #[.int .u64 s, .int .u64 t] w fun e w' => e = .returned (.bool (decide (LessJ 8 s t))) ∧ w = w' := by
  have H : Hid (decide (LessJ 8 s t) = (decide (sizeJ 8 s < sizeJ 8 t) || (decide (sizeJ 8 s = sizeJ 8 t) && decide (s < t)))) := by show _ = _; by_cases h1 : sizeJ 8 s < sizeJ 8 t <;> by_cases h2 : sizeJ 8 s = sizeJ 8 t <;> by_cases h3 : s < t <;> simp [LessJ, h1, h2, h3]
  have hcs := smany_any s hs
  have hct := smany_any t ht
  obtain ⟨a, ha⟩ : ∃ a, a = sizeJ 8 s := ⟨_, rfl⟩
  obtain ⟨b, hb⟩ : ∃ b, b = sizeJ 8 t := ⟨_, rfl⟩
  rw [← ha, ← hb] at H
  rw [← ha] at hcs
  rw [← hb] at hct
  have HS := Lib.hid hcs
  have HT := Lib.hid hct
  clear hcs hct ha hb
  go_enter Tryd.func100, Tryd.ntmps100
  by_cases h1 : a < b
  · have h1i : (a : Int) < (b : Int) := by omega
    go_wp2_with (first | (go_at_call 106; first | (refine (HS.out _).mono ?_; rintro e w' ⟨rfl, rfl⟩) | (refine (HT.out _).mono ?_; rintro e w' ⟨rfl, rfl⟩)))
    go_ret
    exact ⟨by rw [H.out]; simp [h1], rfl⟩
  · have h1i : ¬ (a : Int) < (b : Int) := by omega
    by_cases h2 : a = b
    · have h2i : (a : Int) = (b : Int) := by omega
      by_cases h3 : s < t
      · have h3i : (s : Int) < (t : Int) := by omega
        go_wp2_with (first | (go_at_call 106; first | (refine (HS.out _).mono ?_; rintro e w' ⟨rfl, rfl⟩) | (refine (HT.out _).mono ?_; rintro e w' ⟨rfl, rfl⟩)))
        go_ret
        exact ⟨by rw [H.out]; simp [h1, h2, h3], rfl⟩
      · have h3i : ¬ (s : Int) < (t : Int) := by omega
        go_wp2_with (first | (go_at_call 106; first | (refine (HS.out _).mono ?_; rintro e w' ⟨rfl, rfl⟩) | (refine (HT.out _).mono ?_; rintro e w' ⟨rfl, rfl⟩)))
        go_ret
        exact ⟨by rw [H.out]; simp [h1, h2, h3], rfl⟩
    · have h2i : ¬ (a : Int) = (b : Int) := by omega
      go_wp2_with (first | (go_at_call 106; first | (refine (HS.out _).mono ?_; rintro e w' ⟨rfl, rfl⟩) | (refine (HT.out _).mono ?_; rintro e w' ⟨rfl, rfl⟩)))
      go_ret
      exact ⟨by rw [H.out]; simp [h1, h2], rfl⟩

/-! ### a refusal -/
theorem sask_ok (n : Int) (w : World) :
    Calls Tryd.prog 70 #[.bool true, .int .i64 n] w fun e w' => e = .returned (.tuple #[]) ∧ w = w' := by
  go_enter Tryd.func70, Tryd.ntmps70
  go_wp2
  go_end0
  exact ⟨rfl, rfl⟩
def srefV (n : Int) : Value := .iface 142 (.int .i64 n)
theorem sask_no (n : Int) (w : World) :
    Calls Tryd.prog 70 #[.bool false, .int .i64 n] w fun e w' => e = .panicked [{ v := srefV n, recovered := false }] ∧ w = w' := by
  go_enter Tryd.func70, Tryd.ntmps70
  go_wp2
  exact ⟨rfl, rfl, rfl⟩
theorem swithin_any (n a b : Int) (w : World) :
    Calls Tryd.prog 89 #[.int .i64 n, .int .i64 a, .int .i64 b] w fun e w' => e = .returned (.bool (decide (a ≤ n) && decide (n ≤ b))) ∧ w = w' := by
  go_enter Tryd.func89, Tryd.ntmps89
  go_wp2
  all_goals go_ret
  all_goals exact ⟨by simp [*]; try omega, rfl⟩
/-- A span as a value. -/
def spV (s : Int × Int) : Value := .agg #[.int .i64 s.1, .int .i64 s.2]
theorem isWant_any (s : Int × Int) (w : World) :
    Calls Tryd.prog 68 #[spV s] w fun e w' => e = .returned (.bool (wantOk s)) ∧ Below w.heap.size w w' := by
  obtain ⟨lo, hi⟩ := s
  unfold spV
  have H : Hid (wantOk (lo, hi) = (decide (0 ≤ lo) && decide (lo ≤ hi) && decide (hi ≤ 5000))) := by show _ = _; rfl
  go_enter Tryd.func68, Tryd.ntmps68
  go_wp2
  all_goals go_ret
  all_goals exact ⟨by rw [H.out]; simp [*]; try omega, (Below.refl _ _).alloc (Nat.le_refl _) _⟩

/-! ### how long stacks are -/
/-- A length as a value. -/
def encL (l : LenJ) : Value := .agg #[.int .i64 l.lo, .int .i64 l.hi, .int .i64 l.many]
def LenOk (l : LenJ) : Prop := (-1000000 ≤ l.lo ∧ l.lo ≤ 1000000) ∧ (-1000000 ≤ l.hi ∧ l.hi ≤ 1000000) ∧ 0 ≤ l.many ∧ l.many ≤ 1000
def SpOk (s : Int × Int) : Prop := (-1000 ≤ s.1 ∧ s.1 ≤ 1000) ∧ (-1000 ≤ s.2 ∧ s.2 ≤ 1000)
theorem lwith_any (l : LenJ) (b f : Int × Int) (hl : LenOk l) (hb : SpOk b) (hf : SpOk f) (w : World) :
    Calls Tryd.prog 90 #[encL l, spV b, spV f] w fun e w' => e = .returned (encL (l.with b f)) ∧ Below w.heap.size w w' := by
  obtain ⟨lo, hi, many⟩ := l
  obtain ⟨b1, b2⟩ := b
  obtain ⟨f1, f2⟩ := f
  obtain ⟨⟨a1, a2⟩, ⟨a3, a4⟩, a5, a6⟩ := hl
  obtain ⟨⟨c1, c2⟩, ⟨c3, c4⟩⟩ := hb
  obtain ⟨⟨d1, d2⟩, ⟨d3, d4⟩⟩ := hf
  simp only at a1 a2 a3 a4 a5 a6 c1 c2 c3 c4 d1 d2 d3 d4
  have w1 : IntKind.i64.wrap (lo + f1) = lo + f1 := IntWalk.i64_in _ (by omega)
  have w2 : IntKind.i64.wrap (hi + f2) = hi + f2 := IntWalk.i64_in _ (by omega)
  have w3 : IntKind.i64.wrap (lo + b1) = lo + b1 := IntWalk.i64_in _ (by omega)
  have w4 : IntKind.i64.wrap (hi + b2) = hi + b2 := IntWalk.i64_in _ (by omega)
  have w5 : IntKind.i64.wrap (lo + f1 + b1) = lo + f1 + b1 := IntWalk.i64_in _ (by omega)
  have w6 : IntKind.i64.wrap (hi + f2 + b2) = hi + f2 + b2 := IntWalk.i64_in _ (by omega)
  have w7 : IntKind.i64.wrap (many + 1) = many + 1 := IntWalk.i64_in _ (by omega)
  unfold encL spV
  by_cases hm : 0 < many
  · have HE : Hid (LenJ.with ⟨lo, hi, many⟩ (b1, b2) (f1, f2) = ⟨lo + f1 + b1, hi + f2 + b2, many + 1⟩) := by show _ = _; unfold LenJ.with; simp only; rw [if_pos hm]
    go_enter Tryd.func90, Tryd.ntmps90
    go_wp2_with fail
    go_region
    all_goals go_wp2
    all_goals refine bodyPost_ret (v := encL ⟨lo + f1 + b1, hi + f2 + b2, many + 1⟩) ?_ rfl ⟨by rw [HE.out]; rfl, ?_⟩
    · simp [results, Tryd.results90, go_sem, encL]
    exact (((((Below.refl _ _).alloc (Nat.le_refl _) _).alloc (by simp) _).alloc (by simp <;> omega) _).alloc (by simp <;> omega) _).drew
  · have HE : Hid (LenJ.with ⟨lo, hi, many⟩ (b1, b2) (f1, f2) = ⟨lo + b1, hi + b2, many + 1⟩) := by show _ = _; unfold LenJ.with; simp only; rw [if_neg hm]
    go_enter Tryd.func90, Tryd.ntmps90
    go_wp2
    refine bodyPost_ret (v := encL ⟨lo + b1, hi + b2, many + 1⟩) ?_ rfl ⟨by rw [HE.out]; rfl, ?_⟩
    · simp [results, Tryd.results90, go_sem, encL]
    exact ((((Below.refl _ _).alloc (Nat.le_refl _) _).alloc (by simp) _).alloc (by simp <;> omega) _).alloc (by simp <;> omega) _
end Go.Proofs.YtbmfphiecllggaaDoor

/- Lengths as keys of a map; what is asked of a length. -/
namespace Go.Proofs.YtbmfphiecllggaaDoor
set_option linter.unusedVariables false
set_option linter.unusedSimpArgs false
open Go.RowKit Go.Shelf
attribute [local go_sem] Oper.semAt_some

theorem under_long : Tryd.prog.underlying 116 = some (.struct (Tryd.prog.fieldsOf 116)) := by kernel_rfl
theorem under_lmap : Tryd.prog.underlying 160 = some (.map 116 107) := by kernel_rfl
theorem eqLong (c d : LenJ) (w : World) : (Op.equal 116 (encL c) (encL d)).run Tryd.prog w = .ok (decide (c = d)) w := by
  unfold encL Op.equal Op.maxDepth
  rw [run_equalIn_agg w 9999 116 _ _ under_long (by kernel_rfl)]
  simp [go_sem, Op.eqFields]
  obtain ⟨a, b, m⟩ := c
  obtain ⟨a', b', m'⟩ := d
  by_cases h1 : a = a' <;> by_cases h2 : b = b' <;> by_cases h3 : m = m' <;> simp [h1, h2, h3]
theorem keyLong : KeyK Tryd.prog 116 encL where
  under := ⟨_, under_long⟩
  eq := eqLong
  chk c e w := by kernel_rfl
  same c := by simp [encL, Instr.sameBits]

/-! ### what is asked of a length -/
theorem inside_any (s : Int × Int) (l : LenJ) (w : World) :
    Calls Tryd.prog 130 #[spV s, encL l] w fun e w' => e = .returned (.bool (insideJ s l)) ∧ Below w.heap.size w w' := by
  obtain ⟨lo, hi⟩ := s
  obtain ⟨a, b, m⟩ := l
  unfold spV encL
  have H : Hid (insideJ (lo, hi) ⟨a, b, m⟩ = (decide (lo ≤ a) && decide (b ≤ hi))) := by show _ = _; rfl
  go_enter Tryd.func130, Tryd.ntmps130
  go_wp2
  all_goals go_ret
  all_goals exact ⟨by rw [H.out]; simp [*]; try omega, ((Below.refl _ _).alloc (Nat.le_refl _) _).alloc (by simp) _⟩
theorem meets_any (s : Int × Int) (l : LenJ) (w : World) :
    Calls Tryd.prog 131 #[spV s, encL l] w fun e w' => e = .returned (.bool (meetsJ s l)) ∧ Below w.heap.size w w' := by
  obtain ⟨lo, hi⟩ := s
  obtain ⟨a, b, m⟩ := l
  unfold spV encL
  have H : Hid (meetsJ (lo, hi) ⟨a, b, m⟩ = (decide (lo ≤ b) && decide (a ≤ hi))) := by show _ = _; rfl
  go_enter Tryd.func131, Tryd.ntmps131
  go_wp2
  all_goals go_ret
  all_goals exact ⟨by rw [H.out]; simp [*]; try omega, ((Below.refl _ _).alloc (Nat.le_refl _) _).alloc (by simp) _⟩
theorem method_inside (cs : Array Value) (w : World) : (method 286 113 (.agg cs) "blockworks/stack.is").run Tryd.prog w = .ok (130, .agg cs) w := by kernel_rfl
theorem method_meets (cs : Array Value) (w : World) : (method 286 119 (.agg cs) "blockworks/stack.is").run Tryd.prog w = .ok (131, .agg cs) w := by kernel_rfl

/-! ### what is found of a length -/
structure FoundD where
  many : Int
  least : Nat
  each : Int
  some : Int
def encF (f : FoundD) : Value := .agg #[.int .i64 f.many, .int .u64 f.least, .int .u64 f.each, .int .u64 f.some]
def foundC (f : FoundD) : List Value := [.int .i64 f.many, .int .u64 f.least, .int .u64 f.each, .int .u64 f.some]
/-- A slice of founds in memory. -/
def FoundsAt (W : World) (v : Value) (l : List FoundD) : Prop :=
  ∃ ao cap, v = .slice ao l.length cap ∧ ∀ i (h : i < l.length), ∃ b off, ao = some ⟨b, off, none⟩ ∧ b < W.heap.size ∧
    W.cell? ⟨b, off + i * 4, none⟩ = some (.int .i64 l[i].many) ∧ W.cell? ⟨b, off + i * 4 + 1, none⟩ = some (.int .u64 l[i].least) ∧ W.cell? ⟨b, off + i * 4 + 2, none⟩ = some (.int .u64 l[i].each) ∧
    W.cell? ⟨b, off + i * 4 + 3, none⟩ = some (.int .u64 l[i].some)
def leastF : List FoundD → Nat
  | [] => 0
  | x :: l => l.foldl (fun t f => if LessJ 8 f.least t then f.least else t) x.least
theorem leastF_snoc (l : List FoundD) (hl : l ≠ []) (f : FoundD) : leastF (l ++ [f]) = if LessJ 8 f.least (leastF l) then f.least else leastF l := by
  cases l with
  | nil => exact absurd rfl hl
  | cons x l =>
    show (l ++ [f]).foldl _ _ = _
    rw [List.foldl_append]; rfl
end Go.Proofs.YtbmfphiecllggaaDoor

/- What is found of several lengths, joined. -/
namespace Go.Proofs.YtbmfphiecllggaaDoor
set_option linter.unusedVariables false
set_option linter.unusedSimpArgs false
open Go.RowKit Go.Shelf
attribute [local go_sem] Oper.semAt_some

theorem four_setCell {w : World} {b : Nat} {x y z u x' y' z' u' : Value} {t : TypeId} {fr : Nat × Nat} (h : w.heap[b]? = some (.cells #[x, y, z, u] t fr)) :
    ((((w.setCell ⟨b, 0, none⟩ x').setCell ⟨b, 1, none⟩ y').setCell ⟨b, 2, none⟩ z').setCell ⟨b, 3, none⟩ u').heap[b]? = some (.cells #[x', y', z', u'] t fr) := by
  simp [World.setCell, Array.getElem?_modify, h]
def foundRow (f : FoundD) : Obj := .cells #[.int .i64 f.many, .int .u64 f.least, .int .u64 f.each, .int .u64 f.some] 107 (0, 0)
theorem FoundsAt.later {w W : World} {v : Value} {l : List FoundD} (h : FoundsAt w v l) (hb : Below w.heap.size w W) : FoundsAt W v l := by
  obtain ⟨ao, cap, h1, h2⟩ := h
  refine ⟨ao, cap, h1, fun i hi => ?_⟩
  obtain ⟨b, off, e1, e2, e3, e4, e5, e6⟩ := h2 i hi
  have hk := hb.block b e2
  have hc : ∀ k, W.cell? ⟨b, k, none⟩ = w.cell? ⟨b, k, none⟩ := fun k => World.cell?_of_block (w := w) (a := ⟨b, k, none⟩) hk
  exact ⟨b, off, e1, Nat.lt_of_lt_of_le e2 hb.size, by rw [hc]; exact e3, by rw [hc]; exact e4, by rw [hc]; exact e5, by rw [hc]; exact e6⟩
set_option maxRecDepth 100000 in
set_option maxHeartbeats 4000000 in
theorem joined_any (l : List FoundD) (hl : l.length ≤ 100000) (hf : ∀ f ∈ l, f.least < 256) (v : Value) (w : World) (hv : FoundsAt w v l) :
    Calls Tryd.prog 88 #[v] w fun e w' => (∃ f : FoundD, e = .returned (encF f) ∧ f.least = leastF l) ∧ Below w.heap.size w w' := by
  have HV := Lib.hid hv
  have HF := Lib.hid hf
  obtain ⟨ao, cap, hv1, _⟩ := hv
  subst hv1
  clear hf
  go_enter Tryd.func88, Tryd.ntmps88
  go_wp2_with fail
  go_loopw [7] (fun iv wr => ∃ i : Nat, i ≤ l.length ∧ iv = .int .i64 i ∧ (∃ f : FoundD, wr.heap[w.heap.size]? = some (foundRow f) ∧ f.least < 256 ∧ f.least = leastF (l.take i)) ∧ Below w.heap.size w wr)
    (fun iv _ => l.length - (intOf iv).toNat)
  case atStart => exact ⟨0, Nat.zero_le _, rfl, ⟨⟨0, 0, 0, 0⟩, heap_alloc_at _ _ _ rfl, by decide, rfl⟩, (Below.refl _ _).alloc (Nat.le_refl _) _⟩
  case round =>
    obtain ⟨i, hi, rfl, ⟨f, hrow, hf256, hfl⟩, hb⟩ := hrel
    have HB := Lib.hid hb
    have HR := Lib.hid hrow
    have HFL := Lib.hid hfl
    clear hb hrow hfl
    by_cases hlt : i < l.length
    · obtain ⟨ao', cap', hv', hel⟩ := HV.out.later HB.out
      injection hv' with hao _ hcap
      subst hao hcap
      obtain ⟨b, off, rfl, hbs, e0, e1, e2, e3⟩ := hel i hlt
      obtain ⟨x, hx⟩ : ∃ x, x = l[i] := ⟨_, rfl⟩
      rw [← hx] at e0 e1 e2 e3
      have hx256 : x.least < 256 := by rw [hx]; exact HF.out _ (List.getElem_mem hlt)
      have HX := Lib.hid hx
      clear hx hel
      have hw : IntKind.i64.wrap ((i : Int) + 1) = ((i + 1 : Nat) : Int) := by rw [IntWalk.i64_in _ (by omega)]; omega
      have hlti : (i : Int) < (l.length : Int) := by omega
      have r0 : ∀ o, (wr.alloc o).cell? ⟨w.heap.size, 0, none⟩ = some (.int .i64 f.many) := fun o => by rw [cell_of_row _ _ _ _ _ _ ((hget_old wr o _ (by have := lt_of_block HR.out; omega)).trans HR.out)]; rfl
      have r1 : ∀ o, (wr.alloc o).cell? ⟨w.heap.size, 1, none⟩ = some (.int .u64 f.least) := fun o => by rw [cell_of_row _ _ _ _ _ _ ((hget_old wr o _ (by have := lt_of_block HR.out; omega)).trans HR.out)]; rfl
      have r2 : ∀ o, (wr.alloc o).cell? ⟨w.heap.size, 2, none⟩ = some (.int .u64 f.each) := fun o => by rw [cell_of_row _ _ _ _ _ _ ((hget_old wr o _ (by have := lt_of_block HR.out; omega)).trans HR.out)]; rfl
      have r3 : ∀ o, (wr.alloc o).cell? ⟨w.heap.size, 3, none⟩ = some (.int .u64 f.some) := fun o => by rw [cell_of_row _ _ _ _ _ _ ((hget_old wr o _ (by have := lt_of_block HR.out; omega)).trans HR.out)]; rfl
      have rf : ∀ o k, (wr.alloc o).frozen? ⟨w.heap.size, k, none⟩ = false := fun o k => frozen_of_row _ _ _ _ _ ((hget_old wr o _ (by have := lt_of_block HR.out; omega)).trans HR.out)
      by_cases h0 : i = 0
      · subst h0
        simp only [Nat.zero_mul, Nat.add_zero] at e0 e1 e2 e3
        go_wp2_with fail
        refine ⟨⟨1, hlt, rfl, ⟨x, ?_, hx256, ?_⟩, ?_⟩, by simp [intOf]; omega⟩
        · exact four_setCell (x' := .int .i64 x.many) (y' := .int .u64 x.least) (z' := .int .u64 x.each) (u' := .int .u64 x.some) ((hget_old _ _ _ (by have := lt_of_block HR.out; omega)).trans HR.out)
        · rw [HX.out]
          obtain ⟨y, ys, rfl⟩ := List.exists_cons_of_length_pos (show 0 < l.length from hlt)
          rfl
        · exact ((((HB.out.alloc (by have := HB.out.size; omega) _).setCell (p := ⟨w.heap.size, 0, none⟩) (Nat.le_refl _) _).setCell (p := ⟨w.heap.size, 1, none⟩) (Nat.le_refl _) _).setCell (p := ⟨w.heap.size, 2, none⟩) (Nat.le_refl _) _).setCell (p := ⟨w.heap.size, 3, none⟩) (Nat.le_refl _) _
      · have h0i : ¬ (i : Int) = 0 := by omega
        go_wp2_with fail
        obtain ⟨m', hm'⟩ : ∃ m, m = wrap64 (f.many + x.many) := ⟨_, rfl⟩
        rw [← hm']
        obtain ⟨W1, hW1⟩ : ∃ W, W = (wr.alloc (.cells #[.int .i64 x.many, .int .u64 x.least, .int .u64 x.each, .int .u64 x.some] 107)).setCell ⟨w.heap.size, 0, none⟩ (.int .i64 m') := ⟨_, rfl⟩
        have hne : w.heap.size ≠ wr.heap.size := by have := lt_of_block HR.out; omega
        have hr1 : W1.heap[w.heap.size]? = some (.cells #[.int .i64 m', .int .u64 f.least, .int .u64 f.each, .int .u64 f.some] 107 (0, 0)) := by
          rw [hW1]
          have := (hget_old wr (.cells #[.int .i64 x.many, .int .u64 x.least, .int .u64 x.each, .int .u64 x.some] 107) _ hne).trans HR.out
          simp [World.setCell, Array.getElem?_modify, this, foundRow]
        have hx1 : W1.heap[wr.heap.size]? = some (foundRow x) := by
          rw [hW1]
          exact ((Keeps.setCell (Mut := fun k => k = w.heap.size) _ ⟨w.heap.size, 0, none⟩ _ rfl).block _ (by simp) (fun e => hne e.symm)).trans (heap_alloc_at wr (.cells #[.int .i64 x.many, .int .u64 x.least, .int .u64 x.each, .int .u64 x.some] 107) _ rfl)
        have hb1 : Below w.heap.size w W1 := by rw [hW1]; exact (HB.out.alloc (by have := HB.out.size; omega) _).setCell (p := ⟨w.heap.size, 0, none⟩) (Nat.le_refl _) _
        rw [← hW1]
        have HR1 := Lib.hid hr1
        have HX1 := Lib.hid hx1
        have HB1 := Lib.hid hb1
        clear hr1 hx1 hb1 hW1 r0 r1 r2 r3 rf e0 e1 e2 e3
        have r1 : W1.cell? ⟨w.heap.size, 1, none⟩ = some (.int .u64 f.least) := by rw [cell_of_row _ _ _ _ _ _ HR1.out]; rfl
        have r2 : W1.cell? ⟨w.heap.size, 2, none⟩ = some (.int .u64 f.each) := by rw [cell_of_row _ _ _ _ _ _ HR1.out]; rfl
        have r3 : W1.cell? ⟨w.heap.size, 3, none⟩ = some (.int .u64 f.some) := by rw [cell_of_row _ _ _ _ _ _ HR1.out]; rfl
        have rf : ∀ k, W1.frozen? ⟨w.heap.size, k, none⟩ = false := fun k => frozen_of_row _ _ _ _ _ HR1.out
        have x1 : W1.cell? ⟨wr.heap.size, 1, none⟩ = some (.int .u64 x.least) := by rw [cell_of_row _ _ _ _ _ _ HX1.out]; rfl
        have x2 : W1.cell? ⟨wr.heap.size, 2, none⟩ = some (.int .u64 x.each) := by rw [cell_of_row _ _ _ _ _ _ HX1.out]; rfl
        have x3 : W1.cell? ⟨wr.heap.size, 3, none⟩ = some (.int .u64 x.some) := by rw [cell_of_row _ _ _ _ _ _ HX1.out]; rfl
        go_region
        obtain ⟨c', hc'⟩ : ∃ c, c = bits BinOp.and IntKind.u64 f.each x.each := ⟨_, rfl⟩
        obtain ⟨s', hs'⟩ : ∃ c, c = bits BinOp.or IntKind.u64 f.some x.some := ⟨_, rfl⟩
        rw [← hc', ← hs']
        obtain ⟨W2, hW2⟩ : ∃ W, W = ((W1.setCell ⟨w.heap.size, 2, none⟩ (.int .u64 c')).setCell ⟨w.heap.size, 3, none⟩ (.int .u64 s')).drew := ⟨_, rfl⟩
        have hr2 : W2.heap[w.heap.size]? = some (.cells #[.int .i64 m', .int .u64 f.least, .int .u64 c', .int .u64 s'] 107 (0, 0)) := by
          rw [hW2]
          show ((W1.setCell ⟨w.heap.size, 2, none⟩ (.int .u64 c')).setCell ⟨w.heap.size, 3, none⟩ (.int .u64 s')).heap[w.heap.size]? = _
          simp [World.setCell, Array.getElem?_modify, HR1.out]
        have hx2 : W2.heap[wr.heap.size]? = some (foundRow x) := by
          rw [hW2]
          have hlt1 := lt_of_block HX1.out
          exact ((Keeps.setCell (Mut := fun k => k = w.heap.size) (W1.setCell ⟨w.heap.size, 2, none⟩ (.int .u64 c')) ⟨w.heap.size, 3, none⟩ (.int .u64 s') rfl).block _ (by simpa using hlt1) (fun e => hne e.symm)).trans (((Keeps.setCell (Mut := fun k => k = w.heap.size) W1 ⟨w.heap.size, 2, none⟩ (.int .u64 c') rfl).block _ hlt1 (fun e => hne e.symm)).trans HX1.out)
        have hb2 : Below w.heap.size w W2 := by rw [hW2]; exact ((HB1.out.setCell (p := ⟨w.heap.size, 2, none⟩) (Nat.le_refl _) _).setCell (p := ⟨w.heap.size, 3, none⟩) (Nat.le_refl _) _).drew
        rw [← hW2]
        have HR2 := Lib.hid hr2
        have HX2 := Lib.hid hx2
        have HB2 := Lib.hid hb2
        clear hr2 hx2 hb2 hW2 r1 r2 r3 rf x1 x2 x3 hc' hs'
        have r1 : W2.cell? ⟨w.heap.size, 1, none⟩ = some (.int .u64 f.least) := by rw [cell_of_row _ _ _ _ _ _ HR2.out]; rfl
        have rf : ∀ k, W2.frozen? ⟨w.heap.size, k, none⟩ = false := fun k => frozen_of_row _ _ _ _ _ HR2.out
        have x1 : W2.cell? ⟨wr.heap.size, 1, none⟩ = some (.int .u64 x.least) := by rw [cell_of_row _ _ _ _ _ _ HX2.out]; rfl
        go_wp2_with fail
        refine (slesser_any x.least f.least hx256 hf256 _).mono ?_
        rintro e w' ⟨rfl, rfl⟩
        dsimp only
        have hsn : leastF (l.take (i + 1)) = if LessJ 8 x.least f.least then x.least else f.least := by
          rw [List.take_succ_eq_append_getElem hlt, leastF_snoc _ (by intro e; have := congrArg List.length e; rw [List.length_take, List.length_nil] at this; omega), ← HX.out, ← HFL.out]
        cases hless : decide (LessJ 8 x.least f.least) with
        | true =>
          rw [if_pos (of_decide_eq_true hless)] at hsn
          have HSN := Lib.hid hsn
          clear hsn hless
          go_wp2_with fail
          refine ⟨⟨i + 1, hlt, rfl, ⟨⟨m', x.least, c', s'⟩, ?_, hx256, HSN.out.symm⟩, ?_⟩, by simp [intOf]; omega⟩
          · simp [World.setCell, Array.getElem?_modify, HR2.out, foundRow]
          · exact HB2.out.setCell (p := ⟨w.heap.size, 1, none⟩) (Nat.le_refl _) _
        | false =>
          rw [if_neg (of_decide_eq_false hless)] at hsn
          have HSN := Lib.hid hsn
          clear hsn hless
          go_wp2_with fail
          exact ⟨⟨i + 1, hlt, rfl, ⟨⟨m', f.least, c', s'⟩, HR2.out, hf256, HSN.out.symm⟩, HB2.out⟩, by simp [intOf]; omega⟩
    · obtain rfl : i = l.length := by omega
      have r0 : wr.cell? ⟨w.heap.size, 0, none⟩ = some (.int .i64 f.many) := by rw [cell_of_row _ _ _ _ _ _ HR.out]; rfl
      have r1 : wr.cell? ⟨w.heap.size, 1, none⟩ = some (.int .u64 f.least) := by rw [cell_of_row _ _ _ _ _ _ HR.out]; rfl
      have r2 : wr.cell? ⟨w.heap.size, 2, none⟩ = some (.int .u64 f.each) := by rw [cell_of_row _ _ _ _ _ _ HR.out]; rfl
      have r3 : wr.cell? ⟨w.heap.size, 3, none⟩ = some (.int .u64 f.some) := by rw [cell_of_row _ _ _ _ _ _ HR.out]; rfl
      have rf : ∀ k, wr.frozen? ⟨w.heap.size, k, none⟩ = false := fun k => frozen_of_row _ _ _ _ _ HR.out
      go_wp2_with fail
      refine bodyPost_ret (v := encF f) ?_ rfl ⟨⟨f, rfl, ?_⟩, ?_⟩
      · have hro := four_setCell (x' := .int .i64 f.many) (y' := .int .u64 f.least) (z' := .int .u64 f.each) (u' := .int .u64 f.some) HR.out
        obtain ⟨W3, hW3⟩ : ∃ W, W = (((wr.setCell ⟨w.heap.size, 0, none⟩ (.int .i64 f.many)).setCell ⟨w.heap.size, 1, none⟩ (.int .u64 f.least)).setCell ⟨w.heap.size, 2, none⟩ (.int .u64 f.each)).setCell ⟨w.heap.size, 3, none⟩ (.int .u64 f.some) := ⟨_, rfl⟩
        rw [← hW3] at hro ⊢
        have z0 : W3.cell? ⟨w.heap.size, 0, none⟩ = some (.int .i64 f.many) := by rw [cell_of_row _ _ _ _ _ _ hro]; rfl
        have z1 : W3.cell? ⟨w.heap.size, 1, none⟩ = some (.int .u64 f.least) := by rw [cell_of_row _ _ _ _ _ _ hro]; rfl
        have z2 : W3.cell? ⟨w.heap.size, 2, none⟩ = some (.int .u64 f.each) := by rw [cell_of_row _ _ _ _ _ _ hro]; rfl
        have z3 : W3.cell? ⟨w.heap.size, 3, none⟩ = some (.int .u64 f.some) := by rw [cell_of_row _ _ _ _ _ _ hro]; rfl
        simp [results, Tryd.results88, go_sem, encF, z0, z1, z2, z3]
      · rw [HFL.out, List.take_length]
      · exact (((HB.out.setCell (p := ⟨w.heap.size, 0, none⟩) (Nat.le_refl _) _).setCell (p := ⟨w.heap.size, 1, none⟩) (Nat.le_refl _) _).setCell (p := ⟨w.heap.size, 2, none⟩) (Nat.le_refl _) _).setCell (p := ⟨w.heap.size, 3, none⟩) (Nat.le_refl _) _
end Go.Proofs.YtbmfphiecllggaaDoor

/- What is found of a length is put to what was found before. -/
namespace Go.Proofs.YtbmfphiecllggaaDoor
set_option linter.unusedVariables false
set_option linter.unusedSimpArgs false
open Go.RowKit Go.Shelf
attribute [local go_sem] Oper.semAt_some

/-- A table of lengths in memory. -/
structure TabAt (w : World) (mb : Nat) (F : LenJ → Option FoundD) : Prop where
  row : ∃ L clock, w.heap[mb]? = some (mapK encL L clock) ∧ TabK L clock (fun l => (F l).map encF)
  lt : ∀ l f, F l = some f → f.least < 256
theorem TabAt.of {w W : World} {mb : Nat} {F : LenJ → Option FoundD} (h : TabAt w mb F) (he : W.heap[mb]? = w.heap[mb]?) : TabAt W mb F := by
  obtain ⟨L, clock, h1, h2⟩ := h.row
  exact ⟨⟨L, clock, he.trans h1, h2⟩, h.lt⟩
theorem TabAt.lt_size {w : World} {mb : Nat} {F : LenJ → Option FoundD} (h : TabAt w mb F) : mb < w.heap.size := by
  obtain ⟨L, clock, h1, _⟩ := h.row
  exact (Array.getElem?_eq_some_iff.1 h1).1
theorem zeroFound (w : World) : (zeroValue 107).run Tryd.prog w = .ok (.agg #[.int .i64 0, .int .u64 0, .int .u64 0, .int .u64 0]) w := by kernel_rfl
theorem TabAt.look {w : World} {mb : Nat} {F : LenJ → Option FoundD} (h : TabAt w mb F) (l : LenJ) :
    (Instr.lookup 160 (.map (some mb)) (encL l) true).run Tryd.prog w = .ok (.tuple #[((F l).map encF).getD (.agg #[.int .i64 0, .int .u64 0, .int .u64 0, .int .u64 0]), .bool ((F l).map encF).isSome]) w := by
  obtain ⟨L, clock, h1, h2⟩ := h.row
  exact run_getK keyLong under_lmap mb L clock _ h2 l w h1 _ (zeroFound w)
theorem TabAt.put {w : World} {mb : Nat} {F : LenJ → Option FoundD} (h : TabAt w mb F) (l : LenJ) (f : FoundD) (hf : f.least < 256) :
    ∃ o, (Instr.mapUpdate 160 (.map (some mb)) (encL l) (encF f)).run Tryd.prog w = .ok () (w.putObj mb o) ∧ TabAt (w.putObj mb o) mb (fun x => if x = l then some f else F x) := by
  obtain ⟨L, clock, h1, h2⟩ := h.row
  refine ⟨_, run_updK keyLong under_lmap mb L clock l (encF f) w h1, ⟨⟨(updK l (encF f) L clock).1, (updK l (encF f) L clock).2, ?_, ?_⟩, fun x g hx => ?_⟩⟩
  · have := (Array.getElem?_eq_some_iff.1 h1).1
    simp [World.putObj, this]
  · have := h2.upd l (encF f)
    have he : (fun x => if x = l then some (encF f) else (F x).map encF) = fun x => ((if x = l then some f else F x).map encF) := by
      funext x; split <;> rfl
    rw [he] at this
    exact this
  · split at hx
    · cases hx; exact hf
    · exact h.lt x g hx
/-- A walk's world by what is known of it alone. -/
theorem wp_name {P : Program} {c : Code} {Q : Exit → Act → World → Prop} {a : Act} {w : World} (R : World → Prop) (h : R w) (k : ∀ W, R W → c.wp P Q a W) : c.wp P Q a w := k w h
def lenRow (l : LenJ) : Obj := .cells #[.int .i64 l.lo, .int .i64 l.hi, .int .i64 l.many] 116 (0, 0)
theorem Keeps.of_put {w W : World} {mb : Nat} (hb : Below w.heap.size w W) (o : Obj) : Keeps (fun k => k = mb) w (W.putObj mb o) :=
  (Keeps.of_below hb (fun k h1 h2 => absurd h2 (by omega))).trans (Keeps.putObj W mb o rfl)
theorem founds_two {W : World} {b : Nat} {o f : FoundD} {t : TypeId} {fr : Nat × Nat} (h : W.heap[b]? = some (.cells #[.int .i64 o.many, .int .u64 o.least, .int .u64 o.each, .int .u64 o.some, .int .i64 f.many, .int .u64 f.least, .int .u64 f.each, .int .u64 f.some] t fr)) :
    FoundsAt W (.slice (some ⟨b, 0, none⟩) 2 2) [o, f] := by
  refine ⟨some ⟨b, 0, none⟩, 2, rfl, fun i hi => ⟨b, 0, rfl, (Array.getElem?_eq_some_iff.1 h).1, ?_⟩⟩
  have hi : i < 2 := hi
  rcases (by omega : i = 0 ∨ i = 1) with rfl | rfl
  · refine ⟨?_, ?_, ?_, ?_⟩ <;> (rw [cell_of_row _ _ _ _ _ _ h]; rfl)
  · refine ⟨?_, ?_, ?_, ?_⟩ <;> (rw [cell_of_row _ _ _ _ _ _ h]; rfl)
/-- The lesser one of two. -/
def putL : Option FoundD → Nat → Nat
  | none, t => t
  | some o, t => if LessJ 8 t o.least then t else o.least
set_option maxRecDepth 100000 in
set_option maxHeartbeats 4000000 in
theorem put_any (mb : Nat) (F : LenJ → Option FoundD) (l : LenJ) (f : FoundD) (hf : f.least < 256) (w : World) (h : TabAt w mb F) :
    Calls Tryd.prog 104 #[.map (some mb), encL l, encF f] w fun e w' => e = .returned (.tuple #[]) ∧ Keeps (fun k => k = mb) w w' ∧
      ∃ g : FoundD, g.least = putL (F l) f.least ∧ TabAt w' mb (fun x => if x = l then some g else F x) := by
  have HT := Lib.hid h
  have hmb := h.lt_size
  clear h
  have hlook : ∀ W, Below w.heap.size w W → (Instr.lookup 160 (.map (some mb)) (encL l) true).run Tryd.prog W = .ok (.tuple #[((F l).map encF).getD (.agg #[.int .i64 0, .int .u64 0, .int .u64 0, .int .u64 0]), .bool ((F l).map encF).isSome]) W := fun W hb => (HT.out.of (hb.block mb hmb)).look l
  have hb2 : ∀ o1 o2, Below w.heap.size w ((w.alloc o1).alloc o2) := fun o1 o2 => ((Below.refl _ _).alloc (Nat.le_refl _) _).alloc (by simp) _
  have hl2 := fun o1 o2 => hlook _ (hb2 o1 o2)
  have HB2 := Lib.hid hb2
  clear hlook hb2
  unfold encL encF at hl2 ⊢
  go_enter Tryd.func104, Tryd.ntmps104
  cases hF : F l with
  | none =>
    rw [hF] at hl2
    simp only [Option.map_none, Option.getD_none, Option.isSome_none] at hl2
    go_upto_region 4 with fail
    refine wp_name (fun W => W.heap[w.heap.size]? = some (lenRow l) ∧ W.heap[w.heap.size + 1]? = some (foundRow f) ∧ Below w.heap.size w W) ⟨(by repeat (first | (refine heap_alloc_at _ _ _ ?_; (simp <;> omega); done) | (refine (hget_old _ _ _ ?_).trans ?_; · (simp <;> omega)))), (by repeat (first | (refine heap_alloc_at _ _ _ ?_; (simp <;> omega); done) | (refine (hget_old _ _ _ ?_).trans ?_; · (simp <;> omega)))), (HB2.out _ _).alloc (by simp <;> omega) _⟩ ?_
    rintro W ⟨hl, hr, hb⟩
    have hmw := Lib.hid (HT.out.of (hb.block mb hmb))
    have HB := Lib.hid hb
    have c0 : W.cell? ⟨w.heap.size, 0, none⟩ = some (.int .i64 l.lo) := by rw [cell_of_row _ _ _ _ _ _ hl]; rfl
    have c1 : W.cell? ⟨w.heap.size, 1, none⟩ = some (.int .i64 l.hi) := by rw [cell_of_row _ _ _ _ _ _ hl]; rfl
    have c2 : W.cell? ⟨w.heap.size, 2, none⟩ = some (.int .i64 l.many) := by rw [cell_of_row _ _ _ _ _ _ hl]; rfl
    have f0 : W.cell? ⟨w.heap.size + 1, 0, none⟩ = some (.int .i64 f.many) := by rw [cell_of_row _ _ _ _ _ _ hr]; rfl
    have f1 : W.cell? ⟨w.heap.size + 1, 1, none⟩ = some (.int .u64 f.least) := by rw [cell_of_row _ _ _ _ _ _ hr]; rfl
    have f2 : W.cell? ⟨w.heap.size + 1, 2, none⟩ = some (.int .u64 f.each) := by rw [cell_of_row _ _ _ _ _ _ hr]; rfl
    have f3 : W.cell? ⟨w.heap.size + 1, 3, none⟩ = some (.int .u64 f.some) := by rw [cell_of_row _ _ _ _ _ _ hr]; rfl
    obtain ⟨ob, hup, hnew⟩ := hmw.out.put l f (by assumption)
    unfold encL encF at hup
    have HN := Lib.hid hnew
    clear hb hl hr hnew
    go_wp2
    go_end0
    exact ⟨rfl, Keeps.of_put HB.out _, f, rfl, HN.out⟩
  | some o =>
    rw [hF] at hl2
    simp only [Option.map_some, Option.getD_some, Option.isSome_some] at hl2
    have ho := HT.out.lt l o hF
    go_wp2_with fail
    refine (joined_any [o, f] (by simp) (by intro x hx; rcases List.mem_cons.1 hx with rfl | hx; exact ho; rw [List.mem_singleton.1 hx]; exact hf) _ _ (founds_two (by repeat (first | (refine heap_alloc_at _ _ _ ?_; (simp <;> omega); done) | (refine (hget_old _ _ _ ?_).trans ?_; · (simp <;> omega)))))).mono ?_
    rintro e w5 ⟨⟨g, rfl, hg0⟩, hb5⟩
    dsimp only
    have hg : g.least = if LessJ 8 f.least o.least then f.least else o.least := hg0
    clear hg0
    have hg256 : g.least < 256 := by rw [hg]; split <;> assumption
    have h5l : w5.heap[w.heap.size]? = some (lenRow l) := (hb5.block _ (by simp <;> omega)).trans (by repeat (first | (refine heap_alloc_at _ _ _ ?_; (simp <;> omega); done) | (refine (hget_old _ _ _ ?_).trans ?_; · (simp <;> omega))))
    have h5f : w5.heap[w.heap.size + 1]? = some (foundRow f) := (hb5.block _ (by simp <;> omega)).trans (by repeat (first | (refine heap_alloc_at _ _ _ ?_; (simp <;> omega); done) | (refine (hget_old _ _ _ ?_).trans ?_; · (simp <;> omega))))
    have hb : Below w.heap.size w w5 := (((HB2.out _ _).alloc (by simp <;> omega) _).alloc (by simp <;> omega) _).trans (hb5.mono (by simp <;> omega))
    have HL5 := Lib.hid h5l
    have HF5 := Lib.hid h5f
    have HB5 := Lib.hid hb
    have HG := Lib.hid hg
    clear hb5 hb h5l h5f hg hl2
    unfold encF
    have rf : ∀ k, w5.frozen? ⟨w.heap.size + 1, k, none⟩ = false := fun k => frozen_of_row _ _ _ _ _ HF5.out
    have p0 : w5.cell? ⟨w.heap.size + 1, 0, none⟩ = some (.int .i64 f.many) := by rw [cell_of_row _ _ _ _ _ _ HF5.out]; rfl
    have p1 : w5.cell? ⟨w.heap.size + 1, 1, none⟩ = some (.int .u64 f.least) := by rw [cell_of_row _ _ _ _ _ _ HF5.out]; rfl
    have p2 : w5.cell? ⟨w.heap.size + 1, 2, none⟩ = some (.int .u64 f.each) := by rw [cell_of_row _ _ _ _ _ _ HF5.out]; rfl
    have p3 : w5.cell? ⟨w.heap.size + 1, 3, none⟩ = some (.int .u64 f.some) := by rw [cell_of_row _ _ _ _ _ _ HF5.out]; rfl
    go_upto_region 4 with fail
    refine wp_name (fun W => W.heap[w.heap.size]? = some (lenRow l) ∧ W.heap[w.heap.size + 1]? = some (foundRow g) ∧ Below w.heap.size w W) ⟨?_, four_setCell HF5.out, (((HB5.out.setCell (p := ⟨w.heap.size + 1, 0, none⟩) (by simp) _).setCell (p := ⟨w.heap.size + 1, 1, none⟩) (by simp) _).setCell (p := ⟨w.heap.size + 1, 2, none⟩) (by simp) _).setCell (p := ⟨w.heap.size + 1, 3, none⟩) (by simp) _⟩ ?_
    · simp [World.setCell, Array.getElem?_modify, HL5.out]
    rintro W ⟨hl, hr, hb⟩
    have hmw := Lib.hid (HT.out.of (hb.block mb hmb))
    have HB := Lib.hid hb
    have c0 : W.cell? ⟨w.heap.size, 0, none⟩ = some (.int .i64 l.lo) := by rw [cell_of_row _ _ _ _ _ _ hl]; rfl
    have c1 : W.cell? ⟨w.heap.size, 1, none⟩ = some (.int .i64 l.hi) := by rw [cell_of_row _ _ _ _ _ _ hl]; rfl
    have c2 : W.cell? ⟨w.heap.size, 2, none⟩ = some (.int .i64 l.many) := by rw [cell_of_row _ _ _ _ _ _ hl]; rfl
    have f0 : W.cell? ⟨w.heap.size + 1, 0, none⟩ = some (.int .i64 g.many) := by rw [cell_of_row _ _ _ _ _ _ hr]; rfl
    have f1 : W.cell? ⟨w.heap.size + 1, 1, none⟩ = some (.int .u64 g.least) := by rw [cell_of_row _ _ _ _ _ _ hr]; rfl
    have f2 : W.cell? ⟨w.heap.size + 1, 2, none⟩ = some (.int .u64 g.each) := by rw [cell_of_row _ _ _ _ _ _ hr]; rfl
    have f3 : W.cell? ⟨w.heap.size + 1, 3, none⟩ = some (.int .u64 g.some) := by rw [cell_of_row _ _ _ _ _ _ hr]; rfl
    obtain ⟨ob, hup, hnew⟩ := hmw.out.put l g (by assumption)
    unfold encL encF at hup
    have HN := Lib.hid hnew
    clear hb hl hr hnew
    go_wp2
    go_end0
    exact ⟨rfl, Keeps.of_put HB.out _, g, HG.out, HN.out⟩
end Go.Proofs.YtbmfphiecllggaaDoor

/- A map with structs as keys is ranged over; what the tables of lengths hold. -/
namespace Go.Proofs.YtbmfphiecllggaaDoor
set_option linter.unusedVariables false
set_option linter.unusedSimpArgs false
open Go.RowKit Go.Shelf Go.ChangeMaps
attribute [local go_sem] Oper.semAt_some

/-- How many entries are still to come. -/
def leftK (w : World) (b r : Nat) : Nat :=
  match w.heap[b]?, w.heap[r]? with
  | some (.map es _), some (.mapIter _ _ seen _) => (leftOf es seen).size
  | _, _ => 0
section
variable {κ : Type} [DecidableEq κ]
omit [DecidableEq κ] in
theorem borns_K (enc : κ → Value) (L : List (κ × Value × Nat)) : (L.map (entK enc)).toArray.toList.map (·.born) = L.map (·.2.2) := by
  simp [entK]
omit [DecidableEq κ] in
/-- 'next': nothing is left, or an entry that has not been seen, and it can be read. -/
theorem next_K {P : Program} {enc : κ → Value} {wr : World} {mb rb c0 clock since : Nat} {seen : Array Nat} {L : List (κ × Value × Nat)} {f : κ → Option Value} (ht : TabK L clock f) (hs : clock ≤ since)
    (hit : wr.heap[rb]? = some (.mapIter (some mb) since seen c0)) (hc : since ≤ c0) (hm : wr.heap[mb]? = some (mapK enc L clock)) (hne : mb ≠ rb) :
    ((∀ x ∈ L, seen.contains x.2.2 = true) ∧ (Instr.next (.pointer (some ⟨rb, 0, none⟩)) false 0).run P wr = .ok (.tuple #[.bool false]) wr) ∨
    ∃ y ∈ L, seen.contains y.2.2 = false ∧ ∃ W, Keeps (fun k => k = rb) wr W ∧ W.heap.size = wr.heap.size ∧ W.heap[rb]? = some (.mapIter (some mb) since (seen.push y.2.2) clock) ∧
      (Instr.next (.pointer (some ⟨rb, 0, none⟩)) false 0).run P wr = .ok (.tuple #[.bool true, enc y.1, y.2.1]) W ∧
      (Instr.entry (.pointer (some ⟨rb, 0, none⟩))).run P W = .ok (.tuple #[enc y.1, y.2.1]) W ∧
      ∀ W', W'.heap[mb]? = some (mapK enc L clock) → W'.heap[rb]? = some (.mapIter (some mb) since (seen.push y.2.2) clock) → leftK W' mb rb < leftK wr mb rb := by
  have hborn : ∀ x ∈ (L.map (entK enc)).toArray.toList, x.born < since := by
    intro x hx
    simp only [List.mem_map] at hx
    obtain ⟨y, hy, rfl⟩ := hx
    have := ht.born y hy
    simp only [entK]; omega
  rcases run_next_at (P := P) wr 0 rb mb since c0 seen (L.map (entK enc)).toArray clock hit hm hborn hc with ⟨hz, hrun⟩ | ⟨e, he, w1, hw1, hrun⟩
  · refine .inl ⟨fun x hx => ?_, hrun⟩
    exact all_seen _ _ hz (entK enc x) (by simp only [List.mem_map]; exact ⟨x, hx, rfl⟩)
  · right
    obtain ⟨hee, hsn⟩ := mem_left he
    have hee' := hee
    simp only [List.mem_map] at hee'
    obtain ⟨y, hy, rfl⟩ := hee'
    have hlt : rb < wr.heap.size := (Array.getElem?_eq_some_iff.1 hit).1
    refine ⟨y, hy, hsn, setBlock w1 rb (.mapIter (some mb) since (seen.push y.2.2) clock), ?_, ?_, ?_, hrun, ?_, ?_⟩
    · rcases hw1 with rfl | rfl
      · exact Keeps.putObj _ _ _ rfl
      · exact (Keeps.drew _ _).trans (Keeps.putObj _ _ _ rfl)
    · rcases hw1 with rfl | rfl <;> simp [setBlock]
    · rcases hw1 with rfl | rfl <;> simp [setBlock, hlt]
    · refine run_entry_at (P := P) _ rb mb since seen (L.map (entK enc)).toArray clock (entK enc y) ?_ ?_ hee ?_
      · rcases hw1 with rfl | rfl <;> simp [setBlock, hlt, entK]
      · have : wr.heap[mb]? = some (.map (L.map (entK enc)).toArray clock) := hm
        have h2 : wr.drew.heap[mb]? = some (.map (L.map (entK enc)).toArray clock) := this
        rcases hw1 with rfl | rfl <;> simp [setBlock, Array.getElem?_setIfInBounds, Ne.symm hne, this, h2]
      · rw [borns_K]; exact ht.borns
    · intro W' h1 h2
      unfold leftK
      rw [h1, h2, hm, hit]
      exact left_shrinks _ seen _ he
end

/-! ### the tables of lengths -/
def leastT (F : LenJ → Option FoundD) : LenJ → Option Nat := fun l => (F l).map FoundD.least
theorem leastT_put (F : LenJ → Option FoundD) (l : LenJ) (g : FoundD) (t : Nat) (h : g.least = putL (F l) t) : leastT (fun x => if x = l then some g else F x) = putTJ 8 (leastT F) l t := by
  funext x
  unfold leastT putTJ
  dsimp only
  by_cases hx : x = l
  · subst hx
    rw [if_pos rfl, if_pos rfl]
    cases hF : F x with
    | none => rw [hF] at h; simp only [Option.map_some, Option.map_none, h]; rfl
    | some o =>
      rw [hF] at h
      simp only [Option.map_some, h, putL]
  · rw [if_neg hx, if_neg hx]
/-- Blocks and films that are valid: a length is no longer than all of them. -/
theorem len_okJ (film : Int × Int) (hf : filmOk film = true) : ∀ (l : List (Int × Int)) (a : LenJ), (∀ b ∈ l, blockOk b = true) → 0 ≤ a.lo → a.lo ≤ a.hi → 0 ≤ a.many → a.hi ≤ 505 * a.many →
    0 ≤ (l.foldl (fun l b => l.with b film) a).lo ∧ (l.foldl (fun l b => l.with b film) a).lo ≤ (l.foldl (fun l b => l.with b film) a).hi ∧ (l.foldl (fun l b => l.with b film) a).hi ≤ 505 * (a.many + l.length)
  | [], a, _, h1, h2, h3, h4 => ⟨h1, h2, by simpa using h4⟩
  | b :: l, a, hb, h1, h2, h3, h4 => by
    have h0 := hb b List.mem_cons_self
    unfold blockOk at h0
    unfold filmOk at hf
    simp only [Bool.and_eq_true, decide_eq_true_eq] at h0 hf
    have hm : (a.with b film).many = a.many + 1 := by unfold LenJ.with; split <;> rfl
    have hlo : 0 ≤ (a.with b film).lo ∧ (a.with b film).lo ≤ (a.with b film).hi ∧ (a.with b film).hi ≤ 505 * (a.many + 1) := by
      unfold LenJ.with
      split <;> (simp only; omega)
    have ih := len_okJ film (by unfold filmOk; simp only [Bool.and_eq_true, decide_eq_true_eq]; exact hf) l (a.with b film) (fun x hx => hb x (List.mem_cons_of_mem _ hx)) hlo.1 hlo.2.1 (by rw [hm]; omega) (by rw [hm]; exact hlo.2.2)
    rw [List.foldl_cons]
    refine ⟨ih.1, ih.2.1, ?_⟩
    have := ih.2.2
    rw [hm] at this
    rw [List.length_cons]
    push_cast
    omega
theorem sel_len8 {α : Type} (bs : List α) (s : Nat) (h : bs.length ≤ 8) : (selJ bs s).length ≤ 8 := Nat.le_trans (sel_lenJ bs s) h
theorem of_lenOk {s : StackD} (hv : validSt s = true) {i : Nat} {l : LenJ} {t : Nat} (h : OfJ s.film s.bs i l t) : LenOk l := by
  obtain ⟨_, rfl⟩ := h
  unfold validSt at hv
  simp only [Bool.and_eq_true, decide_eq_true_eq, List.all_eq_true] at hv
  obtain ⟨⟨h1, h2⟩, h3⟩ := hv
  have hl := sel_len8 s.bs t h1
  have hk := len_okJ s.film h2 (selJ s.bs t) LenJ.zero (fun b hb => h3 b (sel_memJ _ _ _ hb)) (by decide) (by decide) (by decide) (by decide)
  have hm := lenJ_many s.film (selJ s.bs t)
  have hz : LenJ.zero.many = 0 := rfl
  rw [hz] at hk
  unfold lenJ at *
  refine ⟨⟨by omega, by omega⟩, ⟨by omega, by omega⟩, by omega, by omega⟩
theorem spOk_block {b : Int × Int} (h : blockOk b = true) : SpOk b := by
  unfold blockOk at h
  simp only [Bool.and_eq_true, decide_eq_true_eq] at h
  exact ⟨⟨by omega, by omega⟩, by omega, by omega⟩
theorem spOk_film {b : Int × Int} (h : filmOk b = true) : SpOk b := by
  unfold filmOk at h
  simp only [Bool.and_eq_true, decide_eq_true_eq] at h
  exact ⟨⟨by omega, by omega⟩, by omega, by omega⟩
theorem or_add (s i : Nat) (h : s < 2 ^ i) : s ||| 2 ^ i = s + 2 ^ i := by
  have := Nat.two_pow_add_eq_or_of_lt h 1
  rw [Nat.mul_one] at this
  rw [Nat.or_comm, ← this, Nat.add_comm]
/-- The table of no blocks. -/
theorem tab_zero (film : Int × Int) (bs : List (Int × Int)) : TabJ 8 (OfJ film bs 0) (fun l => if l = LenJ.zero then some 0 else none) := by
  intro l
  refine ⟨fun h s hs => ?_, fun t h => ?_⟩
  · have h0 : s = 0 := by have := hs.1; omega
    subst h0
    have := hs.2
    rw [sel_zeroJ] at this
    have : LenJ.zero = l := this
    dsimp only at h
    rw [if_pos this.symm] at h
    cases h
  · dsimp only at h
    split at h
    · rename_i hl
      cases h
      refine ⟨⟨by decide, by rw [sel_zeroJ, hl]; rfl⟩, fun s hs => .inl ?_⟩
      have := hs.1; omega
    · cases h
theorem sel_nil : ∀ (bs : List (Int × Int)) (s : Nat), s < 2 ^ bs.length → selJ bs s = [] → s = 0
  | [], s, hs, _ => by simpa using hs
  | b :: bs, s, hs, h => by
    rw [selJ] at h
    split at h
    · cases h
    · have := sel_nil bs (s / 2) (by rw [List.length_cons, Nat.pow_succ] at hs; omega) h
      omega
/-- The table without the stack of no blocks. -/
theorem tab_del {film : Int × Int} {bs : List (Int × Int)} {all : LenJ → Option Nat} (h : TabJ 8 (OfJ film bs bs.length) all) :
    TabJ 8 (fun l s => s ≠ 0 ∧ OfJ film bs bs.length l s) (fun l => if l = LenJ.zero then none else all l) := by
  have hz : ∀ s, s < 2 ^ bs.length → (lenJ film (selJ bs s) = LenJ.zero ↔ s = 0) := by
    intro s hs
    constructor
    · intro e
      have hm := lenJ_many film (selJ bs s)
      rw [e] at hm
      have hm : (0 : Int) = ((selJ bs s).length : Int) := hm
      have : selJ bs s = [] := List.length_eq_zero_iff.1 (by omega)
      exact sel_nil bs s hs this
    · rintro rfl; rw [sel_zeroJ]; rfl
  intro l
  by_cases hl : l = LenJ.zero
  · subst hl
    refine ⟨fun _ s hs => hs.1 ((hz s hs.2.1).1 hs.2.2), fun t ht => ?_⟩
    dsimp only at ht
    rw [if_pos rfl] at ht; cases ht
  · simp only [if_neg hl]
    obtain ⟨h1, h2⟩ := h l
    refine ⟨fun hn s hs => h1 hn s hs.2, fun t ht => (h2 t ht).congr fun s => ?_⟩
    constructor
    · intro hs
      refine ⟨?_, hs⟩
      rintro rfl
      exact hl (hs.2.symm.trans ((hz 0 hs.1).2 rfl))
    · exact fun hs => hs.2
end Go.Proofs.YtbmfphiecllggaaDoor

/- All lengths of stacks: the walk. -/
namespace Go.Proofs.YtbmfphiecllggaaDoor
set_option linter.unusedVariables false
set_option linter.unusedSimpArgs false
open Go.RowKit Go.Shelf
attribute [local go_sem] Oper.semAt_some

/-- A set of blocks that is looked at. -/
structure SetAt (w : World) (pp : Nat) (s : StackD) (sv : Value) : Prop where
  row : w.heap[pp]? = some (.cells #[sv, .int .i64 s.film.1, .int .i64 s.film.2] 145 (0, 0))
  bs : SpansAt w sv s.bs (fun k => k ≤ pp)
theorem SetAt.later {w W : World} {pp : Nat} {s : StackD} {sv : Value} (h : SetAt w pp s sv) (hb : Below w.heap.size w W) : SetAt W pp s sv :=
  ⟨(hb.block _ (Array.getElem?_eq_some_iff.1 h.row).1).trans h.row, h.bs.later hb.size (fun k hk _ => hb.block k hk)⟩
theorem tab_empty {w : World} {mb : Nat} (h : w.heap[mb]? = some (.map #[] 0)) : TabAt w mb (fun _ => none) :=
  ⟨⟨[], 0, h, TabK.nil⟩, fun l f h => by cases h⟩
theorem swithI_any (s : Int) (n : Nat) (hn : n < 8) (w : World) :
    Calls Tryd.prog 105 #[.int .u64 s, .int .i64 n] w fun e w' => e = .returned (.int .u64 (bits BinOp.or IntKind.u64 s (IntKind.u64.wrap (2 ^ n)))) ∧ w = w' := by
  go_enter Tryd.func105, Tryd.ntmps105
  go_wp2
  go_ret
  exact ⟨rfl, rfl⟩
theorem swithA_any (s n : Nat) (hs : s < 2 ^ n) (hn : n < 8) (w : World) :
    Calls Tryd.prog 105 #[.int .u64 s, .int .i64 n] w fun e w' => e = .returned (.int .u64 ((s + 2 ^ n : Nat) : Int)) ∧ w = w' := by
  rw [← or_add s n hs]
  exact swith_any s n (Nat.lt_of_lt_of_le hs (Nat.pow_le_pow_right (by decide) (by omega : n ≤ 8))) hn w
theorem find_borns {L : List (LenJ × Value × Nat)} (hn : (L.map (·.2.2)).Nodup) {x y : LenJ × Value × Nat} (hx : x ∈ L) (hy : y ∈ L) (e : x.2.2 = y.2.2) : x = y := by
  obtain ⟨i, hi, rfl⟩ := List.getElem_of_mem hx
  obtain ⟨j, hj, rfl⟩ := List.getElem_of_mem hy
  have : i = j := (List.getElem_inj (xs := L.map (·.2.2)) (h₀ := by simpa using hi) (h₁ := by simpa using hj) hn).1 (by simpa using e)
  subst this; rfl
/-- The lengths that have been gone through. -/
def SeenK (L : List (LenJ × Value × Nat)) (seen : Array Nat) (x : LenJ) : Prop := ∃ y ∈ L, y.1 = x ∧ seen.contains y.2.2 = true
theorem seen_push {L : List (LenJ × Value × Nat)} (hn : (L.map (·.2.2)).Nodup) {seen : Array Nat} {l : LenJ} {v : Value} {born : Nat} (hy : (l, v, born) ∈ L) (x : LenJ) :
    SeenK L seen x ∨ x = l ↔ SeenK L (seen.push born) x := by
  constructor
  · rintro (⟨y, h1, h2, h3⟩ | rfl)
    · exact ⟨y, h1, h2, by rw [contains_push, h3]; rfl⟩
    · exact ⟨_, hy, rfl, by rw [contains_push]; simp⟩
  · rintro ⟨y, h1, rfl, h3⟩
    rw [contains_push, Bool.or_eq_true] at h3
    rcases h3 with h3 | h3
    · exact .inl ⟨y, h1, rfl, h3⟩
    · rw [find_borns hn h1 hy (by simpa using h3)]; exact .inr rfl
theorem ofK_congr {film : Int × Int} {bs : List (Int × Int)} {i : Nat} {K K' : LenJ → Prop} (h : ∀ x, K x ↔ K' x) (l : LenJ) (s : Nat) : OfKJ film bs i K l s ↔ OfKJ film bs i K' l s := by
  unfold OfKJ
  simp only [h]
set_option maxRecDepth 100000 in
set_option maxHeartbeats 4000000 in
theorem lengths_any (s : StackD) (hv : validSt s = true) (pp : Nat) (sv : Value) (w : World) (h : SetAt w pp s sv) :
    Calls Tryd.prog 99 #[.pointer (some ⟨pp, 0, none⟩)] w fun e w' => (∃ mb F, e = .returned (.map (some mb)) ∧ TabAt w' mb F ∧ w.heap.size ≤ mb ∧ TabJ 8 (fun l t => t ≠ 0 ∧ OfJ s.film s.bs s.bs.length l t) (leastT F)) ∧ Below w.heap.size w w' := by
  have HS := Lib.hid h
  have HV := Lib.hid hv
  have hlen : s.bs.length ≤ 8 := by unfold validSt at hv; simp only [Bool.and_eq_true, decide_eq_true_eq] at hv; exact hv.1.1
  have hpp : pp < w.heap.size := (Array.getElem?_eq_some_iff.1 h.row).1
  obtain ⟨ao, cap, hsv, _⟩ := h.bs
  subst hsv
  obtain ⟨n, hn⟩ : ∃ n, n = s.bs.length := ⟨_, rfl⟩
  have HN := Lib.hid hn
  rw [← hn] at HS hlen ⊢
  clear h hv hn
  have c0 : w.cell? ⟨pp, 0, none⟩ = some (.slice ao n cap) := by rw [cell_of_row _ _ _ _ _ _ HS.out.row]; rfl
  have hmm := @run_makeMap Tryd.prog
  obtain ⟨o0, hup, ht0⟩ := (tab_empty (heap_alloc_at w (.map #[] 0) w.heap.size rfl)).put LenJ.zero ⟨1, 0, 0, 0⟩ (by decide)
  have hup : (Instr.mapUpdate 160 (.map (some w.heap.size)) (.agg #[.int .i64 0, .int .i64 0, .int .i64 0]) (.agg #[.int .i64 1, .int .u64 0, .int .u64 0, .int .u64 0])).run Tryd.prog (w.alloc (.map #[] 0)) = .ok () ((w.alloc (.map #[] 0)).putObj w.heap.size o0) := hup
  have hb0 : Below w.heap.size w ((w.alloc (.map #[] 0)).putObj w.heap.size o0) := ((Keeps.alloc (fun _ => False) w _).transNew (Keeps.putObj (Mut := fun k => k = w.heap.size) _ _ _ rfl) (fun i hi => by omega)).below (Nat.le_refl _) (fun k hk => id)
  have HT0 := Lib.hid ht0
  have HB0 := Lib.hid hb0
  have c0' : ((w.alloc (.map #[] 0)).putObj w.heap.size o0).cell? ⟨pp, 0, none⟩ = some (.slice ao n cap) := (World.cell?_of_block (w := w) (a := ⟨pp, 0, none⟩) (hb0.block pp hpp)).trans c0
  clear ht0 hb0
  go_enter Tryd.func99, Tryd.ntmps99
  go_wp2_with fail
  obtain ⟨W0, hW0⟩ : ∃ W, W = (w.alloc (.map #[] 0)).putObj w.heap.size o0 := ⟨_, rfl⟩
  rw [← hW0]
  rw [← hW0] at HT0 HB0
  clear hup c0' hW0
  go_loopw [3, 19] (fun mv iv wr => ∃ i : Nat, i ≤ n ∧ iv = .int .i64 i ∧ (∃ mb F, mv = .map (some mb) ∧ TabAt wr mb F ∧ w.heap.size ≤ mb ∧ TabJ 8 (OfJ s.film s.bs i) (leastT F)) ∧ Below w.heap.size w wr)
    (fun _ iv _ => n - (intOf iv).toNat)
  case atStart =>
    refine ⟨0, Nat.zero_le _, rfl, ⟨w.heap.size, _, rfl, HT0.out, Nat.le_refl _, ?_⟩, HB0.out⟩
    have := tab_zero s.film s.bs
    have he : leastT (fun x => if x = LenJ.zero then some (⟨1, 0, 0, 0⟩ : FoundD) else none) = fun l => if l = LenJ.zero then some 0 else none := by
      funext x; unfold leastT; dsimp only; split <;> rfl
    rw [← he] at this
    exact this
  case round =>
    obtain ⟨wo, hwo⟩ : ∃ x, x = wr := ⟨_, rfl⟩
    subst hwo
    obtain ⟨i, hi, rfl, ⟨mb, F, rfl, htab, hmb, htj⟩, hb⟩ := hrel
    have HTAB := Lib.hid htab
    have HTJ := Lib.hid htj
    have HB := Lib.hid hb
    clear htab htj hb
    by_cases hlt : i < n
    · obtain ⟨ao', cap', hv', _, _, hel⟩ := (HS.out.later HB.out).bs
      injection hv' with hao hnn hcap
      subst hao hcap
      clear hnn
      obtain ⟨b, off, rfl, _, hbs, e0, e1⟩ := hel i (by rw [← HN.out]; exact hlt)
      obtain ⟨⟨bl, bh⟩, hx⟩ : ∃ x, x = s.bs[i]'(by rw [← HN.out]; exact hlt) := ⟨_, rfl⟩
      rw [← hx] at e0 e1
      have hbok : blockOk (bl, bh) = true := by
        rw [hx]
        have := HV.out
        unfold validSt at this
        simp only [Bool.and_eq_true, List.all_eq_true] at this
        exact this.2 _ (List.getElem_mem _)
      have HX := Lib.hid hx
      have HBOK := Lib.hid hbok
      clear hx hel hbok
      have hw : IntKind.i64.wrap ((i : Int) + 1) = ((i + 1 : Nat) : Int) := by rw [IntWalk.i64_in _ (by omega)]; omega
      have hlti : (i : Int) < (n : Int) := by omega
      obtain ⟨L, clock, hrow, htk⟩ := HTAB.out.row
      have hmlt := HTAB.out.lt_size
      have hrg := fun W (hw : W.heap[mb]? = some (.map (L.map (entK encL)).toArray clock)) => run_range_map (P := Tryd.prog) W 160 _ _ mb _ clock under_lmap hw
      have hr1 := hrg ((wo.alloc (.cells #[.int .i64 bl, .int .i64 bh] 24)).alloc (.map #[] 0)) ((hget_old _ _ _ (by simp <;> omega)).trans ((hget_old _ _ _ (by simp <;> omega)).trans hrow))
      have HROW := Lib.hid hrow
      have HTK := Lib.hid htk
      clear hrg hrow htk
      go_wp2_with fail
      clear hr1
      refine wp_name (fun W => W.heap[wo.heap.size]? = some (.cells #[.int .i64 bl, .int .i64 bh] 24 (0, 0)) ∧ W.heap[wo.heap.size + 1]? = some (.map #[] 0) ∧ W.heap[wo.heap.size + 1 + 1]? = some (.mapIter (some mb) clock #[] clock) ∧ Below wo.heap.size wo W) ⟨(by repeat (first | (refine heap_alloc_at _ _ _ ?_; (simp <;> omega); done) | (refine (hget_old _ _ _ ?_).trans ?_; · (simp <;> omega)))), (by repeat (first | (refine heap_alloc_at _ _ _ ?_; (simp <;> omega); done) | (refine (hget_old _ _ _ ?_).trans ?_; · (simp <;> omega)))), (by repeat (first | (refine heap_alloc_at _ _ _ ?_; (simp <;> omega); done) | (refine (hget_old _ _ _ ?_).trans ?_; · (simp <;> omega)))), (((Below.refl _ _).alloc (Nat.le_refl _) _).alloc (by simp) _).alloc (by simp <;> omega) _⟩ ?_
      rintro W0i ⟨hbox, hnx, hit, hbi⟩
      have HI0 := Lib.hid (And.intro hbox (And.intro hnx (And.intro hit hbi)))
      clear hbox hnx hit hbi
      go_loopw [] (fun wi => ∃ (seen : Array Nat) (G : LenJ → Option FoundD), wi.heap[wo.heap.size + 1 + 1]? = some (.mapIter (some mb) clock seen clock) ∧ TabAt wi (wo.heap.size + 1) G ∧
          TabJ 8 (OfKJ s.film s.bs i (SeenK L seen)) (leastT G) ∧ wi.heap[wo.heap.size]? = some (.cells #[.int .i64 bl, .int .i64 bh] 24 (0, 0)) ∧ Below wo.heap.size wo wi)
        (fun wi => leftK wi mb (wo.heap.size + 1 + 1))
      case atStart =>
        obtain ⟨hbox, hnx, hit, hbi⟩ := HI0.out
        refine ⟨#[], _, hit, tab_empty hnx, fun l => ⟨fun _ t ht => ?_, fun t ht => (by cases ht)⟩, hbox, hbi⟩
        rcases ht with ⟨k, ⟨y, _, _, hc⟩, _⟩ | ⟨k, _, ⟨y, _, _, hc⟩, _⟩ <;> simp at hc
      case round =>
        obtain ⟨seen, G, hit, hG, hGT, hbox, hbi⟩ := hrel
        have HIT := Lib.hid hit
        have HG := Lib.hid hG
        have HGT := Lib.hid hGT
        have HBOX := Lib.hid hbox
        have HBI := Lib.hid hbi
        have hmw := (hbi.block mb hmlt).trans HROW.out
        have hnk := next_K (P := Tryd.prog) HTK.out (Nat.le_refl clock) hit (Nat.le_refl clock) hmw (by omega)
        clear hit hG hGT hbox hbi
        rcases hnk with ⟨hall, hrun⟩ | ⟨y, hy, _, W, hkW, hsW, hiW, hrun, hent, hmeas⟩
        · have HALL := Lib.hid hall
          clear hall
          go_wp2_with fail
          refine ⟨⟨i + 1, hlt, rfl, ⟨wo.heap.size + 1, G, rfl, HG.out, by have := HB.out.size; omega, HGT.out.all ?_⟩, HB.out.trans (HBI.out.mono HB.out.size)⟩, by simp [intOf]; omega⟩
          intro l t hlt2
          have hno : leastT F l ≠ none := fun e => (HTJ.out l).1 e t hlt2
          cases hF : F l with
          | none => exact absurd (by unfold leastT; rw [hF]; rfl) hno
          | some f =>
            obtain ⟨born, hb⟩ := (HTK.out.mem l (encF f)).1 (by rw [hF]; rfl)
            exact ⟨_, hb, rfl, HALL.out _ hb⟩
        · have HKW := Lib.hid hkW
          have HSW := Lib.hid hsW
          have HIW := Lib.hid hiW
          have HMEAS := Lib.hid hmeas
          have HMW := Lib.hid hmw
          clear hkW hsW hiW hmeas hmw
          obtain ⟨l, v, born⟩ := y
          have hfl : (fun l => (F l).map encF) l = some v := (HTK.out.mem l v).2 ⟨born, hy⟩
          obtain ⟨f, hF, hfv⟩ : ∃ f, F l = some f ∧ encF f = v := by
            cases hF : F l with
            | none => dsimp only at hfl; rw [hF] at hfl; cases hfl
            | some f => dsimp only at hfl; rw [hF] at hfl; exact ⟨f, rfl, Option.some.inj hfl⟩
          subst hfv
          have HY := Lib.hid hy
          have HF := Lib.hid hF
          clear hy hF hfl
          dsimp only at hrun hent
          unfold encL encF at hrun hent
          go_upto_region 10 with fail
          refine wp_name (fun X => X.heap[W.heap.size]? = some (lenRow l) ∧ X.heap[W.heap.size + 1]? = some (foundRow f) ∧ Below W.heap.size W X) ⟨(by repeat (first | (refine heap_alloc_at _ _ _ ?_; (simp <;> omega); done) | (refine (hget_old _ _ _ ?_).trans ?_; · (simp <;> omega)))), (by repeat (first | (refine heap_alloc_at _ _ _ ?_; (simp <;> omega); done) | (refine (hget_old _ _ _ ?_).trans ?_; · (simp <;> omega)))), ((Below.refl _ _).alloc (Nat.le_refl _) _).alloc (by simp) _⟩ ?_
          rintro X ⟨hxl, hxf, hbx⟩
          have hwo : wo.heap.size + 3 ≤ wr.heap.size := by have := (Array.getElem?_eq_some_iff.1 HIT.out).1; omega
          have hlW : ∀ k, k < wr.heap.size → k ≠ wo.heap.size + 1 + 1 → X.heap[k]? = wr.heap[k]? := fun k h1 h2 => (hbx.block k (by rw [HSW.out]; exact h1)).trans (HKW.out.block k h1 h2)
          have hGx : TabAt X (wo.heap.size + 1) G := HG.out.of (hlW _ (by omega) (by omega))
          have hbow : Below wo.heap.size wo X := HBI.out.trans ((HKW.out.below (by omega) (fun k h1 h2 => by omega)).trans (hbx.mono (by rw [HSW.out]; omega)))
          have hitx : X.heap[wo.heap.size + 1 + 1]? = some (.mapIter (some mb) clock (seen.push born) clock) := (hbx.block _ (by rw [HSW.out]; omega)).trans HIW.out
          have hboxx := (hlW wo.heap.size (by omega) (by omega)).trans HBOX.out
          have hszx := hbx.size
          rw [HSW.out] at hxl hxf hszx
          have hszx2 : wr.heap.size + 1 < X.heap.size := (Array.getElem?_eq_some_iff.1 hxf).1
          have l0 : X.cell? ⟨wr.heap.size, 0, none⟩ = some (.int .i64 l.lo) := by rw [cell_of_row _ _ _ _ _ _ hxl]; rfl
          have l1 : X.cell? ⟨wr.heap.size, 1, none⟩ = some (.int .i64 l.hi) := by rw [cell_of_row _ _ _ _ _ _ hxl]; rfl
          have l2 : X.cell? ⟨wr.heap.size, 2, none⟩ = some (.int .i64 l.many) := by rw [cell_of_row _ _ _ _ _ _ hxl]; rfl
          have q0 : X.cell? ⟨wr.heap.size + 1, 0, none⟩ = some (.int .i64 f.many) := by rw [cell_of_row _ _ _ _ _ _ hxf]; rfl
          have q1 : X.cell? ⟨wr.heap.size + 1, 1, none⟩ = some (.int .u64 f.least) := by rw [cell_of_row _ _ _ _ _ _ hxf]; rfl
          have q2 : X.cell? ⟨wr.heap.size + 1, 2, none⟩ = some (.int .u64 f.each) := by rw [cell_of_row _ _ _ _ _ _ hxf]; rfl
          have q3 : X.cell? ⟨wr.heap.size + 1, 3, none⟩ = some (.int .u64 f.some) := by rw [cell_of_row _ _ _ _ _ _ hxf]; rfl
          have HXL := Lib.hid hxl
          have HXF := Lib.hid hxf
          have HGX := Lib.hid hGx
          have HBOW := Lib.hid hbow
          have HITX := Lib.hid hitx
          have HBOXX := Lib.hid hboxx
          have hsw := HSW.out
          rw [hsw]
          clear hxl hxf hGx hbow hitx hboxx hbx hlW hrun hent hup
          go_wp2_with fail
          refine (put_any (wo.heap.size + 1) G l f (HTAB.out.lt l f HF.out) _ HGX.out).mono ?_
          rintro e w5 ⟨rfl, hk5, g, hg, hT5⟩
          dsimp only
          have hs5 := hk5.size
          have hc5 : ∀ k o, k < X.heap.size → k ≠ wo.heap.size + 1 → w5.cell? ⟨k, o, none⟩ = X.cell? ⟨k, o, none⟩ := fun k o h1 h2 => World.cell?_of_block (w := X) (a := ⟨k, o, none⟩) (hk5.block k h1 h2)
          have hset := (HS.out.later (HB.out.trans (HBOW.out.mono HB.out.size))).row
          have hppx : pp < w.heap.size := hpp
          have hwX : w.heap.size ≤ wo.heap.size := HB.out.size
          have p0 : w5.cell? ⟨wo.heap.size, 0, none⟩ = some (.int .i64 bl) := (hc5 _ _ (by omega) (by omega)).trans (by rw [cell_of_row _ _ _ _ _ _ HBOXX.out]; rfl)
          have p1 : w5.cell? ⟨wo.heap.size, 1, none⟩ = some (.int .i64 bh) := (hc5 _ _ (by omega) (by omega)).trans (by rw [cell_of_row _ _ _ _ _ _ HBOXX.out]; rfl)
          have f1 : w5.cell? ⟨pp, 1, none⟩ = some (.int .i64 s.film.1) := (hc5 _ _ (by omega) (by omega)).trans (by rw [cell_of_row _ _ _ _ _ _ hset]; rfl)
          have f2 : w5.cell? ⟨pp, 2, none⟩ = some (.int .i64 s.film.2) := (hc5 _ _ (by omega) (by omega)).trans (by rw [cell_of_row _ _ _ _ _ _ hset]; rfl)
          have hcells : ∀ W', Below w5.heap.size w5 W' → W'.cell? ⟨wr.heap.size, 0, none⟩ = some (.int .i64 l.lo) ∧ W'.cell? ⟨wr.heap.size, 1, none⟩ = some (.int .i64 l.hi) ∧ W'.cell? ⟨wr.heap.size, 2, none⟩ = some (.int .i64 l.many) ∧
              W'.cell? ⟨wr.heap.size + 1, 0, none⟩ = some (.int .i64 f.many) ∧ W'.cell? ⟨wr.heap.size + 1, 1, none⟩ = some (.int .u64 f.least) ∧ W'.cell? ⟨wr.heap.size + 1, 2, none⟩ = some (.int .u64 f.each) ∧ W'.cell? ⟨wr.heap.size + 1, 3, none⟩ = some (.int .u64 f.some) ∧
              W'.cell? ⟨wo.heap.size, 0, none⟩ = some (.int .i64 bl) ∧ W'.cell? ⟨wo.heap.size, 1, none⟩ = some (.int .i64 bh) ∧ W'.cell? ⟨pp, 1, none⟩ = some (.int .i64 s.film.1) ∧ W'.cell? ⟨pp, 2, none⟩ = some (.int .i64 s.film.2) := by
            intro W' hC
            have hk : ∀ k o, k < w5.heap.size → W'.cell? ⟨k, o, none⟩ = w5.cell? ⟨k, o, none⟩ := fun k o h1 => World.cell?_of_block (w := w5) (a := ⟨k, o, none⟩) (hC.block k h1)
            refine ⟨(hk _ _ (by omega)).trans ((hc5 _ _ (by omega) (by omega)).trans l0), (hk _ _ (by omega)).trans ((hc5 _ _ (by omega) (by omega)).trans l1), (hk _ _ (by omega)).trans ((hc5 _ _ (by omega) (by omega)).trans l2), (hk _ _ (by omega)).trans ((hc5 _ _ (by omega) (by omega)).trans q0), (hk _ _ (by omega)).trans ((hc5 _ _ (by omega) (by omega)).trans q1), (hk _ _ (by omega)).trans ((hc5 _ _ (by omega) (by omega)).trans q2), (hk _ _ (by omega)).trans ((hc5 _ _ (by omega) (by omega)).trans q3), (hk _ _ (by omega)).trans p0, (hk _ _ (by omega)).trans p1, (hk _ _ (by omega)).trans f1, (hk _ _ (by omega)).trans f2⟩
          have CELLS := Lib.hid hcells
          have HK5 := Lib.hid hk5
          have HGL := Lib.hid hg
          have HT5 := Lib.hid hT5
          clear hcells hk5 hg hT5 l0 l1 l2 q0 q1 q2 q3 p0 p1 f1 f2 hc5
          have hof : OfJ s.film s.bs i l f.least := ((HTJ.out l).2 f.least (by unfold leastT; rw [HF.out]; rfl)).is
          have HOF := Lib.hid hof
          clear hof
          obtain ⟨e', he'⟩ : ∃ x, x = bits BinOp.or IntKind.u64 f.each (IntKind.u64.wrap (2 ^ i)) := ⟨_, rfl⟩
          obtain ⟨s', hs'⟩ : ∃ x, x = bits BinOp.or IntKind.u64 f.some (IntKind.u64.wrap (2 ^ i)) := ⟨_, rfl⟩
          have HE' := Lib.hid he'
          have HS' := Lib.hid hs'
          clear he' hs'
          go_wp2_with fail
          refine region_fix 24 (fun W' => Below w5.heap.size w5 W') (by kernel_rfl) (by kernel_rfl) (Below.refl _ _).drew ?_
          simp only [List.take_succ_cons, List.take_zero, List.drop_succ_cons, List.drop_zero]
          iterate 8
            refine WF_step ?_ (fun W' hC => ?_) rfl ?_
            rotate_left
            · obtain ⟨l0, l1, l2, q0, q1, q2, q3, b0, b1, f1, f2⟩ := CELLS.out W' hC
              go_simp
              exact fix_value hC
            simp only [Act.put, List.setIfInBounds_toArray, List.set_cons_zero, List.set_cons_succ]
          refine WF_step (encL (l.with (bl, bh) s.film)) (fun W' hC => ?_) rfl ?_
          · go_simp
            refine fix_enter ((lwith_any l (bl, bh) s.film (of_lenOk HV.out HOF.out) (spOk_block HBOK.out) (spOk_film (by have := HV.out; unfold validSt at this; simp only [Bool.and_eq_true] at this; exact this.1.2)) _).mono ?_)
            rintro e w1 ⟨rfl, hb1⟩
            exact ⟨rfl, hC.trans (hb1.mono hC.size)⟩
          simp only [Act.put, List.setIfInBounds_toArray, List.set_cons_zero, List.set_cons_succ]
          iterate 5
            refine WF_step ?_ (fun W' hC => ?_) rfl ?_
            rotate_left
            · obtain ⟨l0, l1, l2, q0, q1, q2, q3, b0, b1, f1, f2⟩ := CELLS.out W' hC
              go_simp
              exact fix_value hC
            simp only [Act.put, List.setIfInBounds_toArray, List.set_cons_zero, List.set_cons_succ]
          refine WF_step (.int .u64 ((f.least + 2 ^ i : Nat) : Int)) (fun W' hC => ?_) rfl ?_
          · go_simp
            refine fix_enter ((swithA_any f.least i HOF.out.1 (by omega) W').mono ?_)
            rintro e w1 ⟨rfl, rfl⟩
            exact ⟨rfl, hC⟩
          simp only [Act.put, List.setIfInBounds_toArray, List.set_cons_zero, List.set_cons_succ]
          iterate 3
            refine WF_step ?_ (fun W' hC => ?_) rfl ?_
            rotate_left
            · obtain ⟨l0, l1, l2, q0, q1, q2, q3, b0, b1, f1, f2⟩ := CELLS.out W' hC
              go_simp
              exact fix_value hC
            simp only [Act.put, List.setIfInBounds_toArray, List.set_cons_zero, List.set_cons_succ]
          refine WF_step (.int .u64 e') (fun W' hC => ?_) rfl ?_
          · go_simp
            refine fix_enter ((HE'.out ▸ swithI_any f.each i (by omega) W').mono ?_)
            rintro e w1 ⟨rfl, rfl⟩
            exact ⟨rfl, hC⟩
          simp only [Act.put, List.setIfInBounds_toArray, List.set_cons_zero, List.set_cons_succ]
          iterate 3
            refine WF_step ?_ (fun W' hC => ?_) rfl ?_
            rotate_left
            · obtain ⟨l0, l1, l2, q0, q1, q2, q3, b0, b1, f1, f2⟩ := CELLS.out W' hC
              go_simp
              exact fix_value hC
            simp only [Act.put, List.setIfInBounds_toArray, List.set_cons_zero, List.set_cons_succ]
          refine WF_step (.int .u64 s') (fun W' hC => ?_) rfl ?_
          · go_simp
            refine fix_enter ((HS'.out ▸ swithI_any f.some i (by omega) W').mono ?_)
            rintro e w1 ⟨rfl, rfl⟩
            exact ⟨rfl, hC⟩
          simp only [Act.put, List.setIfInBounds_toArray, List.set_cons_zero, List.set_cons_succ]
          refine WF_step ?_ (fun W' hC => ?_) rfl ?_
          rotate_left
          · obtain ⟨l0, l1, l2, q0, q1, q2, q3, b0, b1, f1, f2⟩ := CELLS.out W' hC
            go_simp
            exact fix_value hC
          simp only [Act.put, List.setIfInBounds_toArray, List.set_cons_zero, List.set_cons_succ]
          refine WF_nil ?_
          intro X6 hC6
          have hs6 := hC6.size
          have hl6 : f.least + 2 ^ i < 256 := by
            have h1 := HOF.out.1
            have h2 : 2 ^ i * 2 ≤ 2 ^ 8 := by rw [← Nat.pow_succ]; exact Nat.pow_le_pow_right (by decide) (by omega)
            omega
          have hT6 := HT5.out.of (hC6.block (wo.heap.size + 1) (by omega))
          have HT6 := Lib.hid hT6
          have HL6 := Lib.hid hl6
          have HC6 := Lib.hid hC6
          clear hT6 hl6 hC6
          go_wp2_with fail
          refine (put_any (wo.heap.size + 1) _ (l.with (bl, bh) s.film) ⟨f.many, f.least + 2 ^ i, e', s'⟩ HL6.out _ HT6.out).mono ?_
          rintro e w7 ⟨rfl, hk7, g2, hg2, hT7⟩
          dsimp only
          have hb57 : ∀ k, k < X.heap.size → k ≠ wo.heap.size + 1 → w7.heap[k]? = X.heap[k]? := fun k h1 h2 => (hk7.block k (by omega) h2).trans ((HC6.out.block k (by omega)).trans (HK5.out.block k h1 h2))
          have hlt' : i < s.bs.length := by rw [← HN.out]; exact hlt
          have hstep := TabJ.step (m := 8) (film := s.film) (bs := s.bs) (K := SeenK L seen) (next := leastT G) (k := l) (t := f.least) hlt' (by omega) HGT.out ((HTJ.out l).2 f.least (by unfold leastT; rw [HF.out]; rfl))
          rw [← HX.out, ← leastT_put G l g f.least HGL.out, ← leastT_put _ _ g2 _ hg2] at hstep
          have hstep2 := hstep.congr (ofK_congr (seen_push HTK.out.borns HY.out))
          have hit7 := (hb57 (wo.heap.size + 1 + 1) (by omega) (by omega)).trans HITX.out
          have hbox7 := (hb57 wo.heap.size (by omega) (by omega)).trans HBOXX.out
          have hbel7 : Below wo.heap.size wo w7 := HBOW.out.trans ((HK5.out.below (by omega) (fun k h1 h2 => by omega)).trans ((HC6.out.mono (by omega)).trans (hk7.below (by omega) (fun k h1 h2 => by omega))))
          have hm7 := HMEAS.out w7 ((hb57 mb (by omega) (by omega)).trans ((HBOW.out.block mb hmlt).trans HROW.out)) hit7
          have HST := Lib.hid hstep2
          have HI7 := Lib.hid hit7
          have HB7 := Lib.hid hbox7
          have HBE7 := Lib.hid hbel7
          have HM7 := Lib.hid hm7
          have HT7 := Lib.hid hT7
          clear hstep hstep2 hit7 hbox7 hbel7 hm7 hT7 hb57 hk7 hg2
          go_wp2
          exact ⟨⟨seen.push born, _, HI7.out, HT7.out, HST.out, HB7.out, HBE7.out⟩, HM7.out⟩
    · obtain rfl : i = n := by omega
      obtain ⟨L, clock, hrow, htk⟩ := HTAB.out.row
      have hdel : (Builtin.delete_ #[160, 116] 0 #[.map (some mb), .agg #[.int .i64 0, .int .i64 0, .int .i64 0]]).run Tryd.prog wo = .ok (.tuple #[]) (wo.putObj mb (mapK encL (delK LenJ.zero L) clock)) := run_delK keyLong under_lmap mb L clock LenJ.zero wo hrow
      have hT9 : TabAt (wo.putObj mb (mapK encL (delK LenJ.zero L) clock)) mb (fun x => if x = LenJ.zero then none else F x) := by
        refine ⟨⟨delK LenJ.zero L, clock, by simp [World.putObj, (Array.getElem?_eq_some_iff.1 hrow).1], ?_⟩, fun l f h => ?_⟩
        · have := htk.del LenJ.zero
          have he : (fun x => if x = LenJ.zero then none else (F x).map encF) = fun x => ((if x = LenJ.zero then none else F x).map encF) := by
            funext x; split <;> rfl
          rw [he] at this
          exact this
        · split at h
          · cases h
          · exact HTAB.out.lt l f h
      have hb9 : Below w.heap.size w (wo.putObj mb (mapK encL (delK LenJ.zero L) clock)) := HB.out.trans ((Keeps.putObj (Mut := fun k => k = mb) wo mb _ rfl).below HB.out.size (fun k h1 h2 => by omega))
      have htd := tab_del (film := s.film) (bs := s.bs) (all := leastT F) (by rw [← HN.out]; exact HTJ.out)
      have he9 : (fun l => if l = LenJ.zero then none else leastT F l) = leastT (fun x => if x = LenJ.zero then none else F x) := by
        funext x; unfold leastT; dsimp only; split <;> rfl
      rw [he9, ← HN.out] at htd
      have HT9 := Lib.hid hT9
      have HB9 := Lib.hid hb9
      have HTD := Lib.hid htd
      clear hT9 hb9 htd he9 hrow htk hup
      go_wp2
      go_ret
      exact ⟨⟨mb, _, rfl, HT9.out, hmb, HTD.out⟩, HB9.out⟩
end Go.Proofs.YtbmfphiecllggaaDoor

/- Iterators, and what ranges over one: rounds that work on memory that earlier rounds have made. -/
namespace Go.Proofs.YtbmfphiecllggaaDoor
set_option linter.unusedVariables false
set_option linter.unusedSimpArgs false
open Go.RowKit

/-- What is asked where a round's body ends. -/
def roundEndG {α : Type} (Mut : Nat → Prop) (I : List α → (Nat → Prop) → World → Prop) (Ix : Code → List α → (Nat → Prop) → World → Prop) (s : List α) (G : Nat → Prop) (W W2 : World) : Exit → Act → World → Prop
  | .normal, _, W3 => Keeps (fun k => Mut k ∨ G k) W2 W3 ∧ I s (Grow G W W3) W3
  | .ret, _, W3 => Keeps (fun k => Mut k ∨ G k) W2 W3 ∧ Ix .ret s (Grow G W W3) W3
  | .exit id, _, W3 => Keeps (fun k => Mut k ∨ G k) W2 W3 ∧ Ix (.exit id) s (Grow G W W3) W3
  | .goto t, _, W3 => Keeps (fun k => Mut k ∨ G k) W2 W3 ∧ Ix (.goto t) s (Grow G W W3) W3
  | _, _, _ => False

end Go.Proofs.YtbmfphiecllggaaDoor

/- Iterators of which it is not known ahead what they yield: a contract, and the law for the statement that ranges over one. -/
namespace Go.Proofs.YtbmfphiecllggaaDoor
set_option linter.unusedVariables false
set_option linter.unusedSimpArgs false
open Go.RowKit

/-- A function value yields things, one after the other, as long as it is told to go on: each one may come behind those before it (Step), and all of them are as many as there are (Fin). -/
def SeqP {α : Type} (P : Program) (g : FuncId) (lb : Array Value) (encs : α → Array Value) (Step : List α → α → Prop) (Fin : List α → Prop) (Rd : Nat → Prop) (W : World) : Prop :=
  ∀ (l : Nat) (Mut : Nat → Prop) (J Jx : List α → (Nat → Prop) → World → Prop),
    (∀ k, Mut k → k < W.heap.size ∧ ¬ Rd k) → Stable W.heap.size J → Stable W.heap.size Jx →
    (∀ pre x G W1, Step pre x → J pre G W1 → W.heap.size ≤ W1.heap.size → (∀ k, G k → W.heap.size ≤ k) → YieldAt Fence.wide 0 P l (encs x) W1 fun e W2 =>
      Keeps (fun k => Mut k ∨ G k) W1 W2 ∧ ((e = .returned (.bool true) ∧ J (pre ++ [x]) (Grow G W1 W2) W2) ∨ (e = .returned (.bool false) ∧ Jx (pre ++ [x]) (Grow G W1 W2) W2))) →
    J [] (fun _ => False) W →
    Calls P g (#[.func (.yield l) #[] #[]] ++ lb) W fun e W2 => (∃ v, e = .returned v) ∧ Keeps (fun k => Mut k ∨ W.heap.size ≤ k) W W2 ∧
      ∃ G, ((∃ xs, Fin xs ∧ J xs G W2) ∨ ∃ pre x, Step pre x ∧ Jx (pre ++ [x]) G W2)

theorem wp_rangeP {α : Type} {P : Program} {g : Operand} {ps : Array Tmp} {assign body : Code} {Q : Exit → Act → World → Prop} {a : Act} {w : World} {gf : Nat} {lb : Array Value}
    (hg : a.eval g = .func (.func gf) #[] lb) (eg : ∀ args w, (callFunc gf args).run P w = .ok (.enter gf args) w)
    {encs : α → Array Value} (hps : ∀ x, (encs x).size = ps.size) (Rd Mut : Nat → Prop) (hRd : ∀ k, Rd k → k < w.heap.size) (hM : ∀ k, Mut k → k < w.heap.size ∧ ¬ Rd k) (Step : List α → α → Prop) (Fin : List α → Prop)
    (hseq : ∀ W, Below w.heap.size w W → SeqP P gf lb encs Step Fin Rd W)
    (I : List α → (Nat → Prop) → World → Prop) (Ix : Code → List α → (Nat → Prop) → World → Prop) (hI : Stable w.heap.size I) (hIx : ∀ c, Stable w.heap.size (Ix c)) (h0 : I [] (fun _ => False) w)
    (hround : ∀ l pre x G W, Step pre x → I pre G W → w.heap.size ≤ l → l < W.heap.size → (∀ k, G k → l < k) →
      assign.wpIn (Fence.wide.inRound l) 0 P (Exit.then (fun a₁ W₁ => Keeps (fun k => Mut k ∨ G k) W W₁ ∧ ∀ W₂, Keeps (fun k => k = l) W₁ W₂ → W₂.heap.size = W₁.heap.size →
        body.wpIn (Fence.wide.inRound l) 0 P (roundEndG Mut I Ix (pre ++ [x]) G W W₂) a₁ W₂) (fun _ _ _ => False))
        { tmps := (ps.zip (encs x)).foldl (fun t (p, v) => t.setIfInBounds p v) a.tmps, defers := [] } W)
    (hdone : ∀ D xs G W, Fin xs → I xs G W → (∀ k, G k → D < k) → Keeps (fun k => Mut k ∨ w.heap.size ≤ k) w W → W.heap[D]? = some (.deferred (some [])) → w.heap.size ≤ D →
      Q .normal { a with defers := { target := .collected D, args := #[] } :: a.defers } W)
    (hstop : ∀ D c pre x G W, Step pre x → Ix c (pre ++ [x]) G W → (∀ k, G k → D < k) → Keeps (fun k => Mut k ∨ w.heap.size ≤ k) w W → W.heap[D]? = some (.deferred (some [])) → w.heap.size ≤ D →
      c.wp P Q { a with defers := { target := .collected D, args := #[] } :: a.defers } W) :
    (Code.rangeFunc g ps assign body).wp P Q a w := by
  refine (wpIn_wide (n := 0)).1 (wpIn_rangeFunc ?_)
  intro fn hfn
  obtain ⟨rec, hrec⟩ : ∃ rec : LoopState → Option Code → Loop, rec = fun st pe => { state := st, pending := pe, fn, tmps := a.tmps, params := ps, assign, body, defers := w.heap.size } := ⟨_, rfl⟩
  obtain ⟨W1, hW1⟩ : ∃ W1, (w.alloc (.deferred (some []))).alloc (.loop (rec .ready none)) = W1 := ⟨_, rfl⟩
  have hsz : W1.heap.size = w.heap.size + 2 := by rw [← hW1]; simp
  have hL1 : W1.heap[w.heap.size + 1]? = some (.loop (rec .ready none)) := by rw [← hW1]; exact heap_alloc_at _ _ _ (by simp)
  have hK1 : W1.heap[w.heap.size]? = some (.deferred (some [])) := by rw [← hW1]; exact (hget_old _ _ _ (by simp)).trans (heap_alloc_at _ _ _ rfl)
  have hkw : ∀ M : Nat → Prop, Keeps M w W1 := fun M => by rw [← hW1]; exact (Keeps.alloc _ _ _).trans (Keeps.alloc _ _ _)
  have hb1 : Below w.heap.size w W1 := (hkw (fun _ => False)).below (Nat.le_refl _) (fun _ _ h => h)
  refine ⟨w.heap.size + 1, [{ target := .collected w.heap.size, args := #[] }], W1, { target := .fn (.func gf) lb, args := #[.func (.yield (w.heap.size + 1)) #[] #[]] }, W1, gf,
    #[.func (.yield (w.heap.size + 1)) #[] #[]] ++ lb, W1, ?_, ?_, fun _ _ => trivial, ?_, fun h => by simp [Fence.wide] at h, ?_⟩
  · rw [← hW1, hrec]; exact run_enterLoop_outer _ _ _ _ _
  · simp only [resolve, hg]
    simp [go_sem]
  · simp [invoke, go_sem, eg]
  refine callsIn_wide.2 ((hseq W1 hb1 (w.heap.size + 1) (fun k => Mut k ∨ k = w.heap.size + 1)
    (fun s G W => I s G W ∧ W.heap[w.heap.size + 1]? = some (.loop (rec .ready none)) ∧ W.heap[w.heap.size]? = some (.deferred (some [])) ∧ ∀ k, G k → w.heap.size + 2 ≤ k)
    (fun s G W => ∃ c, Ix c s G W ∧ W.heap[w.heap.size + 1]? = some (.loop (rec .done (some c))) ∧ W.heap[w.heap.size]? = some (.deferred (some [])) ∧ ∀ k, G k → w.heap.size + 2 ≤ k)
    ?_ ?_ ?_ ?_ ?_).mono ?_)
  · rintro k (hk | rfl)
    · exact ⟨by have := (hM k hk).1; omega, (hM k hk).2⟩
    · exact ⟨by omega, fun h => by have := hRd _ h; omega⟩
  · rintro s G A B ⟨hi, hl, hd, hG⟩ hk
    exact ⟨hI s G A B hi (hk.mono fun k _ h => ⟨by omega, h.2⟩), (hk.block _ (lt_of_block hl) (by omega)).trans hl, (hk.block _ (lt_of_block hd) (by omega)).trans hd, hG⟩
  · rintro s G A B ⟨c, hi, hl, hd, hG⟩ hk
    exact ⟨c, hIx c s G A B hi (hk.mono fun k _ h => ⟨by omega, h.2⟩), (hk.block _ (lt_of_block hl) (by omega)).trans hl, (hk.block _ (lt_of_block hd) (by omega)).trans hd, hG⟩
  · -- one round
    rintro pre x G W hxs ⟨hi, hl, hd, hG⟩ hWs _
    have hlt : w.heap.size + 1 < W.heap.size := by omega
    have hy := run_yield (P := P) (args := encs x) hl (by rw [hrec]; exact hps x)
    rw [hrec] at hy
    refine ⟨fn, _, assign, body, hy, roundIn_of_wpIn hfn (wpIn_mono (hround (w.heap.size + 1) pre x G W hxs hi (by omega) hlt (fun k h => by have := hG k h; omega)) ?_)⟩
    intro e a1 Wa hp
    cases e with
    | normal =>
      obtain ⟨hkm, hbody⟩ := hp
      have hla : Wa.heap[w.heap.size + 1]? = some (.loop (rec .ready none)) := (hkm.block _ hlt (fun h => h.elim (fun h => by have := (hM _ h).1; omega) (fun h => by have := hG _ h; omega))).trans hl
      have hda : Wa.heap[w.heap.size]? = some (.deferred (some [])) := (hkm.block _ (by omega) (fun h => h.elim (fun h => by have := (hM _ h).1; omega) (fun h => by have := hG _ h; omega))).trans hd
      refine ⟨_, run_beginRound hla (by rw [hrec]), ?_⟩
      refine wpIn_mono (hbody _ (Keeps.putObj _ _ _ rfl) (by simp)) ?_
      intro e2 a2 W3 hp
      have hl2 : (Wa.putObj (w.heap.size + 1) (.loop { rec .ready none with state := .busy })).heap[w.heap.size + 1]? = some (.loop { rec .ready none with state := .busy }) := World.putObj_heap_same (lt_of_block hla)
      have hd2 : (Wa.putObj (w.heap.size + 1) (.loop { rec .ready none with state := .busy })).heap[w.heap.size]? = some (.deferred (some [])) := (World.putObj_heap_other (by omega)).trans hda
      have fin : ∀ (jump : Option Code), Keeps (fun k => Mut k ∨ G k) (Wa.putObj (w.heap.size + 1) (.loop { rec .ready none with state := .busy })) W3 → ∃ W4,
          (Instr.endRound (w.heap.size + 1) jump).run P W3 = .ok (.bool jump.isNone) W4 ∧
          W4.heap[w.heap.size + 1]? = some (.loop (rec (if jump.isNone then .ready else .done) jump)) ∧ W4.heap[w.heap.size]? = some (.deferred (some [])) ∧
          Keeps (fun k => (Mut k ∨ k = w.heap.size + 1) ∨ G k) W W4 ∧ Keeps (fun k => k = w.heap.size + 1) W3 W4 ∧ W4.heap.size = W3.heap.size := fun jump hk3 => by
        have hs2 : (Wa.putObj (w.heap.size + 1) (.loop { rec .ready none with state := .busy })).heap.size = Wa.heap.size := by simp
        have hl3 := (hk3.block _ (by have := lt_of_block hl2; exact this) (fun h => h.elim (fun h => by have := (hM _ h).1; omega) (fun h => by have := hG _ h; omega))).trans hl2
        have hd3 := (hk3.block _ (by have := lt_of_block hd2; exact this) (fun h => h.elim (fun h => by have := (hM _ h).1; omega) (fun h => by have := hG _ h; omega))).trans hd2
        have hr := run_endRound (P := P) jump hl3
        refine ⟨_, hr, ?_, (World.putObj_heap_other (by omega)).trans hd3, ?_, Keeps.putObj _ _ _ rfl, by simp⟩
        · rw [World.putObj_heap_same (lt_of_block hl3), hrec]
        · exact (hkm.mono fun k _ h => h.elim (fun h => .inl (.inl h)) .inr).trans ((Keeps.putObj _ _ _ (.inl (.inr rfl))).trans ((hk3.mono fun k _ h => h.elim (fun h => .inl (.inl h)) .inr).trans (Keeps.putObj _ _ _ (.inl (.inr rfl)))))
      have hstep : ∀ (J : List α → (Nat → Prop) → World → Prop) (W4 : World), Stable w.heap.size J → J (pre ++ [x]) (Grow G W W3) W3 → Keeps (fun k => k = w.heap.size + 1) W3 W4 → W4.heap.size = W3.heap.size → J (pre ++ [x]) (Grow G W W4) W4 := fun J W4 hJ hj hk hs => by
        have : Grow G W W4 = Grow G W W3 := by unfold Grow; rw [hs]
        rw [this]
        refine hJ _ _ _ _ hj (hk.mono fun k _ h => ?_)
        subst h
        refine ⟨by omega, ?_⟩
        rintro (h | h)
        · have := hG _ h; omega
        · omega
      have hGG : ∀ W4 : World, ∀ k, Grow G W W4 k → w.heap.size + 2 ≤ k := by
        rintro W4 k (h | h)
        · exact hG k h
        · omega
      cases e2 with
      | normal =>
        obtain ⟨hk3, hi3⟩ := hp
        obtain ⟨W4, hr, hl4, hd4, hkk, hk4, hs4⟩ := fin none hk3
        exact ⟨_, _, hr, hkk, .inl ⟨rfl, hstep _ _ hI hi3 hk4 hs4, hl4, hd4, hGG _⟩⟩
      | ret =>
        obtain ⟨hk3, hi3⟩ := hp
        obtain ⟨W4, hr, hl4, hd4, hkk, hk4, hs4⟩ := fin (some .ret) hk3
        exact ⟨_, _, hr, hkk, .inr ⟨rfl, _, hstep _ _ (hIx _) hi3 hk4 hs4, hl4, hd4, hGG _⟩⟩
      | exit id =>
        obtain ⟨hk3, hi3⟩ := hp
        obtain ⟨W4, hr, hl4, hd4, hkk, hk4, hs4⟩ := fin (some (.exit id)) hk3
        exact ⟨_, _, hr, hkk, .inr ⟨rfl, _, hstep _ _ (hIx _) hi3 hk4 hs4, hl4, hd4, hGG _⟩⟩
      | goto t =>
        obtain ⟨hk3, hi3⟩ := hp
        obtain ⟨W4, hr, hl4, hd4, hkk, hk4, hs4⟩ := fin (some (.goto t)) hk3
        exact ⟨_, _, hr, hkk, .inr ⟨rfl, _, hstep _ _ (hIx _) hi3 hk4 hs4, hl4, hd4, hGG _⟩⟩
      | panic ch => exact hp.elim
      | outgrown => exact hp.elim
    | ret => exact hp.elim
    | exit id => exact hp.elim
    | goto t => exact hp.elim
    | panic ch => exact hp.elim
    | outgrown => exact hp.elim
  · exact ⟨hI _ _ _ _ h0 (hkw _), hL1, hK1, fun _ h => h.elim⟩
  · -- behind the iterator
    rintro e W2 ⟨⟨v, rfl⟩, hk, G, h⟩
    have hkk : ∀ o, Keeps (fun k => Mut k ∨ w.heap.size ≤ k) w (W2.putObj (w.heap.size + 1) o) := fun o =>
      ((hkw _).trans (hk.mono fun k _ h => h.elim (fun h => h.elim .inl fun e => .inr (by omega)) (fun h => .inr (by omega)))).trans (Keeps.putObj _ _ _ (.inr (by omega)))
    have hst : ∀ (J : List α → (Nat → Prop) → World → Prop) (s : List α) (o : Obj), Stable w.heap.size J → J s G W2 → (∀ k, G k → w.heap.size + 2 ≤ k) → J s G (W2.putObj (w.heap.size + 1) o) := fun J s o hJ hj hG =>
      hJ _ _ _ _ hj (Keeps.putObj _ _ _ ⟨by omega, fun h => by have := hG _ h; omega⟩)
    rcases h with ⟨xs, hfin, hi, hl, hd, hG⟩ | ⟨pre, x, hxs, c, hi, hl, hd, hG⟩
    · exact ⟨none, _, by have := run_endLoop (P := P) hl (by rw [hrec]; simp); rw [hrec] at this; exact this,
        hdone _ xs G _ hfin (hst _ _ _ hI hi hG) (fun k h => by have := hG k h; omega) (hkk _) ((World.putObj_heap_other (by omega)).trans hd) (Nat.le_refl _)⟩
    · exact ⟨some c, _, by have := run_endLoop (P := P) hl (by rw [hrec]; simp); rw [hrec] at this; exact this,
        wpIn_wide.2 (hstop _ c pre x G _ hxs (hst _ _ _ (hIx c) hi hG) (fun k h => by have := hG k h; omega) (hkk _) ((World.putObj_heap_other (by omega)).trans hd) (Nat.le_refl _))⟩

end Go.Proofs.YtbmfphiecllggaaDoor
