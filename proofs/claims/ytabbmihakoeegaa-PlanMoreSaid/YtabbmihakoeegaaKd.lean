/- Texts V, W, Y in one file; each begins with a word on what it proves. -/
import Derived.Test.YtabbmihakoeegaaKb

/- Shows. -/
namespace Go.Proofs.Ytabbmihakoeegaa
set_option linter.unusedVariables false
set_option linter.unusedSimpArgs false
open Go.RowKit Go.Shelf
attribute [local go_sem] Oper.semAt_some

end Go.Proofs.Ytabbmihakoeegaa

/- Least. -/
namespace Go.Proofs.Ytabbmihakoeegaa
set_option linter.unusedVariables false
set_option linter.unusedSimpArgs false
open Go.RowKit Go.Shelf
attribute [local go_sem] Oper.semAt_some

/-- The least span that has some spans. -/
def hullOf : List (Int × Int) → Int × Int
  | [] => (0, 0)
  | a :: l => l.foldl (fun s x => (min s.1 x.1, max s.2 x.2)) a
theorem hullOf_fold (l : List (Int × Int)) (S : Int × Int → Prop) (s : Int × Int) (h : IsHull S s) : IsHull (fun x => S x ∨ x ∈ l) (l.foldl (fun s x => (min s.1 x.1, max s.2 x.2)) s) := by
  induction l generalizing S s with
  | nil => exact h.congr (by simp)
  | cons a l ih =>
    refine (ih _ _ (h.add a)).congr fun x => ?_
    simp [or_assoc]
theorem hullOf_is (l : List (Int × Int)) (h : l ≠ []) : IsHull (fun x => x ∈ l) (hullOf l) := by
  obtain ⟨a, l, rfl⟩ := List.exists_cons_of_ne_nil h
  refine (hullOf_fold l _ a (IsHull.one a)).congr fun x => ?_
  simp
theorem IsHull.eq {l : List (Int × Int)} {s : Int × Int} (h : IsHull (fun x => x ∈ l) s) : s = hullOf l := by
  refine h.unique (hullOf_is l ?_)
  obtain ⟨⟨a, ha, _⟩, _⟩ := h
  exact List.ne_nil_of_mem ha
/-- By how much two blocks differ. -/
def difS (p : PairD) (x y : Nat) : Int × Int := hullOf ((pairOuts p (allR p)).map (difOf x y))
theorem difS_range (p : PairD) (hp : OkP p) (hne : pairOuts p (allR p) ≠ []) (x y : Nat) (hx : x < 6) (hy : y < 6) : -1000000000000 ≤ (difS p x y).1 ∧ (difS p x y).1 ≤ 1000000000000 ∧ -1000000000000 ≤ (difS p x y).2 ∧ (difS p x y).2 ≤ 1000000000000 := by
  obtain ⟨⟨a, ha, e1⟩, ⟨b, hb, e2⟩, _⟩ := hullOf_is ((pairOuts p (allR p)).map (difOf x y)) (by simpa using hne)
  have h1 : ∀ c ∈ (pairOuts p (allR p)).map (difOf x y), -1000000000000 ≤ c.1 ∧ c.1 ≤ 1000000000000 ∧ -1000000000000 ≤ c.2 ∧ c.2 ≤ 1000000000000 := by
    intro c hc
    obtain ⟨e, he, rfl⟩ := List.mem_map.1 hc
    have h2 := okTab_of p hp _ e he x y hx hy
    have h3 := okTab_of p hp _ e he y x hy hx
    unfold difOf
    simp only
    omega
  have := h1 a ha
  have := h1 b hb
  unfold difS
  omega
def widS (p : PairD) (x y : Nat) : Int := (difS p x y).2 - (difS p x y).1
def leastStep (p : PairD) (acc : Int × Int × Int) (k i : Nat) : Int × Int × Int :=
  if acc.2.2 < widS p k i ∨ (widS p k i = acc.2.2 ∧ (k : Int) < acc.1) then ((k : Int), (i : Int), widS p k i) else acc
def leastRow (p : PairD) (i : Nat) (acc : Int × Int × Int) : Nat → Int × Int × Int
  | 0 => acc
  | k + 1 => leastStep p (leastRow p i acc k) k i
def leastAll (p : PairD) : Nat → Int × Int × Int
  | 0 => (0, 0, -1)
  | i + 1 => leastRow p i (leastAll p i) i
/-- What Least returns. -/
def leastF (p : PairD) : (Int × Int × Int) × Int :=
  if validB p = false then ((0, 0, 0), 1) else if pairOuts p (allR p) = [] then ((0, 0, 0), 10) else if p.bs.length ≤ 1 then ((0, 0, 0), 4) else (leastAll p p.bs.length, 0)

end Go.Proofs.Ytabbmihakoeegaa

/- How many are in a set. -/
namespace Go.Proofs.Ytabbmihakoeegaa
set_option linter.unusedVariables false
set_option linter.unusedSimpArgs false
open Go.RowKit Go.Shelf
attribute [local go_sem] Oper.semAt_some

/-- How many numbers below 8 are in a set. -/
def ones (x : Nat) : Nat := ((List.range 8).filter x.testBit).length
set_option maxRecDepth 100000 in
set_option maxHeartbeats 8000000 in
theorem ones64_any (x : Nat) (hx : x < 256) (w : World) :
    Calls Try.prog 94 #[.int .u64 x] w fun e w' => e = .returned (.int .i64 (ones x)) ∧ w = w' := by
  go_enter Try.func94, Try.ntmps94
  go_wp2
  go_ret
  refine ⟨?_, rfl⟩
  refine congrArg (fun n => Ending.returned (Value.int .i64 n)) ?_
  obtain ⟨y, rfl⟩ : ∃ y : Fin 256, x = y.val := ⟨⟨x, hx⟩, rfl⟩
  clear hx
  revert y
  decide +kernel
set_option maxRecDepth 100000 in
theorem ones_any (x : Nat) (hx : x < 256) (w : World) :
    Calls Try.prog 78 #[.int .u64 x] w fun e w' => e = .returned (.int .i64 (ones x)) ∧ w = w' := by
  go_enter Try.func78, Try.ntmps78
  go_wp2_with (first | (go_at_call 94; refine (ones64_any x hx _).mono ?_; rintro e w' ⟨rfl, rfl⟩))
  go_ret
  exact ⟨rfl, rfl⟩

end Go.Proofs.Ytabbmihakoeegaa
