/- Texts Po, Ba, Bb, Bc, Bd, Be, G, I, L, Ga, Ub, It, T, In in one file; each begins with a word on what it proves. -/
import Derived.Test.YtagjepclobobjaaRows
import Derived.WalkKit
import Derived.ProofKit
import Derived.OpenShut
import Derived.WalkSpells
import Derived.WalkLawsBesides
import Derived.Lib.Hide
import Derived.BigQuiet
import Derived.Deep.QuietTactic
import Derived.StillTailTactics
import Derived.Laws.CopyOwn
import Derived.Deep.RegionHeld3
import Derived.Deep.MidRow
import Derived.RangeFuncNested
import Derived.RangeFuncLeaves
import Derived.OrdersIn
import Derived.RangeFuncCalls
import Derived.Maps.AppendAt
import Derived.Maps.OwnIn
import Derived.Laws.AppendOwn
import Derived.OwnWalkIn
import Derived.Laws.OwnMore
import Derived.Laws.MakeOwn
import Derived.LoopNIn
import Derived.LoopIn
import Derived.Shelf.Abstract
import Derived.Laws.StructEq
import Derived.StillTail
import Derived.OrdersHeld
import Derived.Deep.RegionHeld
import Derived.Recover

/- The post of a law that leaves what was there, and returns one bool (plain). -/
namespace Go.Proofs.Ytagjepclobobjaa
set_option linter.unusedVariables false
set_option linter.unusedSimpArgs false
open Go.ChangeShapes Go.WideShapes Go.ChangeAt Go.RowKit

theorem own_knob : ownKnob Try.prog.godebug = none := by kernel_rfl
theorem post_of_below {H : Type} {enc : TypeId × Value → H} {P : Program} {f : Func} {s : ChangeSpec} {apart fresh handsOn again : Bool} {W W' : World} {args : Array Value} {v : Value} {ds gs : List (DataW H)} {before pa pv : List MemPlace}
    (hW : DataW.Whole enc P f.params.toList s.vars apart W args.toList ds gs before)
    (hres : ∀ (b : Nat) (sp : Nat → Bool) (hd : Bool), DataW.TrodAll enc P W' b sp hd f.resultTypes.toList (v.resultList f.resultTypes.size) (s.fn H (ds ++ gs)).results [])
    (hargs : ∀ sp : Nat → Bool, (∀ p ∈ before, sp p.block = true) → DataW.TrodAll enc P W' 0 sp true f.params.toList args.toList (s.fn H (ds ++ gs)).args pa)
    (hvars : ∀ sp : Nat → Bool, (∀ p ∈ before, sp p.block = true) → DataW.TrodVars enc P W' sp s.vars (s.fn H (ds ++ gs)).vars pv)
    (hps : before = pa ++ pv) (hb : Below W.heap.size W W')
    (hok : ∀ (j : Nat) (t : TypeId) (r : Value), f.resultTypes[j]? = some t → (v.resultList f.resultTypes.size)[j]? = some r → Value.okWide P W' .any 0 t r) :
    s.post enc P f apart fresh handsOn again W args v W' := by
  have hlt := hW.lt
  have hold : ∀ p ∈ before, (fun b => decide (b < W.heap.size)) p.block = true := fun p hp => by simpa using hlt p hp
  refine ⟨ds, gs, before, [], pa, pv, hW, hres _ _ _, hargs _ hold, hvars _ hold, World.keptBut_mono (fun p hp => ⟨hp, ?_⟩) (hb.frame (· ∈ before)), fun _ => ?_⟩
  · rw [hps, List.mem_append] at hp
    exact Or.inr hp
  · obtain ⟨_, _, _, _, _, hz, hn⟩ := hW
    refine ⟨hok, _, _, ([] ++ pa) ++ pv, ⟨[] ++ pa, pv, trodAll_append (hargs _ (fun _ _ => rfl)) (hres _ _ _), hvars _ (fun _ _ => rfl), rfl, ?_, ?_⟩, ?_⟩
    · intro b off hp
      have hin : MemPlace.cell b off ∈ before := by rw [hps]; simpa using hp
      rw [hb.frozen (p := ⟨b, off, none⟩) (hlt _ hin)]
      exact hz b off hin
    · intro ha
      have := hn ha
      rw [hps] at this
      simpa using this
    · intro p hp _
      rw [hps]
      simpa using hp

end Go.Proofs.Ytagjepclobobjaa

/- Grades in plain words: which blocks there can be, how they are graded, how far they must be lapped. -/
namespace Go.Proofs.Ytagjepclobobjaa
set_option linter.unusedVariables false
set_option linter.unusedSimpArgs false

/-- A grade that is asked of: its limits (off, varies), the spans of the five points, the step. -/
structure GradeD where
  lim : List (Int × Int)
  pts : List (Int × Int)
  step : Int
def nextG (i n : Nat) : Bool := decide (i ≠ n) && (decide (i = 0) || decide (n = 0) || decide ((i + n) % 2 = 1))
def apartG (a b : Int) : Int := max (a - b) (b - a)
/-- Does a number fit behind those before it? -/
def fitG (step : Int) (b : List Int) (k : Int) : Bool := (List.range b.length).all fun i => !nextG i b.length || decide (apartG (b.getD i 0) k ≤ step)
def spanG (s : Int × Int) : List Int := (List.range (s.2 - s.1 + 1).toNat).map fun i : Nat => s.1 + (i : Int)
/-- All truths that go on from one. -/
def fromG (g : GradeD) : Nat → List Int → List (List Int)
  | 0, b => [b]
  | m + 1, b => (spanG (g.pts.getD b.length (0, 0))).flatMap fun k => if fitG g.step b k then fromG g m (b ++ [k]) else []
def truthsG (g : GradeD) : List (List Int) := fromG g 5 []
def maxG (l : List Int) : Int := l.foldl max (l.headD 0)
def turnG (l : List Int) : List Int := l.map fun x => -x
def offG (x : List Int) : Int := max (maxG x) (maxG (turnG x))
def variesG (x : List Int) : Int := maxG x + maxG (turnG x)
def keepsG (l : Int × Int) (x : List Int) : Bool := decide (offG x ≤ l.1) && decide (variesG x ≤ l.2)
/-- The grade of a block. -/
def ofG (lim : List (Int × Int)) (x : List Int) : Nat := lim.findIdx fun l => keepsG l x
def setG (lim : List (Int × Int)) (l : List (List Int)) : Nat := l.foldl (fun s x => s ||| 2 ^ ofG lim x) 0
def lapG (level : Int) (x : List Int) : List Int := x.map fun v => min v level
def levelsG : List Int := (List.range 41).map fun i : Nat => 20 - (i : Int)
/-- The limit ahead of one. -/
def lastG (lim : List (Int × Int)) (i : Nat) : Int × Int := if i = 0 then (0, 0) else lim.getD (i - 1) (0, 0)
def limOk (last l : Int × Int) : Bool := decide (last.1 ≤ l.1 ∧ l.1 ≤ 20) && decide (last.2 ≤ l.2 ∧ l.2 ≤ 20)
def ptOk (s : Int × Int) : Bool := decide (-20 ≤ s.1) && decide (s.1 ≤ s.2) && decide (s.2 ≤ 20) && decide (s.2 - s.1 ≤ 6)
def validG (g : GradeD) : Bool :=
  decide (1 ≤ g.lim.length ∧ g.lim.length ≤ 4) && decide (0 ≤ g.step ∧ g.step ≤ 10) &&
  ((List.range g.lim.length).all fun i => limOk (lastG g.lim i) (g.lim.getD i (0, 0))) && g.pts.all ptOk
/-- The error of a grade; valid: all else is. -/
def errG (g : GradeD) (valid : Bool) : Int := if validG g then (if valid then (if truthsG g = [] then 10 else 0) else 2) else 1
def gradesG (g : GradeD) : Nat := setG g.lim (truthsG g)
/-- Does a block surely have a grade? -/
def sureG (g : GradeD) (n : Nat) : Bool := (truthsG g).all fun x => decide (ofG g.lim x ≤ n)
def neverG (g : GradeD) (n : Nat) : Bool := (truthsG g).all fun x => decide (n < ofG g.lim x)
def lapsG (g : GradeD) (n : Nat) : Option Int := levelsG.find? fun v => (truthsG g).all fun x => keepsG (g.lim.getD n (0, 0)) (lapG v x)
end Go.Proofs.Ytagjepclobobjaa

/- Grades in plain words: what is known of truths. -/
namespace Go.Proofs.Ytagjepclobobjaa
set_option linter.unusedVariables false
set_option linter.unusedSimpArgs false

theorem mem_spanG {s : Int × Int} {k : Int} : k ∈ spanG s ↔ s.1 ≤ k ∧ k ≤ s.2 := by
  unfold spanG
  rw [List.mem_map]
  constructor
  · rintro ⟨i, hi, rfl⟩
    rw [List.mem_range] at hi
    omega
  · rintro ⟨h1, h2⟩
    exact ⟨(k - s.1).toNat, List.mem_range.2 (by omega), by omega⟩
/-- Is a list a truth from its place n on? -/
def FitsG (g : GradeD) (b x : List Int) : Prop := ∃ t, x = b ++ t ∧ ∀ i (h : i < t.length), (g.pts.getD (b.length + i) (0, 0)).1 ≤ t[i] ∧ t[i] ≤ (g.pts.getD (b.length + i) (0, 0)).2 ∧ fitG g.step (b ++ t.take i) t[i] = true
theorem mem_fromG (g : GradeD) : ∀ (m : Nat) (b x : List Int), x ∈ fromG g m b ↔ x.length = b.length + m ∧ FitsG g b x
  | 0, b, x => by
    unfold fromG FitsG
    rw [List.mem_singleton]
    constructor
    · rintro rfl
      exact ⟨by simp, [], by simp, fun i h => by simp at h⟩
    · rintro ⟨h1, t, rfl, _⟩
      have : t = [] := by simpa using h1
      simp [this]
  | m + 1, b, x => by
    unfold fromG
    rw [List.mem_flatMap]
    constructor
    · rintro ⟨k, hk, hx⟩
      rw [mem_spanG] at hk
      split at hx
      · rename_i hf
        obtain ⟨h1, t, rfl, h2⟩ := (mem_fromG g m _ _).1 hx
        refine ⟨by simp at h1 ⊢; omega, k :: t, by simp, fun i h => ?_⟩
        cases i with
        | zero => exact ⟨hk.1, hk.2, by simpa using hf⟩
        | succ i =>
          have := h2 i (by simpa using h)
          rw [show b.length + (i + 1) = b.length + 1 + i by omega]
          simpa using this
      · simp at hx
    · rintro ⟨h1, t, rfl, h2⟩
      cases t with
      | nil => simp at h1
      | cons k t =>
        have h0 := h2 0 (by simp)
        refine ⟨k, mem_spanG.2 ⟨h0.1, h0.2.1⟩, ?_⟩
        rw [if_pos (by simpa using h0.2.2), mem_fromG g m]
        refine ⟨by simp at h1 ⊢; omega, t, by simp, fun i h => ?_⟩
        have := h2 (i + 1) (by simpa using h)
        rw [show b.length + (i + 1) = b.length + 1 + i by omega] at this
        simpa using this
theorem truth_len {g : GradeD} {x : List Int} (h : x ∈ truthsG g) : x.length = 5 := by
  have := ((mem_fromG g 5 [] x).1 h).1
  simpa using this
theorem truth_in {g : GradeD} (hp : g.pts.length = 5) (hv : validG g = true) {x : List Int} (h : x ∈ truthsG g) : ∀ v ∈ x, -20 ≤ v ∧ v ≤ 20 := by
  obtain ⟨h1, t, ht, h2⟩ := (mem_fromG g 5 [] x).1 h
  rw [List.nil_append] at ht
  subst ht
  intro v hv2
  obtain ⟨i, hi, rfl⟩ := List.getElem_of_mem hv2
  have := h2 i hi
  unfold validG at hv
  simp only [Bool.and_eq_true, List.all_eq_true, decide_eq_true_eq] at hv
  have h3 := hv.2 (g.pts.getD i (0, 0)) (by
    have : i < g.pts.length := by simp at h1; omega
    rw [List.getD_eq_getElem?_getD, List.getElem?_eq_getElem this]
    exact List.getElem_mem this)
  unfold ptOk at h3
  simp at this
  simp at h3
  omega
theorem of_le (lim : List (Int × Int)) (x : List Int) : ofG lim x ≤ lim.length := List.findIdx_le_length
theorem of_keeps {lim : List (Int × Int)} {x : List Int} (h : ofG lim x < lim.length) : keepsG lim[ofG lim x] x = true := List.findIdx_getElem (w := h)
theorem of_first {lim : List (Int × Int)} {x : List Int} {i : Nat} (h : i < ofG lim x) : keepsG (lim[i]'(Nat.lt_of_lt_of_le h (of_le lim x))) x = false := by
  have := List.not_of_lt_findIdx (p := fun l => keepsG l x) h
  simpa using this
end Go.Proofs.Ytagjepclobobjaa

/- Lots in plain words: as what blocks are sold, what they are worth, how they bring most, what is scrap, what is delivered, what entries break. -/
namespace Go.Proofs.Ytagjepclobobjaa
set_option linter.unusedVariables false
set_option linter.unusedSimpArgs false

structure LotD where
  lim : List (Int × Int)
  step : Int
  blocks : List (List (Int × Int))
  pays : List Int
  lap : Int
  orders : List (Int × Int)
/-- The grade of a block. -/
def gradeL (l : LotD) (b : Nat) : GradeD := ⟨l.lim, l.blocks.getD b [], l.step⟩
def zeroPts : List (Int × Int) := List.replicate 5 (0, 0)
def validL (l : LotD) : Bool :=
  decide (l.blocks.length ≤ 6) && decide (l.orders.length ≤ 4) && decide (0 ≤ l.lap) && decide (l.lap ≤ 50) && decide (l.pays.length = l.lim.length) &&
  validG ⟨l.lim, zeroPts, l.step⟩ && (l.blocks.all fun p => validG ⟨l.lim, p, l.step⟩) &&
  ((List.range l.pays.length).all fun i => decide (0 ≤ l.pays.getD i 0 ∧ l.pays.getD i 0 ≤ (if i = 0 then 100 else l.pays.getD (i - 1) 0))) &&
  (l.orders.all fun o => decide (0 ≤ o.1 ∧ o.1 < (l.lim.length : Int) ∧ 1 ≤ o.2 ∧ o.2 ≤ 6))
/-- An entry: block, grade, pence. -/
abbrev EntD := Int × Int × Int
def isBlockL (l : LotD) (n : Int) : Bool := decide (0 ≤ n ∧ n < (l.blocks.length : Int))
def isGradeL (l : LotD) (n : Int) : Bool := decide (0 ≤ n ∧ n < (l.lim.length : Int))
def clashL (l : LotD) : Bool := (List.range l.blocks.length).any fun b => (truthsG (gradeL l b)).isEmpty
/-- The error of a lot; valid: all else is. -/
def errL (l : LotD) (es : List EntD) (valid : Bool) : Int :=
  if validL l then (if es.length ≤ 8 then (if valid && es.all (fun x => isBlockL l x.1 && isGradeL l x.2.1) then (if clashL l then 10 else 0) else 2) else 3) else 1
def setsL (l : LotD) (b : Nat) : Nat := gradesG (gradeL l b)
def sureL (l : LotD) (b n : Nat) : Bool := sureG (gradeL l b) n
def lapsL (l : LotD) (b n : Nat) : Bool := (lapsG (gradeL l b) n).isSome
/-- As what a block can be sold. -/
def sellsN (l : LotD) (b : Nat) : Nat := ((List.range l.lim.length).find? fun n => sureL l b n).getD l.lim.length
def paidL (l : LotD) (n : Nat) : Int := l.pays.getD n 0
def worthS (l : LotD) (s : Nat) : Int × Int := (List.range (l.lim.length + 1)).foldl (fun w n => if s.testBit n then (min w.1 (paidL l n), max w.2 (paidL l n)) else w) (100, 0)
def worthN (l : LotD) (b : Nat) : Int × Int := worthS l (setsL l b)
def addS (a b : Int × Int) : Int × Int := (a.1 + b.1, a.2 + b.2)
def valueN (l : LotD) : Int × Int := (List.range l.blocks.length).foldl (fun s b => addS s (worthN l b)) (0, 0)
/-- All ways to sell a block: grade, lapped, what it brings. -/
def waysN (l : LotD) (b : Nat) : List (Nat × Bool × Int) :=
  ((List.range l.lim.length).filter fun n => sureL l b n).map (fun n => (n, false, paidL l n)) ++
  ((List.range l.lim.length).filter fun n => (List.range (n + 1)).any fun k => lapsL l b k).map (fun n => (n, true, paidL l n - l.lap))
def bestOf (own : Nat × Bool × Int) (ws : List (Nat × Bool × Int)) : Nat × Bool × Int := ws.foldl (fun o x => if o.2.2 < x.2.2 then x else o) own
def bestN (l : LotD) (b : Nat) : Nat × Bool × Int := bestOf (l.lim.length, false, -1) (waysN l b)
def surelyN (l : LotD) : Nat := (List.range l.blocks.length).foldl (fun s b => if setsL l b = 2 ^ l.lim.length then s ||| 2 ^ b else s) 0
def perhapsN (l : LotD) : Nat := (List.range l.blocks.length).foldl (fun s b => if (setsL l b).testBit l.lim.length then s ||| 2 ^ b else s) 0
def takesL (l : LotD) (o b : Nat) : Bool := sureL l b (l.orders.getD o (0, 0)).1.toNat
def goneL (d : List Int) (o : Int) : Nat := d.count o
def sentL (d : List Int) : Nat := d.length - goneL d (-1)
/-- All right deliveries that go on from one, in order. -/
def deliverL (l : LotD) : Nat → List Int → List (List Int)
  | 0, d => [d]
  | m + 1, d => deliverL l m (d ++ [-1]) ++ (List.range l.orders.length).flatMap fun o => if takesL l o d.length && decide ((goneL d o : Int) < (l.orders.getD o (0, 0)).2) then deliverL l m (d ++ [(o : Int)]) else []
def firstMost (own : List Int) (l : List (List Int)) : List Int := l.foldl (fun o d => if sentL o < sentL d then d else o) own
def deliveryN (l : LotD) : List Int := let a := deliverL l l.blocks.length []; firstMost (a.headD []) a
/-- The first rule that an entry breaks. -/
def ruleL (l : LotD) (before : List EntD) (x : EntD) : Int :=
  if before.any (fun y => y.1 == x.1) then 1 else if !sureL l x.1.toNat x.2.1.toNat then 2 else if x.2.2 ≠ paidL l x.2.1.toNat then 3 else 0
def brokenL (l : LotD) : List EntD → List EntD → Nat → Option (Nat × Int)
  | _, [], _ => none
  | before, x :: es, i => if ruleL l before x = 0 then brokenL l (before ++ [x]) es (i + 1) else some (i, ruleL l before x)
def sumL (es : List EntD) : Int := (es.map fun x => x.2.2).sum
/-- What each function of package lot answers. -/
def sellsD (l : LotD) (b : Int) : Int × Int := let e := errL l [] (isBlockL l b); if e = 0 then ((sellsN l b.toNat : Int), 0) else (0, e)
def worthD (l : LotD) (b : Int) : (Int × Int) × Int := let e := errL l [] (isBlockL l b); if e = 0 then (worthN l b.toNat, 0) else ((0, 0), e)
def valueD (l : LotD) : (Int × Int) × Int := let e := errL l [] true; if e = 0 then (valueN l, 0) else ((0, 0), e)
def bestD (l : LotD) (b : Int) : Int × Bool × Int × Int := let e := errL l [] (isBlockL l b); if e = 0 then (((bestN l b.toNat).1 : Int), (bestN l b.toNat).2.1, max 0 (bestN l b.toNat).2.2, 0) else (0, false, 0, e)
def scrapD (l : LotD) : Int × Int × Int := let e := errL l [] true; if e = 0 then ((surelyN l : Int), (perhapsN l : Int), 0) else (0, 0, e)
def deliverD (l : LotD) : Int × List Int × Int := let e := errL l [] true; if e = 0 then ((sentL (deliveryN l) : Int), deliveryN l, 0) else (0, [], e)
def checkL (l : LotD) (es : List EntD) : Int × Int × Int := let e := errL l es true; if e = 0 then (match brokenL l [] es 0 with | some (i, r) => ((i : Int), r, 0) | none => (0, 0, 4)) else (0, 0, e)
def sumD (l : LotD) (es : List EntD) : Int × Int := let e := errL l es true; if e = 0 then (match brokenL l [] es 0 with | some _ => (0, 11) | none => (sumL es, 0)) else (0, e)
end Go.Proofs.Ytagjepclobobjaa

/- Deliveries in plain words: a search that leaves out what cannot be more finds the first of the greatest. -/
namespace Go.Proofs.Ytagjepclobobjaa
set_option linter.unusedVariables false
set_option linter.unusedSimpArgs false

def betterL (st : Int × List Int) (d : List Int) : Int × List Int := if st.1 < (sentL d : Int) then ((sentL d : Int), d) else st
/-- The search: how many are sent at most so far, and by which delivery. -/
def dfsL (l : LotD) : Nat → List Int → Int × List Int → Int × List Int
  | 0, d, st => betterL st d
  | m + 1, d, st =>
    if (sentL d : Int) + (m + 1 : Nat) ≤ st.1 then st else
      (List.range l.orders.length).foldl (fun st o => if takesL l o d.length && decide ((goneL d o : Int) < (l.orders.getD o (0, 0)).2) then dfsL l m (d ++ [(o : Int)]) st else st) (dfsL l m (d ++ [-1]) st)
theorem sent_snoc (d : List Int) (o : Int) : sentL (d ++ [o]) = if o = -1 then sentL d else sentL d + 1 := by
  unfold sentL goneL
  have h := List.count_le_length (a := (-1 : Int)) (l := d)
  rw [List.count_append, List.length_append, List.length_singleton]
  by_cases ho : o = -1
  · subst ho
    rw [if_pos rfl]
    simp
  · rw [if_neg ho]
    have : List.count (-1) [o] = 0 := by
      rw [List.count_eq_zero]
      simpa using fun h => ho h.symm
    omega
theorem deliver_sent (l : LotD) : ∀ (m : Nat) (d e : List Int), e ∈ deliverL l m d → sentL e ≤ sentL d + m
  | 0, d, e, h => by
    have : e = d := by simpa [deliverL] using h
    subst this; omega
  | m + 1, d, e, h => by
    rw [deliverL, List.mem_append, List.mem_flatMap] at h
    rcases h with h | ⟨o, _, h⟩
    · have := deliver_sent l m _ _ h
      rw [sent_snoc, if_pos rfl] at this
      omega
    · split at h
      · have := deliver_sent l m _ _ h
        rw [sent_snoc] at this
        split at this <;> omega
      · simp at h
theorem better_fold (st : Int × List Int) : ∀ (es : List (List Int)), (∀ e ∈ es, (sentL e : Int) ≤ st.1) → es.foldl betterL st = st
  | [], _ => rfl
  | e :: es, h => by
    rw [List.foldl_cons]
    have : betterL st e = st := by
      unfold betterL
      rw [if_neg (by have := h e (by simp); omega)]
    rw [this]
    exact better_fold st es fun x hx => h x (by simp [hx])
theorem dfs_fold (l : LotD) : ∀ (m : Nat) (d : List Int) (st : Int × List Int), dfsL l m d st = (deliverL l m d).foldl betterL st
  | 0, d, st => rfl
  | m + 1, d, st => by
    rw [dfsL]
    split
    · rename_i h
      refine (better_fold st _ fun e he => ?_).symm
      have := deliver_sent l _ _ _ he
      omega
    · rw [deliverL, List.foldl_append, ← dfs_fold l m]
      generalize dfsL l m (d ++ [-1]) st = s0
      generalize List.range l.orders.length = os
      induction os generalizing s0 with
      | nil => rfl
      | cons o os ih =>
        rw [List.foldl_cons, List.flatMap_cons, List.foldl_append, ih]
        congr 1
        split
        · exact dfs_fold l m _ _
        · rfl
theorem deliver_len (l : LotD) : ∀ (m : Nat) (d e : List Int), e ∈ deliverL l m d → e.length = d.length + m
  | 0, d, e, h => by
    have : e = d := by simpa [deliverL] using h
    subst this; rfl
  | m + 1, d, e, h => by
    rw [deliverL, List.mem_append, List.mem_flatMap] at h
    rcases h with h | ⟨o, _, h⟩
    · have := deliver_len l m _ _ h
      simp at this; omega
    · split at h
      · have := deliver_len l m _ _ h
        simp at this; omega
      · simp at h
theorem deliver_ne (l : LotD) : ∀ (m : Nat) (d : List Int), deliverL l m d ≠ []
  | 0, d => by simp [deliverL]
  | m + 1, d => by
    rw [deliverL]
    intro h
    exact deliver_ne l m _ (List.append_eq_nil_iff.1 h).1
theorem most_fold : ∀ (es : List (List Int)) (o : List Int), es.foldl betterL ((sentL o : Int), o) = ((sentL (firstMost o es) : Int), firstMost o es)
  | [], o => rfl
  | e :: es, o => by
    unfold firstMost
    rw [List.foldl_cons, List.foldl_cons]
    unfold betterL
    dsimp only
    by_cases h : sentL o < sentL e
    · rw [if_pos (by omega), if_pos h]
      exact most_fold es e
    · rw [if_neg (by omega), if_neg h]
      exact most_fold es o
/-- What the search finds. -/
theorem dfs_deliver (l : LotD) : dfsL l l.blocks.length [] (-1, []) = ((sentL (deliveryN l) : Int), deliveryN l) := by
  rw [dfs_fold]
  unfold deliveryN
  dsimp only
  cases h : deliverL l l.blocks.length [] with
  | nil => exact absurd h (deliver_ne l _ _)
  | cons a es =>
    rw [List.foldl_cons, List.headD_cons]
    have h1 : betterL (-1, []) a = ((sentL a : Int), a) := by
      unfold betterL
      rw [if_pos (by dsimp only; omega)]
    rw [h1, most_fold]
    have : firstMost a (a :: es) = firstMost a es := by
      unfold firstMost
      rw [List.foldl_cons, if_neg (Nat.lt_irrefl _)]
    rw [this]
end Go.Proofs.Ytagjepclobobjaa

/- Grades in plain words: sets of grades, and what is sure. -/
namespace Go.Proofs.Ytagjepclobobjaa
set_option linter.unusedVariables false
set_option linter.unusedSimpArgs false

theorem setG_bit (lim : List (Int × Int)) (n : Nat) : ∀ (l : List (List Int)) (s : Nat), (l.foldl (fun s x => s ||| 2 ^ ofG lim x) s).testBit n = (s.testBit n || l.any fun x => ofG lim x == n)
  | [], s => by simp
  | x :: l, s => by
    rw [List.foldl_cons, setG_bit lim n l, Nat.testBit_or, List.any_cons, Nat.testBit_two_pow, Bool.or_assoc]
    congr 2
theorem grades_bit (g : GradeD) (n : Nat) : (gradesG g).testBit n = (truthsG g).any fun x => ofG g.lim x == n := by
  unfold gradesG setG
  rw [setG_bit]
  simp
theorem grades_lt (g : GradeD) : gradesG g < 2 ^ (g.lim.length + 1) := by
  apply Nat.lt_pow_two_of_testBit
  intro i hi
  rw [grades_bit, Bool.eq_false_iff]
  intro h
  obtain ⟨x, _, hx⟩ := List.any_eq_true.1 h
  rw [beq_iff_eq] at hx
  have := of_le g.lim x
  omega
theorem sure_iff (g : GradeD) (n : Nat) : sureG g n = true ↔ ∀ m, n < m → (gradesG g).testBit m = false := by
  unfold sureG
  rw [List.all_eq_true]
  constructor
  · intro h m hm
    rw [grades_bit, Bool.eq_false_iff]
    intro ha
    obtain ⟨x, hx, he⟩ := List.any_eq_true.1 ha
    have := h x hx
    rw [beq_iff_eq] at he
    rw [decide_eq_true_eq] at this
    omega
  · intro h x hx
    rw [decide_eq_true_eq]
    apply Nat.le_of_not_lt
    intro hlt
    have := h _ hlt
    rw [grades_bit, Bool.eq_false_iff] at this
    exact this (List.any_eq_true.2 ⟨x, hx, by simp⟩)
theorem never_iff (g : GradeD) (n : Nat) : neverG g n = true ↔ ∀ m, m ≤ n → (gradesG g).testBit m = false := by
  unfold neverG
  rw [List.all_eq_true]
  constructor
  · intro h m hm
    rw [grades_bit, Bool.eq_false_iff]
    intro ha
    obtain ⟨x, hx, he⟩ := List.any_eq_true.1 ha
    have := h x hx
    rw [beq_iff_eq] at he
    rw [decide_eq_true_eq] at this
    omega
  · intro h x hx
    rw [decide_eq_true_eq]
    apply Nat.lt_of_not_le
    intro hle
    have := h _ hle
    rw [grades_bit, Bool.eq_false_iff] at this
    exact this (List.any_eq_true.2 ⟨x, hx, by simp⟩)
theorem sure_mono (g : GradeD) {n m : Nat} (h : n ≤ m) (hs : sureG g n = true) : sureG g m = true := by
  unfold sureG at hs ⊢
  rw [List.all_eq_true] at hs ⊢
  intro x hx
  have := hs x hx
  rw [decide_eq_true_eq] at this ⊢
  omega
/-- The greatest of some numbers, as both the program and the reference find it. -/
theorem max_fold (x : Int) : ∀ (l : List Int) (a : Int), a ≤ l.foldl max a ∧ (∀ v ∈ l, v ≤ l.foldl max a) ∧ (l.foldl max a = a ∨ l.foldl max a ∈ l)
  | [], a => ⟨Int.le_refl _, by simp, .inl rfl⟩
  | v :: l, a => by
    obtain ⟨h1, h2, h3⟩ := max_fold x l (max a v)
    rw [List.foldl_cons]
    refine ⟨by omega, fun u hu => ?_, ?_⟩
    · rcases List.mem_cons.1 hu with rfl | hu
      · omega
      · exact h2 u hu
    · rcases h3 with h3 | h3
      · rcases Int.le_total a v with h | h
        · right; rw [h3, Int.max_eq_right h]; exact List.mem_cons_self
        · left; rw [h3, Int.max_eq_left h]
      · right; exact List.mem_cons_of_mem _ h3
end Go.Proofs.Ytagjepclobobjaa

/- General lemmas: a region that draws its order, whose head yields fixed values in each world of a class (calls that make memory too), and whose tail comes in one forced order. -/
namespace Go.Proofs.Ytagjepclobobjaa
set_option linter.unusedVariables false
set_option linter.unusedSimpArgs false
open Go.RowKit

section
variable {P : Program} {ops : Array Oper} {md : Region.Mode} {C : World → Prop}

/-- What an operation comes to in a world: this value, and a world of the class. -/
def fixUpon (P : Program) (C : World → Prop) (v : Value) : Result Next → Prop
  | .ok (.value u) w' => C w' ∧ u = v
  | .ok .skip w' => C w' ∧ v = undef
  | .ok (.enter f args) w' => Calls P f args w' (fun e w'' => e = .returned v ∧ C w'')
  | _ => False
/-- In state a operation o yields v in every world of the class, and leaves one of the class. -/
def Fix (P : Program) (ops : Array Oper) (C : World → Prop) (o : Oper) (v : Value) (a : Act) : Prop :=
  (Region.wanted o (yielded ops a.tmps) = true ∧ ∀ w, C w → fixUpon P C v ((execOp a.eval o).run P w)) ∨
  (Region.wanted o (yielded ops a.tmps) = false ∧ v = undef)
theorem Fix.of_same {o : Oper} {v : Value} {a a' : Act} (h : Fix P ops C o v a) (he : execOp a'.eval o = execOp a.eval o)
    (hw : Region.wanted o (yielded ops a'.tmps) = Region.wanted o (yielded ops a.tmps)) : Fix P ops C o v a' := by
  unfold Fix at *
  rw [he, hw]
  exact h
theorem Fix.wpOp {i : Nat} {o : Oper} {v : Value} {a : Act} (hi : ops[i]? = some o) (h : Fix P ops C o v a) {K : Act → World → Prop} {Q : Exit → Act → World → Prop} {w : World} (hC : C w)
    (hK : ∀ w', C w' → K (a.put o.dst v) w') : Go.wpOp P ops Q i K a w := by
  unfold Go.wpOp
  simp only [hi]
  rcases h with ⟨hw, hv⟩ | ⟨hw, rfl⟩
  · rw [if_pos hw]
    left
    have h3 := hv w hC
    unfold Oper.wp
    generalize (execOp a.eval o).run P w = r at *
    cases r with
    | ok n w' =>
      cases n <;> simp only [fixUpon] at h3 <;> simp only [Oper.upon]
      case value u => obtain ⟨e1, e2⟩ := h3; rw [e2]; exact hK _ e1
      case skip => obtain ⟨e1, e2⟩ := h3; rw [← e2]; exact hK _ e1
      case enter f args => exact h3.mono fun e w'' ⟨he, hw''⟩ => by subst he; exact hK _ hw''
    | halt x w' => simp only [fixUpon] at h3
  · rw [if_neg (by rw [hw]; decide)]
    exact hK _ hC

/-- The walk of the head, in the text's order. -/
def WF (P : Program) (ops : Array Oper) (C : World → Prop) (K : Act → Prop) : List Oper → Act → Prop
  | [], a => K a
  | o :: rest, a => ∃ v, Fix P ops C o v a ∧ WF P ops C K rest (a.put o.dst v)
/-- Whatever order the head is picked in. -/
def AnyF (P : Program) (md : Region.Mode) (ops : Array Oper) (C : World → Prop) (n : Nat) (L : Array Bool → Act → Prop) : Nat → Array Bool → Act → Prop
  | 0, listed, a => L listed a
  | f + 1, listed, a => Region.ready md ops listed ≠ [] ∧ ∀ i ∈ Region.ready md ops listed, i < n ∧ ∃ o v, ops[i]? = some o ∧ Fix P ops C o v a ∧ AnyF P md ops C n L f (listed.setIfInBounds i true) (a.put o.dst v)

theorem wpAny_of_AnyF {n g : Nat} {L : Array Bool → Act → Prop} {Q : Exit → Act → World → Prop} (hL : ∀ listed a, L listed a → ∀ w, C w → wpAny P md ops Q g listed a w) :
    ∀ (f : Nat) (listed : Array Bool) (a : Act), AnyF P md ops C n L f listed a → ∀ w, C w → wpAny P md ops Q (f + g) listed a w
  | 0, listed, a, h, w, hw => by rw [Nat.zero_add]; exact hL _ _ h w hw
  | f + 1, listed, a, h, w, hw => by
    rw [show f + 1 + g = (f + g) + 1 by omega]
    refine ⟨fun h0 => absurd h0 h.1, fun i hi => ?_⟩
    obtain ⟨_, o, v, ho, hy, hr⟩ := h.2 i hi
    exact hy.wpOp ho hw fun w' hw' => wpAny_of_AnyF hL f _ _ hr w' hw'

theorem AnyF_first {n i : Nat} {oi : Oper} {v : Value} {L : Array Bool → Act → Prop} (hi : ops[i]? = some oi) (hsel : ∀ (j : Nat) (o : Oper) cs b, ops[j]? = some o → o.op ≠ .select cs b)
    (hs : Region.sinkB md ops n = true) (hc : Region.chainB md ops n = true) (hn : n < ops.size) (hin : i < n)
    (hdone : ∀ listed a, L listed a → ∀ j ∈ Region.ready md ops listed, n ≤ j) :
    ∀ (f : Nat) (listed : Array Bool) (a : Act), HeadInv md ops n listed →
      (∀ j oj, ops[j]? = some oj → j ≠ i → listed.getD j true = false → (∀ e ∈ oj.after, Region.binds md e = true → e.on ≠ i) → oi.apart ops oj = true) →
      i ∈ Region.ready md ops listed → Fix P ops C oi v a →
      AnyF P md ops C n L f (listed.setIfInBounds i true) (a.put oi.dst v) → AnyF P md ops C n L (f + 1) listed a := by
  intro f
  induction f with
  | zero =>
    intro listed a inv _ hr hy H
    have hun := (mem_ready.1 hr).1
    refine ⟨fun h => (by rw [h] at hr; cases hr), fun j hj => ?_⟩
    have hjn : j < n := Nat.lt_of_not_le fun h => tail_waits hs hc hn inv _ i rfl hin hun j h hj
    refine ⟨hjn, ?_⟩
    by_cases hji : j = i
    · subst hji; exact ⟨oi, v, hi, hy, H⟩
    · have := hdone _ _ H j (ready_mono hj hji)
      omega
  | succ f ih =>
    intro listed a inv hfree hr hy H
    have hun := (mem_ready.1 hr).1
    refine ⟨fun h => (by rw [h] at hr; cases hr), fun j hj => ?_⟩
    have hjn : j < n := Nat.lt_of_not_le fun h => tail_waits hs hc hn inv _ i rfl hin hun j h hj
    refine ⟨hjn, ?_⟩
    by_cases hji : j = i
    · subst hji; exact ⟨oi, v, hi, hy, H⟩
    · obtain ⟨_, oj', u, hoj', hyj, hrest⟩ := H.2 j (ready_mono hj hji)
      obtain ⟨hjun, oj, hoj, hall⟩ := mem_ready.1 hj
      obtain rfl : oj = oj' := Option.some.inj (hoj.symm.trans hoj')
      have hnot : ∀ e ∈ oj.after, Region.binds md e = true → e.on ≠ i := fun e he hb heq => by
        have h1 := hall e he hb
        rw [heq, getD_both hun] at h1
        cases h1
      have hap := hfree j oj hoj hji hjun hnot
      obtain ⟨h1, h2, h3⟩ := Oper.apart_spec hap
      have hsi := fun cs b => hsel i oi cs b hi
      have hsj := fun cs b => hsel j oj cs b hoj
      have hyj' : Fix P ops C oj u a := hyj.of_same (execOp_put oj hsj a oi.dst v h1).symm (wanted_put oj a oi.dst v h1).symm
      have hyi' : Fix P ops C oi v (a.put oj.dst u) := hy.of_same (execOp_put oi hsi a oj.dst u h3) (wanted_put oi a oj.dst u h3)
      refine ⟨oj, u, hoj, hyj', ih (listed.setIfInBounds j true) _ (inv.set hj hjn) ?_ (ready_mono hr (Ne.symm hji)) hyi' ?_⟩
      · intro k ok hk hki hun' hno
        refine hfree k ok hk hki ?_ hno
        by_cases hjk : j = k
        · subst hjk; exact hjun
        · rw [getD_set_ne true hjk] at hun'; exact hun'
      · rw [Array.setIfInBounds_comm _ _ hji, ← Act.put_comm a v u h2]
        exact hrest

theorem AnyF_lex {n g : Nat} {K : Act → Prop} (hsel : Region.noSelect ops = true) (hs : Region.sinkB md ops n = true) (hc : Region.chainB md ops n = true) (hn : n < ops.size) :
    ∀ (l : List Oper) (k : Nat) (listed : Array Bool) (a : Act), (∀ j, j < l.length → l[j]? = ops[k + j]?) → k + l.length = n → HeadInv md ops n listed →
    Region.lexHead md ops g l.length k listed = true → WF P ops C K l a →
    AnyF P md ops C n (fun listed' a' => Region.seqB md ops g n listed' = true ∧ K a') l.length listed a
  | [], k, listed, a, _, hk, _, hB, h => by
    obtain rfl : k = n := by simpa using hk
    exact ⟨by simpa [Region.lexHead] using hB, h⟩
  | o :: l, k, listed, a, hl, hk, inv, hB, h => by
    have h0 : ops[k]? = some o := by simpa using (hl 0 (by simp)).symm
    simp only [List.length_cons, Region.lexHead, Bool.and_eq_true] at hB
    obtain ⟨⟨hr, hf⟩, hB'⟩ := hB
    have hkn : k < n := by simp only [List.length_cons] at hk; omega
    have hr' : k ∈ Region.ready md ops listed := by simpa using hr
    obtain ⟨v, hy, hK⟩ := h
    exact AnyF_first h0 (Region.noSelect_spec hsel) hs hc hn hkn (fun listed' a' hL => seqB_ready hL.1) l.length listed a inv (Region.free_spec h0 hf) hr' hy
      (AnyF_lex hsel hs hc hn l (k + 1) _ _ (fun j hj => by have := hl (j + 1) (by simp; omega); simpa [Nat.add_assoc, Nat.add_comm 1 j] using this) (by simp only [List.length_cons] at hk; omega) (inv.set hr' hkn) hB' hK)

/-- A region that draws its order: n operations of fixed values in a class of worlds, then a tail in one forced order. -/
theorem region_fix {id : Nat} {Q : Exit → Act → World → Prop} {a : Act} {w : World} {l : List Oper} (n : Nat) (C : World → Prop) (hm : P.follows .mixedOrders = true) (hB : Region.lexTailB .any l.toArray n = true) (hC : C w.drew)
    (h : WF P l.toArray C (fun a' => ∀ w', C w' → wpList P l.toArray Q (l.drop n) a' w') (l.take n) a) : (Code.region id l.toArray true).wp P Q a w := by
  simp only [Region.lexTailB, Bool.and_eq_true, decide_eq_true_eq] at hB
  obtain ⟨⟨⟨⟨hsel, hn⟩, hs⟩, hc⟩, hlex⟩ := hB
  have hn' : n < l.length := by simpa using hn
  have htl : (l.take n).length = n := by simp; omega
  have hdl : (l.drop n).length = l.toArray.size - n := by simp
  have inv0 : HeadInv .any l.toArray n (Array.replicate l.toArray.size false) :=
    ⟨by simp, fun j oj _ hl => (by rw [getD_replicate_false] at hl; cases hl), fun t _ ht => getD_in (by simpa using ht) (getD_replicate_false _ _)⟩
  have H := AnyF_lex (md := .any) (g := l.toArray.size - n) hsel hs hc hn (l.take n) 0 _ a (fun j hj => by
    have hj' : j < n := by rw [htl] at hj; exact hj
    simp [hj']) (by simpa using htl) inv0 (by rw [htl]; exact hlex) h
  refine wp_region_any hm ?_
  have := wpAny_of_AnyF (Q := Q) (g := l.toArray.size - n) (fun listed a' hL w' hw' => by
    have := wpAny_of_seq (md := .any) (Q' := Q) (l.drop n) n listed a' w' (fun j => by simp [List.getElem?_drop]) (by rw [hdl]; exact hL.1) (hL.2 w' hw')
    rwa [hdl] at this) _ _ _ H w.drew hC
  rw [htl, show n + (l.toArray.size - n) = l.toArray.size by omega] at this
  exact this
end

/-- One step of the head's walk. -/
theorem WF_step {P : Program} {ops : Array Oper} {C : World → Prop} {K : Act → Prop} {a : Act} {o : Oper} {rest : List Oper} (v : Value)
    (h : ∀ w, C w → fixUpon P C v ((execOp a.eval o).run P w)) (hg : o.guard = none) (hr : WF P ops C K rest (a.put o.dst v)) : WF P ops C K (o :: rest) a :=
  ⟨v, .inl ⟨by simp [Region.wanted, hg], h⟩, hr⟩
theorem heap_alloc_at (w : World) (o : Obj) (i : Nat) (h : i = w.heap.size) : (w.alloc o).heap[i]? = some o := by rw [h]; exact heap_alloc_new w o
theorem hget (w : World) (o : Obj) (i : Nat) : (w.alloc o).heap[i]? = if i = w.heap.size then some o else w.heap[i]? := by
  by_cases h : i = w.heap.size
  · rw [if_pos h]; exact heap_alloc_at w o i h
  · rw [if_neg h]
    rcases Nat.lt_or_ge i w.heap.size with h' | h'
    · exact Below.heap_alloc w o i h'
    · rw [Array.getElem?_eq_none h', Array.getElem?_eq_none (by simp; omega)]
theorem hget_old (w : World) (o : Obj) (i : Nat) (h : i ≠ w.heap.size) : (w.alloc o).heap[i]? = w.heap[i]? := by rw [hget, if_neg h]
theorem wrap_neg (n : Int) (h1 : -9000000000000000000 ≤ n) (h2 : n ≤ 9000000000000000000) : IntKind.i64.wrap (-n) = -n := by
  apply IntWalk.i64_in
  omega
theorem WF_nil {P : Program} {ops : Array Oper} {C : World → Prop} {K : Act → Prop} {a : Act} (h : K a) : WF P ops C K [] a := h
theorem WF_skip {P : Program} {ops : Array Oper} {C : World → Prop} {K : Act → Prop} {a : Act} {o : Oper} {rest : List Oper}
    (h : Region.wanted o (yielded ops a.tmps) = false) (hr : WF P ops C K rest (a.put o.dst undef)) : WF P ops C K (o :: rest) a :=
  ⟨undef, .inr ⟨h, rfl⟩, hr⟩
theorem WF_stepG {P : Program} {ops : Array Oper} {C : World → Prop} {K : Act → Prop} {a : Act} {o : Oper} {rest : List Oper} (v : Value)
    (h : ∀ w, C w → fixUpon P C v ((execOp a.eval o).run P w)) (hg : Region.wanted o (yielded ops a.tmps) = true) (hr : WF P ops C K rest (a.put o.dst v)) : WF P ops C K (o :: rest) a :=
  ⟨v, .inl ⟨hg, h⟩, hr⟩
theorem fix_load_row {P : Program} {C : World → Prop} {o : Oper} {ρ : Operand → Value} {w : World} (ty : TypeId) (x : Operand) (ho : o.op = .load ty x)
    (g : Nat) (hx : ρ x = .pointer (some ⟨g, 0, none⟩)) (t : TypeId) (cs : Array Value) (fr : Nat × Nat) (d : TypeDesc) (hg : w.heap[g]? = some (.cells cs t fr))
    (hu : P.underlying ty = some d) (hd : (match d with | .struct _ | .array _ _ => true | _ => false) = true) (hi : (P.info? ty).map (·.size) = some cs.size) (hC : C w) :
    fixUpon P C (.agg cs) ((execOp ρ o).run P w) := by
  unfold execOp
  simp only [ho, hx, Instr.loadAt, Instr.sureAddr, Sem.run_bind, Sem.run_pure, Result.andThen_ok, run_loadVar_row w g t ty cs fr d hg hu hd hi]
  exact ⟨hC, rfl⟩
theorem fix_value {P : Program} {C : World → Prop} {v : Value} {w : World} (h : C w) : fixUpon P C v (.ok (.value v) w) := ⟨h, rfl⟩
theorem fix_enter {P : Program} {C : World → Prop} {v : Value} {w : World} {f : FuncId} {args : Array Value} (h : Calls P f args w (fun e w'' => e = .returned v ∧ C w'')) : fixUpon P C v (.ok (.enter f args) w) := h

end Go.Proofs.Ytagjepclobobjaa

/- Iterators: a contract for a function value that is ranged over, and a law for the statement that ranges over it. -/
namespace Go.Proofs.Ytagjepclobobjaa
set_option linter.unusedVariables false
set_option linter.unusedSimpArgs false
open Go.RowKit

/-- The memory is the same, but for blocks of a set, and for new ones. -/
structure Keeps (Mut : Nat → Prop) (w w' : World) : Prop where
  os : w'.os = w.os
  tape : w'.tape = w.tape
  output : w'.output = w.output
  size : w.heap.size ≤ w'.heap.size
  block : ∀ k, k < w.heap.size → ¬ Mut k → w'.heap[k]? = w.heap[k]?
theorem Keeps.refl (Mut : Nat → Prop) (w : World) : Keeps Mut w w := ⟨rfl, rfl, rfl, Nat.le_refl _, fun _ _ _ => rfl⟩
theorem Keeps.trans {Mut : Nat → Prop} {a b c : World} (h : Keeps Mut a b) (k : Keeps Mut b c) : Keeps Mut a c :=
  ⟨k.os.trans h.os, k.tape.trans h.tape, k.output.trans h.output, Nat.le_trans h.size k.size, fun i hi hm => (k.block i (Nat.lt_of_lt_of_le hi h.size) hm).trans (h.block i hi hm)⟩
theorem Keeps.transNew {Mut N : Nat → Prop} {a b c : World} (h : Keeps Mut a b) (k : Keeps N b c) (hN : ∀ i, N i → a.heap.size ≤ i) : Keeps Mut a c :=
  ⟨k.os.trans h.os, k.tape.trans h.tape, k.output.trans h.output, Nat.le_trans h.size k.size, fun i hi hm => (k.block i (Nat.lt_of_lt_of_le hi h.size) (fun hn => by have := hN i hn; omega)).trans (h.block i hi hm)⟩
theorem Keeps.mono {Mut Mut' : Nat → Prop} {w w' : World} (h : Keeps Mut w w') (hm : ∀ k, k < w.heap.size → Mut k → Mut' k) : Keeps Mut' w w' :=
  ⟨h.os, h.tape, h.output, h.size, fun k hk hn => h.block k hk (fun hx => hn (hm k hk hx))⟩
theorem Keeps.of_below {Mut : Nat → Prop} {B : Nat} {w w' : World} (h : Below B w w') (hm : ∀ k, B ≤ k → k < w.heap.size → Mut k) : Keeps Mut w w' :=
  ⟨h.os, h.tape, h.output, h.size, fun k hk hn => h.block k (Nat.lt_of_not_le fun hb => hn (hm k hb hk))⟩
theorem Keeps.below {Mut : Nat → Prop} {B : Nat} {w w' : World} (h : Keeps Mut w w') (hB : B ≤ w.heap.size) (hm : ∀ k, k < B → ¬ Mut k) : Below B w w' :=
  ⟨h.os, h.tape, h.output, h.size, fun k hk => h.block k (by omega) (hm k hk)⟩
theorem Keeps.alloc (Mut : Nat → Prop) (w : World) (o : Obj) : Keeps Mut w (w.alloc o) :=
  ⟨rfl, rfl, rfl, by simp, fun k hk _ => Below.heap_alloc w o k hk⟩
theorem Keeps.setCell {Mut : Nat → Prop} (w : World) (p : Addr) (v : Value) (hp : Mut p.block) : Keeps Mut w (w.setCell p v) :=
  ⟨rfl, rfl, rfl, by simp [World.setCell], fun k _ hn => Below.heap_setCell w p v k (fun e => hn (e ▸ hp))⟩
theorem Keeps.drew (Mut : Nat → Prop) (w : World) : Keeps Mut w w.drew := ⟨rfl, rfl, rfl, Nat.le_refl _, fun _ _ _ => rfl⟩
theorem Keeps.putObj {Mut : Nat → Prop} (w : World) (l : Nat) (o : Obj) (hl : Mut l) : Keeps Mut w (w.putObj l o) :=
  ⟨rfl, rfl, rfl, by simp, fun k _ hn => World.putObj_heap_other (fun e => hn (e ▸ hl))⟩
theorem Keeps.setRow {Mut : Nat → Prop} (w : World) (g : Nat) (cs : Array Value) (hg : Mut g) : Keeps Mut w (w.setRow g cs) :=
  ⟨rfl, rfl, rfl, by simp, fun k _ hn => setRow_other w g k cs (fun e => hn (e ▸ hg))⟩

/-- What is so of a state stays so while the one that ranges works on memory of its own. -/
def Stable {α : Type} (B : Nat) (J : List α → (Nat → Prop) → World → Prop) : Prop :=
  ∀ s G W1 W2, J s G W1 → Keeps (fun k => B ≤ k ∧ ¬ G k) W1 W2 → J s G W2
/-- The blocks that a round has made are added. -/
def Grow (G : Nat → Prop) (W1 W2 : World) : Nat → Prop := fun k => G k ∨ (W1.heap.size ≤ k ∧ k < W2.heap.size)

/-- A function value yields these, one after the other, as long as it is told to go on. -/
def SeqAt {α : Type} (P : Program) (g : FuncId) (lb : Array Value) (encs : α → Array Value) (xs : List α) (Rd : Nat → Prop) (W : World) : Prop :=
  ∀ (l : Nat) (Mut : Nat → Prop) (J Jx : List α → (Nat → Prop) → World → Prop),
    (∀ k, Mut k → k < W.heap.size ∧ ¬ Rd k) → Stable W.heap.size J → Stable W.heap.size Jx →
    (∀ pre x rest G W1, xs = pre ++ x :: rest → J pre G W1 → W.heap.size ≤ W1.heap.size → YieldAt Fence.wide 0 P l (encs x) W1 fun e W2 =>
      Keeps Mut W1 W2 ∧ ((e = .returned (.bool true) ∧ J (pre ++ [x]) (Grow G W1 W2) W2) ∨ (e = .returned (.bool false) ∧ Jx (pre ++ [x]) (Grow G W1 W2) W2))) →
    J [] (fun _ => False) W →
    Calls P g (#[.func (.yield l) #[] #[]] ++ lb) W fun e W2 => (∃ v, e = .returned v) ∧ Keeps Mut W W2 ∧
      ∃ G, (J xs G W2 ∨ ∃ pre x rest, xs = pre ++ x :: rest ∧ Jx (pre ++ [x]) G W2)

/-- What is asked where a round's body ends. -/
def roundEnd {α : Type} (Mut : Nat → Prop) (I : List α → (Nat → Prop) → World → Prop) (Ix : Code → List α → (Nat → Prop) → World → Prop) (s : List α) (G : Nat → Prop) (W W2 : World) : Exit → Act → World → Prop
  | .normal, _, W3 => Keeps Mut W2 W3 ∧ I s (Grow G W W3) W3
  | .ret, _, W3 => Keeps Mut W2 W3 ∧ Ix .ret s (Grow G W W3) W3
  | .exit id, _, W3 => Keeps Mut W2 W3 ∧ Ix (.exit id) s (Grow G W W3) W3
  | .goto t, _, W3 => Keeps Mut W2 W3 ∧ Ix (.goto t) s (Grow G W W3) W3
  | _, _, _ => False

theorem wp_range {α : Type} {P : Program} {g : Operand} {ps : Array Tmp} {assign body : Code} {Q : Exit → Act → World → Prop} {a : Act} {w : World} {gf : Nat} {lb : Array Value}
    (hg : a.eval g = .func (.func gf) #[] lb) (eg : ∀ args w, (callFunc gf args).run P w = .ok (.enter gf args) w)
    {encs : α → Array Value} (hps : ∀ x, (encs x).size = ps.size) (Rd Mut : Nat → Prop) (hRd : ∀ k, Rd k → k < w.heap.size) (hM : ∀ k, Mut k → k < w.heap.size ∧ ¬ Rd k) (xs : List α)
    (hseq : ∀ W, Below w.heap.size w W → SeqAt P gf lb encs xs Rd W)
    (I : List α → (Nat → Prop) → World → Prop) (Ix : Code → List α → (Nat → Prop) → World → Prop) (hI : Stable w.heap.size I) (hIx : ∀ c, Stable w.heap.size (Ix c)) (h0 : I [] (fun _ => False) w)
    (hround : ∀ l pre x rest G W, xs = pre ++ x :: rest → I pre G W → w.heap.size ≤ l → l < W.heap.size → (∀ k, G k → l < k) →
      assign.wpIn (Fence.wide.inRound l) 0 P (Exit.then (fun a₁ W₁ => Keeps Mut W W₁ ∧ ∀ W₂, Keeps (fun k => k = l) W₁ W₂ → W₂.heap.size = W₁.heap.size →
        body.wpIn (Fence.wide.inRound l) 0 P (roundEnd Mut I Ix (pre ++ [x]) G W W₂) a₁ W₂) (fun _ _ _ => False))
        { tmps := (ps.zip (encs x)).foldl (fun t (p, v) => t.setIfInBounds p v) a.tmps, defers := [] } W)
    (hdone : ∀ D G W, I xs G W → (∀ k, G k → D < k) → Keeps (fun k => Mut k ∨ w.heap.size ≤ k) w W → W.heap[D]? = some (.deferred (some [])) → w.heap.size ≤ D →
      Q .normal { a with defers := { target := .collected D, args := #[] } :: a.defers } W)
    (hstop : ∀ D c pre x rest G W, xs = pre ++ x :: rest → Ix c (pre ++ [x]) G W → (∀ k, G k → D < k) → Keeps (fun k => Mut k ∨ w.heap.size ≤ k) w W → W.heap[D]? = some (.deferred (some [])) → w.heap.size ≤ D →
      c.wp P Q { a with defers := { target := .collected D, args := #[] } :: a.defers } W) :
    (Code.rangeFunc g ps assign body).wp P Q a w := by
  refine (wpIn_wide (n := 0)).1 (wpIn_rangeFunc ?_)
  intro fn hfn
  obtain ⟨rec, hrec⟩ : ∃ rec : LoopState → Option Code → Loop, rec = fun st pe => { state := st, pending := pe, fn, tmps := a.tmps, params := ps, assign, body, defers := w.heap.size } := ⟨_, rfl⟩
  obtain ⟨W1, hW1⟩ : ∃ W1, (w.alloc (.deferred (some []))).alloc (.loop (rec .ready none)) = W1 := ⟨_, rfl⟩
  have hsz : W1.heap.size = w.heap.size + 2 := by rw [← hW1]; simp
  have hL1 : W1.heap[w.heap.size + 1]? = some (.loop (rec .ready none)) := by rw [← hW1]; exact heap_alloc_at _ _ _ (by simp)
  have hK1 : W1.heap[w.heap.size]? = some (.deferred (some [])) := by rw [← hW1]; exact (hget_old _ _ _ (by simp)).trans (heap_alloc_at _ _ _ rfl)
  have hkw : ∀ M : Nat → Prop, Keeps M w W1 := fun M => by rw [← hW1]; exact (Keeps.alloc _ _ _).trans (Keeps.alloc _ _ _)
  have hb1 : Below w.heap.size w W1 := (hkw (fun _ => False)).below (Nat.le_refl _) (fun _ _ h => h)
  refine ⟨w.heap.size + 1, [{ target := .collected w.heap.size, args := #[] }], W1, { target := .fn (.func gf) lb, args := #[.func (.yield (w.heap.size + 1)) #[] #[]] }, W1, gf,
    #[.func (.yield (w.heap.size + 1)) #[] #[]] ++ lb, W1, ?_, ?_, fun _ _ => trivial, ?_, fun h => by simp [Fence.wide] at h, ?_⟩
  · rw [← hW1, hrec]; exact run_enterLoop_outer _ _ _ _ _
  · simp only [resolve, hg]
    simp [go_sem]
  · simp [invoke, go_sem, eg]
  refine callsIn_wide.2 ((hseq W1 hb1 (w.heap.size + 1) (fun k => Mut k ∨ k = w.heap.size + 1)
    (fun s G W => I s G W ∧ W.heap[w.heap.size + 1]? = some (.loop (rec .ready none)) ∧ W.heap[w.heap.size]? = some (.deferred (some [])) ∧ ∀ k, G k → w.heap.size + 2 ≤ k)
    (fun s G W => ∃ c, Ix c s G W ∧ W.heap[w.heap.size + 1]? = some (.loop (rec .done (some c))) ∧ W.heap[w.heap.size]? = some (.deferred (some [])) ∧ ∀ k, G k → w.heap.size + 2 ≤ k)
    ?_ ?_ ?_ ?_ ?_).mono ?_)
  · rintro k (hk | rfl)
    · exact ⟨by have := (hM k hk).1; omega, (hM k hk).2⟩
    · exact ⟨by omega, fun h => by have := hRd _ h; omega⟩
  · rintro s G A B ⟨hi, hl, hd, hG⟩ hk
    exact ⟨hI s G A B hi (hk.mono fun k _ h => ⟨by omega, h.2⟩), (hk.block _ (lt_of_block hl) (by omega)).trans hl, (hk.block _ (lt_of_block hd) (by omega)).trans hd, hG⟩
  · rintro s G A B ⟨c, hi, hl, hd, hG⟩ hk
    exact ⟨c, hIx c s G A B hi (hk.mono fun k _ h => ⟨by omega, h.2⟩), (hk.block _ (lt_of_block hl) (by omega)).trans hl, (hk.block _ (lt_of_block hd) (by omega)).trans hd, hG⟩
  · -- one round
    rintro pre x rest G W hxs ⟨hi, hl, hd, hG⟩ hWs
    have hlt : w.heap.size + 1 < W.heap.size := by omega
    have hy := run_yield (P := P) (args := encs x) hl (by rw [hrec]; exact hps x)
    rw [hrec] at hy
    refine ⟨fn, _, assign, body, hy, roundIn_of_wpIn hfn (wpIn_mono (hround (w.heap.size + 1) pre x rest G W hxs hi (by omega) hlt (fun k h => by have := hG k h; omega)) ?_)⟩
    intro e a1 Wa hp
    cases e with
    | normal =>
      obtain ⟨hkm, hbody⟩ := hp
      have hla : Wa.heap[w.heap.size + 1]? = some (.loop (rec .ready none)) := (hkm.block _ hlt (fun h => by have := (hM _ h).1; omega)).trans hl
      have hda : Wa.heap[w.heap.size]? = some (.deferred (some [])) := (hkm.block _ (by omega) (fun h => by have := (hM _ h).1; omega)).trans hd
      refine ⟨_, run_beginRound hla (by rw [hrec]), ?_⟩
      refine wpIn_mono (hbody _ (Keeps.putObj _ _ _ rfl) (by simp)) ?_
      intro e2 a2 W3 hp
      have hl2 : (Wa.putObj (w.heap.size + 1) (.loop { rec .ready none with state := .busy })).heap[w.heap.size + 1]? = some (.loop { rec .ready none with state := .busy }) := World.putObj_heap_same (lt_of_block hla)
      have hd2 : (Wa.putObj (w.heap.size + 1) (.loop { rec .ready none with state := .busy })).heap[w.heap.size]? = some (.deferred (some [])) := (World.putObj_heap_other (by omega)).trans hda
      have fin : ∀ (jump : Option Code), Keeps Mut (Wa.putObj (w.heap.size + 1) (.loop { rec .ready none with state := .busy })) W3 → ∃ W4,
          (Instr.endRound (w.heap.size + 1) jump).run P W3 = .ok (.bool jump.isNone) W4 ∧
          W4.heap[w.heap.size + 1]? = some (.loop (rec (if jump.isNone then .ready else .done) jump)) ∧ W4.heap[w.heap.size]? = some (.deferred (some [])) ∧
          Keeps (fun k => Mut k ∨ k = w.heap.size + 1) W W4 ∧ Keeps (fun k => k = w.heap.size + 1) W3 W4 ∧ W4.heap.size = W3.heap.size := fun jump hk3 => by
        have hs2 : (Wa.putObj (w.heap.size + 1) (.loop { rec .ready none with state := .busy })).heap.size = Wa.heap.size := by simp
        have hl3 := (hk3.block _ (by have := lt_of_block hl2; exact this) (fun h => by have := (hM _ h).1; omega)).trans hl2
        have hd3 := (hk3.block _ (by have := lt_of_block hd2; exact this) (fun h => by have := (hM _ h).1; omega)).trans hd2
        have hr := run_endRound (P := P) jump hl3
        refine ⟨_, hr, ?_, (World.putObj_heap_other (by omega)).trans hd3, ?_, Keeps.putObj _ _ _ rfl, by simp⟩
        · rw [World.putObj_heap_same (lt_of_block hl3), hrec]
        · exact (hkm.mono fun k _ h => .inl h).trans ((Keeps.putObj _ _ _ (.inr rfl)).trans ((hk3.mono fun k _ h => .inl h).trans (Keeps.putObj _ _ _ (.inr rfl))))
      have hstep : ∀ (J : List α → (Nat → Prop) → World → Prop) (W4 : World), Stable w.heap.size J → J (pre ++ [x]) (Grow G W W3) W3 → Keeps (fun k => k = w.heap.size + 1) W3 W4 → W4.heap.size = W3.heap.size → J (pre ++ [x]) (Grow G W W4) W4 := fun J W4 hJ hj hk hs => by
        have : Grow G W W4 = Grow G W W3 := by unfold Grow; rw [hs]
        rw [this]
        refine hJ _ _ _ _ hj (hk.mono fun k _ h => ?_)
        subst h
        refine ⟨by omega, ?_⟩
        rintro (h | h)
        · have := hG _ h; omega
        · omega
      have hGG : ∀ W4 : World, ∀ k, Grow G W W4 k → w.heap.size + 2 ≤ k := by
        rintro W4 k (h | h)
        · exact hG k h
        · omega
      cases e2 with
      | normal =>
        obtain ⟨hk3, hi3⟩ := hp
        obtain ⟨W4, hr, hl4, hd4, hkk, hk4, hs4⟩ := fin none hk3
        exact ⟨_, _, hr, hkk, .inl ⟨rfl, hstep _ _ hI hi3 hk4 hs4, hl4, hd4, hGG _⟩⟩
      | ret =>
        obtain ⟨hk3, hi3⟩ := hp
        obtain ⟨W4, hr, hl4, hd4, hkk, hk4, hs4⟩ := fin (some .ret) hk3
        exact ⟨_, _, hr, hkk, .inr ⟨rfl, _, hstep _ _ (hIx _) hi3 hk4 hs4, hl4, hd4, hGG _⟩⟩
      | exit id =>
        obtain ⟨hk3, hi3⟩ := hp
        obtain ⟨W4, hr, hl4, hd4, hkk, hk4, hs4⟩ := fin (some (.exit id)) hk3
        exact ⟨_, _, hr, hkk, .inr ⟨rfl, _, hstep _ _ (hIx _) hi3 hk4 hs4, hl4, hd4, hGG _⟩⟩
      | goto t =>
        obtain ⟨hk3, hi3⟩ := hp
        obtain ⟨W4, hr, hl4, hd4, hkk, hk4, hs4⟩ := fin (some (.goto t)) hk3
        exact ⟨_, _, hr, hkk, .inr ⟨rfl, _, hstep _ _ (hIx _) hi3 hk4 hs4, hl4, hd4, hGG _⟩⟩
      | panic ch => exact hp.elim
      | outgrown => exact hp.elim
    | ret => exact hp.elim
    | exit id => exact hp.elim
    | goto t => exact hp.elim
    | panic ch => exact hp.elim
    | outgrown => exact hp.elim
  · exact ⟨hI _ _ _ _ h0 (hkw _), hL1, hK1, fun _ h => h.elim⟩
  · -- behind the iterator
    rintro e W2 ⟨⟨v, rfl⟩, hk, G, h⟩
    have hkk : ∀ o, Keeps (fun k => Mut k ∨ w.heap.size ≤ k) w (W2.putObj (w.heap.size + 1) o) := fun o =>
      ((hkw _).trans (hk.mono fun k _ h => h.elim .inl fun e => .inr (by omega))).trans (Keeps.putObj _ _ _ (.inr (by omega)))
    have hst : ∀ (J : List α → (Nat → Prop) → World → Prop) (s : List α) (o : Obj), Stable w.heap.size J → J s G W2 → (∀ k, G k → w.heap.size + 2 ≤ k) → J s G (W2.putObj (w.heap.size + 1) o) := fun J s o hJ hj hG =>
      hJ _ _ _ _ hj (Keeps.putObj _ _ _ ⟨by omega, fun h => by have := hG _ h; omega⟩)
    rcases h with ⟨hi, hl, hd, hG⟩ | ⟨pre, x, rest, hxs, c, hi, hl, hd, hG⟩
    · exact ⟨none, _, by have := run_endLoop (P := P) hl (by rw [hrec]; simp); rw [hrec] at this; exact this,
        hdone _ G _ (hst _ _ _ hI hi hG) (fun k h => by have := hG k h; omega) (hkk _) ((World.putObj_heap_other (by omega)).trans hd) (Nat.le_refl _)⟩
    · exact ⟨some c, _, by have := run_endLoop (P := P) hl (by rw [hrec]; simp); rw [hrec] at this; exact this,
        wpIn_wide.2 (hstop _ c pre x rest G _ hxs (hst _ _ _ (hIx c) hi hG) (fun k h => by have := hG k h; omega) (hkk _) ((World.putObj_heap_other (by omega)).trans hd) (Nat.le_refl _))⟩

theorem run_load_row {P : Program} {o : Oper} {ρ : Operand → Value} {w : World} (ty : TypeId) (x : Operand) (ho : o.op = .load ty x)
    (g : Nat) (hx : ρ x = .pointer (some ⟨g, 0, none⟩)) (t : TypeId) (cs : Array Value) (fr : Nat × Nat) (d : TypeDesc) (hg : w.heap[g]? = some (.cells cs t fr))
    (hu : P.underlying ty = some d) (hd : (match d with | .struct _ | .array _ _ => true | _ => false) = true) (hi : (P.info? ty).map (·.size) = some cs.size) :
    (execOp ρ o).run P w = .ok (.value (.agg cs)) w := by
  unfold execOp
  simp only [ho, hx, Instr.loadAt, Instr.sureAddr, Sem.run_bind, Sem.run_pure, Result.andThen_ok, run_loadVar_row w g t ty cs fr d hg hu hd hi]
theorem run_store_row {P : Program} {o : Oper} {ρ : Operand → Value} {w : World} (ty : TypeId) (x y : Operand) (ho : o.op = .store ty x y)
    (g : Nat) (cells : Array Value) (hx : ρ x = .pointer (some ⟨g, 0, none⟩)) (hy : ρ y = .agg cells)
    (t : TypeId) (old : Array Value) (hg : w.heap[g]? = some (.cells old t (0, 0))) (hi : (P.info? ty).map (·.size) = some cells.size)
    (hold : old.size = cells.size) (h1 : cells.all (·.oneCell') = true) :
    (execOp ρ o).run P w = .ok .skip (w.setRow g cells) := by
  unfold execOp
  simp only [ho, hx, hy, Instr.storeAt, Instr.sureAddr, Sem.run_bind, Sem.run_pure, Result.andThen_ok, run_storeVar_row w g t ty old cells hg hi hold h1]
theorem wpListIn_value {l n : Nat} {P : Program} {ops : Array Oper} {Q : Exit → Act → World → Prop} {a : Act} {w w' : World} {rest : List Oper} {o : Oper} {v : Value}
    (hg : o.guard = none) (hd : ∀ c, o.op ≠ .defer c) (hrun : (execOp a.eval o).run P w = .ok (.value v) w') (h : wpListIn (Fence.wide.inRound l) n P ops Q rest (a.put o.dst v) w') :
    wpListIn (Fence.wide.inRound l) n P ops Q (o :: rest) a w := by
  refine wpListIn_plain hg fun K hK => ⟨fun _ _ => trivial, ?_⟩
  rw [show (Fence.wide.inRound l).round = some l from rfl, Oper.semAt_some l a.eval o hd, hrun]
  exact hK _ _ h
theorem wpListIn_valueG {l n : Nat} {P : Program} {ops : Array Oper} {Q : Exit → Act → World → Prop} {a : Act} {w w' : World} {rest : List Oper} {o : Oper} {v : Value}
    (hg : Region.wanted o (yielded ops a.tmps) = true) (hd : ∀ c, o.op ≠ .defer c) (hrun : (execOp a.eval o).run P w = .ok (.value v) w') (h : wpListIn (Fence.wide.inRound l) n P ops Q rest (a.put o.dst v) w') :
    wpListIn (Fence.wide.inRound l) n P ops Q (o :: rest) a w := by
  refine wpListIn_step fun K hK => ?_
  rw [if_pos hg]
  refine ⟨fun _ _ => trivial, ?_⟩
  rw [show (Fence.wide.inRound l).round = some l from rfl, Oper.semAt_some l a.eval o hd, hrun]
  exact hK _ _ h
theorem wpListIn_done {l n : Nat} {P : Program} {ops : Array Oper} {Q : Exit → Act → World → Prop} {a : Act} {w w' : World} {rest : List Oper} {o : Oper}
    (hg : o.guard = none) (hd : ∀ c, o.op ≠ .defer c) (hrun : (execOp a.eval o).run P w = .ok .skip w') (h : wpListIn (Fence.wide.inRound l) n P ops Q rest (a.put o.dst undef) w') :
    wpListIn (Fence.wide.inRound l) n P ops Q (o :: rest) a w := by
  refine wpListIn_plain hg fun K hK => ⟨fun _ _ => trivial, ?_⟩
  rw [show (Fence.wide.inRound l).round = some l from rfl, Oper.semAt_some l a.eval o hd, hrun]
  exact hK _ _ h

theorem keeps_setRow (w : World) (g : Nat) (cs : Array Value) : Keeps (fun k => k = g) w (w.setRow g cs) := Keeps.setRow w g cs rfl
theorem wpListIn_storeA {l n : Nat} {P : Program} {ops : Array Oper} {Q : Exit → Act → World → Prop} {a : Act} {w : World} {rest : List Oper} {o : Oper}
    (hg : o.guard = none) (ty : TypeId) (x y : Operand) (ho : o.op = .store ty x y)
    (g : Nat) (cells : Array Value) (hx : a.eval x = .pointer (some ⟨g, 0, none⟩)) (hy : a.eval y = .agg cells)
    (t : TypeId) (old : Array Value) (hgw : w.heap[g]? = some (.cells old t (0, 0))) (hi : (P.info? ty).map (·.size) = some cells.size)
    (hold : old.size = cells.size) (h1 : cells.all (·.oneCell') = true)
    (h : ∀ w', w'.heap[g]? = some (.cells cells t (0, 0)) → Keeps (fun k => k = g) w w' → w'.heap.size = w.heap.size → wpListIn (Fence.wide.inRound l) n P ops Q rest (a.put o.dst undef) w') :
    wpListIn (Fence.wide.inRound l) n P ops Q (o :: rest) a w :=
  wpListIn_done hg (by rw [ho]; intro c hc; cases hc) (run_store_row ty x y ho g cells hx hy t old hgw hi hold h1) (h _ (setRow_heap _ _ _ _ _ _ hgw) (keeps_setRow _ _ _) (by simp))

theorem own_base {w : World} {base : Nat} {e : TypeId} {size : Nat} {v : Value} {n : Nat} {xs : List Value} (h : w.ownsRow base e size v n xs) : ∀ k, v.ownBlock = some k → base ≤ k := by
  intro k hk
  rcases h.2 with ⟨h2, _⟩ | ⟨g, cap, cur, h2, hg, _⟩
  · subst h2; simp [Value.ownBlock] at hk
  · subst h2; simp [Value.ownBlock] at hk; omega
theorem news_block {w : World} {g : Nat} {cs : Array Value} {t : TypeId} {fr : Nat × Nat} (h : w.heap[g]? = some (.cells cs t fr)) : ∀ (j : Nat) u, cs.toList[j]? = some u → w.cell? ((⟨g, 0, none⟩ : Addr).add j) = some u := by
  intro j u hu
  rw [Addr.add_mid, Nat.zero_add, cell_of_row w g j cs t fr h]
  simpa using hu
/-- An append of one element, which lies in a block of its own, to a row that the call owns. -/
theorem wpList_append1 {P : Program} {ops : Array Oper} {rest : List Oper} {o : Oper} {a : Act} {w : World} {Q : Exit → Act → World → Prop} (hgd : o.guard = none) (s x : Operand) (t : TypeId)
    (ho : o.op = .call { callee := .builtin .append, args := #[s, x], argTypes := #[t, t] })
    (base : Nat) (e : TypeId) (size bytes : Nat) (z : Value) (ht : P.underlying t = some (.slice e)) (hinfo : (P.info? e).map (fun i => (i.zero, i.size, i.bytes)) = some (some z, size, bytes)) (hzs : z.cells.size = size) (hsz : 0 < size)
    (v : Value) (n : Nat) (xs : List Value) (hs : a.eval s = v) (hown : w.ownsRow base e size v n xs)
    (g c : Nat) (cs : Array Value) (t2 : TypeId) (fr : Nat × Nat) (hx : a.eval x = .slice (some ⟨g, 0, none⟩) 1 c) (hgc : w.heap[g]? = some (.cells cs t2 fr)) (hcs : cs.size = size) (h1 : cs.all (·.oneCell') = true)
    (h63 : n ≤ 1000000) (hbytes : bytes ≤ 1000) (hbase : base ≤ w.heap.size)
    (h : ∀ v' w', w'.ownsRow base e size v' (n + 1) (xs ++ cs.toList) → w.grownBy w' v.ownBlock → Below base w w' → wpList P ops Q rest (a.put o.dst v') w') : wpList P ops Q (o :: rest) a w := by
  obtain ⟨i, hi, hz, hsize, hby⟩ := info_parts hinfo
  refine wpList_append_own w hgd s x t ho base e i z size bytes ht hi hz hsize hby hzs hsz v n xs hs hown ⟨g, 0, none⟩ 1 c cs.toList hx (by simp [hcs]) (news_block hgc) (fun u hu => (Array.all_eq_true_iff_forall_mem.1 h1) u (by simpa using hu)) (by unfold maxLen; omega) ?_ hbase ?_
  · have h2 : (n + 1) * bytes ≤ 1000001 * 1000 := Nat.mul_le_mul (by omega) hbytes
    omega
  · intro v' w' hown' hgrow _
    exact h v' w' hown' hgrow ((Below.refl _ _).grown hgrow hbase (own_base hown))

/-- A function whose body ranges over a function. -/
theorem calls_of_wp_marks {P : Program} {f : FuncId} {fn : Func} {c : Code} {args : Array Value} {w : World} {R : Ending → World → Prop}
    (hf : P.funcs[f]? = some fn) (hb : fn.body = some c)
    (h : c.wp P (bodyPostM Fence.wide 0 P fn R) { tmps := args ++ Array.replicate (fn.ntmps - args.size) undef, defers := [] } w) : Calls P f args w R :=
  callsIn_wide.1 (callsIn_of_wp_marks (F := Fence.wide) (n := 0) hf hb trivial (wpIn_wide.2 h) rfl)

end Go.Proofs.Ytagjepclobobjaa

/- More general lemmas: a region that draws its order inside a round; labels inside a round; worlds. -/
namespace Go.Proofs.Ytagjepclobobjaa
set_option linter.unusedVariables false
set_option linter.unusedSimpArgs false
open Go.RowKit

section
variable {P : Program} {ops : Array Oper} {md : Region.Mode} {C : World → Prop} {l : Nat}
def noDefer (ops : Array Oper) : Bool := ops.all fun o => match o.op with | .defer _ => false | _ => true
theorem noDefer_spec (h : noDefer ops = true) (j : Nat) (o : Oper) (ho : ops[j]? = some o) (c : Call) : o.op ≠ .defer c := by
  intro hc
  have h1 := (Array.all_eq_true_iff_forall_mem.1 h) o (Array.mem_of_getElem? ho)
  simp [hc] at h1
theorem Fix.wpOpIn {i : Nat} {o : Oper} {v : Value} {a : Act} (hi : ops[i]? = some o) (hd : ∀ c, o.op ≠ .defer c) (h : Fix P ops C o v a) {K : Act → World → Prop} {Q : Exit → Act → World → Prop} {w : World} (hC : C w)
    (hK : ∀ w', C w' → K (a.put o.dst v) w') : Go.wpOpIn (Fence.wide.inRound l) 0 P ops Q i K a w := by
  unfold Go.wpOpIn
  simp only [hi]
  rcases h with ⟨hw, hv⟩ | ⟨hw, rfl⟩
  · rw [if_pos hw]
    refine ⟨fun _ _ => trivial, ?_⟩
    have h3 := hv w hC
    rw [show (Fence.wide.inRound l).round = some l from rfl, Oper.semAt_some l a.eval o hd]
    generalize (execOp a.eval o).run P w = r at *
    cases r with
    | ok n w' =>
      cases n <;> simp only [fixUpon] at h3 <;> simp only [Oper.uponIn]
      case value u => obtain ⟨e1, e2⟩ := h3; rw [e2]; exact hK _ e1
      case skip => obtain ⟨e1, e2⟩ := h3; rw [← e2]; exact hK _ e1
      case enter f args => exact ⟨(fun h => by cases h), CallsIn.inRound l (callsIn_wide.2 (h3.mono (fun e w'' ⟨he, hw''⟩ => by subst he; exact hK _ hw'')))⟩
    | halt x w' => simp only [fixUpon] at h3
  · rw [if_neg (by rw [hw]; decide)]
    exact ⟨fun _ _ => trivial, hK _ hC⟩
theorem wpAnyIn_of_AnyF {n g : Nat} {L : Array Bool → Act → Prop} {Q : Exit → Act → World → Prop} (hnd : noDefer ops = true) (hL : ∀ listed a, L listed a → ∀ w, C w → wpAnyIn (Fence.wide.inRound l) 0 P md ops Q g listed a w) :
    ∀ (f : Nat) (listed : Array Bool) (a : Act), AnyF P md ops C n L f listed a → ∀ w, C w → wpAnyIn (Fence.wide.inRound l) 0 P md ops Q (f + g) listed a w
  | 0, listed, a, h, w, hw => by rw [Nat.zero_add]; exact hL _ _ h w hw
  | f + 1, listed, a, h, w, hw => by
    rw [show f + 1 + g = (f + g) + 1 by omega]
    refine ⟨fun h0 => absurd h0 h.1, fun i hi => ?_⟩
    obtain ⟨_, o, v, ho, hy, hr⟩ := h.2 i hi
    exact hy.wpOpIn ho (noDefer_spec hnd i o ho) hw fun w' hw' => wpAnyIn_of_AnyF hnd hL f _ _ hr w' hw'
theorem wpAnyIn_of_seq {Q' : Exit → Act → World → Prop} {F : Fence} {m : Nat} : ∀ (l : List Oper) (k : Nat) (listed : Array Bool) (a : Act) (w : World), (∀ j, l[j]? = ops[k + j]?) →
    Region.seqB md ops l.length k listed = true → wpListIn F m P ops Q' l a w → wpAnyIn F m P md ops Q' l.length listed a w
  | [], _, _, _, _, _, hB, h => ⟨by simpa [Region.seqB] using hB, h⟩
  | o :: l, k, listed, a, w, hl, hB, h => by
    have h0 : ops[k]? = some o := by simpa using (hl 0).symm
    simp only [List.length_cons, Region.seqB, Bool.and_eq_true, decide_eq_true_eq] at hB
    refine ⟨fun h1 => (by rw [hB.1] at h1; cases h1), fun i hi => ?_⟩
    rw [hB.1] at hi
    obtain rfl : i = k := by simpa using hi
    have hw : wpOpIn F m P ops Q' i (wpListIn F m P ops Q' l) a w := by unfold wpOpIn; simp only [h0]; exact h
    exact wpOpIn_mono (fun a' w' h' => wpAnyIn_of_seq l (i + 1) _ a' w' (fun j => by have := hl (j + 1); simpa [Nat.add_assoc, Nat.add_comm 1 j] using this) hB.2 h') hw
/-- 'region_fix' inside a round. -/
theorem region_fixIn {id : Nat} {Q : Exit → Act → World → Prop} {a : Act} {w : World} {ls : List Oper} (n : Nat) (C : World → Prop) (hm : P.follows .mixedOrders = true) (hB : Region.lexTailB .any ls.toArray n = true) (hnd : noDefer ls.toArray = true) (hC : C w.drew)
    (h : WF P ls.toArray C (fun a' => ∀ w', C w' → wpListIn (Fence.wide.inRound l) 0 P ls.toArray Q (ls.drop n) a' w') (ls.take n) a) : (Code.region id ls.toArray true).wpIn (Fence.wide.inRound l) 0 P Q a w := by
  simp only [Region.lexTailB, Bool.and_eq_true, decide_eq_true_eq] at hB
  obtain ⟨⟨⟨⟨hsel, hn⟩, hs⟩, hc⟩, hlex⟩ := hB
  have hn' : n < ls.length := by simpa using hn
  have htl : (ls.take n).length = n := by simp; omega
  have hdl : (ls.drop n).length = ls.toArray.size - n := by simp
  have inv0 : HeadInv .any ls.toArray n (Array.replicate ls.toArray.size false) :=
    ⟨by simp, fun j oj _ hl => (by rw [getD_replicate_false] at hl; cases hl), fun t _ ht => getD_in (by simpa using ht) (getD_replicate_false _ _)⟩
  have H := AnyF_lex (md := .any) (g := ls.toArray.size - n) hsel hs hc hn (ls.take n) 0 _ a (fun j hj => by
    have hj' : j < n := by rw [htl] at hj; exact hj
    simp [hj']) (by simpa using htl) inv0 (by rw [htl]; exact hlex) h
  refine wpIn_region_any hm ?_
  have := wpAnyIn_of_AnyF (Q := Q) (g := ls.toArray.size - n) hnd (fun listed a' hL w' hw' => by
    have := wpAnyIn_of_seq (md := .any) (Q' := Q) (ls.drop n) n listed a' w' (fun j => by simp [List.getElem?_drop]) (by rw [hdl]; exact hL.1) (hL.2 w' hw')
    rwa [hdl] at this) _ _ _ H w.drew hC
  rw [htl, show n + (ls.toArray.size - n) = ls.toArray.size by omega] at this
  exact this
end

end Go.Proofs.Ytagjepclobobjaa

/- General: an append at an operation, a slice of spans in memory. -/
namespace Go.Proofs.Ytagjepclobobjaa
set_option linter.unusedVariables false
set_option linter.unusedSimpArgs false
open Go.RowKit Go.Shelf
attribute [local go_sem] Oper.semAt_some

section
variable {P : Program} {w : World}
/-- An append at an operation, in a region too. -/
theorem wp_append_at {o : Oper} {a : Act} {K : Act → World → Prop} {Q : Exit → Act → World → Prop} (s x : Operand) (t : TypeId)
    (ho : o.op = .call { callee := .builtin .append, args := #[s, x], argTypes := #[t, t] })
    (base : Nat) (e : TypeId) (size bytes : Nat) (z : Value) (ht : P.underlying t = some (.slice e)) (hinfo : (P.info? e).map (fun i => (i.zero, i.size, i.bytes)) = some (some z, size, bytes)) (hzs : z.cells.size = size) (hsz : 0 < size)
    (v : Value) (n : Nat) (xs : List Value) (hs : a.eval s = v) (hown : w.ownsRow base e size v n xs)
    (ad : Addr) (m c : Nat) (news : List Value) (hx : a.eval x = .slice (some ad) m c) (hl : news.length = m * size) (hnews : ∀ j u, news[j]? = some u → w.cell? (ad.add j) = some u) (h1 : ∀ u ∈ news, u.oneCell' = true)
    (h63 : n + m ≤ 1000001) (hbytes : bytes ≤ 1000) (hbase : base ≤ w.heap.size)
    (h : ∀ v' w', w'.ownsRow base e size v' (n + m) (xs ++ news) → w.grownBy w' v.ownBlock → (v'.ownBlock = v.ownBlock ∨ v'.ownBlock = some w.heap.size) → K (a.put o.dst v') w') : o.wp P a w K Q := by
  obtain ⟨i, hi, hz, hsize, hby⟩ := info_parts hinfo
  have hb : (n + m) * bytes ≤ 140737488355328 := by
    have h2 : (n + m) * bytes ≤ 1000001 * 1000 := Nat.mul_le_mul h63 hbytes
    omega
  obtain ⟨v', w', hr, h2, h3, h4, h5⟩ := run_append_own_at (P := P) w base t o.type e i z size bytes ht hi hz hsize hby hzs hsz v n xs hown ad m c news hl hnews h1 (by unfold maxLen; omega) hb hbase
  unfold Oper.wp execOp
  simp only [ho, resolve, invoke, builtin, Sem.run_bind, Sem.run_pure, Result.andThen_ok, List.map_toArray, List.map_cons, List.map_nil, hs, hx, hr]
  exact h v' w' h2 h3 h5
end
theorem Keeps.of_grown {w w' : World} {row : Option Nat} (h : w.grownBy w' row) : Keeps (fun k => row = some k) w w' :=
  ⟨h.os, h.tape, h.output, h.size, fun k hk hn => h.block k hk (fun e => hn e.symm)⟩
def SpansAt (W : World) (v : Value) (l : List (Int × Int)) (Rd : Nat → Prop) : Prop :=
  ∃ ao cap, v = .slice ao l.length cap ∧ l.length ≤ cap ∧ cap ≤ maxLen ∧ ∀ i (h : i < l.length), ∃ b off, ao = some ⟨b, off, none⟩ ∧ Rd b ∧ b < W.heap.size ∧
    W.cell? ⟨b, off + i * 2, none⟩ = some (.int .i64 l[i].1) ∧ W.cell? ⟨b, off + i * 2 + 1, none⟩ = some (.int .i64 l[i].2)
theorem SpansAt.later {w W : World} {v : Value} {l : List (Int × Int)} {Rd : Nat → Prop} (h : SpansAt w v l Rd) (hs : w.heap.size ≤ W.heap.size) (hk : ∀ k, k < w.heap.size → Rd k → W.heap[k]? = w.heap[k]?) : SpansAt W v l Rd := by
  obtain ⟨ao, cap, h1, h2, h3, h4⟩ := h
  refine ⟨ao, cap, h1, h2, h3, fun i hi => ?_⟩
  obtain ⟨b, off, e1, e2, e3, e4, e5⟩ := h4 i hi
  have hb := hk b e3 e2
  exact ⟨b, off, e1, e2, Nat.lt_of_lt_of_le e3 hs, (World.cell?_of_block (w := w) (a := ⟨b, off + i * 2, none⟩) hb).trans e4, (World.cell?_of_block (w := w) (a := ⟨b, off + i * 2 + 1, none⟩) hb).trans e5⟩
theorem SpansAt.low {W : World} {v : Value} {l : List (Int × Int)} {Rd : Nat → Prop} (h : SpansAt W v l Rd) : SpansAt W v l (fun k => k < W.heap.size) := by
  obtain ⟨ao, cap, h1, h2, h3, h4⟩ := h
  exact ⟨ao, cap, h1, h2, h3, fun i hi => by obtain ⟨b, off, e1, e2, e3⟩ := h4 i hi; exact ⟨b, off, e1, e3.1, e3⟩⟩
section
variable {P : Program} {w : World}
/-- An append at an operation, in a region too. -/
theorem wp_append_here {o : Oper} {a : Act} {K : Act → World → Prop} {Q : Exit → Act → World → Prop} (s x : Operand) (t : TypeId)
    (ho : o.op = .call { callee := .builtin .append, args := #[s, x], argTypes := #[t, t] })
    (base : Nat) (e : TypeId) (size bytes : Nat) (z : Value) (ht : P.underlying t = some (.slice e)) (hinfo : (P.info? e).map (fun i => (i.zero, i.size, i.bytes)) = some (some z, size, bytes)) (hzs : z.cells.size = size) (hsz : 0 < size)
    (v : Value) (n : Nat) (xs : List Value) (hs : a.eval s = v) (hown : w.ownsRow base e size v n xs)
    (ad : Addr) (m c : Nat) (news : List Value) (hx : a.eval x = .slice (some ad) m c) (hl : news.length = m * size) (hnews : ∀ j u, news[j]? = some u → w.cell? (ad.add j) = some u) (h1 : ∀ u ∈ news, u.oneCell' = true)
    (h63 : n + m ≤ 1000001) (hbytes : bytes ≤ 1000) (hbase : base ≤ w.heap.size)
    (h : ∀ v' w', w'.ownsRow base e size v' (n + m) (xs ++ news) → w.grownBy w' v.ownBlock → (v'.ownBlock = v.ownBlock ∨ v'.ownBlock = some w.heap.size) → K (a.put o.dst v') w') : o.wp P a w K Q := by
  obtain ⟨i, hi, hz, hsize, hby⟩ := info_parts hinfo
  have hb : (n + m) * bytes ≤ 140737488355328 := by
    have h2 : (n + m) * bytes ≤ 1000001 * 1000 := Nat.mul_le_mul h63 hbytes
    omega
  obtain ⟨v', w', hr, h2, h3, h4, h5⟩ := run_append_own_at (P := P) w base t o.type e i z size bytes ht hi hz hsize hby hzs hsz v n xs hown ad m c news hl hnews h1 (by unfold maxLen; omega) hb hbase
  unfold Oper.wp execOp
  simp only [ho, resolve, invoke, builtin, Sem.run_bind, Sem.run_pure, Result.andThen_ok, List.map_toArray, List.map_cons, List.map_nil, hs, hx, hr]
  exact h v' w' h2 h3 h5
theorem wpList_append_here {ops : Array Oper} {rest : List Oper} {o : Oper} {a : Act} {Q : Exit → Act → World → Prop} (hgd : o.guard = none) (s x : Operand) (t : TypeId)
    (ho : o.op = .call { callee := .builtin .append, args := #[s, x], argTypes := #[t, t] })
    (base : Nat) (e : TypeId) (size bytes : Nat) (z : Value) (ht : P.underlying t = some (.slice e)) (hinfo : (P.info? e).map (fun i => (i.zero, i.size, i.bytes)) = some (some z, size, bytes)) (hzs : z.cells.size = size) (hsz : 0 < size)
    (v : Value) (n : Nat) (xs : List Value) (hs : a.eval s = v) (hown : w.ownsRow base e size v n xs)
    (g c : Nat) (cs : Array Value) (t2 : TypeId) (fr : Nat × Nat) (hx : a.eval x = .slice (some ⟨g, 0, none⟩) 1 c) (hgc : w.heap[g]? = some (.cells cs t2 fr)) (hcs : cs.size = size) (h1 : cs.all (·.oneCell') = true)
    (h63 : n ≤ 1000000) (hbytes : bytes ≤ 1000) (hbase : base ≤ w.heap.size)
    (h : ∀ v' w', w'.ownsRow base e size v' (n + 1) (xs ++ cs.toList) → w.grownBy w' v.ownBlock → (v'.ownBlock = v.ownBlock ∨ v'.ownBlock = some w.heap.size) → wpList P ops Q rest (a.put o.dst v') w') : wpList P ops Q (o :: rest) a w :=
  wpList_plain hgd fun _ hK => wp_append_here s x t ho base e size bytes z ht hinfo hzs hsz v n xs hs hown ⟨g, 0, none⟩ 1 c cs.toList hx (by simp [hcs]) (news_block hgc) (fun u hu => (Array.all_eq_true_iff_forall_mem.1 h1) u (by simpa using hu)) (by omega) hbytes hbase fun v' w' h2 h3 h4 => hK _ _ (h v' w' h2 h3 h4)
end
theorem keeps_grown {w w' : World} {row : Option Nat} (h : w.grownBy w' row) : Keeps (fun k => row = some k) w w' :=
  ⟨h.os, h.tape, h.output, h.size, fun k hk hn => h.block k hk (fun e => hn e.symm)⟩
theorem own_block {w w' : World} {base : Nat} {e : TypeId} {size : Nat} {v : Value} {n : Nat} {xs : List Value} (h : w.ownsRow base e size v n xs) (hk : ∀ k, v.ownBlock = some k → w'.heap[k]? = w.heap[k]?) : w'.ownsRow base e size v n xs := by
  refine ⟨h.1, ?_⟩
  rcases h.2 with h2 | ⟨g, cap, cur, h2, h3, h4, h5⟩
  · exact .inl h2
  · exact .inr ⟨g, cap, cur, h2, h3, (hk g (by rw [h2]; rfl)).trans h4, h5⟩
theorem own_below {B : Nat} {e : TypeId} {k : Nat} {v : Value} {n : Nat} {xs : List Value} {w w' : World} (h : w.ownsRow B e k v n xs) (hb : Below w.heap.size w w') : w'.ownsRow B e k v n xs :=
  h.kept (row := none) ⟨hb.os, hb.tape, hb.output, hb.size, fun j hj _ => hb.block j hj⟩ (by cases hv : v.ownBlock <;> simp)
section
variable {F : Fence} {nF : Nat} {P : Program} {w : World}
theorem wpListIn_append_here {ops : Array Oper} {rest : List Oper} {o : Oper} {a : Act} {Q : Exit → Act → World → Prop} (hgd : o.guard = none) (s x : Operand) (t : TypeId)
    (ho : o.op = .call { callee := .builtin .append, args := #[s, x], argTypes := #[t, t] })
    (base : Nat) (e : TypeId) (size bytes : Nat) (z : Value) (ht : P.underlying t = some (.slice e)) (hinfo : (P.info? e).map (fun i => (i.zero, i.size, i.bytes)) = some (some z, size, bytes)) (hzs : z.cells.size = size) (hsz : 0 < size)
    (v : Value) (n : Nat) (xs : List Value) (hs : a.eval s = v) (hown : w.ownsRow base e size v n xs)
    (g c : Nat) (cs : Array Value) (t2 : TypeId) (fr : Nat × Nat) (hx : a.eval x = .slice (some ⟨g, 0, none⟩) 1 c) (hgc : w.heap[g]? = some (.cells cs t2 fr)) (hcs : cs.size = size) (h1 : cs.all (·.oneCell') = true)
    (h63 : n ≤ 1000000) (hbytes : bytes ≤ 1000) (hbase : base ≤ w.heap.size)
    (h : ∀ v' w', w'.ownsRow base e size v' (n + 1) (xs ++ cs.toList) → w.grownBy w' v.ownBlock → (v'.ownBlock = v.ownBlock ∨ v'.ownBlock = some w.heap.size) → wpListIn F nF P ops Q rest (a.put o.dst v') w') : wpListIn F nF P ops Q (o :: rest) a w := by
  obtain ⟨i, hi, hz, hsize, hby⟩ := info_parts hinfo
  have hb : (n + 1) * bytes ≤ 140737488355328 := by
    have h2 : (n + 1) * bytes ≤ 1000001 * 1000 := Nat.mul_le_mul (by omega) hbytes
    omega
  exact wpListIn_append_own_at (P := P) w hgd s x t ho base e i z size bytes ht hi hz hsize hby hzs hsz v n xs hs hown ⟨g, 0, none⟩ 1 c cs.toList hx (by simp [hcs]) (news_block hgc) (fun u hu => (Array.all_eq_true_iff_forall_mem.1 h1) u (by simpa using hu)) (by unfold maxLen; omega) hb hbase fun v' w' h2 h3 _ h4 => h v' w' h2 h3 h4
end
theorem run_copy_rows {P : Program} (w : World) (dT sT ty elem : TypeId) (size : Nat) (g o dLen dCap : Nat) (a : Addr) (sLen sCap : Nat) (cur : Array Value) (t : TypeId) (cs : List Value)
    (hu : P.underlying dT = some (.slice elem)) (hs : (P.info? elem).map (·.size) = some size)
    (hg : w.heap[g]? = some (.cells cur t (0, 0))) (hn : cs.length = Nat.min sLen dLen * size)
    (hsrc : ∀ j v, cs[j]? = some v → w.cell? (a.add j) = some v) (hfit : o + cs.length ≤ cur.size) (h1 : ∀ v ∈ cs, v.oneCell' = true) :
    (Builtin.copy_ #[dT, sT] ty #[.slice (some ⟨g, o, none⟩) dLen dCap, .slice (some a) sLen sCap]).run P w =
      .ok (goInt (Nat.min sLen dLen)) (w.setRow g (cur.toList.take o ++ cs ++ cur.toList.drop (o + cs.length)).toArray) := by
  have hl := run_loadCells_list (P := P) w a cs hsrc
  have hst := run_storeCells_at P g o t cs 0 cur w hg (by simpa using hfit) h1
  cases hq : P.info? elem with
  | none => simp [hq] at hs
  | some i =>
    have hi : i.size = size := by simpa [hq] using hs
    simp [Builtin.copy_, run_underlying hu, Builtin.lenOf, Builtin.firstCells, sizeOf, typeInfo, hq, hi, ← hn, hl, hst]
end Go.Proofs.Ytagjepclobobjaa

/- Maps with structs as keys: what look, put and delete come to. -/
namespace Go.Proofs.Ytagjepclobobjaa
set_option linter.unusedVariables false
set_option linter.unusedSimpArgs false
open Go.RowKit Go.Shelf

/-- A type of keys: structs that can be compared. -/
structure KeyK (P : Program) {κ : Type} [DecidableEq κ] (kt : TypeId) (enc : κ → Value) : Prop where
  under : ∃ fs, P.underlying kt = some (.struct fs)
  eq : ∀ c d w, (Op.equal kt (enc c) (enc d)).run P w = .ok (decide (c = d)) w
  chk : ∀ c e w, (Instr.checkKey e 10000 kt (enc c)).run P w = .ok () w
  same : ∀ c, Instr.sameBits 10000 (enc c) (enc c) = true

section
variable {κ : Type} [DecidableEq κ]
def entK (enc : κ → Value) (x : κ × Value × Nat) : MapEntry := { key := enc x.1, val := x.2.1, born := x.2.2 }
/-- A map in memory: its entries, in the order in which they came. -/
def mapK (enc : κ → Value) (L : List (κ × Value × Nat)) (clock : Nat) : Obj := .map (L.map (entK enc)).toArray clock
def findK (k : κ) : List (κ × Value × Nat) → Nat → Option (Nat × Value)
  | [], _ => none
  | x :: l, i => if k = x.1 then some (i, x.2.1) else findK k l (i + 1)
theorem findAsk_K {P : Program} {kt : TypeId} {enc : κ → Value} (h : KeyK P kt enc) (k : κ) (w : World) : ∀ (L : List (κ × Value × Nat)) (i : Nat),
    (Instr.findAsking kt (enc k) (L.map (entK enc)) i).run P w = .ok (findK k L i) w
  | [], i => by simp [Instr.findAsking, findK]
  | x :: l, i => by
    simp only [List.map_cons, Instr.findAsking, Sem.run_bind, entK, h.eq, Result.andThen_ok, findK]
    by_cases hk : k = x.1
    · simp [hk]
    · simp only [hk, decide_false, Bool.false_eq_true, if_false]
      exact findAsk_K h k w l (i + 1)
theorem find_runK {P : Program} {kt : TypeId} {enc : κ → Value} (h : KeyK P kt enc) (k : κ) (L : List (κ × Value × Nat)) (w : World) :
    (Instr.findKey kt (enc k) (L.map (entK enc))).run P w = .ok (findK k L 0) w := by
  obtain ⟨fs, hu⟩ := h.under
  unfold Instr.findKey
  simp only [Sem.run_bind, run_underlying hu, Result.andThen_ok]
  cases L with
  | nil => simp [Instr.findNow, findK]
  | cons x l =>
    have : Instr.findNow (.struct fs) (enc k) ((x :: l).map (entK enc)) 0 = none := by
      simp [Instr.findNow, Instr.sameNow]
    rw [this]
    exact findAsk_K h k w (x :: l) 0
theorem findK_some {k : κ} : ∀ {L : List (κ × Value × Nat)} {i j : Nat} {v : Value}, findK k L i = some (j, v) → i ≤ j ∧ ∃ (h : j - i < L.length), L[j - i].1 = k ∧ L[j - i].2.1 = v
  | [], i, j, v, h => by simp [findK] at h
  | x :: l, i, j, v, h => by
    rw [findK] at h
    split at h
    · rename_i hk
      simp only [Option.some.injEq, Prod.mk.injEq] at h
      obtain ⟨rfl, rfl⟩ := h
      exact ⟨Nat.le_refl _, by simp, by simp [hk]⟩
    · obtain ⟨h1, h2, h3, h4⟩ := findK_some h
      have he : j - i = (j - (i + 1)) + 1 := by omega
      refine ⟨by omega, by rw [List.length_cons]; omega, ?_⟩
      have hg : (x :: l)[j - i]'(by rw [List.length_cons]; omega) = l[j - (i + 1)] := by simp only [he, List.getElem_cons_succ]
      rw [hg]
      exact ⟨h3, h4⟩
theorem findK_none {k : κ} : ∀ {L : List (κ × Value × Nat)} {i : Nat}, findK k L i = none → ∀ x ∈ L, x.1 ≠ k
  | [], _, _, _, hx => by cases hx
  | y :: l, i, h, x, hx => by
    rw [findK] at h
    split at h
    · cases h
    · rename_i hk
      rcases List.mem_cons.1 hx with rfl | hx
      · exact fun e => hk e.symm
      · exact findK_none h x hx
/-- What a map has at a key. -/
def getK (k : κ) (L : List (κ × Value × Nat)) : Option Value := (findK k L 0).map Prod.snd
def updK (k : κ) (v : Value) (L : List (κ × Value × Nat)) (clock : Nat) : List (κ × Value × Nat) × Nat :=
  match findK k L 0 with
  | some (i, _) => (L.modify i fun x => (k, v, x.2.2), clock)
  | none => (L ++ [(k, v, clock)], clock + 1)
def delK (k : κ) (L : List (κ × Value × Nat)) : List (κ × Value × Nat) :=
  match findK k L 0 with
  | some (i, _) => L.eraseIdx i
  | none => L
theorem run_updK {P : Program} {mt kt et : TypeId} {enc : κ → Value} (h : KeyK P kt enc) (hm : P.underlying mt = some (.map kt et)) (mb : Nat) (L : List (κ × Value × Nat)) (clock : Nat) (k : κ) (v : Value) (w : World)
    (hb : w.heap[mb]? = some (mapK enc L clock)) :
    (Instr.mapUpdate mt (.map (some mb)) (enc k) v).run P w = .ok () (w.putObj mb (mapK enc (updK k v L clock).1 (updK k v L clock).2)) := by
  have hg : (getObj mb).run P w = .ok (mapK enc L clock) w := by simp [getObj, Sem.run, hb, mapK]
  unfold Instr.mapUpdate
  simp only [Sem.run_bind, run_underlying hm, Result.andThen_ok, hg, mapK, h.chk, find_runK h]
  unfold updK
  cases hf : findK k L 0 with
  | none =>
    simp only
    rw [show (L.map (entK enc)).toArray.push { key := enc k, val := v, born := clock } = ((L ++ [(k, v, clock)]).map (entK enc)).toArray by simp [entK]]
    simp [setObj, Sem.run, hb, World.putObj, mapK]
  | some x =>
    obtain ⟨i, u⟩ := x
    obtain ⟨_, h2, h3, h4⟩ := findK_some hf
    rw [Nat.sub_zero] at h2
    have h3 : L[i].1 = k := h3
    have hk : (((L.map (entK enc)).toArray[i]?).map (·.key)).getD (enc k) = enc k := by
      simp [h2, entK, h3]
    simp only [hk, Instr.keyThatStays, h.same, if_true, Sem.run_bind, Sem.run_pure, Result.andThen_ok]
    rw [show ((L.map (entK enc)).toArray.modify i fun e => { e with key := enc k, val := v }) = ((L.modify i fun x => (k, v, x.2.2)).map (entK enc)).toArray by
      apply Array.ext'
      apply List.ext_getElem?
      intro j
      simp only [Array.toList_modify, List.getElem?_modify, List.getElem?_map]
      by_cases hj : i = j
      · subst hj
        simp [h2, entK]
      · simp [hj]]
    simp [setObj, Sem.run, hb, World.putObj, mapK]
theorem keys_inj {κ : Type} {L : List (κ × Value × Nat)} (hn : (L.map (·.1)).Nodup) {i j : Nat} (hi : i < L.length) (hj : j < L.length) (e : L[i].1 = L[j].1) : i = j :=
  (List.getElem_inj (xs := L.map (·.1)) (h₀ := by simpa using hi) (h₁ := by simpa using hj) hn).1 (by simpa using e)
/-- A table: what it has, each key once. -/
structure TabK (L : List (κ × Value × Nat)) (clock : Nat) (f : κ → Option Value) : Prop where
  mem : ∀ k v, f k = some v ↔ ∃ b, (k, v, b) ∈ L
  keys : (L.map (·.1)).Nodup
  born : ∀ x ∈ L, x.2.2 < clock
  borns : (L.map (·.2.2)).Nodup
omit [DecidableEq κ] in
theorem TabK.nil : TabK ([] : List (κ × Value × Nat)) 0 (fun _ => none) := ⟨by simp, List.nodup_nil, (fun x h => by cases h), List.nodup_nil⟩
theorem TabK.find {L : List (κ × Value × Nat)} {clock : Nat} {f : κ → Option Value} (h : TabK L clock f) (k : κ) : (findK k L 0).map Prod.snd = f k := by
  cases hf : findK k L 0 with
  | none =>
    cases hv : f k with
    | none => rfl
    | some v =>
      obtain ⟨b, hb⟩ := (h.mem k v).1 hv
      exact absurd rfl (findK_none hf _ hb)
  | some x =>
    obtain ⟨i, v⟩ := x
    obtain ⟨_, h2, h3, h4⟩ := findK_some hf
    rw [Nat.sub_zero] at h2
    have h3 : L[i].1 = k := h3
    have h4 : L[i].2.1 = v := h4
    have : f k = some v := (h.mem k v).2 ⟨L[i].2.2, by rw [← h3, ← h4]; exact List.getElem_mem h2⟩
    rw [this]; rfl
theorem TabK.upd {L : List (κ × Value × Nat)} {clock : Nat} {f : κ → Option Value} (h : TabK L clock f) (k : κ) (v : Value) :
    TabK (updK k v L clock).1 (updK k v L clock).2 (fun x => if x = k then some v else f x) := by
  unfold updK
  cases hf : findK k L 0 with
  | none =>
    have hn := findK_none hf
    refine ⟨fun x u => ?_, ?_, ?_, ?_⟩
    · simp only [List.mem_append, List.mem_singleton, Prod.mk.injEq]
      split
      · rename_i hx
        subst hx
        constructor
        · intro he; cases he; exact ⟨clock, .inr ⟨rfl, rfl, rfl⟩⟩
        · rintro ⟨b, hb | ⟨_, rfl, _⟩⟩
          · exact absurd rfl (hn _ hb)
          · rfl
      · rename_i hx
        rw [h.mem x u]
        exact ⟨fun ⟨b, hb⟩ => ⟨b, .inl hb⟩, fun ⟨b, hb⟩ => hb.elim (fun hb => ⟨b, hb⟩) (fun hb => absurd hb.1 hx)⟩
    · rw [List.map_append, List.nodup_append]
      refine ⟨h.keys, by simp, fun a ha b hb e => ?_⟩
      simp only [List.map_cons, List.map_nil, List.mem_singleton] at hb
      subst hb
      obtain ⟨y, hy, rfl⟩ := List.mem_map.1 ha
      exact hn y hy e
    · intro x hx
      rcases List.mem_append.1 hx with hx | hx
      · have := h.born x hx; simp only; omega
      · rw [List.mem_singleton.1 hx]; simp
    · rw [List.map_append, List.nodup_append]
      refine ⟨h.borns, by simp, fun a ha b hb e => ?_⟩
      simp only [List.map_cons, List.map_nil, List.mem_singleton] at hb
      subst hb
      obtain ⟨y, hy, rfl⟩ := List.mem_map.1 ha
      have := h.born y hy
      omega
  | some x =>
    obtain ⟨i, u⟩ := x
    obtain ⟨_, h2, h3, h4⟩ := findK_some hf
    rw [Nat.sub_zero] at h2
    have h3 : L[i].1 = k := h3
    have hkeys : (L.modify i fun x => (k, v, x.2.2)).map (·.1) = L.map (·.1) := by
      apply List.ext_getElem?
      intro j
      simp only [List.getElem?_map, List.getElem?_modify]
      by_cases hj : i = j
      · subst hj; simp [h2, h3]
      · simp [hj]
    have hborns : (L.modify i fun x => (k, v, x.2.2)).map (·.2.2) = L.map (·.2.2) := by
      apply List.ext_getElem?
      intro j
      simp only [List.getElem?_map, List.getElem?_modify]
      by_cases hj : i = j
      · subst hj; simp [h2]
      · simp [hj]
    have hin : ∀ y, y ∈ (L.modify i fun x => (k, v, x.2.2)) ↔ (y.1 = k ∧ y = (k, v, L[i].2.2)) ∨ (y.1 ≠ k ∧ y ∈ L) := by
      intro y
      rw [List.mem_iff_getElem?]
      constructor
      · rintro ⟨j, hj⟩
        rw [List.getElem?_modify] at hj
        by_cases hij : i = j
        · subst hij
          simp [h2] at hj
          subst hj
          exact .inl ⟨rfl, rfl⟩
        · simp [hij] at hj
          refine .inr ⟨fun e => hij ?_, List.mem_of_getElem? hj⟩
          obtain ⟨hjl, hjv⟩ := List.getElem?_eq_some_iff.1 hj
          exact keys_inj h.keys h2 hjl (by rw [h3, hjv, e])
      · rintro (⟨_, rfl⟩ | ⟨hne, hm⟩)
        · exact ⟨i, by simp [h2]⟩
        · obtain ⟨j, hj⟩ := List.mem_iff_getElem?.1 hm
          have hij : i ≠ j := by
            rintro rfl
            rw [List.getElem?_eq_getElem h2, Option.some.injEq] at hj
            exact hne (by rw [← hj]; exact h3)
          exact ⟨j, by rw [List.getElem?_modify]; simp [hij, hj]⟩
    refine ⟨fun x u' => ?_, by rw [hkeys]; exact h.keys, fun y hy => ?_, by rw [hborns]; exact h.borns⟩
    · split
      · rename_i hx
        subst hx
        constructor
        · intro he; cases he; exact ⟨L[i].2.2, (hin _).2 (.inl ⟨rfl, rfl⟩)⟩
        · rintro ⟨b, hb⟩
          rcases (hin _).1 hb with ⟨_, he⟩ | ⟨hne, _⟩
          · simp only [Prod.mk.injEq] at he; rw [he.2.1]
          · exact absurd rfl hne
      · rename_i hx
        rw [h.mem x u']
        exact ⟨fun ⟨b, hb⟩ => ⟨b, (hin _).2 (.inr ⟨hx, hb⟩)⟩, fun ⟨b, hb⟩ => ((hin _).1 hb).elim (fun hb => absurd hb.1 hx) (fun hb => ⟨b, hb.2⟩)⟩
    · rcases (hin y).1 hy with ⟨_, rfl⟩ | ⟨_, hm⟩
      · exact h.born L[i] (List.getElem_mem h2)
      · exact h.born y hm
theorem delK_mem {L : List (κ × Value × Nat)} (hn : (L.map (·.1)).Nodup) (k : κ) (y : κ × Value × Nat) : y ∈ delK k L ↔ y ∈ L ∧ y.1 ≠ k := by
  unfold delK
  cases hf : findK k L 0 with
  | none => exact Iff.intro (fun h => And.intro h (findK_none hf y h)) (fun h => h.1)
  | some x =>
    obtain ⟨i, u⟩ := x
    obtain ⟨_, h2, h3, h4⟩ := findK_some hf
    rw [Nat.sub_zero] at h2
    have h3 : L[i].1 = k := h3
    simp only
    rw [List.mem_eraseIdx_iff_getElem]
    constructor
    · rintro ⟨j, hj, hne, rfl⟩
      refine ⟨List.getElem_mem hj, fun e => hne ?_⟩
      exact keys_inj hn hj h2 (by rw [h3, e])
    · rintro ⟨hm, hne⟩
      obtain ⟨j, hj, rfl⟩ := List.getElem_of_mem hm
      exact ⟨j, hj, fun e => hne (by subst e; exact h3), rfl⟩
theorem TabK.del {L : List (κ × Value × Nat)} {clock : Nat} {f : κ → Option Value} (h : TabK L clock f) (k : κ) : TabK (delK k L) clock (fun x => if x = k then none else f x) := by
  have hs : (delK k L).Sublist L := by
    unfold delK
    split
    · exact List.eraseIdx_sublist ..
    · exact List.Sublist.refl _
  refine ⟨fun x v => ?_, h.keys.sublist (hs.map _), fun x hx => h.born x (hs.subset hx), h.borns.sublist (hs.map _)⟩
  split
  · rename_i hx
    subst hx
    exact ⟨fun e => (by cases e), fun ⟨b, hb⟩ => absurd rfl ((delK_mem h.keys _ _).1 hb).2⟩
  · rename_i hx
    rw [h.mem x v]
    constructor
    · rintro ⟨b, hb⟩
      exact ⟨b, (delK_mem h.keys k (x, v, b)).2 ⟨hb, hx⟩⟩
    · rintro ⟨b, hb⟩
      exact ⟨b, ((delK_mem h.keys k (x, v, b)).1 hb).1⟩
theorem run_delK {P : Program} {mt kt et ty : TypeId} {enc : κ → Value} (h : KeyK P kt enc) (hm : P.underlying mt = some (.map kt et)) (mb : Nat) (L : List (κ × Value × Nat)) (clock : Nat) (k : κ) (w : World)
    (hb : w.heap[mb]? = some (mapK enc L clock)) :
    (Builtin.delete_ #[mt, kt] ty #[.map (some mb), enc k]).run P w = .ok (.tuple #[]) (w.putObj mb (mapK enc (delK k L) clock)) := by
  have hg : (getObj mb).run P w = .ok (mapK enc L clock) w := by simp [getObj, Sem.run, hb, mapK]
  unfold Builtin.delete_
  simp only [List.getElem?_toArray, List.getElem?_cons_zero, List.getElem?_cons_succ, Sem.run_bind, run_underlying hm, Result.andThen_ok, hg, mapK, h.chk, find_runK h]
  unfold delK
  cases hf : findK k L 0 with
  | none => simp [setObj, Sem.run, hb, World.putObj, mapK]
  | some x =>
    obtain ⟨i, u⟩ := x
    simp only
    rw [show (L.map (entK enc)).toArray.eraseIdxIfInBounds i = ((L.eraseIdx i).map (entK enc)).toArray by
      apply Array.ext'
      rw [Array.toList_eraseIdxIfInBounds]
      apply List.ext_getElem?
      intro j
      simp only [List.getElem?_eraseIdx, List.getElem?_map]
      split <;> rfl]
    simp [setObj, Sem.run, hb, World.putObj, mapK]
/-- A key is looked up: what a map has there, or nothing. -/
theorem run_getK {P : Program} {mt kt et : TypeId} {enc : κ → Value} (h : KeyK P kt enc) (hm : P.underlying mt = some (.map kt et)) (mb : Nat) (L : List (κ × Value × Nat)) (clock : Nat) (f : κ → Option Value) (ht : TabK L clock f) (k : κ) (w : World)
    (hb : w.heap[mb]? = some (mapK enc L clock)) (z : Value) (hz : (zeroValue et).run P w = .ok z w) :
    (Instr.lookup mt (.map (some mb)) (enc k) true).run P w = .ok (.tuple #[(f k).getD z, .bool (f k).isSome]) w := by
  have hg : (getObj mb).run P w = .ok (mapK enc L clock) w := by simp [getObj, Sem.run, hb, mapK]
  unfold Instr.lookup
  simp only [Sem.run_bind, run_underlying hm, Result.andThen_ok, hg, mapK, h.chk, find_runK h, Sem.run_pure]
  rw [← ht.find k]
  cases hf : findK k L 0 with
  | none => simp [hz, Sem.run_bind]
  | some x => simp [Sem.run_pure]
end
end Go.Proofs.Ytagjepclobobjaa

/- A drawn region of which the last operations come behind all others, in order: the others in whatever order, with a condition held; then the last ones. Of any program. -/
namespace Go.Proofs.Ytagjepclobobjaa
set_option linter.unusedVariables false
set_option linter.unusedSimpArgs false
section
variable {P : Program} {md : Region.Mode} {ops : Array Oper} {Q Q' : Exit → Act → World → Prop}

theorem upon_monoQ {o : Oper} {a : Act} {K K' : Act → World → Prop} (hK : ∀ a w, K a w → K' a w) (hQ : ∀ e a w, e ≠ Exit.normal → Q e a w → Q' e a w) :
    ∀ r, o.upon P a K Q r → o.upon P a K' Q' r := by
  have hl : LetsOut Q → LetsOut Q' := fun ⟨a, w, h⟩ => ⟨a, w, hQ _ _ _ (by simp) h⟩
  intro r h
  cases r with
  | ok n w' =>
    cases n <;> simp only [Oper.upon] at h ⊢ <;>
      first
        | exact hK _ _ h
        | exact Calls.mono h (fun e w'' he => by cases e <;> first | exact hK _ _ he | exact hQ _ _ _ (by simp) he | exact hl he)
        | exact Rows.mono h (fun _ _ he => hK _ _ he)
  | halt x w' => cases x <;> simp only [Oper.upon] at h ⊢ <;> first | exact hQ _ _ _ (by simp) h | exact h

theorem wpOp_monoQ {i : Nat} {a : Act} {w : World} {K K' : Act → World → Prop} (hK : ∀ a w, K a w → K' a w) (hQ : ∀ e a w, e ≠ Exit.normal → Q e a w → Q' e a w)
    (h : wpOp P ops Q i K a w) : wpOp P ops Q' i K' a w := by
  unfold wpOp at *
  split
  · exact hK _ _ (by simpa [*] using h)
  · rename_i o ho
    simp only [ho] at h
    split
    · rename_i hw
      simp only [hw, if_true] at h
      rcases h with h | ⟨h1, a', w', h2⟩
      · exact .inl (upon_monoQ hK hQ _ h)
      · exact .inr ⟨h1, a', w', hQ _ _ _ (by simp) h2⟩
    · rename_i hw; simp only [hw] at h; exact hK _ _ h

theorem wpAny_fuel1 : ∀ (f : Nat) (listed : Array Bool) (a : Act) (w : World), wpAny P md ops Q f listed a w → wpAny P md ops Q (f + 1) listed a w
  | 0, _, _, _, h => ⟨fun _ => h.2, by rw [h.1]; simp⟩
  | f + 1, _, _, _, h => ⟨h.1, fun i hi => wpOp_mono (fun a' w' h' => wpAny_fuel1 f _ a' w' h') (h.2 i hi)⟩
theorem wpAny_fuel (g : Nat) : ∀ (f : Nat) (listed : Array Bool) (a : Act) (w : World), wpAny P md ops Q g listed a w → wpAny P md ops Q (f + g) listed a w
  | 0, _, _, _, h => by rw [Nat.zero_add]; exact h
  | f + 1, _, _, _, h => by rw [show f + 1 + g = (f + g) + 1 by omega]; exact wpAny_fuel1 _ _ _ _ (wpAny_fuel g f _ _ _ h)

/-- The operations ahead of n wait for such alone as come ahead of them. -/
def backB (md : Region.Mode) (ops : Array Oper) (n : Nat) : Bool :=
  (List.range n).all fun i => match ops[i]? with
    | some o => o.after.all fun e => !Region.binds md e || decide (e.on < i)
    | none => false
theorem backB_spec {n i : Nat} {o : Oper} (h : backB md ops n = true) (hi : i < n) (ho : ops[i]? = some o) : ∀ e ∈ o.after, Region.binds md e = true → e.on < i := by
  have h1 := List.all_eq_true.1 h i (List.mem_range.2 hi)
  simp only [ho] at h1
  intro e he hb
  have h2 := Array.all_eq_true'.1 h1 e he
  rw [hb] at h2
  simpa using h2
theorem backB_some {n i : Nat} (h : backB md ops n = true) (hi : i < n) : ∃ o, ops[i]? = some o := by
  have h1 := List.all_eq_true.1 h i (List.mem_range.2 hi)
  cases h2 : ops[i]? with
  | none => rw [h2] at h1; cases h1
  | some o => exact ⟨o, rfl⟩

/-- The first n as they are, all others as if they had come up. -/
def TailRel (n : Nat) (listed listed' : Array Bool) : Prop := listed'.size = listed.size ∧ (∀ i, i < n → listed'[i]? = listed[i]?) ∧ ∀ t, n ≤ t → listed'.getD t true = true
theorem getD_of_get {l l' : Array Bool} {i : Nat} (h : l'[i]? = l[i]?) (d : Bool) : l'.getD i d = l.getD i d := by
  rw [Array.getD_eq_getD_getElem?, Array.getD_eq_getD_getElem?, h]
theorem TailRel.ready {n : Nat} {listed listed' : Array Bool} (hr : TailRel n listed listed') (hb : backB md ops n = true) (j : Nat) : j ∈ Region.ready md ops listed' ↔ (j < n ∧ j ∈ Region.ready md ops listed) := by
  rw [mem_ready, mem_ready]
  constructor
  · rintro ⟨h1, o, h2, h3⟩
    have hj : j < n := by
      rcases Nat.lt_or_ge j n with h | h
      · exact h
      · rw [hr.2.2 j h] at h1; cases h1
    refine ⟨hj, by rw [← getD_of_get (hr.2.1 j hj)]; exact h1, o, h2, fun e he hbi => ?_⟩
    have := backB_spec hb hj h2 e he hbi
    rw [← getD_of_get (hr.2.1 e.on (by omega))]
    exact h3 e he hbi
  · rintro ⟨hj, h1, o, h2, h3⟩
    refine ⟨by rw [getD_of_get (hr.2.1 j hj)]; exact h1, o, h2, fun e he hbi => ?_⟩
    have := backB_spec hb hj h2 e he hbi
    rw [getD_of_get (hr.2.1 e.on (by omega))]
    exact h3 e he hbi
theorem TailRel.set {n i : Nat} {listed listed' : Array Bool} (hr : TailRel n listed listed') : TailRel n (listed.setIfInBounds i true) (listed'.setIfInBounds i true) := by
  refine ⟨by simp [hr.1], fun j hj => ?_, fun t ht => ?_⟩
  · rw [Array.getElem?_setIfInBounds, Array.getElem?_setIfInBounds, hr.1, hr.2.1 j hj]
  · by_cases h : i = t
    · subst h
      rw [Array.getD_eq_getD_getElem?, Array.getElem?_setIfInBounds]
      rw [if_pos rfl]
      split <;> rfl
    · rw [getD_set_ne true h]; exact hr.2.2 t ht
/-- None may come up: all ahead of n have. -/
theorem all_listed {n : Nat} {listed : Array Bool} (hb : backB md ops n = true) (hsz : listed.size = ops.size) (h : ∀ j, j < n → j ∉ Region.ready md ops listed) : ∀ i, i < n → listed.getD i true = true := by
  intro i
  induction i using Nat.strongRecOn with
  | _ i ih =>
    intro hi
    cases hl : listed.getD i true with
    | true => rfl
    | false =>
      obtain ⟨o, ho⟩ := backB_some hb hi
      refine (h i hi (mem_ready.2 ⟨hl, o, ho, fun e he hbi => ?_⟩)).elim
      have h1 := backB_spec hb hi ho e he hbi
      have h2 := ih e.on h1 (by omega)
      cases h3 : listed.getD e.on false with
      | true => rfl
      | false =>
        have hlt : e.on < listed.size := by rw [hsz]; have := (Array.getElem?_eq_some_iff.1 ho).1; omega
        rw [getD_in hlt h3] at h2
        cases h2

/-- What must be so of a region's shape. -/
def tailB (l : List Oper) (n : Nat) : Bool :=
  decide (n < l.length) && Region.sinkB .any l.toArray n && Region.chainB .any l.toArray n && backB .any l.toArray n && Region.seqB .any l.toArray (l.drop n).length n (Array.replicate n true ++ Array.replicate (l.length - n) false)
/-- All that comes behind the first n: they are carried out in order. -/
def TailQ (P : Program) (l : List Oper) (n : Nat) (Q : Exit → Act → World → Prop) : Exit → Act → World → Prop
  | .normal, a, w => wpList P l.toArray Q (l.drop n) a w
  | e, a, w => Q e a w
theorem wpAny_of_tail {l : List Oper} {n : Nat} {S : World → Prop} (hB : tailB l n = true) :
    ∀ (f : Nat) (listed listed' : Array Bool) (a : Act) (w : World), HeadInv .any l.toArray n listed → TailRel n listed listed' →
      wpAnyH P .any l.toArray (TailQ P l n Q) S f listed' a w → wpAny P .any l.toArray Q (f + (l.drop n).length) listed a w := by
  unfold tailB at hB
  simp only [Bool.and_eq_true, decide_eq_true_eq] at hB
  obtain ⟨⟨⟨⟨hn, hs⟩, hc⟩, hb⟩, hq⟩ := hB
  have hend : ∀ (f : Nat) (listed listed' : Array Bool) (a : Act) (w : World), HeadInv .any l.toArray n listed → TailRel n listed listed' → Region.ready .any l.toArray listed' = [] → TailQ P l n Q .normal a w → wpAny P .any l.toArray Q (f + (l.drop n).length) listed a w := by
    intro f listed listed' a w inv hr h0 h
    have h1 : ∀ i, i < n → listed.getD i true = true := all_listed hb inv.size (fun j hj hm => by
      have := (hr.ready hb j).2 ⟨hj, hm⟩
      rw [h0] at this; cases this)
    have h2 : listed = Array.replicate n true ++ Array.replicate (l.length - n) false := by
      apply Array.ext
      · rw [inv.size]; simp; omega
      · intro i hi1 hi2
        have hi3 : i < l.length := by have := inv.size; simp at this; omega
        rcases Nat.lt_or_ge i n with h | h
        · have := h1 i h
          rw [Array.getD_eq_getD_getElem?, Array.getElem?_eq_getElem hi1, Option.getD_some] at this
          rw [this, Array.getElem_append_left (by simpa using h)]
          simp
        · have := inv.tail i h (by simpa using hi3)
          rw [Array.getD_eq_getD_getElem?, Array.getElem?_eq_getElem hi1, Option.getD_some] at this
          rw [this, Array.getElem_append_right (by simpa using h)]
          simp
    rw [h2]
    refine wpAny_fuel _ f _ a w (wpAny_of_seq (md := .any) (l.drop n) n _ a w (fun j => by simp [List.getElem?_drop]) hq h)
  intro f
  induction f with
  | zero => intro listed listed' a w inv hr h; exact hend 0 listed listed' a w inv hr h.1 h.2
  | succ f ih =>
    intro listed listed' a w inv hr h
    cases h0 : Region.ready .any l.toArray listed' with
    | nil => exact hend (f + 1) listed listed' a w inv hr h0 (h.1 h0)
    | cons i0 rs =>
      have hi0 : i0 ∈ Region.ready .any l.toArray listed' := by rw [h0]; simp
      obtain ⟨hi1, hi2⟩ := (hr.ready hb i0).1 hi0
      have hw := tail_waits hs hc (by simpa using hn) inv _ i0 rfl hi1 (mem_ready.1 hi2).1
      rw [show f + 1 + (l.drop n).length = (f + (l.drop n).length) + 1 by omega]
      refine ⟨fun h => (by rw [h] at hi2; cases hi2), fun j hj => ?_⟩
      have hjn : j < n := by
        rcases Nat.lt_or_ge j n with h | h
        · exact h
        · exact (hw j h hj).elim
      have hj' := (hr.ready hb j).2 ⟨hjn, hj⟩
      refine wpOp_monoQ (fun a' w' h' => ih _ _ a' w' (inv.set hj hjn) hr.set h'.2) (fun e a' w' he hx => ?_) (h.2 j hj')
      cases e <;> first | exact hx | exact (he rfl).elim
/-- THE BEGINNING: S is shown of the world behind the draw; then the first n in whatever order, the others as if they had come up; and behind them the others, in order. -/
theorem wp_region_tail {id : Nat} {a : Act} {w : World} {l : List Oper} (n : Nat) (L : Array Bool) (S : World → Prop) (hm : P.follows .mixedOrders = true) (hB : tailB l n = true) (hL : L = Array.replicate n false ++ Array.replicate (l.length - n) true) (hS : S w.drew)
    (h : S w.drew → wpAnyH P .any l.toArray (TailQ P l n Q) S n L a w.drew) : (Code.region id l.toArray true).wp P Q a w := by
  subst hL
  have hn : n < l.length := by
    unfold tailB at hB
    simp only [Bool.and_eq_true, decide_eq_true_eq] at hB
    exact hB.1.1.1.1
  refine wp_region_any hm ?_
  have := wpAny_of_tail hB n (Array.replicate l.toArray.size false) (Array.replicate n false ++ Array.replicate (l.length - n) true) a w.drew
    ⟨by simp, fun j oj _ hl => (by rw [getD_replicate_false] at hl; cases hl), fun t _ ht => getD_in (by simpa using ht) (getD_replicate_false _ _)⟩ ⟨by simp; omega, fun i hi => by
      rw [Array.getElem?_append_left (by simpa using hi)]
      simp [hi, show i < l.length by omega], fun t ht => by
      rw [Array.getD_eq_getD_getElem?]
      rcases Nat.lt_or_ge t l.length with h | h
      · rw [Array.getElem?_append_right (by simpa using ht), Array.getElem?_replicate]; split <;> rfl
      · rw [Array.getElem?_eq_none (by simp; omega)]; rfl⟩ (h hS)
  rw [show n + (l.drop n).length = l.toArray.size by simp; omega] at this
  exact this
end

end Go.Proofs.Ytagjepclobobjaa

/- A region that draws its order and may panic, in a function that defers: what is read is taken first; the rest comes in one order. -/
namespace Go.Proofs.Ytagjepclobobjaa
set_option linter.unusedVariables false
set_option linter.unusedSimpArgs false
open Go.RowKit

section
variable {P : Program} {ops : Array Oper} {md : Region.Mode} {S : World → Prop}
theorem Leaves.congr {fn : Func} {t1 t2 : Array Value} {R : Ending → World → Prop} (hr : ∀ w v, (results fn t1).run P w = .ok v w → (results fn t2).run P w = .ok v w) :
    ∀ (ds : List Deferred) (u : FrameMode) (w : World), Leaves P fn t1 R ds u w → Leaves P fn t2 R ds u w
  | [], .returning, w, h => by obtain ⟨v, h1, h2⟩ := h; exact ⟨v, hr _ _ h1, h2⟩
  | [], .panicking _, w, h => h
  | [], .run, w, h => h
  | d :: ds, u, w, h => by
    obtain ⟨h1, fv, cap, f, args, h2, h3, h4⟩ := h
    refine ⟨h1, fv, cap, f, args, h2, h3, h4.mono ?_⟩
    intro e u' w' he
    cases e with
    | returned v => exact Leaves.congr hr ds _ _ he
    | panicked c => exact Leaves.congr hr ds _ _ he
    | outgrown => exact he
theorem wpAnyH_call {Q : Exit → Act → World → Prop} {k fuel : Nat} {o : Oper} {f : FuncId} {args : Array Value} {listed : Array Bool} {a : Act} {w : World} (hr : Region.ready md ops listed = [k]) (ho : ops[k]? = some o) (hg : Region.wanted o (yielded ops a.tmps) = true)
    (hrun : (execOp a.eval o).run P w = .ok (.enter f args) w)
    (h : Calls P f args w fun
      | .returned v, w' => S w' ∧ wpAnyH P md ops Q S fuel (listed.setIfInBounds k true) (a.put o.dst v) w'
      | .panicked c, w' => Q (.panic c) a w'
      | .outgrown, _ => LetsOut Q) : wpAnyH P md ops Q S (fuel + 1) listed a w := by
  refine wpAnyH_all hr (by simp) fun i hi => ?_
  obtain rfl : i = k := by simpa using hi
  unfold wpOp
  rw [ho]
  simp only [hg, if_true]
  left
  unfold Oper.wp
  rw [hrun]
  simp only [Oper.upon]
  refine h.mono fun e w'' he => ?_
  cases e <;> exact he
theorem wpAnyH_skip {Q : Exit → Act → World → Prop} {k fuel : Nat} {o : Oper} {listed : Array Bool} {a : Act} {w w' : World} (hr : Region.ready md ops listed = [k]) (ho : ops[k]? = some o) (hg : Region.wanted o (yielded ops a.tmps) = true)
    (hrun : (execOp a.eval o).run P w = .ok .skip w') (hS : S w')
    (h : wpAnyH P md ops Q S fuel (listed.setIfInBounds k true) (a.put o.dst undef) w') : wpAnyH P md ops Q S (fuel + 1) listed a w := by
  refine wpAnyH_all hr (by simp) fun i hi => ?_
  obtain rfl : i = k := by simpa using hi
  unfold wpOp
  rw [ho]
  simp only [hg, if_true]
  left
  unfold Oper.wp
  rw [hrun]
  exact ⟨hS, h⟩
theorem wpAnyH_value {Q : Exit → Act → World → Prop} {k fuel : Nat} {o : Oper} {v : Value} {listed : Array Bool} {a : Act} {w w' : World} (hr : Region.ready md ops listed = [k]) (ho : ops[k]? = some o) (hg : Region.wanted o (yielded ops a.tmps) = true)
    (hrun : (execOp a.eval o).run P w = .ok (.value v) w') (hS : S w')
    (h : wpAnyH P md ops Q S fuel (listed.setIfInBounds k true) (a.put o.dst v) w') : wpAnyH P md ops Q S (fuel + 1) listed a w := by
  refine wpAnyH_all hr (by simp) fun i hi => ?_
  obtain rfl : i = k := by simpa using hi
  unfold wpOp
  rw [ho]
  simp only [hg, if_true]
  left
  unfold Oper.wp
  rw [hrun]
  exact ⟨hS, h⟩
theorem yields_value {o : Oper} {v : Value} {a : Act} (hg : Region.wanted o (yielded ops a.tmps) = true) (h : ∀ w, S w → (execOp a.eval o).run P w = .ok (.value v) w) : YieldsIf P ops S o v a := .inl ⟨hg, h⟩
end
end Go.Proofs.Ytagjepclobobjaa

/- A drawn region inside a round, by the laws for one that is in no round. -/
namespace Go.Proofs.Ytagjepclobobjaa
set_option linter.unusedVariables false
set_option linter.unusedSimpArgs false
open Go.RowKit

section
variable {P : Program} {ops : Array Oper} {md : Region.Mode} {l : Nat}
theorem rows_in {row : String} {args : Array Value} {w : World} {R : Value → World → Prop} (h : Rows P row args w R) : RowsIn (Fence.wide.inRound l) 0 P row args w R :=
  fun c cs _ => let ⟨v, w', r, s⟩ := h c cs; ⟨v, w', r, stepsIn_wide.2 s⟩
theorem oper_in {o : Oper} {a : Act} {w : World} {K : Act → World → Prop} {Q : Exit → Act → World → Prop} (hd : ∀ c, o.op ≠ .defer c) (h : o.wp P a w K Q) : o.wpIn (Fence.wide.inRound l) 0 P a w K Q := by
  refine ⟨fun _ _ => trivial, ?_⟩
  rw [show (Fence.wide.inRound l).round = some l from rfl, Oper.semAt_some l a.eval o hd]
  unfold Oper.wp at h
  generalize (execOp a.eval o).run P w = r at *
  cases r with
  | ok n w' =>
    cases n <;> simp only [Oper.upon] at h <;> simp only [Oper.uponIn]
    case value => exact h
    case skip => exact h
    case defer => exact h
    case enter f args => exact ⟨(fun h => by cases h), CallsIn.inRound l (callsIn_wide.2 h)⟩
    case row row args => exact ⟨(fun h => by cases h), rows_in h⟩
  | halt x w' =>
    cases x <;> simp only [Oper.upon] at h <;> simp only [Oper.uponIn]
    case panic => exact h
theorem wpAnyIn_of {Q : Exit → Act → World → Prop} (hnd : noDefer ops = true) (hnl : ¬ LetsOut Q) : ∀ (fuel : Nat) (listed : Array Bool) (a : Act) (w : World), wpAny P md ops Q fuel listed a w → wpAnyIn (Fence.wide.inRound l) 0 P md ops Q fuel listed a w
  | 0, _, _, _, h => h
  | f + 1, listed, a, w, h => by
    refine ⟨h.1, fun i hi => ?_⟩
    have h1 := h.2 i hi
    unfold wpOp at h1
    unfold wpOpIn
    cases ho : ops[i]? with
    | none => simp only [ho] at h1; exact wpAnyIn_of hnd hnl f _ _ _ h1
    | some o =>
      simp only [ho] at h1
      simp only
      split
      · rename_i hw
        rw [if_pos hw] at h1
        rcases h1 with h1 | h1
        · exact Oper.wpIn_mono (fun a' w' h' => wpAnyIn_of hnd hnl f _ _ _ h') (oper_in (noDefer_spec hnd i o ho) h1)
        · exact absurd h1.2 hnl
      · rename_i hw
        rw [if_neg hw] at h1
        exact ⟨fun _ _ => trivial, wpAnyIn_of hnd hnl f _ _ _ h1⟩
/-- The beginning: S is shown of the world behind the draw. -/
theorem region_heldIn {S : World → Prop} {id : Nat} {Q : Exit → Act → World → Prop} {a : Act} {w : World} (hm : P.follows .mixedOrders = true) (hnd : noDefer ops = true) (hnl : ¬ LetsOut Q) (hS : S w.drew)
    (h : S w.drew → wpAnyH P .any ops Q S ops.size (Array.replicate ops.size false) a w.drew) : (Code.region id ops true).wpIn (Fence.wide.inRound l) 0 P Q a w :=
  wpIn_region_any hm (wpAnyIn_of hnd hnl _ _ _ _ (wpAny_of_held _ _ _ _ (h hS)))
/-- The first n in whatever order, with S; behind them the others, in order. -/
theorem region_tailIn {S : World → Prop} {id : Nat} {Q : Exit → Act → World → Prop} {a : Act} {w : World} {ls : List Oper} (n : Nat) (L : Array Bool) (hm : P.follows .mixedOrders = true) (hB : tailB ls n = true) (hnd : noDefer ls.toArray = true) (hnl : ¬ LetsOut Q) (hL : L = Array.replicate n false ++ Array.replicate (ls.length - n) true) (hS : S w.drew)
    (h : S w.drew → wpAnyH P .any ls.toArray (TailQ P ls n Q) S n L a w.drew) : (Code.region id ls.toArray true).wpIn (Fence.wide.inRound l) 0 P Q a w := by
  subst hL
  have hn : n < ls.length := by
    unfold tailB at hB
    simp only [Bool.and_eq_true, decide_eq_true_eq] at hB
    exact hB.1.1.1.1
  refine wpIn_region_any hm (wpAnyIn_of hnd hnl _ _ _ _ ?_)
  have := wpAny_of_tail hB n (Array.replicate ls.toArray.size false) (Array.replicate n false ++ Array.replicate (ls.length - n) true) a w.drew
    ⟨by simp, fun j oj _ hl => (by rw [getD_replicate_false] at hl; cases hl), fun t _ ht => getD_in (by simpa using ht) (getD_replicate_false _ _)⟩ ⟨by simp; omega, fun i hi => by
      rw [Array.getElem?_append_left (by simpa using hi)]
      simp [hi, show i < ls.length by omega], fun t ht => by
      rw [Array.getD_eq_getD_getElem?]
      rcases Nat.lt_or_ge t ls.length with h | h
      · rw [Array.getElem?_append_right (by simpa using ht), Array.getElem?_replicate]; split <;> rfl
      · rw [Array.getElem?_eq_none (by simp; omega)]; rfl⟩ (h hS)
  rw [show n + (ls.drop n).length = ls.toArray.size by simp; omega] at this
  exact this
/-- An operation that comes up alone, and yields a value. -/
theorem wpAnyH_run {S : World → Prop} {Q : Exit → Act → World → Prop} {k fuel : Nat} {o : Oper} {v : Value} {listed : Array Bool} {a : Act} {w w' : World} (hr : Region.ready md ops listed = [k]) (ho : ops[k]? = some o) (hg : Region.wanted o (yielded ops a.tmps) = true)
    (hrun : (execOp a.eval o).run P w = .ok (.value v) w') (hS : S w')
    (h : wpAnyH P md ops Q S fuel (listed.setIfInBounds k true) (a.put o.dst v) w') : wpAnyH P md ops Q S (fuel + 1) listed a w := by
  refine wpAnyH_all hr (by simp) fun i hi => ?_
  obtain rfl : i = k := by simpa using hi
  unfold wpOp
  rw [ho]
  simp only [hg, if_true]
  left
  unfold Oper.wp
  rw [hrun]
  exact ⟨hS, h⟩
end
end Go.Proofs.Ytagjepclobobjaa
