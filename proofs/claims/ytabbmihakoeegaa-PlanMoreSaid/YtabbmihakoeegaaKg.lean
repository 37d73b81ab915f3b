/- Texts It, Ir, Sa, Sb, Sc, Sd, Se, Sf, Sg in one file; each begins with a word on what it proves. -/
import Derived.StillTail
import Derived.OrdersHeld
import Derived.Deep.RegionHeld
import Derived.StillTailTactics
import Derived.Deep.Cut
import Derived.BigRegion
import Derived.Shelf.Abstract
import Derived.WalkKit
import Derived.Lib.Hide
import Derived.BigQuiet
import Derived.Deep.QuietTactic
import Derived.Test.YtabbmihakoeegaaKa
import Derived.Test.YtabbmihakoeegaaKb

/- A drawn region of which the last operations come behind all others, in order: the others in whatever order, with a condition held; then the last ones. Of any program. -/
namespace Go.Proofs.Ytabbmihakoeegaa
set_option linter.unusedVariables false
set_option linter.unusedSimpArgs false
section
variable {P : Program} {md : Region.Mode} {ops : Array Oper} {Q Q' : Exit → Act → World → Prop}

theorem upon_monoQ {o : Oper} {a : Act} {K K' : Act → World → Prop} (hK : ∀ a w, K a w → K' a w) (hQ : ∀ e a w, e ≠ Exit.normal → Q e a w → Q' e a w) :
    ∀ r, o.upon P a K Q r → o.upon P a K' Q' r := by
  have hl : LetsOut Q → LetsOut Q' := fun ⟨a, w, h⟩ => ⟨a, w, hQ _ _ _ (by simp) h⟩
  intro r h
  cases r with
  | ok n w' =>
    cases n <;> simp only [Oper.upon] at h ⊢ <;>
      first
        | exact hK _ _ h
        | exact Calls.mono h (fun e w'' he => by cases e <;> first | exact hK _ _ he | exact hQ _ _ _ (by simp) he | exact hl he)
        | exact Rows.mono h (fun _ _ he => hK _ _ he)
  | halt x w' => cases x <;> simp only [Oper.upon] at h ⊢ <;> first | exact hQ _ _ _ (by simp) h | exact h

theorem wpOp_monoQ {i : Nat} {a : Act} {w : World} {K K' : Act → World → Prop} (hK : ∀ a w, K a w → K' a w) (hQ : ∀ e a w, e ≠ Exit.normal → Q e a w → Q' e a w)
    (h : wpOp P ops Q i K a w) : wpOp P ops Q' i K' a w := by
  unfold wpOp at *
  split
  · exact hK _ _ (by simpa [*] using h)
  · rename_i o ho
    simp only [ho] at h
    split
    · rename_i hw
      simp only [hw, if_true] at h
      rcases h with h | ⟨h1, a', w', h2⟩
      · exact .inl (upon_monoQ hK hQ _ h)
      · exact .inr ⟨h1, a', w', hQ _ _ _ (by simp) h2⟩
    · rename_i hw; simp only [hw] at h; exact hK _ _ h

theorem wpAny_fuel1 : ∀ (f : Nat) (listed : Array Bool) (a : Act) (w : World), wpAny P md ops Q f listed a w → wpAny P md ops Q (f + 1) listed a w
  | 0, _, _, _, h => ⟨fun _ => h.2, by rw [h.1]; simp⟩
  | f + 1, _, _, _, h => ⟨h.1, fun i hi => wpOp_mono (fun a' w' h' => wpAny_fuel1 f _ a' w' h') (h.2 i hi)⟩
theorem wpAny_fuel (g : Nat) : ∀ (f : Nat) (listed : Array Bool) (a : Act) (w : World), wpAny P md ops Q g listed a w → wpAny P md ops Q (f + g) listed a w
  | 0, _, _, _, h => by rw [Nat.zero_add]; exact h
  | f + 1, _, _, _, h => by rw [show f + 1 + g = (f + g) + 1 by omega]; exact wpAny_fuel1 _ _ _ _ (wpAny_fuel g f _ _ _ h)

/-- The operations ahead of n wait for such alone as come ahead of them. -/
def backB (md : Region.Mode) (ops : Array Oper) (n : Nat) : Bool :=
  (List.range n).all fun i => match ops[i]? with
    | some o => o.after.all fun e => !Region.binds md e || decide (e.on < i)
    | none => false
theorem backB_spec {n i : Nat} {o : Oper} (h : backB md ops n = true) (hi : i < n) (ho : ops[i]? = some o) : ∀ e ∈ o.after, Region.binds md e = true → e.on < i := by
  have h1 := List.all_eq_true.1 h i (List.mem_range.2 hi)
  simp only [ho] at h1
  intro e he hb
  have h2 := Array.all_eq_true'.1 h1 e he
  rw [hb] at h2
  simpa using h2
theorem backB_some {n i : Nat} (h : backB md ops n = true) (hi : i < n) : ∃ o, ops[i]? = some o := by
  have h1 := List.all_eq_true.1 h i (List.mem_range.2 hi)
  cases h2 : ops[i]? with
  | none => rw [h2] at h1; cases h1
  | some o => exact ⟨o, rfl⟩

/-- The first n as they are, all others as if they had come up. -/
def TailRel (n : Nat) (listed listed' : Array Bool) : Prop := listed'.size = listed.size ∧ (∀ i, i < n → listed'[i]? = listed[i]?) ∧ ∀ t, n ≤ t → listed'.getD t true = true
theorem getD_of_get {l l' : Array Bool} {i : Nat} (h : l'[i]? = l[i]?) (d : Bool) : l'.getD i d = l.getD i d := by
  rw [Array.getD_eq_getD_getElem?, Array.getD_eq_getD_getElem?, h]
theorem TailRel.ready {n : Nat} {listed listed' : Array Bool} (hr : TailRel n listed listed') (hb : backB md ops n = true) (j : Nat) : j ∈ Region.ready md ops listed' ↔ (j < n ∧ j ∈ Region.ready md ops listed) := by
  rw [mem_ready, mem_ready]
  constructor
  · rintro ⟨h1, o, h2, h3⟩
    have hj : j < n := by
      rcases Nat.lt_or_ge j n with h | h
      · exact h
      · rw [hr.2.2 j h] at h1; cases h1
    refine ⟨hj, by rw [← getD_of_get (hr.2.1 j hj)]; exact h1, o, h2, fun e he hbi => ?_⟩
    have := backB_spec hb hj h2 e he hbi
    rw [← getD_of_get (hr.2.1 e.on (by omega))]
    exact h3 e he hbi
  · rintro ⟨hj, h1, o, h2, h3⟩
    refine ⟨by rw [getD_of_get (hr.2.1 j hj)]; exact h1, o, h2, fun e he hbi => ?_⟩
    have := backB_spec hb hj h2 e he hbi
    rw [getD_of_get (hr.2.1 e.on (by omega))]
    exact h3 e he hbi
theorem TailRel.set {n i : Nat} {listed listed' : Array Bool} (hr : TailRel n listed listed') : TailRel n (listed.setIfInBounds i true) (listed'.setIfInBounds i true) := by
  refine ⟨by simp [hr.1], fun j hj => ?_, fun t ht => ?_⟩
  · rw [Array.getElem?_setIfInBounds, Array.getElem?_setIfInBounds, hr.1, hr.2.1 j hj]
  · by_cases h : i = t
    · subst h
      rw [Array.getD_eq_getD_getElem?, Array.getElem?_setIfInBounds]
      rw [if_pos rfl]
      split <;> rfl
    · rw [getD_set_ne true h]; exact hr.2.2 t ht
/-- None may come up: all ahead of n have. -/
theorem all_listed {n : Nat} {listed : Array Bool} (hb : backB md ops n = true) (hsz : listed.size = ops.size) (h : ∀ j, j < n → j ∉ Region.ready md ops listed) : ∀ i, i < n → listed.getD i true = true := by
  intro i
  induction i using Nat.strongRecOn with
  | _ i ih =>
    intro hi
    cases hl : listed.getD i true with
    | true => rfl
    | false =>
      obtain ⟨o, ho⟩ := backB_some hb hi
      refine (h i hi (mem_ready.2 ⟨hl, o, ho, fun e he hbi => ?_⟩)).elim
      have h1 := backB_spec hb hi ho e he hbi
      have h2 := ih e.on h1 (by omega)
      cases h3 : listed.getD e.on false with
      | true => rfl
      | false =>
        have hlt : e.on < listed.size := by rw [hsz]; have := (Array.getElem?_eq_some_iff.1 ho).1; omega
        rw [getD_in hlt h3] at h2
        cases h2

/-- What must be so of a region's shape. -/
def tailB (l : List Oper) (n : Nat) : Bool :=
  decide (n < l.length) && Region.sinkB .any l.toArray n && Region.chainB .any l.toArray n && backB .any l.toArray n && Region.seqB .any l.toArray (l.drop n).length n (Array.replicate n true ++ Array.replicate (l.length - n) false)
/-- All that comes behind the first n: they are carried out in order. -/
def TailQ (P : Program) (l : List Oper) (n : Nat) (Q : Exit → Act → World → Prop) : Exit → Act → World → Prop
  | .normal, a, w => wpList P l.toArray Q (l.drop n) a w
  | e, a, w => Q e a w
theorem wpAny_of_tail {l : List Oper} {n : Nat} {S : World → Prop} (hB : tailB l n = true) :
    ∀ (f : Nat) (listed listed' : Array Bool) (a : Act) (w : World), HeadInv .any l.toArray n listed → TailRel n listed listed' →
      wpAnyH P .any l.toArray (TailQ P l n Q) S f listed' a w → wpAny P .any l.toArray Q (f + (l.drop n).length) listed a w := by
  unfold tailB at hB
  simp only [Bool.and_eq_true, decide_eq_true_eq] at hB
  obtain ⟨⟨⟨⟨hn, hs⟩, hc⟩, hb⟩, hq⟩ := hB
  have hend : ∀ (f : Nat) (listed listed' : Array Bool) (a : Act) (w : World), HeadInv .any l.toArray n listed → TailRel n listed listed' → Region.ready .any l.toArray listed' = [] → TailQ P l n Q .normal a w → wpAny P .any l.toArray Q (f + (l.drop n).length) listed a w := by
    intro f listed listed' a w inv hr h0 h
    have h1 : ∀ i, i < n → listed.getD i true = true := all_listed hb inv.size (fun j hj hm => by
      have := (hr.ready hb j).2 ⟨hj, hm⟩
      rw [h0] at this; cases this)
    have h2 : listed = Array.replicate n true ++ Array.replicate (l.length - n) false := by
      apply Array.ext
      · rw [inv.size]; simp; omega
      · intro i hi1 hi2
        have hi3 : i < l.length := by have := inv.size; simp at this; omega
        rcases Nat.lt_or_ge i n with h | h
        · have := h1 i h
          rw [Array.getD_eq_getD_getElem?, Array.getElem?_eq_getElem hi1, Option.getD_some] at this
          rw [this, Array.getElem_append_left (by simpa using h)]
          simp
        · have := inv.tail i h (by simpa using hi3)
          rw [Array.getD_eq_getD_getElem?, Array.getElem?_eq_getElem hi1, Option.getD_some] at this
          rw [this, Array.getElem_append_right (by simpa using h)]
          simp
    rw [h2]
    refine wpAny_fuel _ f _ a w (wpAny_of_seq (md := .any) (l.drop n) n _ a w (fun j => by simp [List.getElem?_drop]) hq h)
  intro f
  induction f with
  | zero => intro listed listed' a w inv hr h; exact hend 0 listed listed' a w inv hr h.1 h.2
  | succ f ih =>
    intro listed listed' a w inv hr h
    cases h0 : Region.ready .any l.toArray listed' with
    | nil => exact hend (f + 1) listed listed' a w inv hr h0 (h.1 h0)
    | cons i0 rs =>
      have hi0 : i0 ∈ Region.ready .any l.toArray listed' := by rw [h0]; simp
      obtain ⟨hi1, hi2⟩ := (hr.ready hb i0).1 hi0
      have hw := tail_waits hs hc (by simpa using hn) inv _ i0 rfl hi1 (mem_ready.1 hi2).1
      rw [show f + 1 + (l.drop n).length = (f + (l.drop n).length) + 1 by omega]
      refine ⟨fun h => (by rw [h] at hi2; cases hi2), fun j hj => ?_⟩
      have hjn : j < n := by
        rcases Nat.lt_or_ge j n with h | h
        · exact h
        · exact (hw j h hj).elim
      have hj' := (hr.ready hb j).2 ⟨hjn, hj⟩
      refine wpOp_monoQ (fun a' w' h' => ih _ _ a' w' (inv.set hj hjn) hr.set h'.2) (fun e a' w' he hx => ?_) (h.2 j hj')
      cases e <;> first | exact hx | exact (he rfl).elim
/-- THE BEGINNING: S is shown of the world behind the draw; then the first n in whatever order, the others as if they had come up; and behind them the others, in order. -/
theorem wp_region_tail {id : Nat} {a : Act} {w : World} {l : List Oper} (n : Nat) (L : Array Bool) (S : World → Prop) (hm : P.follows .mixedOrders = true) (hB : tailB l n = true) (hL : L = Array.replicate n false ++ Array.replicate (l.length - n) true) (hS : S w.drew)
    (h : S w.drew → wpAnyH P .any l.toArray (TailQ P l n Q) S n L a w.drew) : (Code.region id l.toArray true).wp P Q a w := by
  subst hL
  have hn : n < l.length := by
    unfold tailB at hB
    simp only [Bool.and_eq_true, decide_eq_true_eq] at hB
    exact hB.1.1.1.1
  refine wp_region_any hm ?_
  have := wpAny_of_tail hB n (Array.replicate l.toArray.size false) (Array.replicate n false ++ Array.replicate (l.length - n) true) a w.drew
    ⟨by simp, fun j oj _ hl => (by rw [getD_replicate_false] at hl; cases hl), fun t _ ht => getD_in (by simpa using ht) (getD_replicate_false _ _)⟩ ⟨by simp; omega, fun i hi => by
      rw [Array.getElem?_append_left (by simpa using hi)]
      simp [hi, show i < l.length by omega], fun t ht => by
      rw [Array.getD_eq_getD_getElem?]
      rcases Nat.lt_or_ge t l.length with h | h
      · rw [Array.getElem?_append_right (by simpa using ht), Array.getElem?_replicate]; split <;> rfl
      · rw [Array.getElem?_eq_none (by simp; omega)]; rfl⟩ (h hS)
  rw [show n + (l.drop n).length = l.toArray.size by simp; omega] at this
  exact this
end

end Go.Proofs.Ytabbmihakoeegaa

/- A drawn region inside a round, by the laws for one that is in no round. -/
namespace Go.Proofs.Ytabbmihakoeegaa
set_option linter.unusedVariables false
set_option linter.unusedSimpArgs false
open Go.RowKit

section
variable {P : Program} {ops : Array Oper} {md : Region.Mode} {l : Nat}
theorem rows_in {row : String} {args : Array Value} {w : World} {R : Value → World → Prop} (h : Rows P row args w R) : RowsIn (Fence.wide.inRound l) 0 P row args w R :=
  fun c cs _ => let ⟨v, w', r, s⟩ := h c cs; ⟨v, w', r, stepsIn_wide.2 s⟩
theorem oper_in {o : Oper} {a : Act} {w : World} {K : Act → World → Prop} {Q : Exit → Act → World → Prop} (hd : ∀ c, o.op ≠ .defer c) (h : o.wp P a w K Q) : o.wpIn (Fence.wide.inRound l) 0 P a w K Q := by
  refine ⟨fun _ _ => trivial, ?_⟩
  rw [show (Fence.wide.inRound l).round = some l from rfl, Oper.semAt_some l a.eval o hd]
  unfold Oper.wp at h
  generalize (execOp a.eval o).run P w = r at *
  cases r with
  | ok n w' =>
    cases n <;> simp only [Oper.upon] at h <;> simp only [Oper.uponIn]
    case value => exact h
    case skip => exact h
    case defer => exact h
    case enter f args => exact ⟨(fun h => by cases h), CallsIn.inRound l (callsIn_wide.2 h)⟩
    case row row args => exact ⟨(fun h => by cases h), rows_in h⟩
  | halt x w' =>
    cases x <;> simp only [Oper.upon] at h <;> simp only [Oper.uponIn]
    case panic => exact h
theorem wpAnyIn_of {Q : Exit → Act → World → Prop} (hnd : noDefer ops = true) (hnl : ¬ LetsOut Q) : ∀ (fuel : Nat) (listed : Array Bool) (a : Act) (w : World), wpAny P md ops Q fuel listed a w → wpAnyIn (Fence.wide.inRound l) 0 P md ops Q fuel listed a w
  | 0, _, _, _, h => h
  | f + 1, listed, a, w, h => by
    refine ⟨h.1, fun i hi => ?_⟩
    have h1 := h.2 i hi
    unfold wpOp at h1
    unfold wpOpIn
    cases ho : ops[i]? with
    | none => simp only [ho] at h1; exact wpAnyIn_of hnd hnl f _ _ _ h1
    | some o =>
      simp only [ho] at h1
      simp only
      split
      · rename_i hw
        rw [if_pos hw] at h1
        rcases h1 with h1 | h1
        · exact Oper.wpIn_mono (fun a' w' h' => wpAnyIn_of hnd hnl f _ _ _ h') (oper_in (noDefer_spec hnd i o ho) h1)
        · exact absurd h1.2 hnl
      · rename_i hw
        rw [if_neg hw] at h1
        exact ⟨fun _ _ => trivial, wpAnyIn_of hnd hnl f _ _ _ h1⟩
/-- The beginning: S is shown of the world behind the draw. -/
theorem region_heldIn {S : World → Prop} {id : Nat} {Q : Exit → Act → World → Prop} {a : Act} {w : World} (hm : P.follows .mixedOrders = true) (hnd : noDefer ops = true) (hnl : ¬ LetsOut Q) (hS : S w.drew)
    (h : S w.drew → wpAnyH P .any ops Q S ops.size (Array.replicate ops.size false) a w.drew) : (Code.region id ops true).wpIn (Fence.wide.inRound l) 0 P Q a w :=
  wpIn_region_any hm (wpAnyIn_of hnd hnl _ _ _ _ (wpAny_of_held _ _ _ _ (h hS)))
/-- The first n in whatever order, with S; behind them the others, in order. -/
theorem region_tailIn {S : World → Prop} {id : Nat} {Q : Exit → Act → World → Prop} {a : Act} {w : World} {ls : List Oper} (n : Nat) (L : Array Bool) (hm : P.follows .mixedOrders = true) (hB : tailB ls n = true) (hnd : noDefer ls.toArray = true) (hnl : ¬ LetsOut Q) (hL : L = Array.replicate n false ++ Array.replicate (ls.length - n) true) (hS : S w.drew)
    (h : S w.drew → wpAnyH P .any ls.toArray (TailQ P ls n Q) S n L a w.drew) : (Code.region id ls.toArray true).wpIn (Fence.wide.inRound l) 0 P Q a w := by
  subst hL
  have hn : n < ls.length := by
    unfold tailB at hB
    simp only [Bool.and_eq_true, decide_eq_true_eq] at hB
    exact hB.1.1.1.1
  refine wpIn_region_any hm (wpAnyIn_of hnd hnl _ _ _ _ ?_)
  have := wpAny_of_tail hB n (Array.replicate ls.toArray.size false) (Array.replicate n false ++ Array.replicate (ls.length - n) true) a w.drew
    ⟨by simp, fun j oj _ hl => (by rw [getD_replicate_false] at hl; cases hl), fun t _ ht => getD_in (by simpa using ht) (getD_replicate_false _ _)⟩ ⟨by simp; omega, fun i hi => by
      rw [Array.getElem?_append_left (by simpa using hi)]
      simp [hi, show i < ls.length by omega], fun t ht => by
      rw [Array.getD_eq_getD_getElem?]
      rcases Nat.lt_or_ge t ls.length with h | h
      · rw [Array.getElem?_append_right (by simpa using ht), Array.getElem?_replicate]; split <;> rfl
      · rw [Array.getElem?_eq_none (by simp; omega)]; rfl⟩ (h hS)
  rw [show n + (ls.drop n).length = ls.toArray.size by simp; omega] at this
  exact this
/-- An operation that comes up alone, and yields a value. -/
theorem wpAnyH_run {S : World → Prop} {Q : Exit → Act → World → Prop} {k fuel : Nat} {o : Oper} {v : Value} {listed : Array Bool} {a : Act} {w w' : World} (hr : Region.ready md ops listed = [k]) (ho : ops[k]? = some o) (hg : Region.wanted o (yielded ops a.tmps) = true)
    (hrun : (execOp a.eval o).run P w = .ok (.value v) w') (hS : S w')
    (h : wpAnyH P md ops Q S fuel (listed.setIfInBounds k true) (a.put o.dst v) w') : wpAnyH P md ops Q S (fuel + 1) listed a w := by
  refine wpAnyH_all hr (by simp) fun i hi => ?_
  obtain rfl : i = k := by simpa using hi
  unfold wpOp
  rw [ho]
  simp only [hg, if_true]
  left
  unfold Oper.wp
  rw [hrun]
  exact ⟨hS, h⟩
end
end Go.Proofs.Ytabbmihakoeegaa

/- The stable sort, in plain words: lists of numbers that come in order, sorted by a strict total order. -/
namespace Go.Proofs.Ytabbmihakoeegaa
set_option linter.unusedVariables false
set_option linter.unusedSimpArgs false

namespace Stab
/-- A strict total order. -/
structure STO (lt : Nat → Nat → Prop) : Prop where
  irr : ∀ x, ¬ lt x x
  tr : ∀ {x y z}, lt x y → lt y z → lt x z
  tot : ∀ {x y}, x ≠ y → lt x y ∨ lt y x

variable {lt : Nat → Nat → Prop}
theorem STO.not (h : STO lt) {x y : Nat} (hn : x ≠ y) (h1 : ¬ lt x y) : lt y x := (h.tot hn).resolve_left h1
theorem STO.asymm (h : STO lt) {x y : Nat} (h1 : lt x y) : ¬ lt y x := fun h2 => h.irr x (h.tr h1 h2)

/-- Two elements of a list change places. -/
def swp (l : List Nat) (i j : Nat) : List Nat := (l.set i (l.getD j 0)).set j (l.getD i 0)
theorem swp_length (l : List Nat) (i j : Nat) : (swp l i j).length = l.length := by simp [swp]
theorem getD_mid (a c : List Nat) (x : Nat) : (a ++ x :: c).getD a.length 0 = x := by simp [List.getD]
theorem set_mid (a c : List Nat) (x y : Nat) : (a ++ x :: c).set a.length y = a ++ y :: c := by simp
theorem swp_two (a b c : List Nat) (x y : Nat) : swp (a ++ x :: b ++ y :: c) a.length (a.length + b.length + 1) = a ++ y :: b ++ x :: c := by
  have h1 : (a ++ x :: b ++ y :: c).getD a.length 0 = x := by rw [List.append_assoc, List.cons_append]; exact getD_mid a _ x
  have h2 : (a ++ x :: b ++ y :: c).getD (a.length + b.length + 1) 0 = y := by
    have := getD_mid (a ++ x :: b) c y
    rwa [List.length_append, List.length_cons, ← Nat.add_assoc] at this
  unfold swp
  rw [h1, h2]
  have h3 : (a ++ x :: b ++ y :: c).set a.length y = a ++ y :: b ++ y :: c := by
    rw [List.append_assoc, List.cons_append, set_mid, List.append_assoc, List.cons_append]
  rw [h3]
  have := set_mid (a ++ y :: b) c y x
  rwa [List.length_append, List.length_cons, ← Nat.add_assoc] at this
theorem swp_comm (l : List Nat) (i j : Nat) (hi : i < l.length) (hj : j < l.length) : swp l i j = swp l j i := by
  unfold swp
  by_cases h : i = j
  · subst h; rfl
  · rw [List.set_comm _ _ h]
/-- Next to each other. -/
theorem swp_next (a c : List Nat) (x y : Nat) : swp (a ++ x :: y :: c) a.length (a.length + 1) = a ++ y :: x :: c := by
  have := swp_two a [] c x y
  simpa using this

/-- All of one list come before all of another one. -/
def Bef (lt : Nat → Nat → Prop) (l r : List Nat) : Prop := ∀ x ∈ l, ∀ y ∈ r, lt x y
/-- A list is sorted. -/
def Srt (lt : Nat → Nat → Prop) (l : List Nat) : Prop := l.Pairwise lt
theorem Srt.append {l r : List Nat} : Srt lt (l ++ r) ↔ Srt lt l ∧ Srt lt r ∧ Bef lt l r := by
  unfold Srt Bef
  rw [List.pairwise_append]
theorem Bef.perm {l l' r r' : List Nat} (h : Bef lt l r) (hl : l'.Perm l) (hr : r'.Perm r) : Bef lt l' r' :=
  fun x hx y hy => h x (hl.mem_iff.1 hx) y (hr.mem_iff.1 hy)
theorem Bef.mono {l l' r r' : List Nat} (h : Bef lt l r) (hl : ∀ x ∈ l', x ∈ l) (hr : ∀ x ∈ r', x ∈ r) : Bef lt l' r' :=
  fun x hx y hy => h x (hl x hx) y (hr y hy)
theorem Bef.app_l {l1 l2 r : List Nat} : Bef lt (l1 ++ l2) r ↔ Bef lt l1 r ∧ Bef lt l2 r :=
  ⟨fun h => ⟨h.mono (by simp +contextual) (fun _ => id), h.mono (by simp +contextual) (fun _ => id)⟩, fun h x hx y hy => (List.mem_append.1 hx).elim (fun k => h.1 x k y hy) (fun k => h.2 x k y hy)⟩
theorem Bef.app_r {l r1 r2 : List Nat} : Bef lt l (r1 ++ r2) ↔ Bef lt l r1 ∧ Bef lt l r2 :=
  ⟨fun h => ⟨h.mono (fun _ => id) (by simp +contextual), h.mono (fun _ => id) (by simp +contextual)⟩, fun h x hx y hy => (List.mem_append.1 hy).elim (fun k => h.1 x hx y k) (fun k => h.2 x hx y k)⟩

/-- Where two sorted lists are cut, so that what stands left of the cuts comes before all else. -/
theorem cross (ho : STO lt) {l1 l2 r1 r2 : List Nat} (hl : Srt lt (l1 ++ l2)) (hr : Srt lt (r1 ++ r2))
    (h1 : ∀ a x r b, l1 = a ++ [x] → r2 = r :: b → lt x r) (h2 : ∀ a x r b, r1 = a ++ [x] → l2 = r :: b → lt x r) : Bef lt (l1 ++ r1) (l2 ++ r2) := by
  obtain ⟨k1, k2, k3⟩ := Srt.append.1 hl
  obtain ⟨k4, k5, k6⟩ := Srt.append.1 hr
  have aux : ∀ {p q : List Nat}, Srt lt p → Srt lt q → (∀ a x r b, p = a ++ [x] → q = r :: b → lt x r) → Bef lt p q := by
    intro p q hp hq h x hx y hy
    obtain ⟨a, z, rfl⟩ : ∃ a z, p = a ++ [z] := by
      rcases List.eq_nil_or_concat p with rfl | ⟨a, z, h⟩
      · cases hx
      · exact ⟨a, z, by simpa using h⟩
    obtain ⟨r, b, rfl⟩ : ∃ r b, q = r :: b := by cases q with | nil => cases hy | cons r b => exact ⟨r, b, rfl⟩
    have e1 := h a z r b rfl rfl
    have e2 : x = z ∨ lt x z := by
      rcases List.mem_append.1 hx with k | k
      · exact .inr ((Srt.append.1 hp).2.2 x k z (by simp))
      · exact .inl (by simpa using k)
    have e3 : r = y ∨ lt r y := by
      rcases List.mem_cons.1 hy with k | k
      · exact .inl k.symm
      · exact .inr ((List.pairwise_cons.1 hq).1 y k)
    rcases e2 with rfl | e2 <;> rcases e3 with rfl | e3
    · exact e1
    · exact ho.tr e1 e3
    · exact ho.tr e2 e1
    · exact ho.tr e2 (ho.tr e1 e3)
  rw [Bef.app_l, Bef.app_r, Bef.app_r]
  exact ⟨⟨k3, aux k1 k5 h1⟩, aux k4 k2 h2, k6⟩
/-- A sorted list of the same elements is the same. -/
theorem srt_unique (ho : STO lt) : ∀ {l r : List Nat}, Srt lt l → Srt lt r → l.Perm r → l = r
  | [], r, _, _, h => (List.nil_perm.1 h).symm
  | x :: l, r, hl, hr, h => by
    cases r with
    | nil => exact absurd h.length_eq (by simp)
    | cons y r =>
      have hxy : x = y := by
        by_cases e : x = y
        · exact e
        · have hx : x ∈ y :: r := h.mem_iff.1 (by simp)
          have hy : y ∈ x :: l := h.mem_iff.2 (by simp)
          have e1 : x ∈ r := by rcases List.mem_cons.1 hx with k | k; exact absurd k e; exact k
          have e2 : y ∈ l := by rcases List.mem_cons.1 hy with k | k; exact absurd k.symm e; exact k
          exact absurd ((List.pairwise_cons.1 hr).1 x e1) (ho.asymm ((List.pairwise_cons.1 hl).1 y e2))
      subst hxy
      rw [srt_unique ho (List.pairwise_cons.1 hl).2 (List.pairwise_cons.1 hr).2 (List.perm_cons x |>.1 h)]
/-! ### the rounds of the loops -/
/-- Two ranges that change places, some places done. -/
def sr (pre X mid Y post : List Nat) (i : Nat) : List Nat := pre ++ Y.take i ++ X.drop i ++ mid ++ X.take i ++ Y.drop i ++ post
theorem sr_start (pre X mid Y post : List Nat) : sr pre X mid Y post 0 = pre ++ X ++ mid ++ Y ++ post := by simp [sr]
theorem sr_end (pre X mid Y post : List Nat) (h : X.length = Y.length) : sr pre X mid Y post X.length = pre ++ Y ++ mid ++ X ++ post := by
  unfold sr
  rw [List.drop_length, List.take_length, h, List.take_length, List.drop_length]; simp
theorem sr_next (pre X mid Y post : List Nat) (h : X.length = Y.length) (i : Nat) (hi : i < X.length) :
    swp (sr pre X mid Y post i) (pre.length + i) (pre.length + X.length + mid.length + i) = sr pre X mid Y post (i + 1) := by
  have hy : i < Y.length := by omega
  have e1 : sr pre X mid Y post i = (pre ++ Y.take i) ++ X[i] :: (X.drop (i + 1) ++ mid ++ X.take i) ++ Y[i] :: (Y.drop (i + 1) ++ post) := by
    unfold sr
    rw [List.drop_eq_getElem_cons hi, List.drop_eq_getElem_cons hy]; simp only [List.append_assoc, List.cons_append, List.nil_append]
  have e2 := swp_two (pre ++ Y.take i) (X.drop (i + 1) ++ mid ++ X.take i) (Y.drop (i + 1) ++ post) X[i] Y[i]
  rw [e1]
  rw [show (pre ++ Y.take i).length = pre.length + i by simp; omega, show pre.length + i + (X.drop (i + 1) ++ mid ++ X.take i).length + 1 = pre.length + X.length + mid.length + i by simp; omega] at e2
  rw [e2]
  unfold sr
  rw [List.take_succ_eq_append_getElem hi, List.take_succ_eq_append_getElem hy]; simp only [List.append_assoc, List.cons_append, List.nil_append]
/-- One element that goes through others. -/
def mv (pre : List Nat) (x : Nat) (S post : List Nat) (j : Nat) : List Nat := pre ++ S.take j ++ x :: (S.drop j ++ post)
theorem mv_zero (pre : List Nat) (x : Nat) (S post : List Nat) : mv pre x S post 0 = pre ++ x :: (S ++ post) := by simp [mv]
theorem mv_all (pre : List Nat) (x : Nat) (S post : List Nat) : mv pre x S post S.length = pre ++ S ++ x :: post := by simp [mv]
theorem mv_next (pre : List Nat) (x : Nat) (S post : List Nat) (j : Nat) (hj : j < S.length) : swp (mv pre x S post j) (pre.length + j) (pre.length + j + 1) = mv pre x S post (j + 1) := by
  have e2 := swp_next (pre ++ S.take j) (S.drop (j + 1) ++ post) x S[j]
  rw [show (pre ++ S.take j).length = pre.length + j by simp; omega] at e2
  unfold mv
  rw [List.drop_eq_getElem_cons hj, List.take_succ_eq_append_getElem hj]
  rw [List.cons_append, e2]; simp only [List.append_assoc, List.cons_append, List.nil_append]
theorem mv_back (pre : List Nat) (x : Nat) (S post : List Nat) (j : Nat) (hj : j < S.length) : swp (mv pre x S post (j + 1)) (pre.length + j + 1) (pre.length + j) = mv pre x S post j := by
  have e2 := swp_next (pre ++ S.take j) (S.drop (j + 1) ++ post) S[j] x
  rw [show (pre ++ S.take j).length = pre.length + j by simp; omega] at e2
  have hl : mv pre x S post (j + 1) = (pre ++ S.take j) ++ S[j] :: x :: (S.drop (j + 1) ++ post) := by
    unfold mv; rw [List.take_succ_eq_append_getElem hj]; simp only [List.append_assoc, List.cons_append, List.nil_append]
  rw [hl, swp_comm _ _ _ (by simp; omega) (by simp; omega), e2]
  unfold mv
  rw [List.drop_eq_getElem_cons hj]; simp only [List.append_assoc, List.cons_append, List.nil_append]
theorem mv_at (pre : List Nat) (x : Nat) (S post : List Nat) (j : Nat) (hj : j ≤ S.length) : (mv pre x S post j)[pre.length + j]? = some x := by
  unfold mv
  rw [List.getElem?_append_right (by simp; omega)]
  rw [show pre.length + j - (pre ++ S.take j).length = 0 by simp; omega]; rfl
theorem mv_before (pre : List Nat) (x : Nat) (S post : List Nat) (j : Nat) (hj : j < S.length) : (mv pre x S post (j + 1))[pre.length + j]? = some S[j] := by
  unfold mv
  rw [List.append_assoc, List.getElem?_append_right (by omega), List.getElem?_append_left (by simp; omega)]
  rw [show pre.length + j - pre.length = j by omega, List.getElem?_take_of_lt (by omega), List.getElem?_eq_getElem hj]
theorem mv_perm (pre : List Nat) (x : Nat) (S post : List Nat) (j : Nat) : (mv pre x S post j).Perm (pre ++ x :: (S ++ post)) := by
  unfold mv
  rw [List.append_assoc]
  refine List.Perm.append_left pre ?_
  have h1 : (S.take j ++ x :: (S.drop j ++ post)).Perm (x :: (S.take j ++ (S.drop j ++ post))) := List.perm_middle
  rw [← List.append_assoc, List.take_append_drop] at h1
  exact h1
/-- Put where it belongs. -/
theorem srt_put (ho : STO lt) {S : List Nat} (hs : Srt lt S) {x : Nat} {j : Nat} (hj : j ≤ S.length) (hgt : ∀ y ∈ S.drop j, lt x y) (hlt : ∀ y ∈ S.take j, lt y x) : Srt lt (S.take j ++ x :: S.drop j) := by
  have h := Srt.append.1 ((List.take_append_drop j S).symm ▸ hs : Srt lt (S.take j ++ S.drop j))
  exact Srt.append.2 ⟨h.1, List.pairwise_cons.2 ⟨hgt, h.2.1⟩, fun y hy z hz => by
    rcases List.mem_cons.1 hz with rfl | hz
    · exact hlt y hy
    · exact h.2.2 y hy z hz⟩
theorem srt_below (ho : STO lt) {S : List Nat} (hs : Srt lt S) {x : Nat} {j : Nat} (hj : j < S.length) (h : lt S[j] x) : ∀ y ∈ S.take (j + 1), lt y x := by
  intro y hy
  rw [List.take_succ_eq_append_getElem hj] at hy
  have hs' : Srt lt (S.take j ++ S.drop j) := (List.take_append_drop j S).symm ▸ hs
  rw [List.drop_eq_getElem_cons hj] at hs'
  rcases List.mem_append.1 hy with k | k
  · exact ho.tr ((Srt.append.1 hs').2.2 y k S[j] (List.mem_cons_self ..)) h
  · rw [List.mem_singleton.1 k]; exact h
theorem srt_above (ho : STO lt) {S : List Nat} (hs : Srt lt S) {x : Nat} {j : Nat} (hj : j < S.length) (h : lt x S[j]) : ∀ y ∈ S.drop j, lt x y := by
  intro y hy
  have hs' : Srt lt (S.take j ++ S.drop j) := (List.take_append_drop j S).symm ▸ hs
  rw [List.drop_eq_getElem_cons hj] at hs' hy
  rcases List.mem_cons.1 hy with rfl | k
  · exact h
  · exact ho.tr h ((List.pairwise_cons.1 (Srt.append.1 hs').2.1).1 y k)
/-! ### blocks -/
/-- Numbers of one list are below those of another one. -/
def Nb (l r : List Nat) : Prop := ∀ x ∈ l, ∀ y ∈ r, x < y
theorem Nb.perm {l l' r r' : List Nat} (h : Nb l r) (hl : l'.Perm l) (hr : r'.Perm r) : Nb l' r' := fun x hx y hy => h x (hl.mem_iff.1 hx) y (hr.mem_iff.1 hy)
theorem Nb.mono {l l' r r' : List Nat} (h : Nb l r) (hl : ∀ x ∈ l', x ∈ l) (hr : ∀ x ∈ r', x ∈ r) : Nb l' r' := fun x hx y hy => h x (hl x hx) y (hr y hy)
/-- Sorted blocks of one size, the last one of no more. -/
inductive Ch (lt : Nat → Nat → Prop) (bs : Nat) : List Nat → Prop
  | last (B : List Nat) : B.length ≤ bs → Srt lt B → Ch lt bs B
  | more (B T : List Nat) : B.length = bs → Srt lt B → Nb B T → Ch lt bs T → Ch lt bs (B ++ T)
theorem Ch.one {bs : Nat} {l : List Nat} (h : Ch lt bs l) (hl : l.length ≤ bs) : Srt lt l := by
  cases h with
  | last _ _ h => exact h
  | more B T h1 h2 _ _ =>
    have : T = [] := by
      rw [List.length_append] at hl
      exact List.length_eq_zero_iff.1 (by omega)
    rw [this, List.append_nil]; exact h2
/-- The first block, and the rest. -/
theorem Ch.split {bs : Nat} {l : List Nat} (h : Ch lt bs l) (hl : bs < l.length) : ∃ B T, l = B ++ T ∧ B.length = bs ∧ Srt lt B ∧ Nb B T ∧ Ch lt bs T := by
  cases h with
  | last _ h1 _ => omega
  | more B T h1 h2 h3 h4 => exact ⟨B, T, rfl, h1, h2, h3, h4⟩
/-- What stands ahead of the rest. -/
def Kp (lt : Nat → Nat → Prop) (bs : Nat) (D T : List Nat) : Prop := ∀ T', T'.Perm T → Ch lt bs T' → Ch lt bs (D ++ T')
theorem Kp.nil (bs : Nat) (T : List Nat) : Kp lt bs [] T := fun _ _ h => h
theorem Kp.next {bs : Nat} {D B T M : List Nat} (h : Kp lt bs D (B ++ T)) (hm : M.Perm B) (hb : B.length = bs) (hs : Srt lt M) (hn : Nb B T) : Kp lt bs (D ++ M) T := by
  intro T' hp hc
  rw [List.append_assoc]
  exact h _ (hm.append hp) (.more M T' (hm.length_eq.trans hb) hs (hn.perm hm hp) hc)
theorem Kp.end {bs : Nat} {D T M : List Nat} (h : Kp lt bs D T) (hm : M.Perm T) (hb : T.length ≤ bs) (hs : Srt lt M) : Ch lt bs (D ++ M) :=
  h M hm (.last M (by rw [hm.length_eq]; exact hb) hs)
end Stab

end Go.Proofs.Ytabbmihakoeegaa

/- The stable sort, walked: ranges that change places. -/
namespace Go.Proofs.Ytabbmihakoeegaa
set_option linter.unusedVariables false
set_option linter.unusedSimpArgs false
open Go.RowKit Go.Shelf
attribute [local go_sem] Oper.semAt_some
open Stab

/-- A row that holds numbers. -/
def RowL (blk : Nat) (l : List Nat) (W : World) : Prop := ∃ cs : Array Value, W.heap[blk]? = some (.cells cs 70 (0, 0)) ∧ ∀ i x : Nat, l[i]? = some x → cs[i]? = some (Value.int .u64 (x : Int))
section
variable {blk : Nat} {l : List Nat} {W W' : World}
theorem RowL.cell (h : RowL blk l W) {i x : Nat} (hx : l[i]? = some x) : W.cell? ⟨blk, i, none⟩ = some (.int .u64 (x : Int)) := by
  obtain ⟨cs, h1, h2⟩ := h
  rw [cell_of_row _ _ _ _ _ _ h1]
  exact h2 i x hx
theorem RowL.frozen (h : RowL blk l W) (k : Nat) : W.frozen? ⟨blk, k, none⟩ = false := by
  obtain ⟨cs, h1, _⟩ := h
  exact frozen_of_row _ _ k _ _ h1
theorem RowL.lt (h : RowL blk l W) : blk < W.heap.size := by
  obtain ⟨cs, h1, _⟩ := h
  exact lt_of_block h1
theorem RowL.block (h : RowL blk l W) (e : W'.heap[blk]? = W.heap[blk]?) : RowL blk l W' := by
  obtain ⟨cs, h1, h2⟩ := h
  exact ⟨cs, e.trans h1, h2⟩
theorem RowL.later (h : RowL blk l W) (hb : Below W.heap.size W W') : RowL blk l W' := h.block (hb.block _ h.lt)
theorem RowL.drew (h : RowL blk l W) : RowL blk l W.drew := h
theorem RowL.drewN (h : RowL blk l W) (n : Nat) : RowL blk l (W.drewN n) := h
theorem RowL.set (h : RowL blk l W) {i x : Nat} (hx : l[i]? = some x) (y : Nat) : RowL blk (l.set i y) (W.setCell ⟨blk, i, none⟩ (.int .u64 (y : Int))) := by
  obtain ⟨cs, h1, h2⟩ := h
  have hi := h2 i x hx
  have his : i < cs.size := (Array.getElem?_eq_some_iff.1 hi).1
  refine ⟨cs.setIfInBounds i (.int .u64 (y : Int)), by simp [World.setCell, Array.getElem?_modify, h1], fun j z hz => ?_⟩
  by_cases e : i = j
  · subst e
    rw [List.getElem?_set_self (List.getElem?_eq_some_iff.1 hx).1] at hz
    rw [← Option.some.inj hz]
    simp [his]
  · rw [List.getElem?_set_ne e] at hz
    rw [Array.getElem?_setIfInBounds_ne e]
    exact h2 j z hz
theorem RowL.swap (h : RowL blk l W) {i j x y : Nat} (hi : l[i]? = some x) (hj : l[j]? = some y) :
    RowL blk (swp l i j) ((W.setCell ⟨blk, i, none⟩ (.int .u64 (y : Int))).setCell ⟨blk, j, none⟩ (.int .u64 (x : Int))) := by
  have e1 : l.getD i 0 = x := by simp [List.getD, hi]
  have e2 : l.getD j 0 = y := by simp [List.getD, hj]
  unfold swp
  rw [e1, e2]
  by_cases e : i = j
  · subst e
    have hy : (l.set i y)[i]? = some y := List.getElem?_set_self (List.getElem?_eq_some_iff.1 hi).1
    exact (h.set hi y).set hy x
  · exact (h.set hi y).set (by rw [List.getElem?_set_ne e]; exact hj) x
theorem keeps_two {i j : Nat} {u v : Value} : Keeps (fun k => k = blk) W ((W.setCell ⟨blk, i, none⟩ u).setCell ⟨blk, j, none⟩ v) :=
  (Keeps.setCell (Mut := fun k => k = blk) W ⟨blk, i, none⟩ u rfl).trans (Keeps.setCell (Mut := fun k => k = blk) _ ⟨blk, j, none⟩ v rfl)
end
/-- What a region that lets two places change reads. -/
def S2r (blk i j x y : Nat) (W : World) : Prop := W.cell? ⟨blk, i, none⟩ = some (.int .u64 (x : Int)) ∧ W.cell? ⟨blk, j, none⟩ = some (.int .u64 (y : Int))
theorem sr_at1 (pre X mid Y post : List Nat) (h : X.length = Y.length) (i : Nat) (hi : i < X.length) : (sr pre X mid Y post i)[pre.length + i]? = some X[i] := by
  unfold sr
  rw [List.drop_eq_getElem_cons hi]
  have e : (pre ++ Y.take i).length = pre.length + i := by simp; omega
  simp only [List.append_assoc, List.cons_append]
  rw [← List.append_assoc, List.getElem?_append_right (by omega), e, Nat.sub_self]; rfl
theorem sr_at2 (pre X mid Y post : List Nat) (h : X.length = Y.length) (i : Nat) (hi : i < X.length) : (sr pre X mid Y post i)[pre.length + X.length + mid.length + i]? = some (Y[i]'(by omega)) := by
  unfold sr
  have hy : i < Y.length := by omega
  rw [List.drop_eq_getElem_cons hy]
  have e : (pre ++ Y.take i ++ X.drop i ++ mid ++ X.take i).length = pre.length + X.length + mid.length + i := by simp; omega
  rw [List.append_assoc (pre ++ Y.take i ++ X.drop i ++ mid ++ X.take i), List.getElem?_append_right (by omega), e, Nat.sub_self]; rfl
theorem sr_length (pre X mid Y post : List Nat) (h : X.length = Y.length) (i : Nat) (hi : i ≤ X.length) : (sr pre X mid Y post i).length = (pre ++ X ++ mid ++ Y ++ post).length := by
  unfold sr; simp; omega
set_option maxRecDepth 100000 in
set_option maxHeartbeats 2000000 in
theorem swapRange_any (blk n cap a b c : Nat) (cv : Value) (pre X mid Y post : List Nat) (hxy : X.length = Y.length) (hn : n = (pre ++ X ++ mid ++ Y ++ post).length) (hs : n < 1099511627776) (w : World) (hr : RowL blk (pre ++ X ++ mid ++ Y ++ post) w)
    (ha : a = pre.length) (hb : b = pre.length + X.length + mid.length) (hc : c = X.length) :
    Calls Try.prog 103 #[.slice (some ⟨blk, 0, none⟩) n cap, .int .i64 a, .int .i64 b, .int .i64 c, cv] w fun e w' => e = .returned (.tuple #[]) ∧ RowL blk (pre ++ Y ++ mid ++ X ++ post) w' ∧ Keeps (fun k => k = blk) w w' := by
  have hlen : n = pre.length + X.length + mid.length + Y.length + post.length := by rw [hn]; simp; omega
  have HR := Lib.hid hr
  have HA := Lib.hid ha
  have HB := Lib.hid hb
  have HC := Lib.hid hc
  have HN := Lib.hid hlen
  have HXY := Lib.hid hxy
  clear hr hn ha hb hc hlen hxy
  go_enter Try.func103, Try.ntmps103
  go_wp2
  go_loopw [10] (fun k wr => ∃ i : Nat, i ≤ X.length ∧ k = .int .i64 i ∧ RowL blk (sr pre X mid Y post i) wr ∧ Keeps (fun k => k = blk) w wr) (fun k _ => X.length - (intOf k).toNat)
  case atStart => exact ⟨0, Nat.zero_le _, rfl, by rw [sr_start]; exact HR.out, Keeps.refl _ _⟩
  case round =>
    obtain ⟨i, hi, rfl, hrow, hk⟩ := hrel
    have HW := Lib.hid hrow
    have HK := Lib.hid hk
    clear hrow hk
    by_cases hli : i < X.length
    case neg =>
      have hd : decide ((i : Int) < (c : Int)) = false := decide_eq_false (by have := HC.out; omega)
      have hd2 : ¬ i < c := by have := HC.out; omega
      go_wp2
      go_end0
      exact ⟨rfl, by have h1 := HW.out; rw [show i = X.length by omega, sr_end _ _ _ _ _ HXY.out] at h1; exact h1, HK.out⟩
    have ha := HA.out
    have hb := HB.out
    have hc := HC.out
    have hlen := HN.out
    have hxy := HXY.out
    have hd : decide ((i : Int) < (c : Int)) = true := decide_eq_true (by omega)
    have hd2 : i < c := by omega
    obtain ⟨x, hx⟩ : ∃ x, x = X[i] := ⟨_, rfl⟩
    obtain ⟨y, hy⟩ : ∃ y, y = Y[i]'(by omega) := ⟨_, rfl⟩
    have e1 := sr_at1 pre X mid Y post hxy i hli
    have e2 := sr_at2 pre X mid Y post hxy i hli
    rw [← hx] at e1
    rw [← hy] at e2
    obtain ⟨i1, hi1⟩ : ∃ k, k = pre.length + i := ⟨_, rfl⟩
    obtain ⟨i2, hi2⟩ : ∃ k, k = pre.length + X.length + mid.length + i := ⟨_, rfl⟩
    have hswp := sr_next pre X mid Y post hxy i hli
    rw [← hi1] at e1 hswp
    rw [← hi2] at e2 hswp
    have HSW := Lib.hid hswp
    have E1 := Lib.hid e1
    have E2 := Lib.hid e2
    have hw1 : IntKind.i64.wrap ((a : Int) + (i : Int)) = (i1 : Int) := by rw [IntWalk.i64_in _ (by omega)]; omega
    have hw2 : IntKind.i64.wrap ((b : Int) + (i : Int)) = (i2 : Int) := by rw [IntWalk.i64_in _ (by omega)]; omega
    have hwi : IntKind.i64.wrap ((i : Int) + 1) = ((i + 1 : Nat) : Int) := by rw [IntWalk.i64_in _ (by omega)]; omega
    have hb1 : (i1 : Int) < (n : Int) := by omega
    have hb2 : (i2 : Int) < (n : Int) := by omega
    have hi1n : i1 < n := by omega
    have hi2n : i2 < n := by omega
    have hne : i1 ≠ i2 := by omega
    clear hswp e1 e2 hx hy ha hb hc hlen hxy hi1 hi2
    go_wp2_with fail
    have c1 := HW.out.cell E1.out
    have c2 := HW.out.cell E2.out
    have f1 := fun k => HW.out.frozen k
    have c3 : ∀ v, (wr.setCell ⟨blk, i1, none⟩ v).cell? ⟨blk, i2, none⟩ = some (.int .u64 (y : Int)) := fun v => (World.cell?_setCell_other _ _ _ _ (fun e => hne (by injection e))).trans c2
    have f2 : ∀ k, (wr.setCell ⟨blk, i1, none⟩ (.int .u64 (y : Int))).frozen? ⟨blk, k, none⟩ = false := fun k => (HW.out.set E1.out y).frozen k
    have HNX : Hid (RowL blk (sr pre X mid Y post (i + 1)) ((wr.setCell ⟨blk, i1, none⟩ (.int .u64 (y : Int))).setCell ⟨blk, i2, none⟩ (.int .u64 (x : Int))).drew) := by
      have h1 := HW.out.swap E1.out E2.out
      rw [HSW.out] at h1; exact h1
    have HKX : Hid (Keeps (fun k => k = blk) w ((wr.setCell ⟨blk, i1, none⟩ (.int .u64 (y : Int))).setCell ⟨blk, i2, none⟩ (.int .u64 (x : Int))).drew) := (HK.out.trans (keeps_two (blk := blk) (W := wr) (i := i1) (j := i2) (u := .int .u64 (y : Int)) (v := .int .u64 (x : Int)))).trans (Keeps.drew _ _)
    go_big_region
    clear c1 c2 c3 f1 f2
    generalize ((wr.setCell ⟨blk, i1, none⟩ (.int .u64 (y : Int))).setCell ⟨blk, i2, none⟩ (.int .u64 (x : Int))).drew = w2 at HNX HKX ⊢
    go_wp2
    exact ⟨⟨i + 1, by omega, by first | rfl | (congr 1; omega), HNX.out, HKX.out⟩, by simp [intOf]; omega⟩

end Go.Proofs.Ytabbmihakoeegaa

/- The stable sort, walked: two blocks that change places. -/
namespace Go.Proofs.Ytabbmihakoeegaa
set_option linter.unusedVariables false
set_option linter.unusedSimpArgs false
open Go.RowKit Go.Shelf
attribute [local go_sem] Oper.semAt_some
open Stab

/-- What holds while two blocks change places. -/
structure Rot (blk m n : Nat) (T : List Nat) (i j : Nat) (W : World) : Prop where
  ex : ∃ P U V Q : List Nat, U.length = i ∧ V.length = j ∧ 0 < i ∧ 0 < j ∧ P.length + i = m ∧ P.length + i + j + Q.length = n ∧ RowL blk (P ++ U ++ V ++ Q) W ∧ P ++ V ++ U ++ Q = T
set_option maxRecDepth 100000 in
set_option maxHeartbeats 2000000 in
theorem rotate_any (blk n cap a m b : Nat) (cv : Value) (pre L R post : List Nat) (hn : n = (pre ++ L ++ R ++ post).length) (hs : n < 1099511627776) (w : World) (hr : RowL blk (pre ++ L ++ R ++ post) w)
    (ha : a = pre.length) (hm : m = pre.length + L.length) (hb : b = pre.length + L.length + R.length) (hL : 0 < L.length) (hR : 0 < R.length) :
    Calls Try.prog 102 #[.slice (some ⟨blk, 0, none⟩) n cap, .int .i64 a, .int .i64 m, .int .i64 b, cv] w fun e w' => e = .returned (.tuple #[]) ∧ RowL blk (pre ++ R ++ L ++ post) w' ∧ Keeps (fun k => k = blk) w w' := by
  have hlen : n = pre.length + L.length + R.length + post.length := by rw [hn]; simp; omega
  have HS : Hid (Rot blk m n (pre ++ R ++ L ++ post) L.length R.length w) := ⟨pre, L, R, post, rfl, rfl, hL, hR, hm.symm, hlen.symm, hr, rfl⟩
  have hw1 : IntKind.i64.wrap ((m : Int) - (a : Int)) = (L.length : Int) := by rw [IntWalk.i64_in _ (by omega)]; omega
  have hw2 : IntKind.i64.wrap ((b : Int) - (m : Int)) = (R.length : Int) := by rw [IntWalk.i64_in _ (by omega)]; omega
  have HBD : Hid (m ≤ n ∧ L.length ≤ n ∧ R.length ≤ n) := ⟨by omega, by omega, by omega⟩
  clear hr hn ha hm hb hlen
  go_enter Try.func102, Try.ntmps102
  go_wp2
  go_loopw [10, 11] (fun iv jv wr => ∃ i j : Nat, iv = .int .i64 i ∧ jv = .int .i64 j ∧ Rot blk m n (pre ++ R ++ L ++ post) i j wr ∧ Keeps (fun k => k = blk) w wr) (fun iv jv _ => (intOf iv).toNat + (intOf jv).toNat)
  case atStart => exact ⟨_, _, rfl, rfl, HS.out, Keeps.refl _ _⟩
  case round =>
    clear HS hw1 hw2
    obtain ⟨i, j, rfl, rfl, ⟨P, U, V, Q, hu, hv, hi, hj, hpm, hpn, hrow, hT⟩, hk⟩ := hrel
    have HU := Lib.hid hu
    have HV := Lib.hid hv
    have HPM := Lib.hid hpm
    have HPN := Lib.hid hpn
    have HT := Lib.hid hT
    have HK := Lib.hid hk
    have HW := Lib.hid hrow
    have hiz : i < 1099511627776 := by omega
    have hjz : j < 1099511627776 := by omega
    have hmz : m < 1099511627776 := by omega
    have him : i ≤ m := by omega
    have hmj : m + j ≤ n := by omega
    clear hrow hk hT hu hv hpm hpn
    obtain ⟨s, hsm⟩ : ∃ s, s = m - i := ⟨_, rfl⟩
    have hw1 : IntKind.i64.wrap ((m : Int) - (i : Int)) = (s : Int) := by rw [IntWalk.i64_in _ (by omega)]; omega
    rcases Nat.lt_trichotomy i j with hlt | heq | hgt
    · have hne : ¬ i = j := by omega
      have hd : ¬ j < i := by omega
      obtain ⟨q, hq⟩ : ∃ q, q = m + j - i := ⟨_, rfl⟩
      obtain ⟨d, hd'⟩ : ∃ d, d = j - i := ⟨_, rfl⟩
      have hw2 : IntKind.i64.wrap ((m : Int) + (j : Int)) = (m : Int) + (j : Int) := IntWalk.i64_in _ (by omega)
      have hw3 : IntKind.i64.wrap ((m : Int) + (j : Int) - (i : Int)) = (q : Int) := by rw [IntWalk.i64_in _ (by omega)]; omega
      have hw4 : IntKind.i64.wrap ((j : Int) - (i : Int)) = (d : Int) := by rw [IntWalk.i64_in _ (by omega)]; omega
      have HQ := Lib.hid hq
      have HD := Lib.hid hd'
      have HSM := Lib.hid hsm
      clear hq hd' hsm
      go_wp2_with fail
      have hv := HV.out
      have hu := HU.out
      have hp := HPM.out
      have hpn := HPN.out
      have hV : V.take d ++ V.drop d = V := List.take_append_drop d V
      have hdl : (V.drop d).length = U.length := by rw [List.length_drop]; have := HD.out; omega
      have htl : (V.take d).length = d := by rw [List.length_take]; have := HD.out; omega
      have hrw : RowL blk (P ++ U ++ V.take d ++ V.drop d ++ Q) wr := by rw [List.append_assoc (P ++ U), hV]; exact HW.out
      refine (swapRange_any blk n cap s q i cv P U (V.take d) (V.drop d) Q hdl.symm (by simp; have := HD.out; omega) hs wr hrw (by have := HSM.out; omega) (by rw [htl]; have := HQ.out; have := HD.out; omega) hu.symm).mono ?_
      rintro e' w2 ⟨rfl, hrw, hkw⟩
      dsimp only
      have HW2 := Lib.hid hrw
      replace HK := Lib.hid (HK.out.trans hkw)
      clear hrw hkw
      clear hv hu hp hpn hV hdl htl hrw
      go_wp2
      exact ⟨⟨i, d, rfl, rfl, ⟨P, V.drop d, V.take d, U ++ Q, by rw [List.length_drop]; have := HD.out; have := HV.out; omega, by rw [List.length_take]; have := HD.out; have := HV.out; omega, hi, by have := HD.out; omega, HPM.out, by have := HPN.out; have := HD.out; have := HU.out; rw [List.length_append]; omega, by simpa only [List.append_assoc] using HW2.out, by have h1 := HT.out; rw [← List.take_append_drop d V] at h1; simpa only [List.append_assoc] using h1⟩, HK.out⟩, by simp [intOf]; have := HD.out; omega⟩
    · subst heq
      have HSM := Lib.hid hsm
      clear hsm
      go_wp2_with fail
      refine (swapRange_any blk n cap s m i cv P U [] V Q (by rw [HU.out, HV.out]) (by simp; have := HU.out; have := HV.out; have := HPN.out; omega) hs wr (by simpa only [List.append_assoc, List.nil_append] using HW.out) (by have := HSM.out; have := HPM.out; omega) (by simp; have := HPM.out; have := HU.out; omega) HU.out.symm).mono ?_
      rintro e' w2 ⟨rfl, hrw, hkw⟩
      dsimp only
      have HW2 := Lib.hid hrw
      replace HK := Lib.hid (HK.out.trans hkw)
      clear hrw hkw
      go_wp2
      go_end0
      exact ⟨rfl, by have h1 := HW2.out; rw [← HT.out]; simpa only [List.append_assoc, List.nil_append] using h1, HK.out⟩
    · have hne : ¬ i = j := by omega
      have hd : j < i := hgt
      obtain ⟨d, hd'⟩ : ∃ d, d = i - j := ⟨_, rfl⟩
      have hw4 : IntKind.i64.wrap ((i : Int) - (j : Int)) = (d : Int) := by rw [IntWalk.i64_in _ (by omega)]; omega
      have HD := Lib.hid hd'
      have HSM := Lib.hid hsm
      clear hd' hsm
      go_wp2_with fail
      have hU : U.take j ++ U.drop j = U := List.take_append_drop j U
      have htl : (U.take j).length = j := by rw [List.length_take]; have := HU.out; omega
      have hdl : (U.drop j).length = d := by rw [List.length_drop]; have := HU.out; have := HD.out; omega
      have hrw : RowL blk (P ++ U.take j ++ U.drop j ++ V ++ Q) wr := by rw [List.append_assoc P, hU]; exact HW.out
      refine (swapRange_any blk n cap s m j cv P (U.take j) (U.drop j) V Q (by rw [htl, HV.out]) (by simp; have := HU.out; have := HV.out; have := HPN.out; omega) hs wr hrw (by have := HSM.out; have := HPM.out; omega) (by rw [htl, hdl]; have := HD.out; have := HPM.out; omega) htl.symm).mono ?_
      rintro e' w2 ⟨rfl, hrw, hkw⟩
      dsimp only
      have HW2 := Lib.hid hrw
      replace HK := Lib.hid (HK.out.trans hkw)
      clear hrw hkw
      clear hU htl hdl hrw
      go_wp2
      exact ⟨⟨d, j, rfl, rfl, ⟨P ++ V, U.drop j, U.take j, Q, by rw [List.length_drop]; have := HU.out; have := HD.out; omega, by rw [List.length_take]; have := HU.out; omega, by have := HD.out; omega, hj, by have := HPM.out; have := HV.out; have := HD.out; rw [List.length_append]; omega, by have := HPN.out; have := HV.out; have := HD.out; rw [List.length_append]; omega, by simpa only [List.append_assoc] using HW2.out, by have h1 := HT.out; rw [← List.take_append_drop j U] at h1; simpa only [List.append_assoc] using h1⟩, HK.out⟩, by simp [intOf]; have := HD.out; omega⟩

end Go.Proofs.Ytabbmihakoeegaa

/- The stable sort, walked: one block. -/
namespace Go.Proofs.Ytabbmihakoeegaa
set_option linter.unusedVariables false
set_option linter.unusedSimpArgs false
open Go.RowKit Go.Shelf
attribute [local go_sem] Oper.semAt_some
open Stab

/-- What is asked of the comparison: it says which comes first, of two of which the first stands behind the second one; whatever else it does, it turns nothing. -/
structure CmpOk (g : Nat) (cb : Array Value) (cf : Nat → Nat → Int) (lt : Nat → Nat → Prop) (blk : Nat) (l0 : List Nat) (w0 : World) : Prop where
  call : ∀ W, Keeps (fun k => k = blk) w0 W → ∀ x y : Nat, x ∈ l0 → y ∈ l0 → Calls Try.prog g (#[.int .u64 (x : Int), .int .u64 (y : Int)] ++ cb) W fun e w' => e = .returned (.int .i64 (cf x y)) ∧ Below W.heap.size W w'
  ord : ∀ x y : Nat, x ∈ l0 → y ∈ l0 → y < x → (cf x y < 0 ↔ lt x y)
  sto : STO lt
  enter : ∀ args w, (callFunc g args).run Try.prog w = .ok (.enter g args) w
theorem CmpOk.yes {g : Nat} {cb : Array Value} {cf : Nat → Nat → Int} {lt : Nat → Nat → Prop} {blk : Nat} {l0 : List Nat} {w0 : World} (h : CmpOk g cb cf lt blk l0 w0) {x y : Nat} (hx : x ∈ l0) (hy : y ∈ l0) (hn : y < x) (hc : cf x y < 0) : lt x y := (h.ord x y hx hy hn).1 hc
theorem CmpOk.no {g : Nat} {cb : Array Value} {cf : Nat → Nat → Int} {lt : Nat → Nat → Prop} {blk : Nat} {l0 : List Nat} {w0 : World} (h : CmpOk g cb cf lt blk l0 w0) {x y : Nat} (hx : x ∈ l0) (hy : y ∈ l0) (hn : y < x) (hc : ¬ cf x y < 0) : lt y x :=
  h.sto.not (by omega) (fun k => hc ((h.ord x y hx hy hn).2 k))
theorem RowL.old {blk : Nat} {l : List Nat} {w W W' : World} (h : RowL blk l W) (hb : Below W.heap.size W W') (hk : Keeps (fun k => k = blk) w W) : RowL blk l W' ∧ Keeps (fun k => k = blk) w W' :=
  ⟨h.later hb, hk.trans (Keeps.of_below hb (fun k h1 h2 => by omega))⟩
theorem keeps_belowS {M : Nat → Prop} {w w' : World} (h : Below w.heap.size w w') : Keeps M w w' := ⟨h.os, h.tape, h.output, h.size, fun k hk _ => h.block k hk⟩
theorem below_drewS {n : Nat} {a w : World} (h : Below n a w) (k : Nat) : Below n a (w.drewN k) := ⟨h.os, h.tape, h.output, h.size, h.block⟩
set_option maxRecDepth 100000 in
set_option maxHeartbeats 4000000 in
theorem insertion_any (g : Nat) (cb : Array Value) (cf : Nat → Nat → Int) (lt : Nat → Nat → Prop) (l0 : List Nat) (w0 : World) (blk n cap a b : Nat) (hc : CmpOk g cb cf lt blk l0 w0) (pre X post : List Nat) (hn : n = (pre ++ X ++ post).length) (hs : n < 1099511627776) (w : World) (hk0 : Keeps (fun k => k = blk) w0 w)
    (hr : RowL blk (pre ++ X ++ post) w) (ha : a = pre.length) (hb : b = pre.length + X.length) (hX : X.Pairwise (· < ·)) (hm : ∀ x ∈ X, x ∈ l0) :
    Calls Try.prog 99 #[.slice (some ⟨blk, 0, none⟩) n cap, .int .i64 a, .int .i64 b, .func (.func g) #[] cb] w fun e w' => e = .returned (.tuple #[]) ∧ (∃ M, M.Perm X ∧ Srt lt M ∧ RowL blk (pre ++ M ++ post) w') ∧ Keeps (fun k => k = blk) w w' := by
  have hlen : n = pre.length + X.length + post.length := by rw [hn]; simp; omega
  have HR := Lib.hid hr
  have HC := Lib.hid hc
  have HA := Lib.hid ha
  have HBb := Lib.hid hb
  have HN := Lib.hid hlen
  have HX := Lib.hid hX
  have HM := Lib.hid hm
  have HK0 := Lib.hid hk0
  have eg := hc.enter
  have hw0 : IntKind.i64.wrap ((a : Int) + 1) = ((a + 1 : Nat) : Int) := by rw [IntWalk.i64_in _ (by omega)]; omega
  clear hr hc ha hb hlen hX hm hk0 hn
  go_enter Try.func99, Try.ntmps99
  go_wp2
  clear hw0
  go_loopw [8] (fun iv wr => ∃ (k ik : Nat) (M : List Nat), ik = a + k ∧ 1 ≤ k ∧ (k ≤ X.length ∨ k = 1) ∧ iv = .int .i64 (ik : Int) ∧ M.Perm (X.take k) ∧ Srt lt M ∧ RowL blk (pre ++ M ++ X.drop k ++ post) wr ∧ Keeps (fun k => k = blk) w wr) (fun iv _ => a + X.length + 2 - (intOf iv).toNat)
  case atStart =>
    refine ⟨1, a + 1, X.take 1, rfl, Nat.le_refl _, .inr rfl, rfl, List.Perm.refl _, ?_, ?_, Keeps.refl _ _⟩
    · cases X with
      | nil => exact List.Pairwise.nil
      | cons x X => simp [Srt]
    · rw [List.append_assoc pre, List.take_append_drop]; exact HR.out
  case round =>
    obtain ⟨k, ik, M, hik, hk1, hkx, rfl, hp, hsr, hrow, hk⟩ := hrel
    have HIK := Lib.hid hik
    clear hik
    have HP := Lib.hid hp
    have HS := Lib.hid hsr
    have HW := Lib.hid hrow
    have HK := Lib.hid hk
    clear hp hsr hrow hk
    by_cases hlk : k < X.length
    case neg =>
      have hd2 : ¬ ik < b := by have := HBb.out; have := HA.out; have := HIK.out; omega
      go_wp2
      go_end0
      have h1 := HP.out
      have h2 := HW.out
      rw [List.take_of_length_le (by omega)] at h1
      rw [List.drop_of_length_le (by omega), List.append_nil] at h2
      exact ⟨rfl, ⟨M, h1, HS.out, h2⟩, HK.out⟩
    have hd2 : ik < b := by have := HBb.out; have := HA.out; have := HIK.out; omega
    obtain ⟨x, hx⟩ : ∃ x, x = X[k] := ⟨_, rfl⟩
    have hml : M.length = k := by rw [HP.out.length_eq, List.length_take]; omega
    obtain ⟨rest, hrest⟩ : ∃ r, r = X.drop (k + 1) ++ post := ⟨_, rfl⟩
    have hmv : pre ++ M ++ X.drop k ++ post = mv pre x M rest M.length := by
      rw [mv_all, hrest, hx, List.drop_eq_getElem_cons hlk]; simp only [List.append_assoc, List.cons_append]
    rw [hmv, hml] at HW
    -- what stands ahead is less, as a number
    have hless : ∀ y ∈ M, y < x ∧ y ∈ l0 := fun y hy => by
      have h1 := HP.out.mem_iff.1 hy
      have h2 : (X.take k ++ X.drop k).Pairwise (· < ·) := (List.take_append_drop k X).symm ▸ HX.out
      rw [List.drop_eq_getElem_cons hlk, ← hx] at h2
      exact ⟨(List.pairwise_append.1 h2).2.2 y h1 x (List.mem_cons_self ..), HM.out y (List.mem_of_mem_take h1)⟩
    have hxl : x ∈ l0 := HM.out x (by rw [hx]; exact List.getElem_mem hlk)
    have HLS := Lib.hid hless
    have HML := Lib.hid hml
    have HRE := Lib.hid hrest
    have HXX := Lib.hid hx
    have hwk : IntKind.i64.wrap ((ik : Int) + 1) = ((ik + 1 : Nat) : Int) := by have := HN.out; have := HA.out; have := HIK.out; rw [IntWalk.i64_in _ (by omega)]; omega
    clear hmv hless hml hrest hx
    go_wp2
    go_loopw [9] (fun jv wq => ∃ q jq : Nat, jq = a + q ∧ q ≤ k ∧ jv = .int .i64 (jq : Int) ∧ RowL blk (mv pre x M rest q) wq ∧ (∀ y ∈ M.drop q, lt x y) ∧ Keeps (fun k => k = blk) w wq) (fun jv _ => (intOf jv).toNat)
    case atStart => exact ⟨k, ik, HIK.out, Nat.le_refl _, rfl, HW.out, (fun y hy => by rw [List.drop_of_length_le (by rw [HML.out]; exact Nat.le_refl _)] at hy; cases hy), HK.out⟩
    case round =>
      clear HW HK
      obtain ⟨q, jq, hjq, hqk, rfl, hrow, hgt, hk⟩ := hrel
      have HJQ := Lib.hid hjq
      have HW := Lib.hid hrow
      have HK := Lib.hid hk
      have HGT := Lib.hid hgt
      clear hjq hrow hk hgt
      have HOUT : ∀ W, RowL blk (mv pre x M rest q) W → (∀ y ∈ M.take q, lt y x) → Keeps (fun k => k = blk) w W → ∃ (k' ik' : Nat) (M' : List Nat), ik' = a + k' ∧ 1 ≤ k' ∧ (k' ≤ X.length ∨ k' = 1) ∧ Value.int .i64 (((ik + 1 : Nat) : Int)) = .int .i64 (ik' : Int) ∧ M'.Perm (X.take k') ∧ Srt lt M' ∧ RowL blk (pre ++ M' ++ X.drop k' ++ post) W ∧ Keeps (fun k => k = blk) w W := fun W h1 h2 h3 => by
        refine ⟨k + 1, ik + 1, M.take q ++ x :: M.drop q, by have := HIK.out; omega, by omega, .inl (by omega), rfl, ?_, srt_put HC.out.sto HS.out (by rw [HML.out]; exact hqk) HGT.out h2, ?_, h3⟩
        · rw [List.take_succ_eq_append_getElem hlk, ← HXX.out]
          have h4 : (M.take q ++ x :: M.drop q).Perm (x :: (M.take q ++ M.drop q)) := List.perm_middle
          rw [List.take_append_drop] at h4
          exact h4.trans ((List.Perm.cons x HP.out).trans (List.perm_append_singleton x _).symm)
        · have h5 := h1
          unfold mv at h5
          rw [HRE.out] at h5
          simpa only [List.append_assoc, List.cons_append] using h5
      have HO := Lib.hid HOUT
      clear HOUT
      rcases Nat.eq_zero_or_pos q with h0 | hq
      · have hj0 : ¬ a < jq := by have := HJQ.out; omega
        go_wp2_with fail
        go_quiet (fail)
        go_wp2
        exact ⟨HO.out _ (HW.out.drewN _) (fun y hy => by rw [h0] at hy; simp at hy) (HK.out.trans (keeps_belowS (below_drewS (Below.refl _ _) _))), by simp [intOf]; have := HIK.out; omega⟩
      · obtain ⟨p, hp⟩ : ∃ p, q = p + 1 := ⟨q - 1, by omega⟩
        subst hp
        obtain ⟨jp, hjp⟩ : ∃ j, j = a + p := ⟨_, rfl⟩
        have hpl : p < M.length := by have := HML.out; omega
        obtain ⟨y, hy⟩ : ∃ y, y = M[p] := ⟨_, rfl⟩
        have e1 := mv_at pre x M rest (p + 1) (by omega)
        have e2 := mv_before pre x M rest p hpl
        have hsw := mv_back pre x M rest p hpl
        rw [← hy] at e2
        rw [← HA.out, show a + (p + 1) = jq by have := HJQ.out; omega] at e1
        rw [← HA.out, ← hjp] at e2
        rw [← HA.out, show a + p + 1 = jq by have := HJQ.out; omega, ← hjp] at hsw
        have hyM : y ∈ M := by rw [hy]; exact List.getElem_mem hpl
        obtain ⟨hyx, hyl⟩ := HLS.out y hyM
        have hj1 : a < jq := by have := HJQ.out; omega
        have hw1 : IntKind.i64.wrap ((jq : Int) - 1) = (jp : Int) := by have := HN.out; have := HA.out; have := HJQ.out; rw [IntWalk.i64_in _ (by omega)]; omega
        have hjn : jq < n := by have := HN.out; have := HA.out; have := HJQ.out; omega
        have hjpn : jp < n := by have := HN.out; have := HA.out; omega
        have hne : jq ≠ jp := by have := HJQ.out; omega
        have c1 := HW.out.cell e1
        have c2 := HW.out.cell e2
        have E1 := Lib.hid e1
        have E2 := Lib.hid e2
        have HSW := Lib.hid hsw
        have HY := Lib.hid hy
        have HJP := Lib.hid hjp
        have HCL := Lib.hid (fun W hk => HC.out.call W hk x y hxl hyl)
        clear e1 e2 hsw hy hjp
        by_cases hcf : cf x y < 0
        · have hcd : decide (cf x y < 0) = true := decide_eq_true hcf
          go_wp2_with fail
          refine wp_region_held_drew (S := S2r blk jq jp x y) (by kernel_rfl) ⟨c1, c2⟩ fun hS => ?_
          refine wpAnyH_take (i := 0) (v := ?_) rfl (by kernel_rfl) (by kernel_rfl) (by kernel_rfl) (fun _ _ _ h => h) (Or.inl ⟨by rfl, ?_⟩) hS ?_
          rotate_left
          · (intro W hSw; obtain ⟨hq1, hq2⟩ := hSw; go_simp; try with_reducible rfl)
          try simp only [List.getElem_toArray, List.getElem_cons_succ, List.getElem_cons_zero, Act.put, List.setIfInBounds_toArray, List.set_cons_zero, List.set_cons_succ]
          refine wpAnyH_take (i := 1) (v := ?_) rfl (by kernel_rfl) (by kernel_rfl) (by kernel_rfl) (fun _ _ _ h => h) (Or.inl ⟨by rfl, ?_⟩) hS ?_
          rotate_left
          · (intro W hSw; obtain ⟨hq1, hq2⟩ := hSw; go_simp; try with_reducible rfl)
          try simp only [List.getElem_toArray, List.getElem_cons_succ, List.getElem_cons_zero, Act.put, List.setIfInBounds_toArray, List.set_cons_zero, List.set_cons_succ]
          refine wpAnyH_take (i := 2) (v := ?_) rfl (by kernel_rfl) (by kernel_rfl) (by kernel_rfl) (fun _ _ _ h => h) (Or.inl ⟨by rfl, ?_⟩) hS ?_
          rotate_left
          · (intro W hSw; obtain ⟨hq1, hq2⟩ := hSw; go_simp; try with_reducible rfl)
          try simp only [List.getElem_toArray, List.getElem_cons_succ, List.getElem_cons_zero, Act.put, List.setIfInBounds_toArray, List.set_cons_zero, List.set_cons_succ]
          refine wpAnyH_take (i := 3) (v := ?_) rfl (by kernel_rfl) (by kernel_rfl) (by kernel_rfl) (fun _ _ _ h => h) (Or.inl ⟨by rfl, ?_⟩) hS ?_
          rotate_left
          · (intro W hSw; obtain ⟨hq1, hq2⟩ := hSw; go_simp; try with_reducible rfl)
          try simp only [List.getElem_toArray, List.getElem_cons_succ, List.getElem_cons_zero, Act.put, List.setIfInBounds_toArray, List.set_cons_zero, List.set_cons_succ]
          refine wpAnyH_take (i := 4) (v := ?_) rfl (by kernel_rfl) (by kernel_rfl) (by kernel_rfl) (fun _ _ _ h => h) (Or.inl ⟨by rfl, ?_⟩) hS ?_
          rotate_left
          · (intro W hSw; obtain ⟨hq1, hq2⟩ := hSw; go_simp; try with_reducible rfl)
          try simp only [List.getElem_toArray, List.getElem_cons_succ, List.getElem_cons_zero, Act.put, List.setIfInBounds_toArray, List.set_cons_zero, List.set_cons_succ]
          refine wpAnyH_take (i := 5) (v := ?_) rfl (by kernel_rfl) (by kernel_rfl) (by kernel_rfl) (fun _ _ _ h => h) (Or.inl ⟨by rfl, ?_⟩) hS ?_
          rotate_left
          · (intro W hSw; obtain ⟨hq1, hq2⟩ := hSw; go_simp; try with_reducible rfl)
          try simp only [List.getElem_toArray, List.getElem_cons_succ, List.getElem_cons_zero, Act.put, List.setIfInBounds_toArray, List.set_cons_zero, List.set_cons_succ]
          refine wpAnyH_take (i := 6) (v := ?_) rfl (by kernel_rfl) (by kernel_rfl) (by kernel_rfl) (fun _ _ _ h => h) (Or.inl ⟨by rfl, ?_⟩) hS ?_
          rotate_left
          · (intro W hSw; obtain ⟨hq1, hq2⟩ := hSw; go_simp; try with_reducible rfl)
          try simp only [List.getElem_toArray, List.getElem_cons_succ, List.getElem_cons_zero, Act.put, List.setIfInBounds_toArray, List.set_cons_zero, List.set_cons_succ]
          refine wpAnyH_take (i := 7) (v := ?_) rfl (by kernel_rfl) (by kernel_rfl) (by kernel_rfl) (fun _ _ _ h => h) (Or.inl ⟨by rfl, ?_⟩) hS ?_
          rotate_left
          · (intro W hSw; obtain ⟨hq1, hq2⟩ := hSw; go_simp; try with_reducible rfl)
          try simp only [List.getElem_toArray, List.getElem_cons_succ, List.getElem_cons_zero, Act.put, List.setIfInBounds_toArray, List.set_cons_zero, List.set_cons_succ]
          refine wpAnyH_take (i := 8) (v := ?_) rfl (by kernel_rfl) (by kernel_rfl) (by kernel_rfl) (fun _ _ _ h => h) (Or.inl ⟨by rfl, ?_⟩) hS ?_
          rotate_left
          · (intro W hSw; obtain ⟨hq1, hq2⟩ := hSw; go_simp; try with_reducible rfl)
          try simp only [List.getElem_toArray, List.getElem_cons_succ, List.getElem_cons_zero, Act.put, List.setIfInBounds_toArray, List.set_cons_zero, List.set_cons_succ]
          refine wpAnyH_take (i := 9) (v := ?_) rfl (by kernel_rfl) (by kernel_rfl) (by kernel_rfl) (fun _ _ _ h => h) (Or.inl ⟨by rfl, ?_⟩) hS ?_
          rotate_left
          · (intro W hSw; obtain ⟨hq1, hq2⟩ := hSw; go_simp; try with_reducible rfl)
          try simp only [List.getElem_toArray, List.getElem_cons_succ, List.getElem_cons_zero, Act.put, List.setIfInBounds_toArray, List.set_cons_zero, List.set_cons_succ]
          refine wpAnyH_take (i := 10) (v := ?_) rfl (by kernel_rfl) (by kernel_rfl) (by kernel_rfl) (fun _ _ _ h => h) (Or.inl ⟨by rfl, ?_⟩) hS ?_
          rotate_left
          · (intro W hSw; obtain ⟨hq1, hq2⟩ := hSw; go_simp; try with_reducible rfl)
          try simp only [List.getElem_toArray, List.getElem_cons_succ, List.getElem_cons_zero, Act.put, List.setIfInBounds_toArray, List.set_cons_zero, List.set_cons_succ]
          refine wpAnyH_take (i := 11) (v := ?_) rfl (by kernel_rfl) (by kernel_rfl) (by kernel_rfl) (fun _ _ _ h => h) (Or.inl ⟨by rfl, ?_⟩) hS ?_
          rotate_left
          · (intro W hSw; obtain ⟨hq1, hq2⟩ := hSw; go_simp; try with_reducible rfl)
          try simp only [List.getElem_toArray, List.getElem_cons_succ, List.getElem_cons_zero, Act.put, List.setIfInBounds_toArray, List.set_cons_zero, List.set_cons_succ]
          refine wpAnyH_take (i := 12) (v := ?_) rfl (by kernel_rfl) (by kernel_rfl) (by kernel_rfl) (fun _ _ _ h => h) (Or.inl ⟨by rfl, ?_⟩) hS ?_
          rotate_left
          · (intro W hSw; obtain ⟨hq1, hq2⟩ := hSw; go_simp; try with_reducible rfl)
          try simp only [List.getElem_toArray, List.getElem_cons_succ, List.getElem_cons_zero, Act.put, List.setIfInBounds_toArray, List.set_cons_zero, List.set_cons_succ]
          refine wpAnyH_take (i := 13) (v := ?_) rfl (by kernel_rfl) (by kernel_rfl) (by kernel_rfl) (fun _ _ _ h => h) (Or.inl ⟨by rfl, ?_⟩) hS ?_
          rotate_left
          · (intro W hSw; obtain ⟨hq1, hq2⟩ := hSw; go_simp; try with_reducible rfl)
          try simp only [List.getElem_toArray, List.getElem_cons_succ, List.getElem_cons_zero, Act.put, List.setIfInBounds_toArray, List.set_cons_zero, List.set_cons_succ]
          refine wpAnyH_ready (rs := [14]) (by kernel_rfl) (by simp) ?_
          refine AllReadyH.cons rfl (fun K hK => ?_) AllReadyH.nil
          go_simp
          go_at_fn g
          refine (HCL.out _ (HK0.out.trans (HK.out.trans (Keeps.drew _ _)))).mono ?_
          rintro e' wc ⟨rfl, hbc⟩
          obtain ⟨hw9, hk9⟩ := RowL.old HW.out.drew hbc (HK.out.trans (Keeps.drew _ _))
          replace HW := Lib.hid hw9
          replace HK := Lib.hid hk9
          clear hbc hw9 hk9 c1 c2 hS
          refine hK.out _ _ ⟨HW.out.cell E1.out, HW.out.cell E2.out⟩ (fun hS => ?_)
          clear hK K
          try simp only [List.getElem_toArray, List.getElem_cons_succ, List.getElem_cons_zero, Act.put, List.setIfInBounds_toArray, List.set_cons_zero, List.set_cons_succ]
          refine wpAnyH_take (i := 15) (v := ?_) rfl (by kernel_rfl) (by kernel_rfl) (by kernel_rfl) (fun _ _ _ h => h) (Or.inl ⟨by rfl, ?_⟩) hS ?_
          rotate_left
          · (intro W hSw; obtain ⟨hq1, hq2⟩ := hSw; go_simp; try with_reducible rfl)
          try simp only [List.getElem_toArray, List.getElem_cons_succ, List.getElem_cons_zero, Act.put, List.setIfInBounds_toArray, List.set_cons_zero, List.set_cons_succ]
          refine wpAnyH_take (i := 16) (v := ?_) rfl (by kernel_rfl) (by kernel_rfl) (by kernel_rfl) (fun _ _ _ h => h) (Or.inl ⟨by rfl, ?_⟩) hS ?_
          rotate_left
          · (intro W hSw; obtain ⟨hq1, hq2⟩ := hSw; go_simp; try with_reducible rfl)
          try simp only [List.getElem_toArray, List.getElem_cons_succ, List.getElem_cons_zero, Act.put, List.setIfInBounds_toArray, List.set_cons_zero, List.set_cons_succ]
          refine wpAnyH_done (by kernel_rfl) ?_ _
          clear hS
          go_wp2_with fail
          have c1 := HW.out.cell E1.out
          have c2 := HW.out.cell E2.out
          have f1 := fun k => HW.out.frozen k
          have c3 : ∀ v, (wc.setCell ⟨blk, jq, none⟩ v).cell? ⟨blk, jp, none⟩ = some (.int .u64 (y : Int)) := fun v => (World.cell?_setCell_other _ _ _ _ (fun e => hne (by injection e))).trans c2
          have f2 : ∀ k, (wc.setCell ⟨blk, jq, none⟩ (.int .u64 (y : Int))).frozen? ⟨blk, k, none⟩ = false := fun k => (HW.out.set E1.out y).frozen k
          replace HK : Hid (Keeps (fun k => k = blk) w ((wc.setCell ⟨blk, jq, none⟩ (.int .u64 (y : Int))).setCell ⟨blk, jp, none⟩ (.int .u64 (x : Int))).drew) := (HK.out.trans (keeps_two (blk := blk) (W := wc) (i := jq) (j := jp) (u := .int .u64 (y : Int)) (v := .int .u64 (x : Int)))).trans (Keeps.drew _ _)
          replace HW : Hid (RowL blk _ ((wc.setCell ⟨blk, jq, none⟩ (.int .u64 (y : Int))).setCell ⟨blk, jp, none⟩ (.int .u64 (x : Int))).drew) := HW.out.swap E1.out E2.out
          go_big_region
          clear c1 c2 c3 f1 f2
          generalize ((wc.setCell ⟨blk, jq, none⟩ (.int .u64 (y : Int))).setCell ⟨blk, jp, none⟩ (.int .u64 (x : Int))).drew = wd at HW HK ⊢
          rw [HSW.out] at HW
          go_wp2
          have hlt := HC.out.yes hxl hyl hyx hcf
          rw [HY.out] at hlt
          exact ⟨⟨p, jp, HJP.out, by omega, rfl, HW.out, srt_above HC.out.sto HS.out hpl hlt, HK.out⟩, by simp [intOf]; have := HJP.out; have := HJQ.out; omega⟩
        · have hcd : decide (cf x y < 0) = false := decide_eq_false hcf
          go_wp2_with fail
          refine wp_region_held_drew (S := S2r blk jq jp x y) (by kernel_rfl) ⟨c1, c2⟩ fun hS => ?_
          refine wpAnyH_take (i := 0) (v := ?_) rfl (by kernel_rfl) (by kernel_rfl) (by kernel_rfl) (fun _ _ _ h => h) (Or.inl ⟨by rfl, ?_⟩) hS ?_
          rotate_left
          · (intro W hSw; obtain ⟨hq1, hq2⟩ := hSw; go_simp; try with_reducible rfl)
          try simp only [List.getElem_toArray, List.getElem_cons_succ, List.getElem_cons_zero, Act.put, List.setIfInBounds_toArray, List.set_cons_zero, List.set_cons_succ]
          refine wpAnyH_take (i := 1) (v := ?_) rfl (by kernel_rfl) (by kernel_rfl) (by kernel_rfl) (fun _ _ _ h => h) (Or.inl ⟨by rfl, ?_⟩) hS ?_
          rotate_left
          · (intro W hSw; obtain ⟨hq1, hq2⟩ := hSw; go_simp; try with_reducible rfl)
          try simp only [List.getElem_toArray, List.getElem_cons_succ, List.getElem_cons_zero, Act.put, List.setIfInBounds_toArray, List.set_cons_zero, List.set_cons_succ]
          refine wpAnyH_take (i := 2) (v := ?_) rfl (by kernel_rfl) (by kernel_rfl) (by kernel_rfl) (fun _ _ _ h => h) (Or.inl ⟨by rfl, ?_⟩) hS ?_
          rotate_left
          · (intro W hSw; obtain ⟨hq1, hq2⟩ := hSw; go_simp; try with_reducible rfl)
          try simp only [List.getElem_toArray, List.getElem_cons_succ, List.getElem_cons_zero, Act.put, List.setIfInBounds_toArray, List.set_cons_zero, List.set_cons_succ]
          refine wpAnyH_take (i := 3) (v := ?_) rfl (by kernel_rfl) (by kernel_rfl) (by kernel_rfl) (fun _ _ _ h => h) (Or.inl ⟨by rfl, ?_⟩) hS ?_
          rotate_left
          · (intro W hSw; obtain ⟨hq1, hq2⟩ := hSw; go_simp; try with_reducible rfl)
          try simp only [List.getElem_toArray, List.getElem_cons_succ, List.getElem_cons_zero, Act.put, List.setIfInBounds_toArray, List.set_cons_zero, List.set_cons_succ]
          refine wpAnyH_take (i := 4) (v := ?_) rfl (by kernel_rfl) (by kernel_rfl) (by kernel_rfl) (fun _ _ _ h => h) (Or.inl ⟨by rfl, ?_⟩) hS ?_
          rotate_left
          · (intro W hSw; obtain ⟨hq1, hq2⟩ := hSw; go_simp; try with_reducible rfl)
          try simp only [List.getElem_toArray, List.getElem_cons_succ, List.getElem_cons_zero, Act.put, List.setIfInBounds_toArray, List.set_cons_zero, List.set_cons_succ]
          refine wpAnyH_take (i := 5) (v := ?_) rfl (by kernel_rfl) (by kernel_rfl) (by kernel_rfl) (fun _ _ _ h => h) (Or.inl ⟨by rfl, ?_⟩) hS ?_
          rotate_left
          · (intro W hSw; obtain ⟨hq1, hq2⟩ := hSw; go_simp; try with_reducible rfl)
          try simp only [List.getElem_toArray, List.getElem_cons_succ, List.getElem_cons_zero, Act.put, List.setIfInBounds_toArray, List.set_cons_zero, List.set_cons_succ]
          refine wpAnyH_take (i := 6) (v := ?_) rfl (by kernel_rfl) (by kernel_rfl) (by kernel_rfl) (fun _ _ _ h => h) (Or.inl ⟨by rfl, ?_⟩) hS ?_
          rotate_left
          · (intro W hSw; obtain ⟨hq1, hq2⟩ := hSw; go_simp; try with_reducible rfl)
          try simp only [List.getElem_toArray, List.getElem_cons_succ, List.getElem_cons_zero, Act.put, List.setIfInBounds_toArray, List.set_cons_zero, List.set_cons_succ]
          refine wpAnyH_take (i := 7) (v := ?_) rfl (by kernel_rfl) (by kernel_rfl) (by kernel_rfl) (fun _ _ _ h => h) (Or.inl ⟨by rfl, ?_⟩) hS ?_
          rotate_left
          · (intro W hSw; obtain ⟨hq1, hq2⟩ := hSw; go_simp; try with_reducible rfl)
          try simp only [List.getElem_toArray, List.getElem_cons_succ, List.getElem_cons_zero, Act.put, List.setIfInBounds_toArray, List.set_cons_zero, List.set_cons_succ]
          refine wpAnyH_take (i := 8) (v := ?_) rfl (by kernel_rfl) (by kernel_rfl) (by kernel_rfl) (fun _ _ _ h => h) (Or.inl ⟨by rfl, ?_⟩) hS ?_
          rotate_left
          · (intro W hSw; obtain ⟨hq1, hq2⟩ := hSw; go_simp; try with_reducible rfl)
          try simp only [List.getElem_toArray, List.getElem_cons_succ, List.getElem_cons_zero, Act.put, List.setIfInBounds_toArray, List.set_cons_zero, List.set_cons_succ]
          refine wpAnyH_take (i := 9) (v := ?_) rfl (by kernel_rfl) (by kernel_rfl) (by kernel_rfl) (fun _ _ _ h => h) (Or.inl ⟨by rfl, ?_⟩) hS ?_
          rotate_left
          · (intro W hSw; obtain ⟨hq1, hq2⟩ := hSw; go_simp; try with_reducible rfl)
          try simp only [List.getElem_toArray, List.getElem_cons_succ, List.getElem_cons_zero, Act.put, List.setIfInBounds_toArray, List.set_cons_zero, List.set_cons_succ]
          refine wpAnyH_take (i := 10) (v := ?_) rfl (by kernel_rfl) (by kernel_rfl) (by kernel_rfl) (fun _ _ _ h => h) (Or.inl ⟨by rfl, ?_⟩) hS ?_
          rotate_left
          · (intro W hSw; obtain ⟨hq1, hq2⟩ := hSw; go_simp; try with_reducible rfl)
          try simp only [List.getElem_toArray, List.getElem_cons_succ, List.getElem_cons_zero, Act.put, List.setIfInBounds_toArray, List.set_cons_zero, List.set_cons_succ]
          refine wpAnyH_take (i := 11) (v := ?_) rfl (by kernel_rfl) (by kernel_rfl) (by kernel_rfl) (fun _ _ _ h => h) (Or.inl ⟨by rfl, ?_⟩) hS ?_
          rotate_left
          · (intro W hSw; obtain ⟨hq1, hq2⟩ := hSw; go_simp; try with_reducible rfl)
          try simp only [List.getElem_toArray, List.getElem_cons_succ, List.getElem_cons_zero, Act.put, List.setIfInBounds_toArray, List.set_cons_zero, List.set_cons_succ]
          refine wpAnyH_take (i := 12) (v := ?_) rfl (by kernel_rfl) (by kernel_rfl) (by kernel_rfl) (fun _ _ _ h => h) (Or.inl ⟨by rfl, ?_⟩) hS ?_
          rotate_left
          · (intro W hSw; obtain ⟨hq1, hq2⟩ := hSw; go_simp; try with_reducible rfl)
          try simp only [List.getElem_toArray, List.getElem_cons_succ, List.getElem_cons_zero, Act.put, List.setIfInBounds_toArray, List.set_cons_zero, List.set_cons_succ]
          refine wpAnyH_take (i := 13) (v := ?_) rfl (by kernel_rfl) (by kernel_rfl) (by kernel_rfl) (fun _ _ _ h => h) (Or.inl ⟨by rfl, ?_⟩) hS ?_
          rotate_left
          · (intro W hSw; obtain ⟨hq1, hq2⟩ := hSw; go_simp; try with_reducible rfl)
          try simp only [List.getElem_toArray, List.getElem_cons_succ, List.getElem_cons_zero, Act.put, List.setIfInBounds_toArray, List.set_cons_zero, List.set_cons_succ]
          refine wpAnyH_ready (rs := [14]) (by kernel_rfl) (by simp) ?_
          refine AllReadyH.cons rfl (fun K hK => ?_) AllReadyH.nil
          go_simp
          go_at_fn g
          refine (HCL.out _ (HK0.out.trans (HK.out.trans (Keeps.drew _ _)))).mono ?_
          rintro e' wc ⟨rfl, hbc⟩
          obtain ⟨hw9, hk9⟩ := RowL.old HW.out.drew hbc (HK.out.trans (Keeps.drew _ _))
          replace HW := Lib.hid hw9
          replace HK := Lib.hid hk9
          clear hbc hw9 hk9 c1 c2 hS
          refine hK.out _ _ ⟨HW.out.cell E1.out, HW.out.cell E2.out⟩ (fun hS => ?_)
          clear hK K
          try simp only [List.getElem_toArray, List.getElem_cons_succ, List.getElem_cons_zero, Act.put, List.setIfInBounds_toArray, List.set_cons_zero, List.set_cons_succ]
          refine wpAnyH_take (i := 15) (v := ?_) rfl (by kernel_rfl) (by kernel_rfl) (by kernel_rfl) (fun _ _ _ h => h) (Or.inl ⟨by rfl, ?_⟩) hS ?_
          rotate_left
          · (intro W hSw; obtain ⟨hq1, hq2⟩ := hSw; go_simp; try with_reducible rfl)
          try simp only [List.getElem_toArray, List.getElem_cons_succ, List.getElem_cons_zero, Act.put, List.setIfInBounds_toArray, List.set_cons_zero, List.set_cons_succ]
          refine wpAnyH_take (i := 16) (v := ?_) rfl (by kernel_rfl) (by kernel_rfl) (by kernel_rfl) (fun _ _ _ h => h) (Or.inl ⟨by rfl, ?_⟩) hS ?_
          rotate_left
          · (intro W hSw; obtain ⟨hq1, hq2⟩ := hSw; go_simp; try with_reducible rfl)
          try simp only [List.getElem_toArray, List.getElem_cons_succ, List.getElem_cons_zero, Act.put, List.setIfInBounds_toArray, List.set_cons_zero, List.set_cons_succ]
          refine wpAnyH_done (by kernel_rfl) ?_ _
          clear hS
          go_wp2
          have hlt := HC.out.no hxl hyl hyx (by omega)
          rw [HY.out] at hlt
          exact ⟨HO.out _ HW.out (srt_below HC.out.sto HS.out hpl hlt) HK.out, by simp [intOf]; have := HIK.out; omega⟩

end Go.Proofs.Ytabbmihakoeegaa

/- The stable sort, walked: two blocks are merged, one of which has one element. -/
namespace Go.Proofs.Ytabbmihakoeegaa
set_option linter.unusedVariables false
set_option linter.unusedSimpArgs false
open Go.RowKit Go.Shelf
attribute [local go_sem] Oper.semAt_some
open Stab

theorem mv_after (pre : List Nat) (x : Nat) (S post : List Nat) (j : Nat) (hj : j < S.length) : (mv pre x S post j)[pre.length + j + 1]? = some S[j] := by
  unfold mv
  rw [List.getElem?_append_right (by simp; omega)]
  rw [show pre.length + j + 1 - (pre ++ S.take j).length = 1 by simp; omega, List.getElem?_cons_succ, List.getElem?_append_left (by simp; omega), List.getElem?_drop, Nat.add_zero, List.getElem?_eq_getElem hj]
theorem half_lt {p q m : Nat} (h : p < q) : ∃ k, (m + p + (m + q)) / 2 = m + k ∧ p ≤ k ∧ k < q := ⟨(m + p + (m + q)) / 2 - m, by omega, by omega, by omega⟩
set_option maxRecDepth 100000 in
set_option maxHeartbeats 4000000 in
theorem symL_any (g : Nat) (cb : Array Value) (cf : Nat → Nat → Int) (lt : Nat → Nat → Prop) (l0 : List Nat) (w0 : World) (blk n cap a m b : Nat) (hc : CmpOk g cb cf lt blk l0 w0) (pre : List Nat) (x : Nat) (R post : List Nat) (hn : n = pre.length + 1 + R.length + post.length) (hs : n < 1099511627776) (w : World) (hk0 : Keeps (fun k => k = blk) w0 w)
    (hr : RowL blk (pre ++ x :: (R ++ post)) w) (ha : a = pre.length) (hm : m = pre.length + 1) (hb : b = pre.length + 1 + R.length) (hS : Srt lt R) (hnb : ∀ y ∈ R, x < y) (hxl : x ∈ l0) (hml : ∀ y ∈ R, y ∈ l0) :
    Calls Try.prog 100 #[.slice (some ⟨blk, 0, none⟩) n cap, .int .i64 a, .int .i64 m, .int .i64 b, .func (.func g) #[] cb] w fun e w' => e = .returned (.tuple #[]) ∧ (∃ M, M.Perm (x :: R) ∧ Srt lt M ∧ RowL blk (pre ++ M ++ post) w') ∧ Keeps (fun k => k = blk) w w' := by
  have HR := Lib.hid hr
  have HC := Lib.hid hc
  have HA := Lib.hid ha
  have HMm := Lib.hid hm
  have HBb := Lib.hid hb
  have HN := Lib.hid hn
  have HS := Lib.hid hS
  have HM := Lib.hid hml
  have HNB := Lib.hid hnb
  have HK0 := Lib.hid hk0
  have eg := hc.enter
  have hw0 : IntKind.i64.wrap ((m : Int) - (a : Int)) = 1 := by rw [IntWalk.i64_in _ (by omega)]; omega
  clear hr hc ha hm hb hn hS hml hnb hk0
  go_enter Try.func100, Try.ntmps100
  go_wp2
  clear hw0
  go_loopw [10, 11] (fun iv jv wr => ∃ p q ip iq : Nat, ip = m + p ∧ iq = m + q ∧ p ≤ q ∧ q ≤ R.length ∧ iv = .int .i64 (ip : Int) ∧ jv = .int .i64 (iq : Int) ∧ RowL blk (pre ++ x :: (R ++ post)) wr ∧ (∀ y ∈ R.take p, lt y x) ∧ (∀ y ∈ R.drop q, lt x y) ∧ Keeps (fun k => k = blk) w wr) (fun iv jv _ => (intOf jv).toNat - (intOf iv).toNat)
  case atStart =>
    exact ⟨0, R.length, m, b, rfl, by have := HBb.out; have := HMm.out; omega, Nat.zero_le _, Nat.le_refl _, rfl, rfl, HR.out, (fun y hy => by rw [List.take_zero] at hy; cases hy), (fun y hy => by rw [List.drop_length] at hy; cases hy), Keeps.refl _ _⟩
  case round =>
    clear HR
    obtain ⟨p, q, ip, iq, hip, hiq, hpq, hqr, rfl, rfl, hrow, hlo, hgt, hk⟩ := hrel
    have HIP := Lib.hid hip
    have HIQ := Lib.hid hiq
    have HW := Lib.hid hrow
    have HK := Lib.hid hk
    have HLO := Lib.hid hlo
    have HGT := Lib.hid hgt
    clear hip hiq hrow hlo hgt hk
    by_cases hlt : p < q
    case neg =>
      obtain rfl : p = q := by omega
      have hd2 : ¬ ip < iq := by have := HIP.out; have := HIQ.out; omega
      have hw1 : IntKind.i64.wrap ((ip : Int) - 1) = ((a + p : Nat) : Int) := by have := HIP.out; have := HMm.out; have := HA.out; have := HN.out; rw [IntWalk.i64_in _ (by omega)]; omega
      obtain ⟨e, he⟩ : ∃ e, e = a + p := ⟨_, rfl⟩
      rw [← he] at hw1
      have HE := Lib.hid he
      clear he
      go_wp2
      clear hw1 hd2
      go_loopw [13] (fun kv wq => ∃ j jk : Nat, jk = a + j ∧ j ≤ p ∧ kv = .int .i64 (jk : Int) ∧ RowL blk (mv pre x R post j) wq ∧ Keeps (fun k => k = blk) w wq) (fun kv _ => e - (intOf kv).toNat)
      case atStart => exact ⟨0, a, rfl, Nat.zero_le _, rfl, by rw [mv_zero]; exact HW.out, HK.out⟩
      case round =>
        clear HW HK
        obtain ⟨j, jk, hjk, hjp, rfl, hrow, hk⟩ := hrel
        have HJK := Lib.hid hjk
        have HW := Lib.hid hrow
        have HK := Lib.hid hk
        clear hjk hrow hk
        have hw1 : IntKind.i64.wrap ((ip : Int) - 1) = (e : Int) := by have := HIP.out; have := HMm.out; have := HA.out; have := HN.out; have := HE.out; rw [IntWalk.i64_in _ (by omega)]; omega
        by_cases hlj : j < p
        case neg =>
          obtain rfl : j = p := by omega
          have hd3 : ¬ jk < e := by have := HJK.out; have := HE.out; omega
          go_wp2
          refine bodyPost_ret (results_none rfl _ _ _) rfl ?_
          refine ⟨rfl, ⟨R.take j ++ x :: R.drop j, ?_, srt_put HC.out.sto HS.out hqr HGT.out HLO.out, ?_⟩, HK.out⟩
          · have h4 : (R.take j ++ x :: R.drop j).Perm (x :: (R.take j ++ R.drop j)) := List.perm_middle
            rwa [List.take_append_drop] at h4
          · have h5 := HW.out
            unfold mv at h5
            simpa only [List.append_assoc, List.cons_append] using h5
        have hd3 : jk < e := by have := HJK.out; have := HE.out; omega
        obtain ⟨jn, hjn⟩ : ∃ k, k = jk + 1 := ⟨_, rfl⟩
        obtain ⟨y, hy⟩ : ∃ y, y = R[j] := ⟨_, rfl⟩
        have e1 := mv_at pre x R post j (by omega)
        have e2 := mv_after pre x R post j (by omega)
        have hsw := mv_next pre x R post j (by omega)
        rw [← hy] at e2
        rw [← HA.out, show a + j = jk from HJK.out.symm] at e1
        rw [← HA.out, show a + j + 1 = jn by have := HJK.out; omega] at e2
        rw [← HA.out, show a + j + 1 = jn by have := HJK.out; omega, show a + j = jk from HJK.out.symm] at hsw
        have hw2 : IntKind.i64.wrap ((jk : Int) + 1) = (jn : Int) := by have := HN.out; have := HA.out; have := HJK.out; rw [IntWalk.i64_in _ (by omega)]; omega
        have hjn1 : jk < n := by have := HN.out; have := HA.out; have := HJK.out; omega
        have hjn2 : jn < n := by have := HN.out; have := HA.out; have := HJK.out; omega
        have hne : jk ≠ jn := by omega
        have E1 := Lib.hid e1
        have E2 := Lib.hid e2
        have HSW := Lib.hid hsw
        have HJN := Lib.hid hjn
        clear e1 e2 hsw hjn hy
        go_wp2_with fail
        have c1 := HW.out.cell E1.out
        have c2 := HW.out.cell E2.out
        have f1 := fun k => HW.out.frozen k
        have c3 : ∀ v, (wr.setCell ⟨blk, jk, none⟩ v).cell? ⟨blk, jn, none⟩ = some (.int .u64 (y : Int)) := fun v => (World.cell?_setCell_other _ _ _ _ (fun e => hne (by injection e))).trans c2
        have f2 : ∀ k, (wr.setCell ⟨blk, jk, none⟩ (.int .u64 (y : Int))).frozen? ⟨blk, k, none⟩ = false := fun k => (HW.out.set E1.out y).frozen k
        replace HK : Hid (Keeps (fun k => k = blk) w ((wr.setCell ⟨blk, jk, none⟩ (.int .u64 (y : Int))).setCell ⟨blk, jn, none⟩ (.int .u64 (x : Int))).drew) := (HK.out.trans (keeps_two (blk := blk) (W := wr) (i := jk) (j := jn) (u := .int .u64 (y : Int)) (v := .int .u64 (x : Int)))).trans (Keeps.drew _ _)
        replace HW : Hid (RowL blk _ ((wr.setCell ⟨blk, jk, none⟩ (.int .u64 (y : Int))).setCell ⟨blk, jn, none⟩ (.int .u64 (x : Int))).drew) := HW.out.swap E1.out E2.out
        go_big_region
        clear c1 c2 c3 f1 f2
        generalize ((wr.setCell ⟨blk, jk, none⟩ (.int .u64 (y : Int))).setCell ⟨blk, jn, none⟩ (.int .u64 (x : Int))).drew = wd at HW HK ⊢
        rw [HSW.out] at HW
        go_wp2
        exact ⟨⟨j + 1, jn, by have := HJN.out; have := HJK.out; omega, by omega, rfl, HW.out, HK.out⟩, by simp [intOf]; have := HJN.out; omega⟩
    have hd2 : ip < iq := by have := HIP.out; have := HIQ.out; omega
    obtain ⟨h, hh, hph, hhq⟩ := half_lt (m := m) hlt
    obtain ⟨ih, hih⟩ : ∃ k, k = m + h := ⟨_, rfl⟩
    obtain ⟨sm, hsm⟩ : ∃ k, k = ip + iq := ⟨_, rfl⟩
    obtain ⟨jn, hjn⟩ : ∃ k, k = ih + 1 := ⟨_, rfl⟩
    have hw1 : IntKind.i64.wrap ((ip : Int) + (iq : Int)) = (sm : Int) := by have := HIP.out; have := HIQ.out; have := HN.out; have := HMm.out; rw [IntWalk.i64_in _ (by omega)]; omega
    have hw2 : IntKind.u64.wrap (sm : Int) = (sm : Int) := IntWalk.u64_in _ (by have := HIP.out; have := HIQ.out; have := HN.out; have := HMm.out; omega)
    obtain ⟨y, hy⟩ : ∃ y, y = R[h]'(by omega) := ⟨_, rfl⟩
    have hrl : h < R.length := by omega
    have hyR : y ∈ R := by rw [hy]; exact List.getElem_mem hrl
    have e1 : (pre ++ x :: (R ++ post))[ih]? = some y := by
      rw [show ih = pre.length + (h + 1) by have := HMm.out; omega, List.getElem?_append_right (by omega), show pre.length + (h + 1) - pre.length = h + 1 by omega, List.getElem?_cons_succ, List.getElem?_append_left hrl, hy, List.getElem?_eq_getElem]
    have e2 : (pre ++ x :: (R ++ post))[a]? = some x := by
      rw [HA.out, List.getElem?_append_right (by omega), Nat.sub_self]; rfl
    have hin : ih < n := by have := HN.out; have := HMm.out; omega
    have han : a < n := by have := HN.out; have := HA.out; omega
    have hsm2 : (sm : Int) / 2 = (ih : Int) := by have := HIP.out; have := HIQ.out; omega
    have hw3 : IntKind.i64.wrap (ih : Int) = (ih : Int) := IntWalk.i64_in _ (by omega)
    have hw4 : IntKind.i64.wrap ((ih : Int) + 1) = (jn : Int) := by rw [IntWalk.i64_in _ (by omega)]; omega
    have E1 := Lib.hid e1
    have E2 := Lib.hid e2
    have HY := Lib.hid hy
    have HIH := Lib.hid hih
    have HJN := Lib.hid hjn
    have hyl := HM.out y hyR
    have hxy := HNB.out y hyR
    have c1 := HW.out.cell e1
    have c2 := HW.out.cell e2
    have HCL := Lib.hid (fun W hk => HC.out.call W hk y x hyl hxl)
    clear e1 e2 hy hih hjn hh hsm
    by_cases hcf : cf y x < 0
    · have hcd : decide (cf y x < 0) = true := decide_eq_true hcf
      go_wp2_with fail
      refine wp_region_held_drew (S := S2r blk ih a y x) (by kernel_rfl) ⟨c1, c2⟩ fun hS => ?_
      refine wpAnyH_take (i := 0) (v := ?_) rfl (by kernel_rfl) (by kernel_rfl) (by kernel_rfl) (fun _ _ _ h => h) (Or.inl ⟨by rfl, ?_⟩) hS ?_
      rotate_left
      · (intro W hSw; obtain ⟨hq1, hq2⟩ := hSw; go_simp; try with_reducible rfl)
      try simp only [List.getElem_toArray, List.getElem_cons_succ, List.getElem_cons_zero, Act.put, List.setIfInBounds_toArray, List.set_cons_zero, List.set_cons_succ]
      refine wpAnyH_take (i := 1) (v := ?_) rfl (by kernel_rfl) (by kernel_rfl) (by kernel_rfl) (fun _ _ _ h => h) (Or.inl ⟨by rfl, ?_⟩) hS ?_
      rotate_left
      · (intro W hSw; obtain ⟨hq1, hq2⟩ := hSw; go_simp; try with_reducible rfl)
      try simp only [List.getElem_toArray, List.getElem_cons_succ, List.getElem_cons_zero, Act.put, List.setIfInBounds_toArray, List.set_cons_zero, List.set_cons_succ]
      refine wpAnyH_take (i := 2) (v := ?_) rfl (by kernel_rfl) (by kernel_rfl) (by kernel_rfl) (fun _ _ _ h => h) (Or.inl ⟨by rfl, ?_⟩) hS ?_
      rotate_left
      · (intro W hSw; obtain ⟨hq1, hq2⟩ := hSw; go_simp; try with_reducible rfl)
      try simp only [List.getElem_toArray, List.getElem_cons_succ, List.getElem_cons_zero, Act.put, List.setIfInBounds_toArray, List.set_cons_zero, List.set_cons_succ]
      refine wpAnyH_take (i := 3) (v := ?_) rfl (by kernel_rfl) (by kernel_rfl) (by kernel_rfl) (fun _ _ _ h => h) (Or.inl ⟨by rfl, ?_⟩) hS ?_
      rotate_left
      · (intro W hSw; obtain ⟨hq1, hq2⟩ := hSw; go_simp; try with_reducible rfl)
      try simp only [List.getElem_toArray, List.getElem_cons_succ, List.getElem_cons_zero, Act.put, List.setIfInBounds_toArray, List.set_cons_zero, List.set_cons_succ]
      refine wpAnyH_take (i := 4) (v := ?_) rfl (by kernel_rfl) (by kernel_rfl) (by kernel_rfl) (fun _ _ _ h => h) (Or.inl ⟨by rfl, ?_⟩) hS ?_
      rotate_left
      · (intro W hSw; obtain ⟨hq1, hq2⟩ := hSw; go_simp; try with_reducible rfl)
      try simp only [List.getElem_toArray, List.getElem_cons_succ, List.getElem_cons_zero, Act.put, List.setIfInBounds_toArray, List.set_cons_zero, List.set_cons_succ]
      refine wpAnyH_take (i := 5) (v := ?_) rfl (by kernel_rfl) (by kernel_rfl) (by kernel_rfl) (fun _ _ _ h => h) (Or.inl ⟨by rfl, ?_⟩) hS ?_
      rotate_left
      · (intro W hSw; obtain ⟨hq1, hq2⟩ := hSw; go_simp; try with_reducible rfl)
      try simp only [List.getElem_toArray, List.getElem_cons_succ, List.getElem_cons_zero, Act.put, List.setIfInBounds_toArray, List.set_cons_zero, List.set_cons_succ]
      refine wpAnyH_take (i := 6) (v := ?_) rfl (by kernel_rfl) (by kernel_rfl) (by kernel_rfl) (fun _ _ _ h => h) (Or.inl ⟨by rfl, ?_⟩) hS ?_
      rotate_left
      · (intro W hSw; obtain ⟨hq1, hq2⟩ := hSw; go_simp; try with_reducible rfl)
      try simp only [List.getElem_toArray, List.getElem_cons_succ, List.getElem_cons_zero, Act.put, List.setIfInBounds_toArray, List.set_cons_zero, List.set_cons_succ]
      refine wpAnyH_take (i := 7) (v := ?_) rfl (by kernel_rfl) (by kernel_rfl) (by kernel_rfl) (fun _ _ _ h => h) (Or.inl ⟨by rfl, ?_⟩) hS ?_
      rotate_left
      · (intro W hSw; obtain ⟨hq1, hq2⟩ := hSw; go_simp; try with_reducible rfl)
      try simp only [List.getElem_toArray, List.getElem_cons_succ, List.getElem_cons_zero, Act.put, List.setIfInBounds_toArray, List.set_cons_zero, List.set_cons_succ]
      refine wpAnyH_take (i := 8) (v := ?_) rfl (by kernel_rfl) (by kernel_rfl) (by kernel_rfl) (fun _ _ _ h => h) (Or.inl ⟨by rfl, ?_⟩) hS ?_
      rotate_left
      · (intro W hSw; obtain ⟨hq1, hq2⟩ := hSw; go_simp; try with_reducible rfl)
      try simp only [List.getElem_toArray, List.getElem_cons_succ, List.getElem_cons_zero, Act.put, List.setIfInBounds_toArray, List.set_cons_zero, List.set_cons_succ]
      refine wpAnyH_ready (rs := [9]) (by kernel_rfl) (by simp) ?_
      refine AllReadyH.cons rfl (fun K hK => ?_) AllReadyH.nil
      go_simp
      go_at_fn g
      refine (HCL.out _ (HK0.out.trans (HK.out.trans (Keeps.drew _ _)))).mono ?_
      rintro e' wc ⟨rfl, hbc⟩
      obtain ⟨hw9, hk9⟩ := RowL.old HW.out.drew hbc (HK.out.trans (Keeps.drew _ _))
      replace HW := Lib.hid hw9
      replace HK := Lib.hid hk9
      clear hbc hw9 hk9 c1 c2 hS
      refine hK.out _ _ ⟨HW.out.cell E1.out, HW.out.cell E2.out⟩ (fun hS => ?_)
      clear hK K
      try simp only [List.getElem_toArray, List.getElem_cons_succ, List.getElem_cons_zero, Act.put, List.setIfInBounds_toArray, List.set_cons_zero, List.set_cons_succ]
      refine wpAnyH_take (i := 10) (v := ?_) rfl (by kernel_rfl) (by kernel_rfl) (by kernel_rfl) (fun _ _ _ h => h) (Or.inl ⟨by rfl, ?_⟩) hS ?_
      rotate_left
      · (intro W hSw; obtain ⟨hq1, hq2⟩ := hSw; go_simp; try with_reducible rfl)
      try simp only [List.getElem_toArray, List.getElem_cons_succ, List.getElem_cons_zero, Act.put, List.setIfInBounds_toArray, List.set_cons_zero, List.set_cons_succ]
      refine wpAnyH_done (by kernel_rfl) ?_ _
      clear hS
      go_wp2
      have hlt2 := HC.out.yes hyl hxl hxy hcf
      rw [HY.out] at hlt2
      exact ⟨⟨h + 1, q, jn, iq, by have := HJN.out; have := HIH.out; omega, HIQ.out, by omega, hqr, rfl, rfl, HW.out, srt_below HC.out.sto HS.out hrl hlt2, HGT.out, HK.out⟩, by simp [intOf]; have := HJN.out; have := HIH.out; have := HIP.out; have := HIQ.out; omega⟩
    · have hcd : decide (cf y x < 0) = false := decide_eq_false hcf
      go_wp2_with fail
      refine wp_region_held_drew (S := S2r blk ih a y x) (by kernel_rfl) ⟨c1, c2⟩ fun hS => ?_
      refine wpAnyH_take (i := 0) (v := ?_) rfl (by kernel_rfl) (by kernel_rfl) (by kernel_rfl) (fun _ _ _ h => h) (Or.inl ⟨by rfl, ?_⟩) hS ?_
      rotate_left
      · (intro W hSw; obtain ⟨hq1, hq2⟩ := hSw; go_simp; try with_reducible rfl)
      try simp only [List.getElem_toArray, List.getElem_cons_succ, List.getElem_cons_zero, Act.put, List.setIfInBounds_toArray, List.set_cons_zero, List.set_cons_succ]
      refine wpAnyH_take (i := 1) (v := ?_) rfl (by kernel_rfl) (by kernel_rfl) (by kernel_rfl) (fun _ _ _ h => h) (Or.inl ⟨by rfl, ?_⟩) hS ?_
      rotate_left
      · (intro W hSw; obtain ⟨hq1, hq2⟩ := hSw; go_simp; try with_reducible rfl)
      try simp only [List.getElem_toArray, List.getElem_cons_succ, List.getElem_cons_zero, Act.put, List.setIfInBounds_toArray, List.set_cons_zero, List.set_cons_succ]
      refine wpAnyH_take (i := 2) (v := ?_) rfl (by kernel_rfl) (by kernel_rfl) (by kernel_rfl) (fun _ _ _ h => h) (Or.inl ⟨by rfl, ?_⟩) hS ?_
      rotate_left
      · (intro W hSw; obtain ⟨hq1, hq2⟩ := hSw; go_simp; try with_reducible rfl)
      try simp only [List.getElem_toArray, List.getElem_cons_succ, List.getElem_cons_zero, Act.put, List.setIfInBounds_toArray, List.set_cons_zero, List.set_cons_succ]
      refine wpAnyH_take (i := 3) (v := ?_) rfl (by kernel_rfl) (by kernel_rfl) (by kernel_rfl) (fun _ _ _ h => h) (Or.inl ⟨by rfl, ?_⟩) hS ?_
      rotate_left
      · (intro W hSw; obtain ⟨hq1, hq2⟩ := hSw; go_simp; try with_reducible rfl)
      try simp only [List.getElem_toArray, List.getElem_cons_succ, List.getElem_cons_zero, Act.put, List.setIfInBounds_toArray, List.set_cons_zero, List.set_cons_succ]
      refine wpAnyH_take (i := 4) (v := ?_) rfl (by kernel_rfl) (by kernel_rfl) (by kernel_rfl) (fun _ _ _ h => h) (Or.inl ⟨by rfl, ?_⟩) hS ?_
      rotate_left
      · (intro W hSw; obtain ⟨hq1, hq2⟩ := hSw; go_simp; try with_reducible rfl)
      try simp only [List.getElem_toArray, List.getElem_cons_succ, List.getElem_cons_zero, Act.put, List.setIfInBounds_toArray, List.set_cons_zero, List.set_cons_succ]
      refine wpAnyH_take (i := 5) (v := ?_) rfl (by kernel_rfl) (by kernel_rfl) (by kernel_rfl) (fun _ _ _ h => h) (Or.inl ⟨by rfl, ?_⟩) hS ?_
      rotate_left
      · (intro W hSw; obtain ⟨hq1, hq2⟩ := hSw; go_simp; try with_reducible rfl)
      try simp only [List.getElem_toArray, List.getElem_cons_succ, List.getElem_cons_zero, Act.put, List.setIfInBounds_toArray, List.set_cons_zero, List.set_cons_succ]
      refine wpAnyH_take (i := 6) (v := ?_) rfl (by kernel_rfl) (by kernel_rfl) (by kernel_rfl) (fun _ _ _ h => h) (Or.inl ⟨by rfl, ?_⟩) hS ?_
      rotate_left
      · (intro W hSw; obtain ⟨hq1, hq2⟩ := hSw; go_simp; try with_reducible rfl)
      try simp only [List.getElem_toArray, List.getElem_cons_succ, List.getElem_cons_zero, Act.put, List.setIfInBounds_toArray, List.set_cons_zero, List.set_cons_succ]
      refine wpAnyH_take (i := 7) (v := ?_) rfl (by kernel_rfl) (by kernel_rfl) (by kernel_rfl) (fun _ _ _ h => h) (Or.inl ⟨by rfl, ?_⟩) hS ?_
      rotate_left
      · (intro W hSw; obtain ⟨hq1, hq2⟩ := hSw; go_simp; try with_reducible rfl)
      try simp only [List.getElem_toArray, List.getElem_cons_succ, List.getElem_cons_zero, Act.put, List.setIfInBounds_toArray, List.set_cons_zero, List.set_cons_succ]
      refine wpAnyH_take (i := 8) (v := ?_) rfl (by kernel_rfl) (by kernel_rfl) (by kernel_rfl) (fun _ _ _ h => h) (Or.inl ⟨by rfl, ?_⟩) hS ?_
      rotate_left
      · (intro W hSw; obtain ⟨hq1, hq2⟩ := hSw; go_simp; try with_reducible rfl)
      try simp only [List.getElem_toArray, List.getElem_cons_succ, List.getElem_cons_zero, Act.put, List.setIfInBounds_toArray, List.set_cons_zero, List.set_cons_succ]
      refine wpAnyH_ready (rs := [9]) (by kernel_rfl) (by simp) ?_
      refine AllReadyH.cons rfl (fun K hK => ?_) AllReadyH.nil
      go_simp
      go_at_fn g
      refine (HCL.out _ (HK0.out.trans (HK.out.trans (Keeps.drew _ _)))).mono ?_
      rintro e' wc ⟨rfl, hbc⟩
      obtain ⟨hw9, hk9⟩ := RowL.old HW.out.drew hbc (HK.out.trans (Keeps.drew _ _))
      replace HW := Lib.hid hw9
      replace HK := Lib.hid hk9
      clear hbc hw9 hk9 c1 c2 hS
      refine hK.out _ _ ⟨HW.out.cell E1.out, HW.out.cell E2.out⟩ (fun hS => ?_)
      clear hK K
      try simp only [List.getElem_toArray, List.getElem_cons_succ, List.getElem_cons_zero, Act.put, List.setIfInBounds_toArray, List.set_cons_zero, List.set_cons_succ]
      refine wpAnyH_take (i := 10) (v := ?_) rfl (by kernel_rfl) (by kernel_rfl) (by kernel_rfl) (fun _ _ _ h => h) (Or.inl ⟨by rfl, ?_⟩) hS ?_
      rotate_left
      · (intro W hSw; obtain ⟨hq1, hq2⟩ := hSw; go_simp; try with_reducible rfl)
      try simp only [List.getElem_toArray, List.getElem_cons_succ, List.getElem_cons_zero, Act.put, List.setIfInBounds_toArray, List.set_cons_zero, List.set_cons_succ]
      refine wpAnyH_done (by kernel_rfl) ?_ _
      clear hS
      go_wp2
      have hlt2 := HC.out.no hyl hxl hxy (by omega)
      rw [HY.out] at hlt2
      exact ⟨⟨p, h, ip, ih, HIP.out, HIH.out, hph, by omega, rfl, rfl, HW.out, HLO.out, srt_above HC.out.sto HS.out hrl hlt2, HK.out⟩, by simp [intOf]; have := HJN.out; have := HIH.out; have := HIP.out; have := HIQ.out; omega⟩

end Go.Proofs.Ytabbmihakoeegaa

/- The stable sort, in plain words: where two sorted blocks are cut, and blocks of twice the size. -/
namespace Go.Proofs.Ytabbmihakoeegaa
set_option linter.unusedVariables false
set_option linter.unusedSimpArgs false
namespace Stab
variable {lt : Nat → Nat → Prop}
theorem get_L {pre L R post : List Nat} {c : Nat} (h1 : pre.length ≤ c) (h2 : c < pre.length + L.length) : (pre ++ L ++ R ++ post)[c]? = L[c - pre.length]? := by
  rw [List.append_assoc, List.getElem?_append_left (by simp; omega), List.getElem?_append_right h1]
theorem get_R {pre L R post : List Nat} {c : Nat} (h1 : pre.length + L.length ≤ c) (h2 : c < pre.length + L.length + R.length) : (pre ++ L ++ R ++ post)[c]? = R[c - (pre.length + L.length)]? := by
  rw [List.getElem?_append_left (by simp; omega), List.getElem?_append_right (by simpa using h1)]; simp
theorem get_L_mem {pre L R post : List Nat} {c : Nat} (h1 : pre.length ≤ c) (h2 : c < pre.length + L.length) : ∃ x, (pre ++ L ++ R ++ post)[c]? = some x ∧ x ∈ L :=
  ⟨L[c - pre.length]'(by omega), by rw [get_L h1 h2, List.getElem?_eq_getElem], List.getElem_mem _⟩
theorem get_R_mem {pre L R post : List Nat} {c : Nat} (h1 : pre.length + L.length ≤ c) (h2 : c < pre.length + L.length + R.length) : ∃ x, (pre ++ L ++ R ++ post)[c]? = some x ∧ x ∈ R :=
  ⟨R[c - (pre.length + L.length)]'(by omega), by rw [get_R h1 h2, List.getElem?_eq_getElem], List.getElem_mem _⟩
theorem take_last {l a : List Nat} {k x : Nat} (hk : k ≤ l.length) (h : l.take k = a ++ [x]) : 0 < k ∧ l[k - 1]? = some x := by
  have h1 : k = a.length + 1 := by
    have := congrArg List.length h
    rw [List.length_take, List.length_append, List.length_singleton, Nat.min_eq_left hk] at this; exact this
  refine ⟨by omega, ?_⟩
  have h2 : (l.take k)[k - 1]? = l[k - 1]? := List.getElem?_take_of_lt (by omega)
  rw [← h2, h, h1]; simp
theorem drop_first {l b : List Nat} {k r : Nat} (h : l.drop k = r :: b) : k < l.length ∧ l[k]? = some r := by
  have h1 : (l.drop k)[0]? = some r := by rw [h]; rfl
  rw [List.getElem?_drop, Nat.add_zero] at h1
  exact ⟨(List.getElem?_eq_some_iff.1 h1).1, h1⟩
/-- One place before another one, by a row. -/
def Lt2 (lt : Nat → Nat → Prop) (T : List Nat) (i j : Nat) : Prop := ∃ x y, T[i]? = some x ∧ T[j]? = some y ∧ lt x y
theorem Lt2.mk {T : List Nat} {i j x y : Nat} (h1 : T[i]? = some x) (h2 : T[j]? = some y) (h : lt x y) : Lt2 lt T i j := ⟨x, y, h1, h2, h⟩
theorem Lt2.get {T : List Nat} {i j x y : Nat} (h : Lt2 lt T i j) (h1 : T[i]? = some x) (h2 : T[j]? = some y) : lt x y := by
  obtain ⟨x', y', e1, e2, h⟩ := h
  rw [h1] at e1; rw [h2] at e2
  rw [Option.some.inj e1, Option.some.inj e2]; exact h
theorem sym_cut (ho : STO lt) {pre L R post : List Nat} {a m b lo hi n1 s k j : Nat} (ha : a = pre.length) (hm : m = pre.length + L.length) (hb : b = pre.length + L.length + R.length)
    (hSL : Srt lt L) (hSR : Srt lt R) (h1 : a ≤ s) (h2 : s ≤ m) (h3 : m + s ≤ n1) (h4 : n1 ≤ b + s) (hlo : lo = a ∨ n1 = b + lo) (hhi : hi = m ∨ n1 = m + hi)
    (i1 : s = lo ∨ Lt2 lt (pre ++ L ++ R ++ post) (s - 1) (n1 - s)) (i2 : s = hi ∨ Lt2 lt (pre ++ L ++ R ++ post) (n1 - 1 - s) s) (hk : s = a + k) (hj : n1 = s + m + j) :
    Bef lt (L.take k ++ R.take j) (L.drop k ++ R.drop j) := by
  have tl := List.take_append_drop k L
  have tr := List.take_append_drop j R
  refine cross ho (by rw [tl]; exact hSL) (by rw [tr]; exact hSR) (fun p x r q e1 e2 => ?_) (fun p x r q e1 e2 => ?_)
  · obtain ⟨k1, k2⟩ := take_last (by omega) e1
    obtain ⟨k3, k4⟩ := drop_first e2
    rcases i1 with i1 | i1
    · omega
    · refine i1.get ?_ ?_
      · rw [get_L (by omega) (by omega), show s - 1 - pre.length = k - 1 by omega, k2]
      · rw [get_R (by omega) (by omega), show n1 - s - (pre.length + L.length) = j by omega, k4]
  · obtain ⟨k1, k2⟩ := take_last (by omega) e1
    obtain ⟨k3, k4⟩ := drop_first e2
    rcases i2 with i2 | i2
    · omega
    · refine i2.get ?_ ?_
      · rw [get_R (by omega) (by omega), show n1 - 1 - s - (pre.length + L.length) = j - 1 by omega, k2]
      · rw [get_L (by omega) (by omega), show s - pre.length = k by omega, k4]
/-- Two blocks, and the rest. -/
theorem Ch.split2 {bs : Nat} {l : List Nat} (hbs : 0 < bs) (h : Ch lt bs l) (hl : 2 * bs ≤ l.length) : ∃ B C T, l = B ++ C ++ T ∧ B.length = bs ∧ C.length = bs ∧ Srt lt B ∧ Srt lt C ∧ Nb B C ∧ Nb (B ++ C) T ∧ Ch lt bs T := by
  obtain ⟨B, T, rfl, h1, h2, h3, h4⟩ := h.split (by omega)
  rw [List.length_append] at hl
  by_cases he : bs < T.length
  · obtain ⟨C, T', rfl, k1, k2, k3, k4⟩ := h4.split he
    refine ⟨B, C, T', by simp, h1, k1, h2, k2, h3.mono (fun _ => id) (by simp +contextual), fun x hx y hy => ?_, k4⟩
    rcases List.mem_append.1 hx with k | k
    · exact h3 x k y (by simp [hy])
    · exact k3 x k y hy
  · exact ⟨B, T, [], by simp, h1, by omega, h2, h4.one (by omega), h3, (fun _ _ y hy => by cases hy), Ch.last [] (by simp) List.Pairwise.nil⟩
end Stab
end Go.Proofs.Ytabbmihakoeegaa

/- The stable sort, walked: two blocks are merged, the second of which has one element. -/
namespace Go.Proofs.Ytabbmihakoeegaa
set_option linter.unusedVariables false
set_option linter.unusedSimpArgs false
open Go.RowKit Go.Shelf
attribute [local go_sem] Oper.semAt_some
open Stab

theorem half_lt0 {a p q : Nat} (h : p < q) : ∃ k, (a + p + (a + q)) / 2 = a + k ∧ p ≤ k ∧ k < q := ⟨(a + p + (a + q)) / 2 - a, by omega, by omega, by omega⟩
theorem mv_left (pre : List Nat) (x : Nat) (S post : List Nat) (j : Nat) (hj : j < S.length) : (mv pre x S post S.length)[pre.length + j]? = some S[j] := by
  rw [mv_all, List.append_assoc, List.getElem?_append_right (by omega), List.getElem?_append_left (by omega)]
  rw [show pre.length + j - pre.length = j by omega, List.getElem?_eq_getElem hj]
set_option maxRecDepth 100000 in
set_option maxHeartbeats 4000000 in
theorem symR_any (g : Nat) (cb : Array Value) (cf : Nat → Nat → Int) (lt : Nat → Nat → Prop) (l0 : List Nat) (w0 : World) (blk n cap a m b : Nat) (hc : CmpOk g cb cf lt blk l0 w0) (pre L : List Nat) (x : Nat) (post : List Nat) (hn : n = pre.length + L.length + 1 + post.length) (hs : n < 1099511627776) (w : World) (hk0 : Keeps (fun k => k = blk) w0 w)
    (hr : RowL blk (mv pre x L post L.length) w) (ha : a = pre.length) (hm : m = pre.length + L.length) (hb : b = pre.length + L.length + 1) (hS : Srt lt L) (hnb : ∀ y ∈ L, y < x) (hxl : x ∈ l0) (hml : ∀ y ∈ L, y ∈ l0) (hl1 : L.length ≠ 1) :
    Calls Try.prog 100 #[.slice (some ⟨blk, 0, none⟩) n cap, .int .i64 a, .int .i64 m, .int .i64 b, .func (.func g) #[] cb] w fun e w' => e = .returned (.tuple #[]) ∧ (∃ M, M.Perm (L ++ [x]) ∧ Srt lt M ∧ RowL blk (pre ++ M ++ post) w') ∧ Keeps (fun k => k = blk) w w' := by
  have HR := Lib.hid hr
  have HC := Lib.hid hc
  have HA := Lib.hid ha
  have HMm := Lib.hid hm
  have HBb := Lib.hid hb
  have HN := Lib.hid hn
  have HS := Lib.hid hS
  have HM := Lib.hid hml
  have HNB := Lib.hid hnb
  have HK0 := Lib.hid hk0
  have eg := hc.enter
  obtain ⟨ll, hll⟩ : ∃ k, k = L.length := ⟨_, rfl⟩
  have hw0 : IntKind.i64.wrap ((m : Int) - (a : Int)) = (ll : Int) := by rw [IntWalk.i64_in _ (by omega)]; omega
  have hw1 : IntKind.i64.wrap ((b : Int) - (m : Int)) = 1 := by rw [IntWalk.i64_in _ (by omega)]; omega
  have hl1' : ¬ ll = 1 := by omega
  have hl1i : ¬ (ll : Int) = 1 := by omega
  have hl1b : ((ll : Int) == 1) = false := beq_eq_false_iff_ne.2 hl1i
  clear hr hc ha hm hb hn hS hml hnb hk0 hl1 hll
  go_enter Try.func100, Try.ntmps100
  go_wp2
  clear hw0 hw1 hl1' hl1i hl1b
  go_loopw [14, 15] (fun iv jv wr => ∃ p q ip iq : Nat, ip = a + p ∧ iq = a + q ∧ p ≤ q ∧ q ≤ L.length ∧ iv = .int .i64 (ip : Int) ∧ jv = .int .i64 (iq : Int) ∧ RowL blk (mv pre x L post L.length) wr ∧ (∀ y ∈ L.take p, lt y x) ∧ (∀ y ∈ L.drop q, lt x y) ∧ Keeps (fun k => k = blk) w wr) (fun iv jv _ => (intOf jv).toNat - (intOf iv).toNat)
  case atStart =>
    exact ⟨0, L.length, a, m, rfl, by have := HA.out; have := HMm.out; omega, Nat.zero_le _, Nat.le_refl _, rfl, rfl, HR.out, (fun y hy => by rw [List.take_zero] at hy; cases hy), (fun y hy => by rw [List.drop_length] at hy; cases hy), Keeps.refl _ _⟩
  case round =>
    clear HR
    obtain ⟨p, q, ip, iq, hip, hiq, hpq, hqr, rfl, rfl, hrow, hlo, hgt, hk⟩ := hrel
    have HIP := Lib.hid hip
    have HIQ := Lib.hid hiq
    have HW := Lib.hid hrow
    have HK := Lib.hid hk
    have HLO := Lib.hid hlo
    have HGT := Lib.hid hgt
    clear hip hiq hrow hlo hgt hk
    by_cases hlt : p < q
    case neg =>
      obtain rfl : p = q := by omega
      have hd2 : ¬ ip < iq := by have := HIP.out; have := HIQ.out; omega
      go_wp2
      clear hd2
      go_loopw [17] (fun kv wq => ∃ j jk : Nat, jk = a + j ∧ p ≤ j ∧ j ≤ L.length ∧ kv = .int .i64 (jk : Int) ∧ RowL blk (mv pre x L post j) wq ∧ Keeps (fun k => k = blk) w wq) (fun kv _ => (intOf kv).toNat)
      case atStart => exact ⟨L.length, m, by have := HA.out; have := HMm.out; omega, hqr, Nat.le_refl _, rfl, HW.out, HK.out⟩
      case round =>
        clear HW HK
        obtain ⟨j, jk, hjk, hjp, hjl, rfl, hrow, hk⟩ := hrel
        have HJK := Lib.hid hjk
        have HW := Lib.hid hrow
        have HK := Lib.hid hk
        clear hjk hrow hk
        by_cases hlj : p < j
        case neg =>
          obtain rfl : j = p := by omega
          have hd3 : ¬ ip < jk := by have := HJK.out; have := HIP.out; omega
          go_wp2
          refine bodyPost_ret (results_none rfl _ _ _) rfl ?_
          refine ⟨rfl, ⟨L.take j ++ x :: L.drop j, ?_, srt_put HC.out.sto HS.out hqr HGT.out HLO.out, ?_⟩, HK.out⟩
          · have h4 : (L.take j ++ x :: L.drop j).Perm (x :: (L.take j ++ L.drop j)) := List.perm_middle
            rw [List.take_append_drop] at h4
            exact h4.trans (List.perm_append_singleton x L).symm
          · have h5 := HW.out
            unfold mv at h5
            simpa only [List.append_assoc, List.cons_append] using h5
        have hd3 : ip < jk := by have := HJK.out; have := HIP.out; omega
        obtain ⟨o, ho⟩ : ∃ o, j = o + 1 := ⟨j - 1, by omega⟩
        subst ho
        obtain ⟨jp, hjpp⟩ : ∃ k, k = a + o := ⟨_, rfl⟩
        obtain ⟨y, hy⟩ : ∃ y, y = L[o]'(by omega) := ⟨_, rfl⟩
        have e1 := mv_at pre x L post (o + 1) (by omega)
        have e2 := mv_before pre x L post o (by omega)
        have hsw := mv_back pre x L post o (by omega)
        rw [← hy] at e2
        rw [← HA.out, show a + (o + 1) = jk from HJK.out.symm] at e1
        rw [← HA.out, ← hjpp] at e2
        rw [← HA.out, show a + o + 1 = jk by have := HJK.out; omega, ← hjpp] at hsw
        have hw2 : IntKind.i64.wrap ((jk : Int) - 1) = (jp : Int) := by have := HN.out; have := HA.out; have := HJK.out; rw [IntWalk.i64_in _ (by omega)]; omega
        have hjn1 : jk < n := by have := HN.out; have := HA.out; have := HJK.out; omega
        have hjn2 : jp < n := by have := HN.out; have := HA.out; have := HJK.out; omega
        have hne : jk ≠ jp := by have := HJK.out; omega
        have E1 := Lib.hid e1
        have E2 := Lib.hid e2
        have HSW := Lib.hid hsw
        have HJN := Lib.hid hjpp
        clear e1 e2 hsw hjpp hy
        go_wp2_with fail
        have c1 := HW.out.cell E1.out
        have c2 := HW.out.cell E2.out
        have f1 := fun k => HW.out.frozen k
        have c3 : ∀ v, (wr.setCell ⟨blk, jk, none⟩ v).cell? ⟨blk, jp, none⟩ = some (.int .u64 (y : Int)) := fun v => (World.cell?_setCell_other _ _ _ _ (fun e => hne (by injection e))).trans c2
        have f2 : ∀ k, (wr.setCell ⟨blk, jk, none⟩ (.int .u64 (y : Int))).frozen? ⟨blk, k, none⟩ = false := fun k => (HW.out.set E1.out y).frozen k
        replace HK : Hid (Keeps (fun k => k = blk) w ((wr.setCell ⟨blk, jk, none⟩ (.int .u64 (y : Int))).setCell ⟨blk, jp, none⟩ (.int .u64 (x : Int))).drew) := (HK.out.trans (keeps_two (blk := blk) (W := wr) (i := jk) (j := jp) (u := .int .u64 (y : Int)) (v := .int .u64 (x : Int)))).trans (Keeps.drew _ _)
        replace HW : Hid (RowL blk _ ((wr.setCell ⟨blk, jk, none⟩ (.int .u64 (y : Int))).setCell ⟨blk, jp, none⟩ (.int .u64 (x : Int))).drew) := HW.out.swap E1.out E2.out
        go_big_region
        clear c1 c2 c3 f1 f2
        generalize ((wr.setCell ⟨blk, jk, none⟩ (.int .u64 (y : Int))).setCell ⟨blk, jp, none⟩ (.int .u64 (x : Int))).drew = wd at HW HK ⊢
        rw [HSW.out] at HW
        go_wp2
        exact ⟨⟨o, jp, HJN.out, by omega, by omega, rfl, HW.out, HK.out⟩, by simp [intOf]; have := HJN.out; have := HJK.out; omega⟩
    have hd2 : ip < iq := by have := HIP.out; have := HIQ.out; omega
    obtain ⟨h, hh, hph, hhq⟩ := half_lt0 (a := a) hlt
    obtain ⟨ih, hih⟩ : ∃ k, k = a + h := ⟨_, rfl⟩
    obtain ⟨sm, hsm⟩ : ∃ k, k = ip + iq := ⟨_, rfl⟩
    obtain ⟨jn, hjn⟩ : ∃ k, k = ih + 1 := ⟨_, rfl⟩
    have hw1 : IntKind.i64.wrap ((ip : Int) + (iq : Int)) = (sm : Int) := by have := HIP.out; have := HIQ.out; have := HN.out; have := HA.out; rw [IntWalk.i64_in _ (by omega)]; omega
    have hw2 : IntKind.u64.wrap (sm : Int) = (sm : Int) := IntWalk.u64_in _ (by have := HIP.out; have := HIQ.out; have := HN.out; have := HA.out; omega)
    obtain ⟨y, hy⟩ : ∃ y, y = L[h]'(by omega) := ⟨_, rfl⟩
    have hrl : h < L.length := by omega
    have hyR : y ∈ L := by rw [hy]; exact List.getElem_mem hrl
    have e2 : (mv pre x L post L.length)[ih]? = some y := by
      rw [show ih = pre.length + h by have := HA.out; omega, mv_left _ _ _ _ _ hrl, hy]
    have e1 : (mv pre x L post L.length)[m]? = some x := by
      rw [HMm.out]; exact mv_at pre x L post L.length (Nat.le_refl _)
    have hin : ih < n := by have := HN.out; have := HA.out; omega
    have hmn : m < n := by have := HN.out; have := HMm.out; omega
    have hsm2 : (sm : Int) / 2 = (ih : Int) := by have := HIP.out; have := HIQ.out; omega
    have hw3 : IntKind.i64.wrap (ih : Int) = (ih : Int) := IntWalk.i64_in _ (by omega)
    have hw4 : IntKind.i64.wrap ((ih : Int) + 1) = (jn : Int) := by rw [IntWalk.i64_in _ (by omega)]; omega
    have E1 := Lib.hid e1
    have E2 := Lib.hid e2
    have HY := Lib.hid hy
    have HIH := Lib.hid hih
    have HJN := Lib.hid hjn
    have hyl := HM.out y hyR
    have hxy := HNB.out y hyR
    have c1 := HW.out.cell e1
    have c2 := HW.out.cell e2
    have HCL := Lib.hid (fun W hk => HC.out.call W hk x y hxl hyl)
    clear e1 e2 hy hih hjn hh hsm
    by_cases hcf : cf x y < 0
    · have hcd : decide (cf x y < 0) = true := decide_eq_true hcf
      go_wp2_with fail
      refine wp_region_held_drew (S := S2r blk m ih x y) (by kernel_rfl) ⟨c1, c2⟩ fun hS => ?_
      refine wpAnyH_take (i := 0) (v := ?_) rfl (by kernel_rfl) (by kernel_rfl) (by kernel_rfl) (fun _ _ _ h => h) (Or.inl ⟨by rfl, ?_⟩) hS ?_
      rotate_left
      · (intro W hSw; obtain ⟨hq1, hq2⟩ := hSw; go_simp; try with_reducible rfl)
      try simp only [List.getElem_toArray, List.getElem_cons_succ, List.getElem_cons_zero, Act.put, List.setIfInBounds_toArray, List.set_cons_zero, List.set_cons_succ]
      refine wpAnyH_take (i := 1) (v := ?_) rfl (by kernel_rfl) (by kernel_rfl) (by kernel_rfl) (fun _ _ _ h => h) (Or.inl ⟨by rfl, ?_⟩) hS ?_
      rotate_left
      · (intro W hSw; obtain ⟨hq1, hq2⟩ := hSw; go_simp; try with_reducible rfl)
      try simp only [List.getElem_toArray, List.getElem_cons_succ, List.getElem_cons_zero, Act.put, List.setIfInBounds_toArray, List.set_cons_zero, List.set_cons_succ]
      refine wpAnyH_take (i := 2) (v := ?_) rfl (by kernel_rfl) (by kernel_rfl) (by kernel_rfl) (fun _ _ _ h => h) (Or.inl ⟨by rfl, ?_⟩) hS ?_
      rotate_left
      · (intro W hSw; obtain ⟨hq1, hq2⟩ := hSw; go_simp; try with_reducible rfl)
      try simp only [List.getElem_toArray, List.getElem_cons_succ, List.getElem_cons_zero, Act.put, List.setIfInBounds_toArray, List.set_cons_zero, List.set_cons_succ]
      refine wpAnyH_take (i := 3) (v := ?_) rfl (by kernel_rfl) (by kernel_rfl) (by kernel_rfl) (fun _ _ _ h => h) (Or.inl ⟨by rfl, ?_⟩) hS ?_
      rotate_left
      · (intro W hSw; obtain ⟨hq1, hq2⟩ := hSw; go_simp; try with_reducible rfl)
      try simp only [List.getElem_toArray, List.getElem_cons_succ, List.getElem_cons_zero, Act.put, List.setIfInBounds_toArray, List.set_cons_zero, List.set_cons_succ]
      refine wpAnyH_take (i := 4) (v := ?_) rfl (by kernel_rfl) (by kernel_rfl) (by kernel_rfl) (fun _ _ _ h => h) (Or.inl ⟨by rfl, ?_⟩) hS ?_
      rotate_left
      · (intro W hSw; obtain ⟨hq1, hq2⟩ := hSw; go_simp; try with_reducible rfl)
      try simp only [List.getElem_toArray, List.getElem_cons_succ, List.getElem_cons_zero, Act.put, List.setIfInBounds_toArray, List.set_cons_zero, List.set_cons_succ]
      refine wpAnyH_take (i := 5) (v := ?_) rfl (by kernel_rfl) (by kernel_rfl) (by kernel_rfl) (fun _ _ _ h => h) (Or.inl ⟨by rfl, ?_⟩) hS ?_
      rotate_left
      · (intro W hSw; obtain ⟨hq1, hq2⟩ := hSw; go_simp; try with_reducible rfl)
      try simp only [List.getElem_toArray, List.getElem_cons_succ, List.getElem_cons_zero, Act.put, List.setIfInBounds_toArray, List.set_cons_zero, List.set_cons_succ]
      refine wpAnyH_take (i := 6) (v := ?_) rfl (by kernel_rfl) (by kernel_rfl) (by kernel_rfl) (fun _ _ _ h => h) (Or.inl ⟨by rfl, ?_⟩) hS ?_
      rotate_left
      · (intro W hSw; obtain ⟨hq1, hq2⟩ := hSw; go_simp; try with_reducible rfl)
      try simp only [List.getElem_toArray, List.getElem_cons_succ, List.getElem_cons_zero, Act.put, List.setIfInBounds_toArray, List.set_cons_zero, List.set_cons_succ]
      refine wpAnyH_take (i := 7) (v := ?_) rfl (by kernel_rfl) (by kernel_rfl) (by kernel_rfl) (fun _ _ _ h => h) (Or.inl ⟨by rfl, ?_⟩) hS ?_
      rotate_left
      · (intro W hSw; obtain ⟨hq1, hq2⟩ := hSw; go_simp; try with_reducible rfl)
      try simp only [List.getElem_toArray, List.getElem_cons_succ, List.getElem_cons_zero, Act.put, List.setIfInBounds_toArray, List.set_cons_zero, List.set_cons_succ]
      refine wpAnyH_take (i := 8) (v := ?_) rfl (by kernel_rfl) (by kernel_rfl) (by kernel_rfl) (fun _ _ _ h => h) (Or.inl ⟨by rfl, ?_⟩) hS ?_
      rotate_left
      · (intro W hSw; obtain ⟨hq1, hq2⟩ := hSw; go_simp; try with_reducible rfl)
      try simp only [List.getElem_toArray, List.getElem_cons_succ, List.getElem_cons_zero, Act.put, List.setIfInBounds_toArray, List.set_cons_zero, List.set_cons_succ]
      refine wpAnyH_ready (rs := [9]) (by kernel_rfl) (by simp) ?_
      refine AllReadyH.cons rfl (fun K hK => ?_) AllReadyH.nil
      go_simp
      go_at_fn g
      refine (HCL.out _ (HK0.out.trans (HK.out.trans (Keeps.drew _ _)))).mono ?_
      rintro e' wc ⟨rfl, hbc⟩
      obtain ⟨hw9, hk9⟩ := RowL.old HW.out.drew hbc (HK.out.trans (Keeps.drew _ _))
      replace HW := Lib.hid hw9
      replace HK := Lib.hid hk9
      clear hbc hw9 hk9 c1 c2 hS
      refine hK.out _ _ ⟨HW.out.cell E1.out, HW.out.cell E2.out⟩ (fun hS => ?_)
      clear hK K
      try simp only [List.getElem_toArray, List.getElem_cons_succ, List.getElem_cons_zero, Act.put, List.setIfInBounds_toArray, List.set_cons_zero, List.set_cons_succ]
      refine wpAnyH_take (i := 10) (v := ?_) rfl (by kernel_rfl) (by kernel_rfl) (by kernel_rfl) (fun _ _ _ h => h) (Or.inl ⟨by rfl, ?_⟩) hS ?_
      rotate_left
      · (intro W hSw; obtain ⟨hq1, hq2⟩ := hSw; go_simp; try with_reducible rfl)
      try simp only [List.getElem_toArray, List.getElem_cons_succ, List.getElem_cons_zero, Act.put, List.setIfInBounds_toArray, List.set_cons_zero, List.set_cons_succ]
      refine wpAnyH_take (i := 11) (v := ?_) rfl (by kernel_rfl) (by kernel_rfl) (by kernel_rfl) (fun _ _ _ h => h) (Or.inl ⟨by rfl, ?_⟩) hS ?_
      rotate_left
      · (intro W hSw; obtain ⟨hq1, hq2⟩ := hSw; go_simp; try with_reducible rfl)
      try simp only [List.getElem_toArray, List.getElem_cons_succ, List.getElem_cons_zero, Act.put, List.setIfInBounds_toArray, List.set_cons_zero, List.set_cons_succ]
      refine wpAnyH_done (by kernel_rfl) ?_ _
      clear hS
      go_wp2
      have hlt2 := HC.out.yes hxl hyl hxy hcf
      rw [HY.out] at hlt2
      exact ⟨⟨p, h, ip, ih, HIP.out, HIH.out, hph, by omega, rfl, rfl, HW.out, HLO.out, srt_above HC.out.sto HS.out hrl hlt2, HK.out⟩, by simp [intOf]; have := HJN.out; have := HIH.out; have := HIP.out; have := HIQ.out; omega⟩
    · have hcd : decide (cf x y < 0) = false := decide_eq_false hcf
      go_wp2_with fail
      refine wp_region_held_drew (S := S2r blk m ih x y) (by kernel_rfl) ⟨c1, c2⟩ fun hS => ?_
      refine wpAnyH_take (i := 0) (v := ?_) rfl (by kernel_rfl) (by kernel_rfl) (by kernel_rfl) (fun _ _ _ h => h) (Or.inl ⟨by rfl, ?_⟩) hS ?_
      rotate_left
      · (intro W hSw; obtain ⟨hq1, hq2⟩ := hSw; go_simp; try with_reducible rfl)
      try simp only [List.getElem_toArray, List.getElem_cons_succ, List.getElem_cons_zero, Act.put, List.setIfInBounds_toArray, List.set_cons_zero, List.set_cons_succ]
      refine wpAnyH_take (i := 1) (v := ?_) rfl (by kernel_rfl) (by kernel_rfl) (by kernel_rfl) (fun _ _ _ h => h) (Or.inl ⟨by rfl, ?_⟩) hS ?_
      rotate_left
      · (intro W hSw; obtain ⟨hq1, hq2⟩ := hSw; go_simp; try with_reducible rfl)
      try simp only [List.getElem_toArray, List.getElem_cons_succ, List.getElem_cons_zero, Act.put, List.setIfInBounds_toArray, List.set_cons_zero, List.set_cons_succ]
      refine wpAnyH_take (i := 2) (v := ?_) rfl (by kernel_rfl) (by kernel_rfl) (by kernel_rfl) (fun _ _ _ h => h) (Or.inl ⟨by rfl, ?_⟩) hS ?_
      rotate_left
      · (intro W hSw; obtain ⟨hq1, hq2⟩ := hSw; go_simp; try with_reducible rfl)
      try simp only [List.getElem_toArray, List.getElem_cons_succ, List.getElem_cons_zero, Act.put, List.setIfInBounds_toArray, List.set_cons_zero, List.set_cons_succ]
      refine wpAnyH_take (i := 3) (v := ?_) rfl (by kernel_rfl) (by kernel_rfl) (by kernel_rfl) (fun _ _ _ h => h) (Or.inl ⟨by rfl, ?_⟩) hS ?_
      rotate_left
      · (intro W hSw; obtain ⟨hq1, hq2⟩ := hSw; go_simp; try with_reducible rfl)
      try simp only [List.getElem_toArray, List.getElem_cons_succ, List.getElem_cons_zero, Act.put, List.setIfInBounds_toArray, List.set_cons_zero, List.set_cons_succ]
      refine wpAnyH_take (i := 4) (v := ?_) rfl (by kernel_rfl) (by kernel_rfl) (by kernel_rfl) (fun _ _ _ h => h) (Or.inl ⟨by rfl, ?_⟩) hS ?_
      rotate_left
      · (intro W hSw; obtain ⟨hq1, hq2⟩ := hSw; go_simp; try with_reducible rfl)
      try simp only [List.getElem_toArray, List.getElem_cons_succ, List.getElem_cons_zero, Act.put, List.setIfInBounds_toArray, List.set_cons_zero, List.set_cons_succ]
      refine wpAnyH_take (i := 5) (v := ?_) rfl (by kernel_rfl) (by kernel_rfl) (by kernel_rfl) (fun _ _ _ h => h) (Or.inl ⟨by rfl, ?_⟩) hS ?_
      rotate_left
      · (intro W hSw; obtain ⟨hq1, hq2⟩ := hSw; go_simp; try with_reducible rfl)
      try simp only [List.getElem_toArray, List.getElem_cons_succ, List.getElem_cons_zero, Act.put, List.setIfInBounds_toArray, List.set_cons_zero, List.set_cons_succ]
      refine wpAnyH_take (i := 6) (v := ?_) rfl (by kernel_rfl) (by kernel_rfl) (by kernel_rfl) (fun _ _ _ h => h) (Or.inl ⟨by rfl, ?_⟩) hS ?_
      rotate_left
      · (intro W hSw; obtain ⟨hq1, hq2⟩ := hSw; go_simp; try with_reducible rfl)
      try simp only [List.getElem_toArray, List.getElem_cons_succ, List.getElem_cons_zero, Act.put, List.setIfInBounds_toArray, List.set_cons_zero, List.set_cons_succ]
      refine wpAnyH_take (i := 7) (v := ?_) rfl (by kernel_rfl) (by kernel_rfl) (by kernel_rfl) (fun _ _ _ h => h) (Or.inl ⟨by rfl, ?_⟩) hS ?_
      rotate_left
      · (intro W hSw; obtain ⟨hq1, hq2⟩ := hSw; go_simp; try with_reducible rfl)
      try simp only [List.getElem_toArray, List.getElem_cons_succ, List.getElem_cons_zero, Act.put, List.setIfInBounds_toArray, List.set_cons_zero, List.set_cons_succ]
      refine wpAnyH_take (i := 8) (v := ?_) rfl (by kernel_rfl) (by kernel_rfl) (by kernel_rfl) (fun _ _ _ h => h) (Or.inl ⟨by rfl, ?_⟩) hS ?_
      rotate_left
      · (intro W hSw; obtain ⟨hq1, hq2⟩ := hSw; go_simp; try with_reducible rfl)
      try simp only [List.getElem_toArray, List.getElem_cons_succ, List.getElem_cons_zero, Act.put, List.setIfInBounds_toArray, List.set_cons_zero, List.set_cons_succ]
      refine wpAnyH_ready (rs := [9]) (by kernel_rfl) (by simp) ?_
      refine AllReadyH.cons rfl (fun K hK => ?_) AllReadyH.nil
      go_simp
      go_at_fn g
      refine (HCL.out _ (HK0.out.trans (HK.out.trans (Keeps.drew _ _)))).mono ?_
      rintro e' wc ⟨rfl, hbc⟩
      obtain ⟨hw9, hk9⟩ := RowL.old HW.out.drew hbc (HK.out.trans (Keeps.drew _ _))
      replace HW := Lib.hid hw9
      replace HK := Lib.hid hk9
      clear hbc hw9 hk9 c1 c2 hS
      refine hK.out _ _ ⟨HW.out.cell E1.out, HW.out.cell E2.out⟩ (fun hS => ?_)
      clear hK K
      try simp only [List.getElem_toArray, List.getElem_cons_succ, List.getElem_cons_zero, Act.put, List.setIfInBounds_toArray, List.set_cons_zero, List.set_cons_succ]
      refine wpAnyH_take (i := 10) (v := ?_) rfl (by kernel_rfl) (by kernel_rfl) (by kernel_rfl) (fun _ _ _ h => h) (Or.inl ⟨by rfl, ?_⟩) hS ?_
      rotate_left
      · (intro W hSw; obtain ⟨hq1, hq2⟩ := hSw; go_simp; try with_reducible rfl)
      try simp only [List.getElem_toArray, List.getElem_cons_succ, List.getElem_cons_zero, Act.put, List.setIfInBounds_toArray, List.set_cons_zero, List.set_cons_succ]
      refine wpAnyH_take (i := 11) (v := ?_) rfl (by kernel_rfl) (by kernel_rfl) (by kernel_rfl) (fun _ _ _ h => h) (Or.inl ⟨by rfl, ?_⟩) hS ?_
      rotate_left
      · (intro W hSw; obtain ⟨hq1, hq2⟩ := hSw; go_simp; try with_reducible rfl)
      try simp only [List.getElem_toArray, List.getElem_cons_succ, List.getElem_cons_zero, Act.put, List.setIfInBounds_toArray, List.set_cons_zero, List.set_cons_succ]
      refine wpAnyH_done (by kernel_rfl) ?_ _
      clear hS
      go_wp2
      have hlt2 := HC.out.no hxl hyl hxy (by omega)
      rw [HY.out] at hlt2
      exact ⟨⟨h + 1, q, jn, iq, by have := HJN.out; have := HIH.out; omega, HIQ.out, by omega, hqr, rfl, rfl, HW.out, srt_below HC.out.sto HS.out hrl hlt2, HGT.out, HK.out⟩, by simp [intOf]; have := HJN.out; have := HIH.out; have := HIP.out; have := HIQ.out; omega⟩

end Go.Proofs.Ytabbmihakoeegaa
