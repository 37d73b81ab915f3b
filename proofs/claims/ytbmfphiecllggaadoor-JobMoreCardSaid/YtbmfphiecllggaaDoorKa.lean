/- Texts Po, G, I, L, Ga, Ub, Ja, Jb, Jc, Jd, Je, Jf, Jg, Jh, Ji, Jj, Jk, Jl in one file; each begins with a word on what it proves. -/
import Derived.Test.YtbmfphiecllggaaDoorRows
import Derived.WalkKit
import Derived.ProofKit
import Derived.OpenShut
import Derived.WalkSpells
import Derived.WalkLawsBesides
import Derived.Lib.Hide
import Derived.BigQuiet
import Derived.Deep.QuietTactic
import Derived.StillTailTactics
import Derived.Laws.CopyOwn
import Derived.Deep.RegionHeld3
import Derived.Deep.MidRow
import Derived.RangeFuncNested
import Derived.RangeFuncLeaves
import Derived.OrdersIn
import Derived.RangeFuncCalls
import Derived.Maps.AppendAt
import Derived.Maps.OwnIn
import Derived.Laws.AppendOwn
import Derived.OwnWalkIn
import Derived.Laws.OwnMore
import Derived.Laws.MakeOwn
import Derived.LoopNIn
import Derived.LoopIn
import Derived.Shelf.Abstract
import Derived.Laws.StructEq

/- The post of a law that leaves what was there, and returns one bool (plain). -/
namespace Go.Proofs.YtbmfphiecllggaaDoor
set_option linter.unusedVariables false
set_option linter.unusedSimpArgs false
open Go.ChangeShapes Go.WideShapes Go.ChangeAt Go.RowKit

theorem own_knob : ownKnob Tryd.prog.godebug = none := by kernel_rfl
theorem post_of_below {H : Type} {enc : TypeId × Value → H} {P : Program} {f : Func} {s : ChangeSpec} {apart fresh handsOn again : Bool} {W W' : World} {args : Array Value} {v : Value} {ds gs : List (DataW H)} {before pa pv : List MemPlace}
    (hW : DataW.Whole enc P f.params.toList s.vars apart W args.toList ds gs before)
    (hres : ∀ (b : Nat) (sp : Nat → Bool) (hd : Bool), DataW.TrodAll enc P W' b sp hd f.resultTypes.toList (v.resultList f.resultTypes.size) (s.fn H (ds ++ gs)).results [])
    (hargs : ∀ sp : Nat → Bool, (∀ p ∈ before, sp p.block = true) → DataW.TrodAll enc P W' 0 sp true f.params.toList args.toList (s.fn H (ds ++ gs)).args pa)
    (hvars : ∀ sp : Nat → Bool, (∀ p ∈ before, sp p.block = true) → DataW.TrodVars enc P W' sp s.vars (s.fn H (ds ++ gs)).vars pv)
    (hps : before = pa ++ pv) (hb : Below W.heap.size W W')
    (hok : ∀ (j : Nat) (t : TypeId) (r : Value), f.resultTypes[j]? = some t → (v.resultList f.resultTypes.size)[j]? = some r → Value.okWide P W' .any 0 t r) :
    s.post enc P f apart fresh handsOn again W args v W' := by
  have hlt := hW.lt
  have hold : ∀ p ∈ before, (fun b => decide (b < W.heap.size)) p.block = true := fun p hp => by simpa using hlt p hp
  refine ⟨ds, gs, before, [], pa, pv, hW, hres _ _ _, hargs _ hold, hvars _ hold, World.keptBut_mono (fun p hp => ⟨hp, ?_⟩) (hb.frame (· ∈ before)), fun _ => ?_⟩
  · rw [hps, List.mem_append] at hp
    exact Or.inr hp
  · obtain ⟨_, _, _, _, _, hz, hn⟩ := hW
    refine ⟨hok, _, _, ([] ++ pa) ++ pv, ⟨[] ++ pa, pv, trodAll_append (hargs _ (fun _ _ => rfl)) (hres _ _ _), hvars _ (fun _ _ => rfl), rfl, ?_, ?_⟩, ?_⟩
    · intro b off hp
      have hin : MemPlace.cell b off ∈ before := by rw [hps]; simpa using hp
      rw [hb.frozen (p := ⟨b, off, none⟩) (hlt _ hin)]
      exact hz b off hin
    · intro ha
      have := hn ha
      rw [hps] at this
      simpa using this
    · intro p hp _
      rw [hps]
      simpa using hp

end Go.Proofs.YtbmfphiecllggaaDoor

/- General lemmas: a region that draws its order, whose head yields fixed values in each world of a class (calls that make memory too), and whose tail comes in one forced order. -/
namespace Go.Proofs.YtbmfphiecllggaaDoor
set_option linter.unusedVariables false
set_option linter.unusedSimpArgs false
open Go.RowKit

section
variable {P : Program} {ops : Array Oper} {md : Region.Mode} {C : World → Prop}

/-- What an operation comes to in a world: this value, and a world of the class. -/
def fixUpon (P : Program) (C : World → Prop) (v : Value) : Result Next → Prop
  | .ok (.value u) w' => C w' ∧ u = v
  | .ok .skip w' => C w' ∧ v = undef
  | .ok (.enter f args) w' => Calls P f args w' (fun e w'' => e = .returned v ∧ C w'')
  | _ => False
/-- In state a operation o yields v in every world of the class, and leaves one of the class. -/
def Fix (P : Program) (ops : Array Oper) (C : World → Prop) (o : Oper) (v : Value) (a : Act) : Prop :=
  (Region.wanted o (yielded ops a.tmps) = true ∧ ∀ w, C w → fixUpon P C v ((execOp a.eval o).run P w)) ∨
  (Region.wanted o (yielded ops a.tmps) = false ∧ v = undef)
theorem Fix.of_same {o : Oper} {v : Value} {a a' : Act} (h : Fix P ops C o v a) (he : execOp a'.eval o = execOp a.eval o)
    (hw : Region.wanted o (yielded ops a'.tmps) = Region.wanted o (yielded ops a.tmps)) : Fix P ops C o v a' := by
  unfold Fix at *
  rw [he, hw]
  exact h
theorem Fix.wpOp {i : Nat} {o : Oper} {v : Value} {a : Act} (hi : ops[i]? = some o) (h : Fix P ops C o v a) {K : Act → World → Prop} {Q : Exit → Act → World → Prop} {w : World} (hC : C w)
    (hK : ∀ w', C w' → K (a.put o.dst v) w') : Go.wpOp P ops Q i K a w := by
  unfold Go.wpOp
  simp only [hi]
  rcases h with ⟨hw, hv⟩ | ⟨hw, rfl⟩
  · rw [if_pos hw]
    left
    have h3 := hv w hC
    unfold Oper.wp
    generalize (execOp a.eval o).run P w = r at *
    cases r with
    | ok n w' =>
      cases n <;> simp only [fixUpon] at h3 <;> simp only [Oper.upon]
      case value u => obtain ⟨e1, e2⟩ := h3; rw [e2]; exact hK _ e1
      case skip => obtain ⟨e1, e2⟩ := h3; rw [← e2]; exact hK _ e1
      case enter f args => exact h3.mono fun e w'' ⟨he, hw''⟩ => by subst he; exact hK _ hw''
    | halt x w' => simp only [fixUpon] at h3
  · rw [if_neg (by rw [hw]; decide)]
    exact hK _ hC

/-- The walk of the head, in the text's order. -/
def WF (P : Program) (ops : Array Oper) (C : World → Prop) (K : Act → Prop) : List Oper → Act → Prop
  | [], a => K a
  | o :: rest, a => ∃ v, Fix P ops C o v a ∧ WF P ops C K rest (a.put o.dst v)
/-- Whatever order the head is picked in. -/
def AnyF (P : Program) (md : Region.Mode) (ops : Array Oper) (C : World → Prop) (n : Nat) (L : Array Bool → Act → Prop) : Nat → Array Bool → Act → Prop
  | 0, listed, a => L listed a
  | f + 1, listed, a => Region.ready md ops listed ≠ [] ∧ ∀ i ∈ Region.ready md ops listed, i < n ∧ ∃ o v, ops[i]? = some o ∧ Fix P ops C o v a ∧ AnyF P md ops C n L f (listed.setIfInBounds i true) (a.put o.dst v)

theorem wpAny_of_AnyF {n g : Nat} {L : Array Bool → Act → Prop} {Q : Exit → Act → World → Prop} (hL : ∀ listed a, L listed a → ∀ w, C w → wpAny P md ops Q g listed a w) :
    ∀ (f : Nat) (listed : Array Bool) (a : Act), AnyF P md ops C n L f listed a → ∀ w, C w → wpAny P md ops Q (f + g) listed a w
  | 0, listed, a, h, w, hw => by rw [Nat.zero_add]; exact hL _ _ h w hw
  | f + 1, listed, a, h, w, hw => by
    rw [show f + 1 + g = (f + g) + 1 by omega]
    refine ⟨fun h0 => absurd h0 h.1, fun i hi => ?_⟩
    obtain ⟨_, o, v, ho, hy, hr⟩ := h.2 i hi
    exact hy.wpOp ho hw fun w' hw' => wpAny_of_AnyF hL f _ _ hr w' hw'

theorem AnyF_first {n i : Nat} {oi : Oper} {v : Value} {L : Array Bool → Act → Prop} (hi : ops[i]? = some oi) (hsel : ∀ (j : Nat) (o : Oper) cs b, ops[j]? = some o → o.op ≠ .select cs b)
    (hs : Region.sinkB md ops n = true) (hc : Region.chainB md ops n = true) (hn : n < ops.size) (hin : i < n)
    (hdone : ∀ listed a, L listed a → ∀ j ∈ Region.ready md ops listed, n ≤ j) :
    ∀ (f : Nat) (listed : Array Bool) (a : Act), HeadInv md ops n listed →
      (∀ j oj, ops[j]? = some oj → j ≠ i → listed.getD j true = false → (∀ e ∈ oj.after, Region.binds md e = true → e.on ≠ i) → oi.apart ops oj = true) →
      i ∈ Region.ready md ops listed → Fix P ops C oi v a →
      AnyF P md ops C n L f (listed.setIfInBounds i true) (a.put oi.dst v) → AnyF P md ops C n L (f + 1) listed a := by
  intro f
  induction f with
  | zero =>
    intro listed a inv _ hr hy H
    have hun := (mem_ready.1 hr).1
    refine ⟨fun h => (by rw [h] at hr; cases hr), fun j hj => ?_⟩
    have hjn : j < n := Nat.lt_of_not_le fun h => tail_waits hs hc hn inv _ i rfl hin hun j h hj
    refine ⟨hjn, ?_⟩
    by_cases hji : j = i
    · subst hji; exact ⟨oi, v, hi, hy, H⟩
    · have := hdone _ _ H j (ready_mono hj hji)
      omega
  | succ f ih =>
    intro listed a inv hfree hr hy H
    have hun := (mem_ready.1 hr).1
    refine ⟨fun h => (by rw [h] at hr; cases hr), fun j hj => ?_⟩
    have hjn : j < n := Nat.lt_of_not_le fun h => tail_waits hs hc hn inv _ i rfl hin hun j h hj
    refine ⟨hjn, ?_⟩
    by_cases hji : j = i
    · subst hji; exact ⟨oi, v, hi, hy, H⟩
    · obtain ⟨_, oj', u, hoj', hyj, hrest⟩ := H.2 j (ready_mono hj hji)
      obtain ⟨hjun, oj, hoj, hall⟩ := mem_ready.1 hj
      obtain rfl : oj = oj' := Option.some.inj (hoj.symm.trans hoj')
      have hnot : ∀ e ∈ oj.after, Region.binds md e = true → e.on ≠ i := fun e he hb heq => by
        have h1 := hall e he hb
        rw [heq, getD_both hun] at h1
        cases h1
      have hap := hfree j oj hoj hji hjun hnot
      obtain ⟨h1, h2, h3⟩ := Oper.apart_spec hap
      have hsi := fun cs b => hsel i oi cs b hi
      have hsj := fun cs b => hsel j oj cs b hoj
      have hyj' : Fix P ops C oj u a := hyj.of_same (execOp_put oj hsj a oi.dst v h1).symm (wanted_put oj a oi.dst v h1).symm
      have hyi' : Fix P ops C oi v (a.put oj.dst u) := hy.of_same (execOp_put oi hsi a oj.dst u h3) (wanted_put oi a oj.dst u h3)
      refine ⟨oj, u, hoj, hyj', ih (listed.setIfInBounds j true) _ (inv.set hj hjn) ?_ (ready_mono hr (Ne.symm hji)) hyi' ?_⟩
      · intro k ok hk hki hun' hno
        refine hfree k ok hk hki ?_ hno
        by_cases hjk : j = k
        · subst hjk; exact hjun
        · rw [getD_set_ne true hjk] at hun'; exact hun'
      · rw [Array.setIfInBounds_comm _ _ hji, ← Act.put_comm a v u h2]
        exact hrest

theorem AnyF_lex {n g : Nat} {K : Act → Prop} (hsel : Region.noSelect ops = true) (hs : Region.sinkB md ops n = true) (hc : Region.chainB md ops n = true) (hn : n < ops.size) :
    ∀ (l : List Oper) (k : Nat) (listed : Array Bool) (a : Act), (∀ j, j < l.length → l[j]? = ops[k + j]?) → k + l.length = n → HeadInv md ops n listed →
    Region.lexHead md ops g l.length k listed = true → WF P ops C K l a →
    AnyF P md ops C n (fun listed' a' => Region.seqB md ops g n listed' = true ∧ K a') l.length listed a
  | [], k, listed, a, _, hk, _, hB, h => by
    obtain rfl : k = n := by simpa using hk
    exact ⟨by simpa [Region.lexHead] using hB, h⟩
  | o :: l, k, listed, a, hl, hk, inv, hB, h => by
    have h0 : ops[k]? = some o := by simpa using (hl 0 (by simp)).symm
    simp only [List.length_cons, Region.lexHead, Bool.and_eq_true] at hB
    obtain ⟨⟨hr, hf⟩, hB'⟩ := hB
    have hkn : k < n := by simp only [List.length_cons] at hk; omega
    have hr' : k ∈ Region.ready md ops listed := by simpa using hr
    obtain ⟨v, hy, hK⟩ := h
    exact AnyF_first h0 (Region.noSelect_spec hsel) hs hc hn hkn (fun listed' a' hL => seqB_ready hL.1) l.length listed a inv (Region.free_spec h0 hf) hr' hy
      (AnyF_lex hsel hs hc hn l (k + 1) _ _ (fun j hj => by have := hl (j + 1) (by simp; omega); simpa [Nat.add_assoc, Nat.add_comm 1 j] using this) (by simp only [List.length_cons] at hk; omega) (inv.set hr' hkn) hB' hK)

/-- A region that draws its order: n operations of fixed values in a class of worlds, then a tail in one forced order. -/
theorem region_fix {id : Nat} {Q : Exit → Act → World → Prop} {a : Act} {w : World} {l : List Oper} (n : Nat) (C : World → Prop) (hm : P.follows .mixedOrders = true) (hB : Region.lexTailB .any l.toArray n = true) (hC : C w.drew)
    (h : WF P l.toArray C (fun a' => ∀ w', C w' → wpList P l.toArray Q (l.drop n) a' w') (l.take n) a) : (Code.region id l.toArray true).wp P Q a w := by
  simp only [Region.lexTailB, Bool.and_eq_true, decide_eq_true_eq] at hB
  obtain ⟨⟨⟨⟨hsel, hn⟩, hs⟩, hc⟩, hlex⟩ := hB
  have hn' : n < l.length := by simpa using hn
  have htl : (l.take n).length = n := by simp; omega
  have hdl : (l.drop n).length = l.toArray.size - n := by simp
  have inv0 : HeadInv .any l.toArray n (Array.replicate l.toArray.size false) :=
    ⟨by simp, fun j oj _ hl => (by rw [getD_replicate_false] at hl; cases hl), fun t _ ht => getD_in (by simpa using ht) (getD_replicate_false _ _)⟩
  have H := AnyF_lex (md := .any) (g := l.toArray.size - n) hsel hs hc hn (l.take n) 0 _ a (fun j hj => by
    have hj' : j < n := by rw [htl] at hj; exact hj
    simp [hj']) (by simpa using htl) inv0 (by rw [htl]; exact hlex) h
  refine wp_region_any hm ?_
  have := wpAny_of_AnyF (Q := Q) (g := l.toArray.size - n) (fun listed a' hL w' hw' => by
    have := wpAny_of_seq (md := .any) (Q' := Q) (l.drop n) n listed a' w' (fun j => by simp [List.getElem?_drop]) (by rw [hdl]; exact hL.1) (hL.2 w' hw')
    rwa [hdl] at this) _ _ _ H w.drew hC
  rw [htl, show n + (l.toArray.size - n) = l.toArray.size by omega] at this
  exact this
end

/-- One step of the head's walk. -/
theorem WF_step {P : Program} {ops : Array Oper} {C : World → Prop} {K : Act → Prop} {a : Act} {o : Oper} {rest : List Oper} (v : Value)
    (h : ∀ w, C w → fixUpon P C v ((execOp a.eval o).run P w)) (hg : o.guard = none) (hr : WF P ops C K rest (a.put o.dst v)) : WF P ops C K (o :: rest) a :=
  ⟨v, .inl ⟨by simp [Region.wanted, hg], h⟩, hr⟩
theorem heap_alloc_at (w : World) (o : Obj) (i : Nat) (h : i = w.heap.size) : (w.alloc o).heap[i]? = some o := by rw [h]; exact heap_alloc_new w o
theorem hget (w : World) (o : Obj) (i : Nat) : (w.alloc o).heap[i]? = if i = w.heap.size then some o else w.heap[i]? := by
  by_cases h : i = w.heap.size
  · rw [if_pos h]; exact heap_alloc_at w o i h
  · rw [if_neg h]
    rcases Nat.lt_or_ge i w.heap.size with h' | h'
    · exact Below.heap_alloc w o i h'
    · rw [Array.getElem?_eq_none h', Array.getElem?_eq_none (by simp; omega)]
theorem hget_old (w : World) (o : Obj) (i : Nat) (h : i ≠ w.heap.size) : (w.alloc o).heap[i]? = w.heap[i]? := by rw [hget, if_neg h]
theorem WF_nil {P : Program} {ops : Array Oper} {C : World → Prop} {K : Act → Prop} {a : Act} (h : K a) : WF P ops C K [] a := h
theorem WF_skip {P : Program} {ops : Array Oper} {C : World → Prop} {K : Act → Prop} {a : Act} {o : Oper} {rest : List Oper}
    (h : Region.wanted o (yielded ops a.tmps) = false) (hr : WF P ops C K rest (a.put o.dst undef)) : WF P ops C K (o :: rest) a :=
  ⟨undef, .inr ⟨h, rfl⟩, hr⟩
theorem WF_stepG {P : Program} {ops : Array Oper} {C : World → Prop} {K : Act → Prop} {a : Act} {o : Oper} {rest : List Oper} (v : Value)
    (h : ∀ w, C w → fixUpon P C v ((execOp a.eval o).run P w)) (hg : Region.wanted o (yielded ops a.tmps) = true) (hr : WF P ops C K rest (a.put o.dst v)) : WF P ops C K (o :: rest) a :=
  ⟨v, .inl ⟨hg, h⟩, hr⟩
theorem fix_value {P : Program} {C : World → Prop} {v : Value} {w : World} (h : C w) : fixUpon P C v (.ok (.value v) w) := ⟨h, rfl⟩
theorem fix_enter {P : Program} {C : World → Prop} {v : Value} {w : World} {f : FuncId} {args : Array Value} (h : Calls P f args w (fun e w'' => e = .returned v ∧ C w'')) : fixUpon P C v (.ok (.enter f args) w) := h

end Go.Proofs.YtbmfphiecllggaaDoor

/- Iterators: a contract for a function value that is ranged over, and a law for the statement that ranges over it. -/
namespace Go.Proofs.YtbmfphiecllggaaDoor
set_option linter.unusedVariables false
set_option linter.unusedSimpArgs false
open Go.RowKit

/-- The memory is the same, but for blocks of a set, and for new ones. -/
structure Keeps (Mut : Nat → Prop) (w w' : World) : Prop where
  os : w'.os = w.os
  tape : w'.tape = w.tape
  output : w'.output = w.output
  size : w.heap.size ≤ w'.heap.size
  block : ∀ k, k < w.heap.size → ¬ Mut k → w'.heap[k]? = w.heap[k]?
theorem Keeps.refl (Mut : Nat → Prop) (w : World) : Keeps Mut w w := ⟨rfl, rfl, rfl, Nat.le_refl _, fun _ _ _ => rfl⟩
theorem Keeps.trans {Mut : Nat → Prop} {a b c : World} (h : Keeps Mut a b) (k : Keeps Mut b c) : Keeps Mut a c :=
  ⟨k.os.trans h.os, k.tape.trans h.tape, k.output.trans h.output, Nat.le_trans h.size k.size, fun i hi hm => (k.block i (Nat.lt_of_lt_of_le hi h.size) hm).trans (h.block i hi hm)⟩
theorem Keeps.transNew {Mut N : Nat → Prop} {a b c : World} (h : Keeps Mut a b) (k : Keeps N b c) (hN : ∀ i, N i → a.heap.size ≤ i) : Keeps Mut a c :=
  ⟨k.os.trans h.os, k.tape.trans h.tape, k.output.trans h.output, Nat.le_trans h.size k.size, fun i hi hm => (k.block i (Nat.lt_of_lt_of_le hi h.size) (fun hn => by have := hN i hn; omega)).trans (h.block i hi hm)⟩
theorem Keeps.mono {Mut Mut' : Nat → Prop} {w w' : World} (h : Keeps Mut w w') (hm : ∀ k, k < w.heap.size → Mut k → Mut' k) : Keeps Mut' w w' :=
  ⟨h.os, h.tape, h.output, h.size, fun k hk hn => h.block k hk (fun hx => hn (hm k hk hx))⟩
theorem Keeps.of_below {Mut : Nat → Prop} {B : Nat} {w w' : World} (h : Below B w w') (hm : ∀ k, B ≤ k → k < w.heap.size → Mut k) : Keeps Mut w w' :=
  ⟨h.os, h.tape, h.output, h.size, fun k hk hn => h.block k (Nat.lt_of_not_le fun hb => hn (hm k hb hk))⟩
theorem Keeps.below {Mut : Nat → Prop} {B : Nat} {w w' : World} (h : Keeps Mut w w') (hB : B ≤ w.heap.size) (hm : ∀ k, k < B → ¬ Mut k) : Below B w w' :=
  ⟨h.os, h.tape, h.output, h.size, fun k hk => h.block k (by omega) (hm k hk)⟩
theorem Keeps.alloc (Mut : Nat → Prop) (w : World) (o : Obj) : Keeps Mut w (w.alloc o) :=
  ⟨rfl, rfl, rfl, by simp, fun k hk _ => Below.heap_alloc w o k hk⟩
theorem Keeps.setCell {Mut : Nat → Prop} (w : World) (p : Addr) (v : Value) (hp : Mut p.block) : Keeps Mut w (w.setCell p v) :=
  ⟨rfl, rfl, rfl, by simp [World.setCell], fun k _ hn => Below.heap_setCell w p v k (fun e => hn (e ▸ hp))⟩
theorem Keeps.drew (Mut : Nat → Prop) (w : World) : Keeps Mut w w.drew := ⟨rfl, rfl, rfl, Nat.le_refl _, fun _ _ _ => rfl⟩
theorem Keeps.putObj {Mut : Nat → Prop} (w : World) (l : Nat) (o : Obj) (hl : Mut l) : Keeps Mut w (w.putObj l o) :=
  ⟨rfl, rfl, rfl, by simp, fun k _ hn => World.putObj_heap_other (fun e => hn (e ▸ hl))⟩
theorem Keeps.setRow {Mut : Nat → Prop} (w : World) (g : Nat) (cs : Array Value) (hg : Mut g) : Keeps Mut w (w.setRow g cs) :=
  ⟨rfl, rfl, rfl, by simp, fun k _ hn => setRow_other w g k cs (fun e => hn (e ▸ hg))⟩

/-- What is so of a state stays so while the one that ranges works on memory of its own. -/
def Stable {α : Type} (B : Nat) (J : List α → (Nat → Prop) → World → Prop) : Prop :=
  ∀ s G W1 W2, J s G W1 → Keeps (fun k => B ≤ k ∧ ¬ G k) W1 W2 → J s G W2
/-- The blocks that a round has made are added. -/
def Grow (G : Nat → Prop) (W1 W2 : World) : Nat → Prop := fun k => G k ∨ (W1.heap.size ≤ k ∧ k < W2.heap.size)

theorem run_store_row {P : Program} {o : Oper} {ρ : Operand → Value} {w : World} (ty : TypeId) (x y : Operand) (ho : o.op = .store ty x y)
    (g : Nat) (cells : Array Value) (hx : ρ x = .pointer (some ⟨g, 0, none⟩)) (hy : ρ y = .agg cells)
    (t : TypeId) (old : Array Value) (hg : w.heap[g]? = some (.cells old t (0, 0))) (hi : (P.info? ty).map (·.size) = some cells.size)
    (hold : old.size = cells.size) (h1 : cells.all (·.oneCell') = true) :
    (execOp ρ o).run P w = .ok .skip (w.setRow g cells) := by
  unfold execOp
  simp only [ho, hx, hy, Instr.storeAt, Instr.sureAddr, Sem.run_bind, Sem.run_pure, Result.andThen_ok, run_storeVar_row w g t ty old cells hg hi hold h1]
theorem keeps_setRow (w : World) (g : Nat) (cs : Array Value) : Keeps (fun k => k = g) w (w.setRow g cs) := Keeps.setRow w g cs rfl
theorem own_base {w : World} {base : Nat} {e : TypeId} {size : Nat} {v : Value} {n : Nat} {xs : List Value} (h : w.ownsRow base e size v n xs) : ∀ k, v.ownBlock = some k → base ≤ k := by
  intro k hk
  rcases h.2 with ⟨h2, _⟩ | ⟨g, cap, cur, h2, hg, _⟩
  · subst h2; simp [Value.ownBlock] at hk
  · subst h2; simp [Value.ownBlock] at hk; omega
theorem news_block {w : World} {g : Nat} {cs : Array Value} {t : TypeId} {fr : Nat × Nat} (h : w.heap[g]? = some (.cells cs t fr)) : ∀ (j : Nat) u, cs.toList[j]? = some u → w.cell? ((⟨g, 0, none⟩ : Addr).add j) = some u := by
  intro j u hu
  rw [Addr.add_mid, Nat.zero_add, cell_of_row w g j cs t fr h]
  simpa using hu
/-- A function whose body ranges over a function. -/
theorem calls_of_wp_marks {P : Program} {f : FuncId} {fn : Func} {c : Code} {args : Array Value} {w : World} {R : Ending → World → Prop}
    (hf : P.funcs[f]? = some fn) (hb : fn.body = some c)
    (h : c.wp P (bodyPostM Fence.wide 0 P fn R) { tmps := args ++ Array.replicate (fn.ntmps - args.size) undef, defers := [] } w) : Calls P f args w R :=
  callsIn_wide.1 (callsIn_of_wp_marks (F := Fence.wide) (n := 0) hf hb trivial (wpIn_wide.2 h) rfl)

end Go.Proofs.YtbmfphiecllggaaDoor

/- More general lemmas: a region that draws its order inside a round; labels inside a round; worlds. -/
namespace Go.Proofs.YtbmfphiecllggaaDoor
set_option linter.unusedVariables false
set_option linter.unusedSimpArgs false
open Go.RowKit

section
variable {P : Program} {ops : Array Oper} {md : Region.Mode} {C : World → Prop} {l : Nat}
def noDefer (ops : Array Oper) : Bool := ops.all fun o => match o.op with | .defer _ => false | _ => true
theorem noDefer_spec (h : noDefer ops = true) (j : Nat) (o : Oper) (ho : ops[j]? = some o) (c : Call) : o.op ≠ .defer c := by
  intro hc
  have h1 := (Array.all_eq_true_iff_forall_mem.1 h) o (Array.mem_of_getElem? ho)
  simp [hc] at h1
end

end Go.Proofs.YtbmfphiecllggaaDoor

/- General: an append at an operation, a slice of spans in memory. -/
namespace Go.Proofs.YtbmfphiecllggaaDoor
set_option linter.unusedVariables false
set_option linter.unusedSimpArgs false
open Go.RowKit Go.Shelf
attribute [local go_sem] Oper.semAt_some

section
variable {P : Program} {w : World}
end
def SpansAt (W : World) (v : Value) (l : List (Int × Int)) (Rd : Nat → Prop) : Prop :=
  ∃ ao cap, v = .slice ao l.length cap ∧ l.length ≤ cap ∧ cap ≤ maxLen ∧ ∀ i (h : i < l.length), ∃ b off, ao = some ⟨b, off, none⟩ ∧ Rd b ∧ b < W.heap.size ∧
    W.cell? ⟨b, off + i * 2, none⟩ = some (.int .i64 l[i].1) ∧ W.cell? ⟨b, off + i * 2 + 1, none⟩ = some (.int .i64 l[i].2)
theorem SpansAt.later {w W : World} {v : Value} {l : List (Int × Int)} {Rd : Nat → Prop} (h : SpansAt w v l Rd) (hs : w.heap.size ≤ W.heap.size) (hk : ∀ k, k < w.heap.size → Rd k → W.heap[k]? = w.heap[k]?) : SpansAt W v l Rd := by
  obtain ⟨ao, cap, h1, h2, h3, h4⟩ := h
  refine ⟨ao, cap, h1, h2, h3, fun i hi => ?_⟩
  obtain ⟨b, off, e1, e2, e3, e4, e5⟩ := h4 i hi
  have hb := hk b e3 e2
  exact ⟨b, off, e1, e2, Nat.lt_of_lt_of_le e3 hs, (World.cell?_of_block (w := w) (a := ⟨b, off + i * 2, none⟩) hb).trans e4, (World.cell?_of_block (w := w) (a := ⟨b, off + i * 2 + 1, none⟩) hb).trans e5⟩
theorem SpansAt.low {W : World} {v : Value} {l : List (Int × Int)} {Rd : Nat → Prop} (h : SpansAt W v l Rd) : SpansAt W v l (fun k => k < W.heap.size) := by
  obtain ⟨ao, cap, h1, h2, h3, h4⟩ := h
  exact ⟨ao, cap, h1, h2, h3, fun i hi => by obtain ⟨b, off, e1, e2, e3⟩ := h4 i hi; exact ⟨b, off, e1, e3.1, e3⟩⟩
section
variable {P : Program} {w : World}
/-- An append at an operation, in a region too. -/
theorem wp_append_here {o : Oper} {a : Act} {K : Act → World → Prop} {Q : Exit → Act → World → Prop} (s x : Operand) (t : TypeId)
    (ho : o.op = .call { callee := .builtin .append, args := #[s, x], argTypes := #[t, t] })
    (base : Nat) (e : TypeId) (size bytes : Nat) (z : Value) (ht : P.underlying t = some (.slice e)) (hinfo : (P.info? e).map (fun i => (i.zero, i.size, i.bytes)) = some (some z, size, bytes)) (hzs : z.cells.size = size) (hsz : 0 < size)
    (v : Value) (n : Nat) (xs : List Value) (hs : a.eval s = v) (hown : w.ownsRow base e size v n xs)
    (ad : Addr) (m c : Nat) (news : List Value) (hx : a.eval x = .slice (some ad) m c) (hl : news.length = m * size) (hnews : ∀ j u, news[j]? = some u → w.cell? (ad.add j) = some u) (h1 : ∀ u ∈ news, u.oneCell' = true)
    (h63 : n + m ≤ 1000001) (hbytes : bytes ≤ 1000) (hbase : base ≤ w.heap.size)
    (h : ∀ v' w', w'.ownsRow base e size v' (n + m) (xs ++ news) → w.grownBy w' v.ownBlock → (v'.ownBlock = v.ownBlock ∨ v'.ownBlock = some w.heap.size) → K (a.put o.dst v') w') : o.wp P a w K Q := by
  obtain ⟨i, hi, hz, hsize, hby⟩ := info_parts hinfo
  have hb : (n + m) * bytes ≤ 140737488355328 := by
    have h2 : (n + m) * bytes ≤ 1000001 * 1000 := Nat.mul_le_mul h63 hbytes
    omega
  obtain ⟨v', w', hr, h2, h3, h4, h5⟩ := run_append_own_at (P := P) w base t o.type e i z size bytes ht hi hz hsize hby hzs hsz v n xs hown ad m c news hl hnews h1 (by unfold maxLen; omega) hb hbase
  unfold Oper.wp execOp
  simp only [ho, resolve, invoke, builtin, Sem.run_bind, Sem.run_pure, Result.andThen_ok, List.map_toArray, List.map_cons, List.map_nil, hs, hx, hr]
  exact h v' w' h2 h3 h5
theorem wpList_append_here {ops : Array Oper} {rest : List Oper} {o : Oper} {a : Act} {Q : Exit → Act → World → Prop} (hgd : o.guard = none) (s x : Operand) (t : TypeId)
    (ho : o.op = .call { callee := .builtin .append, args := #[s, x], argTypes := #[t, t] })
    (base : Nat) (e : TypeId) (size bytes : Nat) (z : Value) (ht : P.underlying t = some (.slice e)) (hinfo : (P.info? e).map (fun i => (i.zero, i.size, i.bytes)) = some (some z, size, bytes)) (hzs : z.cells.size = size) (hsz : 0 < size)
    (v : Value) (n : Nat) (xs : List Value) (hs : a.eval s = v) (hown : w.ownsRow base e size v n xs)
    (g c : Nat) (cs : Array Value) (t2 : TypeId) (fr : Nat × Nat) (hx : a.eval x = .slice (some ⟨g, 0, none⟩) 1 c) (hgc : w.heap[g]? = some (.cells cs t2 fr)) (hcs : cs.size = size) (h1 : cs.all (·.oneCell') = true)
    (h63 : n ≤ 1000000) (hbytes : bytes ≤ 1000) (hbase : base ≤ w.heap.size)
    (h : ∀ v' w', w'.ownsRow base e size v' (n + 1) (xs ++ cs.toList) → w.grownBy w' v.ownBlock → (v'.ownBlock = v.ownBlock ∨ v'.ownBlock = some w.heap.size) → wpList P ops Q rest (a.put o.dst v') w') : wpList P ops Q (o :: rest) a w :=
  wpList_plain hgd fun _ hK => wp_append_here s x t ho base e size bytes z ht hinfo hzs hsz v n xs hs hown ⟨g, 0, none⟩ 1 c cs.toList hx (by simp [hcs]) (news_block hgc) (fun u hu => (Array.all_eq_true_iff_forall_mem.1 h1) u (by simpa using hu)) (by omega) hbytes hbase fun v' w' h2 h3 h4 => hK _ _ (h v' w' h2 h3 h4)
end
theorem keeps_grown {w w' : World} {row : Option Nat} (h : w.grownBy w' row) : Keeps (fun k => row = some k) w w' :=
  ⟨h.os, h.tape, h.output, h.size, fun k hk hn => h.block k hk (fun e => hn e.symm)⟩
theorem own_block {w w' : World} {base : Nat} {e : TypeId} {size : Nat} {v : Value} {n : Nat} {xs : List Value} (h : w.ownsRow base e size v n xs) (hk : ∀ k, v.ownBlock = some k → w'.heap[k]? = w.heap[k]?) : w'.ownsRow base e size v n xs := by
  refine ⟨h.1, ?_⟩
  rcases h.2 with h2 | ⟨g, cap, cur, h2, h3, h4, h5⟩
  · exact .inl h2
  · exact .inr ⟨g, cap, cur, h2, h3, (hk g (by rw [h2]; rfl)).trans h4, h5⟩
theorem own_below {B : Nat} {e : TypeId} {k : Nat} {v : Value} {n : Nat} {xs : List Value} {w w' : World} (h : w.ownsRow B e k v n xs) (hb : Below w.heap.size w w') : w'.ownsRow B e k v n xs :=
  h.kept (row := none) ⟨hb.os, hb.tape, hb.output, hb.size, fun j hj _ => hb.block j hj⟩ (by cases hv : v.ownBlock <;> simp)
section
variable {F : Fence} {nF : Nat} {P : Program} {w : World}
theorem wpListIn_append_here {ops : Array Oper} {rest : List Oper} {o : Oper} {a : Act} {Q : Exit → Act → World → Prop} (hgd : o.guard = none) (s x : Operand) (t : TypeId)
    (ho : o.op = .call { callee := .builtin .append, args := #[s, x], argTypes := #[t, t] })
    (base : Nat) (e : TypeId) (size bytes : Nat) (z : Value) (ht : P.underlying t = some (.slice e)) (hinfo : (P.info? e).map (fun i => (i.zero, i.size, i.bytes)) = some (some z, size, bytes)) (hzs : z.cells.size = size) (hsz : 0 < size)
    (v : Value) (n : Nat) (xs : List Value) (hs : a.eval s = v) (hown : w.ownsRow base e size v n xs)
    (g c : Nat) (cs : Array Value) (t2 : TypeId) (fr : Nat × Nat) (hx : a.eval x = .slice (some ⟨g, 0, none⟩) 1 c) (hgc : w.heap[g]? = some (.cells cs t2 fr)) (hcs : cs.size = size) (h1 : cs.all (·.oneCell') = true)
    (h63 : n ≤ 1000000) (hbytes : bytes ≤ 1000) (hbase : base ≤ w.heap.size)
    (h : ∀ v' w', w'.ownsRow base e size v' (n + 1) (xs ++ cs.toList) → w.grownBy w' v.ownBlock → (v'.ownBlock = v.ownBlock ∨ v'.ownBlock = some w.heap.size) → wpListIn F nF P ops Q rest (a.put o.dst v') w') : wpListIn F nF P ops Q (o :: rest) a w := by
  obtain ⟨i, hi, hz, hsize, hby⟩ := info_parts hinfo
  have hb : (n + 1) * bytes ≤ 140737488355328 := by
    have h2 : (n + 1) * bytes ≤ 1000001 * 1000 := Nat.mul_le_mul (by omega) hbytes
    omega
  exact wpListIn_append_own_at (P := P) w hgd s x t ho base e i z size bytes ht hi hz hsize hby hzs hsz v n xs hs hown ⟨g, 0, none⟩ 1 c cs.toList hx (by simp [hcs]) (news_block hgc) (fun u hu => (Array.all_eq_true_iff_forall_mem.1 h1) u (by simpa using hu)) (by unfold maxLen; omega) hb hbase fun v' w' h2 h3 _ h4 => h v' w' h2 h3 h4
end
theorem run_copy_rows {P : Program} (w : World) (dT sT ty elem : TypeId) (size : Nat) (g o dLen dCap : Nat) (a : Addr) (sLen sCap : Nat) (cur : Array Value) (t : TypeId) (cs : List Value)
    (hu : P.underlying dT = some (.slice elem)) (hs : (P.info? elem).map (·.size) = some size)
    (hg : w.heap[g]? = some (.cells cur t (0, 0))) (hn : cs.length = Nat.min sLen dLen * size)
    (hsrc : ∀ j v, cs[j]? = some v → w.cell? (a.add j) = some v) (hfit : o + cs.length ≤ cur.size) (h1 : ∀ v ∈ cs, v.oneCell' = true) :
    (Builtin.copy_ #[dT, sT] ty #[.slice (some ⟨g, o, none⟩) dLen dCap, .slice (some a) sLen sCap]).run P w =
      .ok (goInt (Nat.min sLen dLen)) (w.setRow g (cur.toList.take o ++ cs ++ cur.toList.drop (o + cs.length)).toArray) := by
  have hl := run_loadCells_list (P := P) w a cs hsrc
  have hst := run_storeCells_at P g o t cs 0 cur w hg (by simpa using hfit) h1
  cases hq : P.info? elem with
  | none => simp [hq] at hs
  | some i =>
    have hi : i.size = size := by simpa [hq] using hs
    simp [Builtin.copy_, run_underlying hu, Builtin.lenOf, Builtin.firstCells, sizeOf, typeInfo, hq, hi, ← hn, hl, hst]
end Go.Proofs.YtbmfphiecllggaaDoor

/- Maps with structs as keys: what look, put and delete come to. -/
namespace Go.Proofs.YtbmfphiecllggaaDoor
set_option linter.unusedVariables false
set_option linter.unusedSimpArgs false
open Go.RowKit Go.Shelf

/-- A type of keys: structs that can be compared. -/
structure KeyK (P : Program) {κ : Type} [DecidableEq κ] (kt : TypeId) (enc : κ → Value) : Prop where
  under : ∃ fs, P.underlying kt = some (.struct fs)
  eq : ∀ c d w, (Op.equal kt (enc c) (enc d)).run P w = .ok (decide (c = d)) w
  chk : ∀ c e w, (Instr.checkKey e 10000 kt (enc c)).run P w = .ok () w
  same : ∀ c, Instr.sameBits 10000 (enc c) (enc c) = true

section
variable {κ : Type} [DecidableEq κ]
def entK (enc : κ → Value) (x : κ × Value × Nat) : MapEntry := { key := enc x.1, val := x.2.1, born := x.2.2 }
/-- A map in memory: its entries, in the order in which they came. -/
def mapK (enc : κ → Value) (L : List (κ × Value × Nat)) (clock : Nat) : Obj := .map (L.map (entK enc)).toArray clock
def findK (k : κ) : List (κ × Value × Nat) → Nat → Option (Nat × Value)
  | [], _ => none
  | x :: l, i => if k = x.1 then some (i, x.2.1) else findK k l (i + 1)
theorem findAsk_K {P : Program} {kt : TypeId} {enc : κ → Value} (h : KeyK P kt enc) (k : κ) (w : World) : ∀ (L : List (κ × Value × Nat)) (i : Nat),
    (Instr.findAsking kt (enc k) (L.map (entK enc)) i).run P w = .ok (findK k L i) w
  | [], i => by simp [Instr.findAsking, findK]
  | x :: l, i => by
    simp only [List.map_cons, Instr.findAsking, Sem.run_bind, entK, h.eq, Result.andThen_ok, findK]
    by_cases hk : k = x.1
    · simp [hk]
    · simp only [hk, decide_false, Bool.false_eq_true, if_false]
      exact findAsk_K h k w l (i + 1)
theorem find_runK {P : Program} {kt : TypeId} {enc : κ → Value} (h : KeyK P kt enc) (k : κ) (L : List (κ × Value × Nat)) (w : World) :
    (Instr.findKey kt (enc k) (L.map (entK enc))).run P w = .ok (findK k L 0) w := by
  obtain ⟨fs, hu⟩ := h.under
  unfold Instr.findKey
  simp only [Sem.run_bind, run_underlying hu, Result.andThen_ok]
  cases L with
  | nil => simp [Instr.findNow, findK]
  | cons x l =>
    have : Instr.findNow (.struct fs) (enc k) ((x :: l).map (entK enc)) 0 = none := by
      simp [Instr.findNow, Instr.sameNow]
    rw [this]
    exact findAsk_K h k w (x :: l) 0
theorem findK_some {k : κ} : ∀ {L : List (κ × Value × Nat)} {i j : Nat} {v : Value}, findK k L i = some (j, v) → i ≤ j ∧ ∃ (h : j - i < L.length), L[j - i].1 = k ∧ L[j - i].2.1 = v
  | [], i, j, v, h => by simp [findK] at h
  | x :: l, i, j, v, h => by
    rw [findK] at h
    split at h
    · rename_i hk
      simp only [Option.some.injEq, Prod.mk.injEq] at h
      obtain ⟨rfl, rfl⟩ := h
      exact ⟨Nat.le_refl _, by simp, by simp [hk]⟩
    · obtain ⟨h1, h2, h3, h4⟩ := findK_some h
      have he : j - i = (j - (i + 1)) + 1 := by omega
      refine ⟨by omega, by rw [List.length_cons]; omega, ?_⟩
      have hg : (x :: l)[j - i]'(by rw [List.length_cons]; omega) = l[j - (i + 1)] := by simp only [he, List.getElem_cons_succ]
      rw [hg]
      exact ⟨h3, h4⟩
theorem findK_none {k : κ} : ∀ {L : List (κ × Value × Nat)} {i : Nat}, findK k L i = none → ∀ x ∈ L, x.1 ≠ k
  | [], _, _, _, hx => by cases hx
  | y :: l, i, h, x, hx => by
    rw [findK] at h
    split at h
    · cases h
    · rename_i hk
      rcases List.mem_cons.1 hx with rfl | hx
      · exact fun e => hk e.symm
      · exact findK_none h x hx
def updK (k : κ) (v : Value) (L : List (κ × Value × Nat)) (clock : Nat) : List (κ × Value × Nat) × Nat :=
  match findK k L 0 with
  | some (i, _) => (L.modify i fun x => (k, v, x.2.2), clock)
  | none => (L ++ [(k, v, clock)], clock + 1)
def delK (k : κ) (L : List (κ × Value × Nat)) : List (κ × Value × Nat) :=
  match findK k L 0 with
  | some (i, _) => L.eraseIdx i
  | none => L
theorem run_updK {P : Program} {mt kt et : TypeId} {enc : κ → Value} (h : KeyK P kt enc) (hm : P.underlying mt = some (.map kt et)) (mb : Nat) (L : List (κ × Value × Nat)) (clock : Nat) (k : κ) (v : Value) (w : World)
    (hb : w.heap[mb]? = some (mapK enc L clock)) :
    (Instr.mapUpdate mt (.map (some mb)) (enc k) v).run P w = .ok () (w.putObj mb (mapK enc (updK k v L clock).1 (updK k v L clock).2)) := by
  have hg : (getObj mb).run P w = .ok (mapK enc L clock) w := by simp [getObj, Sem.run, hb, mapK]
  unfold Instr.mapUpdate
  simp only [Sem.run_bind, run_underlying hm, Result.andThen_ok, hg, mapK, h.chk, find_runK h]
  unfold updK
  cases hf : findK k L 0 with
  | none =>
    simp only
    rw [show (L.map (entK enc)).toArray.push { key := enc k, val := v, born := clock } = ((L ++ [(k, v, clock)]).map (entK enc)).toArray by simp [entK]]
    simp [setObj, Sem.run, hb, World.putObj, mapK]
  | some x =>
    obtain ⟨i, u⟩ := x
    obtain ⟨_, h2, h3, h4⟩ := findK_some hf
    rw [Nat.sub_zero] at h2
    have h3 : L[i].1 = k := h3
    have hk : (((L.map (entK enc)).toArray[i]?).map (·.key)).getD (enc k) = enc k := by
      simp [h2, entK, h3]
    simp only [hk, Instr.keyThatStays, h.same, if_true, Sem.run_bind, Sem.run_pure, Result.andThen_ok]
    rw [show ((L.map (entK enc)).toArray.modify i fun e => { e with key := enc k, val := v }) = ((L.modify i fun x => (k, v, x.2.2)).map (entK enc)).toArray by
      apply Array.ext'
      apply List.ext_getElem?
      intro j
      simp only [Array.toList_modify, List.getElem?_modify, List.getElem?_map]
      by_cases hj : i = j
      · subst hj
        simp [h2, entK]
      · simp [hj]]
    simp [setObj, Sem.run, hb, World.putObj, mapK]
theorem keys_inj {κ : Type} {L : List (κ × Value × Nat)} (hn : (L.map (·.1)).Nodup) {i j : Nat} (hi : i < L.length) (hj : j < L.length) (e : L[i].1 = L[j].1) : i = j :=
  (List.getElem_inj (xs := L.map (·.1)) (h₀ := by simpa using hi) (h₁ := by simpa using hj) hn).1 (by simpa using e)
/-- A table: what it has, each key once. -/
structure TabK (L : List (κ × Value × Nat)) (clock : Nat) (f : κ → Option Value) : Prop where
  mem : ∀ k v, f k = some v ↔ ∃ b, (k, v, b) ∈ L
  keys : (L.map (·.1)).Nodup
  born : ∀ x ∈ L, x.2.2 < clock
  borns : (L.map (·.2.2)).Nodup
omit [DecidableEq κ] in
theorem TabK.nil : TabK ([] : List (κ × Value × Nat)) 0 (fun _ => none) := ⟨by simp, List.nodup_nil, (fun x h => by cases h), List.nodup_nil⟩
theorem TabK.find {L : List (κ × Value × Nat)} {clock : Nat} {f : κ → Option Value} (h : TabK L clock f) (k : κ) : (findK k L 0).map Prod.snd = f k := by
  cases hf : findK k L 0 with
  | none =>
    cases hv : f k with
    | none => rfl
    | some v =>
      obtain ⟨b, hb⟩ := (h.mem k v).1 hv
      exact absurd rfl (findK_none hf _ hb)
  | some x =>
    obtain ⟨i, v⟩ := x
    obtain ⟨_, h2, h3, h4⟩ := findK_some hf
    rw [Nat.sub_zero] at h2
    have h3 : L[i].1 = k := h3
    have h4 : L[i].2.1 = v := h4
    have : f k = some v := (h.mem k v).2 ⟨L[i].2.2, by rw [← h3, ← h4]; exact List.getElem_mem h2⟩
    rw [this]; rfl
theorem TabK.upd {L : List (κ × Value × Nat)} {clock : Nat} {f : κ → Option Value} (h : TabK L clock f) (k : κ) (v : Value) :
    TabK (updK k v L clock).1 (updK k v L clock).2 (fun x => if x = k then some v else f x) := by
  unfold updK
  cases hf : findK k L 0 with
  | none =>
    have hn := findK_none hf
    refine ⟨fun x u => ?_, ?_, ?_, ?_⟩
    · simp only [List.mem_append, List.mem_singleton, Prod.mk.injEq]
      split
      · rename_i hx
        subst hx
        constructor
        · intro he; cases he; exact ⟨clock, .inr ⟨rfl, rfl, rfl⟩⟩
        · rintro ⟨b, hb | ⟨_, rfl, _⟩⟩
          · exact absurd rfl (hn _ hb)
          · rfl
      · rename_i hx
        rw [h.mem x u]
        exact ⟨fun ⟨b, hb⟩ => ⟨b, .inl hb⟩, fun ⟨b, hb⟩ => hb.elim (fun hb => ⟨b, hb⟩) (fun hb => absurd hb.1 hx)⟩
    · rw [List.map_append, List.nodup_append]
      refine ⟨h.keys, by simp, fun a ha b hb e => ?_⟩
      simp only [List.map_cons, List.map_nil, List.mem_singleton] at hb
      subst hb
      obtain ⟨y, hy, rfl⟩ := List.mem_map.1 ha
      exact hn y hy e
    · intro x hx
      rcases List.mem_append.1 hx with hx | hx
      · have := h.born x hx; simp only; omega
      · rw [List.mem_singleton.1 hx]; simp
    · rw [List.map_append, List.nodup_append]
      refine ⟨h.borns, by simp, fun a ha b hb e => ?_⟩
      simp only [List.map_cons, List.map_nil, List.mem_singleton] at hb
      subst hb
      obtain ⟨y, hy, rfl⟩ := List.mem_map.1 ha
      have := h.born y hy
      omega
  | some x =>
    obtain ⟨i, u⟩ := x
    obtain ⟨_, h2, h3, h4⟩ := findK_some hf
    rw [Nat.sub_zero] at h2
    have h3 : L[i].1 = k := h3
    have hkeys : (L.modify i fun x => (k, v, x.2.2)).map (·.1) = L.map (·.1) := by
      apply List.ext_getElem?
      intro j
      simp only [List.getElem?_map, List.getElem?_modify]
      by_cases hj : i = j
      · subst hj; simp [h2, h3]
      · simp [hj]
    have hborns : (L.modify i fun x => (k, v, x.2.2)).map (·.2.2) = L.map (·.2.2) := by
      apply List.ext_getElem?
      intro j
      simp only [List.getElem?_map, List.getElem?_modify]
      by_cases hj : i = j
      · subst hj; simp [h2]
      · simp [hj]
    have hin : ∀ y, y ∈ (L.modify i fun x => (k, v, x.2.2)) ↔ (y.1 = k ∧ y = (k, v, L[i].2.2)) ∨ (y.1 ≠ k ∧ y ∈ L) := by
      intro y
      rw [List.mem_iff_getElem?]
      constructor
      · rintro ⟨j, hj⟩
        rw [List.getElem?_modify] at hj
        by_cases hij : i = j
        · subst hij
          simp [h2] at hj
          subst hj
          exact .inl ⟨rfl, rfl⟩
        · simp [hij] at hj
          refine .inr ⟨fun e => hij ?_, List.mem_of_getElem? hj⟩
          obtain ⟨hjl, hjv⟩ := List.getElem?_eq_some_iff.1 hj
          exact keys_inj h.keys h2 hjl (by rw [h3, hjv, e])
      · rintro (⟨_, rfl⟩ | ⟨hne, hm⟩)
        · exact ⟨i, by simp [h2]⟩
        · obtain ⟨j, hj⟩ := List.mem_iff_getElem?.1 hm
          have hij : i ≠ j := by
            rintro rfl
            rw [List.getElem?_eq_getElem h2, Option.some.injEq] at hj
            exact hne (by rw [← hj]; exact h3)
          exact ⟨j, by rw [List.getElem?_modify]; simp [hij, hj]⟩
    refine ⟨fun x u' => ?_, by rw [hkeys]; exact h.keys, fun y hy => ?_, by rw [hborns]; exact h.borns⟩
    · split
      · rename_i hx
        subst hx
        constructor
        · intro he; cases he; exact ⟨L[i].2.2, (hin _).2 (.inl ⟨rfl, rfl⟩)⟩
        · rintro ⟨b, hb⟩
          rcases (hin _).1 hb with ⟨_, he⟩ | ⟨hne, _⟩
          · simp only [Prod.mk.injEq] at he; rw [he.2.1]
          · exact absurd rfl hne
      · rename_i hx
        rw [h.mem x u']
        exact ⟨fun ⟨b, hb⟩ => ⟨b, (hin _).2 (.inr ⟨hx, hb⟩)⟩, fun ⟨b, hb⟩ => ((hin _).1 hb).elim (fun hb => absurd hb.1 hx) (fun hb => ⟨b, hb.2⟩)⟩
    · rcases (hin y).1 hy with ⟨_, rfl⟩ | ⟨_, hm⟩
      · exact h.born L[i] (List.getElem_mem h2)
      · exact h.born y hm
theorem delK_mem {L : List (κ × Value × Nat)} (hn : (L.map (·.1)).Nodup) (k : κ) (y : κ × Value × Nat) : y ∈ delK k L ↔ y ∈ L ∧ y.1 ≠ k := by
  unfold delK
  cases hf : findK k L 0 with
  | none => exact Iff.intro (fun h => And.intro h (findK_none hf y h)) (fun h => h.1)
  | some x =>
    obtain ⟨i, u⟩ := x
    obtain ⟨_, h2, h3, h4⟩ := findK_some hf
    rw [Nat.sub_zero] at h2
    have h3 : L[i].1 = k := h3
    simp only
    rw [List.mem_eraseIdx_iff_getElem]
    constructor
    · rintro ⟨j, hj, hne, rfl⟩
      refine ⟨List.getElem_mem hj, fun e => hne ?_⟩
      exact keys_inj hn hj h2 (by rw [h3, e])
    · rintro ⟨hm, hne⟩
      obtain ⟨j, hj, rfl⟩ := List.getElem_of_mem hm
      exact ⟨j, hj, fun e => hne (by subst e; exact h3), rfl⟩
theorem TabK.del {L : List (κ × Value × Nat)} {clock : Nat} {f : κ → Option Value} (h : TabK L clock f) (k : κ) : TabK (delK k L) clock (fun x => if x = k then none else f x) := by
  have hs : (delK k L).Sublist L := by
    unfold delK
    split
    · exact List.eraseIdx_sublist ..
    · exact List.Sublist.refl _
  refine ⟨fun x v => ?_, h.keys.sublist (hs.map _), fun x hx => h.born x (hs.subset hx), h.borns.sublist (hs.map _)⟩
  split
  · rename_i hx
    subst hx
    exact ⟨fun e => (by cases e), fun ⟨b, hb⟩ => absurd rfl ((delK_mem h.keys _ _).1 hb).2⟩
  · rename_i hx
    rw [h.mem x v]
    constructor
    · rintro ⟨b, hb⟩
      exact ⟨b, (delK_mem h.keys k (x, v, b)).2 ⟨hb, hx⟩⟩
    · rintro ⟨b, hb⟩
      exact ⟨b, ((delK_mem h.keys k (x, v, b)).1 hb).1⟩
theorem run_delK {P : Program} {mt kt et ty : TypeId} {enc : κ → Value} (h : KeyK P kt enc) (hm : P.underlying mt = some (.map kt et)) (mb : Nat) (L : List (κ × Value × Nat)) (clock : Nat) (k : κ) (w : World)
    (hb : w.heap[mb]? = some (mapK enc L clock)) :
    (Builtin.delete_ #[mt, kt] ty #[.map (some mb), enc k]).run P w = .ok (.tuple #[]) (w.putObj mb (mapK enc (delK k L) clock)) := by
  have hg : (getObj mb).run P w = .ok (mapK enc L clock) w := by simp [getObj, Sem.run, hb, mapK]
  unfold Builtin.delete_
  simp only [List.getElem?_toArray, List.getElem?_cons_zero, List.getElem?_cons_succ, Sem.run_bind, run_underlying hm, Result.andThen_ok, hg, mapK, h.chk, find_runK h]
  unfold delK
  cases hf : findK k L 0 with
  | none => simp [setObj, Sem.run, hb, World.putObj, mapK]
  | some x =>
    obtain ⟨i, u⟩ := x
    simp only
    rw [show (L.map (entK enc)).toArray.eraseIdxIfInBounds i = ((L.eraseIdx i).map (entK enc)).toArray by
      apply Array.ext'
      rw [Array.toList_eraseIdxIfInBounds]
      apply List.ext_getElem?
      intro j
      simp only [List.getElem?_eraseIdx, List.getElem?_map]
      split <;> rfl]
    simp [setObj, Sem.run, hb, World.putObj, mapK]
/-- A key is looked up: what a map has there, or nothing. -/
theorem run_getK {P : Program} {mt kt et : TypeId} {enc : κ → Value} (h : KeyK P kt enc) (hm : P.underlying mt = some (.map kt et)) (mb : Nat) (L : List (κ × Value × Nat)) (clock : Nat) (f : κ → Option Value) (ht : TabK L clock f) (k : κ) (w : World)
    (hb : w.heap[mb]? = some (mapK enc L clock)) (z : Value) (hz : (zeroValue et).run P w = .ok z w) :
    (Instr.lookup mt (.map (some mb)) (enc k) true).run P w = .ok (.tuple #[(f k).getD z, .bool (f k).isSome]) w := by
  have hg : (getObj mb).run P w = .ok (mapK enc L clock) w := by simp [getObj, Sem.run, hb, mapK]
  unfold Instr.lookup
  simp only [Sem.run_bind, run_underlying hm, Result.andThen_ok, hg, mapK, h.chk, find_runK h, Sem.run_pure]
  rw [← ht.find k]
  cases hf : findK k L 0 with
  | none => simp [hz, Sem.run_bind]
  | some x => simp [Sem.run_pure]
end
end Go.Proofs.YtbmfphiecllggaaDoor

/- Plans of a job in plain words: which wants can be met, and by how few blocks. -/
namespace Go.Proofs.YtbmfphiecllggaaDoor
set_option linter.unusedVariables false
set_option linter.unusedSimpArgs false

/-- How many bits. -/
def sizeJ : Nat → Nat → Nat
  | 0, _ => 0
  | n + 1, s => sizeJ n s + (if s.testBit n then 1 else 0)
/-- What is left of some blocks without those of a set. -/
def afterJ (av s : Nat) : Nat := av ^^^ (av &&& s)
theorem afterJ_bit (av s i : Nat) : (afterJ av s).testBit i = (av.testBit i && !s.testBit i) := by
  unfold afterJ
  rw [Nat.testBit_xor, Nat.testBit_and]
  cases av.testBit i <;> cases s.testBit i <;> rfl
/-- A set among others. -/
def subJ (s av : Nat) : Bool := s &&& av == s
theorem subJ_iff (s av : Nat) : subJ s av = true ↔ ∀ i, s.testBit i = true → av.testBit i = true := by
  unfold subJ
  rw [beq_iff_eq]
  constructor
  · intro h i hi
    have := congrArg (fun n => n.testBit i) h
    simp only [Nat.testBit_and, hi, Bool.true_and] at this
    exact this
  · intro h
    refine Nat.eq_of_testBit_eq fun i => ?_
    rw [Nat.testBit_and]
    cases hs : s.testBit i with
    | false => rfl
    | true => rw [h i hs]; rfl
/-- A right plan: for each want a stack that is right for it, of blocks that are left. -/
def PlanJ : List (List Nat) → Nat → List Nat → Prop
  | [], _, l => l = []
  | R :: Rs, av, l => ∃ s t, l = s :: t ∧ s ∈ R ∧ subJ s av = true ∧ PlanJ Rs (afterJ av s) t
/-- How many blocks a plan needs (m: how many there are). -/
def costJ (m : Nat) (l : List Nat) : Nat := (l.map (sizeJ m)).sum
/-- The best step: the first stack, and how many blocks all need. -/
def scoreJ (m : Nat) : List (List Nat) → Nat → Option (Nat × Nat)
  | [], _ => some (0, 0)
  | R :: Rs, av => R.foldl (fun best s => if subJ s av then (match scoreJ m Rs (afterJ av s) with
      | none => best
      | some x => if (match best with | none => true | some y => decide (sizeJ m s + x.2 < y.2)) then some (s, sizeJ m s + x.2) else best) else best) none
/-- The plan that is told. -/
def toldJ (m : Nat) : List (List Nat) → Nat → List Nat
  | [], _ => []
  | R :: Rs, av => match scoreJ m (R :: Rs) av with
    | none => []
    | some x => x.1 :: toldJ m Rs (afterJ av x.1)
/-- What a search has found among the stacks that it has seen. -/
def BestJ (m : Nat) (Rs : List (List Nat)) (av : Nat) (seen : List Nat) : Option (Nat × Nat) → Prop
  | none => ∀ s ∈ seen, subJ s av = true → scoreJ m Rs (afterJ av s) = none
  | some y => (∃ n, y.1 ∈ seen ∧ subJ y.1 av = true ∧ (scoreJ m Rs (afterJ av y.1)).map Prod.snd = some n ∧ y.2 = sizeJ m y.1 + n) ∧
      ∀ s ∈ seen, subJ s av = true → ∀ x, scoreJ m Rs (afterJ av s) = some x → y.2 ≤ sizeJ m s + x.2
theorem best_foldJ (m : Nat) (Rs : List (List Nat)) (av : Nat) : ∀ (R seen : List Nat) (b : Option (Nat × Nat)), BestJ m Rs av seen b →
    BestJ m Rs av (seen ++ R) (R.foldl (fun best s => if subJ s av then (match scoreJ m Rs (afterJ av s) with
      | none => best
      | some x => if (match best with | none => true | some y => decide (sizeJ m s + x.2 < y.2)) then some (s, sizeJ m s + x.2) else best) else best) b)
  | [], seen, b, h => by simpa using h
  | s :: R, seen, b, h => by
    rw [List.foldl_cons, show seen ++ s :: R = (seen ++ [s]) ++ R by simp]
    refine best_foldJ m Rs av R (seen ++ [s]) _ ?_
    have hm : ∀ t, t ∈ seen ++ [s] ↔ t ∈ seen ∨ t = s := fun t => by simp
    by_cases hs : subJ s av = true
    · rw [if_pos hs]
      cases hx : scoreJ m Rs (afterJ av s) with
      | none =>
        dsimp only
        cases b with
        | none =>
          intro t ht hsub
          rcases (hm t).1 ht with h1 | rfl
          · exact h t h1 hsub
          · exact hx
        | some y =>
          obtain ⟨⟨n, h1, h2, h3, h4⟩, h5⟩ := h
          refine ⟨⟨n, (hm _).2 (.inl h1), h2, h3, h4⟩, fun t ht hsub x hxt => ?_⟩
          rcases (hm t).1 ht with h6 | rfl
          · exact h5 t h6 hsub x hxt
          · rw [hx] at hxt; cases hxt
      | some x =>
        dsimp only
        cases b with
        | none =>
          rw [if_pos rfl]
          refine ⟨⟨x.2, (hm _).2 (.inr rfl), hs, by rw [hx]; rfl, rfl⟩, fun t ht hsub x' hxt => ?_⟩
          rcases (hm t).1 ht with h6 | rfl
          · rw [h t h6 hsub] at hxt; cases hxt
          · rw [hx] at hxt; cases hxt; exact Nat.le_refl _
        | some y =>
          obtain ⟨⟨n, h1, h2, h3, h4⟩, h5⟩ := h
          dsimp only
          by_cases hlt : sizeJ m s + x.2 < y.2
          · rw [if_pos (decide_eq_true hlt)]
            refine ⟨⟨x.2, (hm _).2 (.inr rfl), hs, by rw [hx]; rfl, rfl⟩, fun t ht hsub x' hxt => ?_⟩
            rcases (hm t).1 ht with h6 | rfl
            · have := h5 t h6 hsub x' hxt; dsimp only; omega
            · rw [hx] at hxt; cases hxt; exact Nat.le_refl _
          · rw [if_neg (by simpa using hlt)]
            refine ⟨⟨n, (hm _).2 (.inl h1), h2, h3, h4⟩, fun t ht hsub x' hxt => ?_⟩
            rcases (hm t).1 ht with h6 | rfl
            · exact h5 t h6 hsub x' hxt
            · rw [hx] at hxt; cases hxt; omega
    · rw [if_neg hs]
      cases b with
      | none =>
        intro t ht hsub
        rcases (hm t).1 ht with h1 | rfl
        · exact h t h1 hsub
        · exact absurd hsub hs
      | some y =>
        obtain ⟨⟨n, h1, h2, h3, h4⟩, h5⟩ := h
        refine ⟨⟨n, (hm _).2 (.inl h1), h2, h3, h4⟩, fun t ht hsub x hxt => ?_⟩
        rcases (hm t).1 ht with h6 | rfl
        · exact h5 t h6 hsub x hxt
        · exact absurd hsub hs
theorem score_bestJ (m : Nat) (R : List Nat) (Rs : List (List Nat)) (av : Nat) : BestJ m Rs av R (scoreJ m (R :: Rs) av) := by
  have := best_foldJ m Rs av R [] none (by intro s hs; cases hs)
  rw [List.nil_append] at this
  rw [scoreJ]
  exact this
/-- There is a score just if there is a plan; the plan that is told is right, and none needs fewer blocks. -/
theorem score_specJ (m : Nat) : ∀ (Rs : List (List Nat)) (av : Nat),
    (scoreJ m Rs av = none → ∀ l, ¬ PlanJ Rs av l) ∧ (∀ x, scoreJ m Rs av = some x → PlanJ Rs av (toldJ m Rs av) ∧ costJ m (toldJ m Rs av) = x.2 ∧ ∀ l, PlanJ Rs av l → x.2 ≤ costJ m l)
  | [], av => by
    refine ⟨fun h => (by rw [scoreJ] at h; cases h), fun x h => ?_⟩
    have hx : x = (0, 0) := by rw [scoreJ] at h; exact (Option.some.inj h).symm
    subst hx
    exact ⟨rfl, rfl, fun l _ => Nat.zero_le _⟩
  | R :: Rs, av => by
    have hb := score_bestJ m R Rs av
    refine ⟨fun h l hl => ?_, fun y h => ?_⟩
    · rw [h] at hb
      obtain ⟨s, t, rfl, hs, hsub, ht⟩ := hl
      exact (score_specJ m Rs (afterJ av s)).1 (hb s hs hsub) t ht
    · rw [h] at hb
      obtain ⟨⟨n, h1, h2, h3, h4⟩, h5⟩ := hb
      have htold : toldJ m (R :: Rs) av = y.1 :: toldJ m Rs (afterJ av y.1) := by rw [toldJ, h]
      cases hz : scoreJ m Rs (afterJ av y.1) with
      | none => rw [hz] at h3; cases h3
      | some z =>
        rw [hz] at h3
        have hzn : z.2 = n := Option.some.inj h3
        obtain ⟨k1, k2, k3⟩ := (score_specJ m Rs (afterJ av y.1)).2 z hz
        refine ⟨?_, ?_, fun l hl => ?_⟩
        · rw [htold]; exact ⟨_, _, rfl, h1, h2, k1⟩
        · rw [htold]; unfold costJ at k2 ⊢; rw [List.map_cons, List.sum_cons, k2, hzn, h4]
        · obtain ⟨s, t, rfl, hs, hsub, ht⟩ := hl
          cases hq : scoreJ m Rs (afterJ av s) with
          | none => exact absurd ht ((score_specJ m Rs (afterJ av s)).1 hq t)
          | some q =>
            have e1 := h5 s hs hsub q hq
            have e2 := ((score_specJ m Rs (afterJ av s)).2 q hq).2.2 t ht
            unfold costJ at e2 ⊢
            rw [List.map_cons, List.sum_cons]
            omega
end Go.Proofs.YtbmfphiecllggaaDoor

/- The blocks of a set, and the set without a block's number. -/
namespace Go.Proofs.YtbmfphiecllggaaDoor
set_option linter.unusedVariables false
set_option linter.unusedSimpArgs false
/-- The blocks of a set, in order. -/
def selJ {α : Type} : List α → Nat → List α
  | [], _ => []
  | b :: bs, s => if s % 2 = 1 then b :: selJ bs (s / 2) else selJ bs (s / 2)
theorem testBit_succJ (s i : Nat) : s.testBit (i + 1) = (s / 2).testBit i := by rw [Nat.testBit_succ]
end Go.Proofs.YtbmfphiecllggaaDoor

/- All wants can be met without a block just if the others can meet them, with other numbers. -/
namespace Go.Proofs.YtbmfphiecllggaaDoor
set_option linter.unusedVariables false
set_option linter.unusedSimpArgs false

end Go.Proofs.YtbmfphiecllggaaDoor

/- The wants of a set: the first one and the others. -/
namespace Go.Proofs.YtbmfphiecllggaaDoor
set_option linter.unusedVariables false
set_option linter.unusedSimpArgs false

theorem sel_mapJ {α β : Type} (f : α → β) : ∀ (bs : List α) (s : Nat), selJ (bs.map f) s = (selJ bs s).map f
  | [], _ => rfl
  | b :: bs, s => by
    rw [List.map_cons, selJ, selJ, sel_mapJ f bs (s / 2)]
    split <;> rfl
theorem sel_zeroJ {α : Type} : ∀ (bs : List α), selJ bs 0 = []
  | [] => rfl
  | b :: bs => by rw [selJ, if_neg (by omega)]; exact sel_zeroJ bs
theorem sel_allJ {α : Type} : ∀ (bs : List α), selJ bs (2 ^ bs.length - 1) = bs
  | [] => rfl
  | b :: bs => by
    have hp : 0 < 2 ^ bs.length := Nat.two_pow_pos _
    rw [selJ, List.length_cons, Nat.pow_succ, if_pos (by omega), show (2 ^ bs.length * 2 - 1) / 2 = 2 ^ bs.length - 1 by omega, sel_allJ bs]
theorem half_afterJ (s t : Nat) : afterJ s t / 2 = afterJ (s / 2) (t / 2) := by
  refine Nat.eq_of_testBit_eq fun i => ?_
  rw [← testBit_succJ, afterJ_bit, afterJ_bit, testBit_succJ, testBit_succJ]
theorem low_afterJ (s t : Nat) : afterJ s t % 2 = 1 ↔ s % 2 = 1 ∧ t % 2 = 0 := by
  have h := afterJ_bit s t 0
  rw [Nat.testBit_zero, Nat.testBit_zero, Nat.testBit_zero] at h
  have h1 := Nat.mod_two_eq_zero_or_one s
  have h2 := Nat.mod_two_eq_zero_or_one t
  have h3 := Nat.mod_two_eq_zero_or_one (afterJ s t)
  rcases h1 with h1 | h1 <;> rcases h2 with h2 | h2 <;> rcases h3 with h3 | h3 <;> simp [h1, h2, h3] at h ⊢
/-- The first want of a set, and those behind it. -/
theorem sel_firstJ {α : Type} : ∀ (bs : List α) (s i : Nat) (h : i < bs.length), s.testBit i = true → (∀ k, k < i → s.testBit k = false) → selJ bs s = bs[i] :: selJ bs (afterJ s (2 ^ i))
  | [], _, _, h, _, _ => by simp at h
  | b :: bs, s, 0, _, ht, _ => by
    have h1 : s % 2 = 1 := by rw [Nat.testBit_zero] at ht; simpa using ht
    have h2 : ¬ afterJ s (2 ^ 0) % 2 = 1 := by rw [low_afterJ]; simp
    rw [selJ, selJ, if_pos h1, if_neg h2, half_afterJ]
    have h3 : afterJ (s / 2) (2 ^ 0 / 2) = s / 2 := by
      refine Nat.eq_of_testBit_eq fun i => ?_
      rw [afterJ_bit]; simp
    rw [h3]; rfl
  | b :: bs, s, i + 1, h, ht, hk => by
    have h1 : ¬ s % 2 = 1 := by
      have := hk 0 (by omega)
      rw [Nat.testBit_zero] at this
      simpa using this
    have h2 : ¬ afterJ s (2 ^ (i + 1)) % 2 = 1 := by rw [low_afterJ]; exact fun e => h1 e.1
    rw [testBit_succJ] at ht
    have ih := sel_firstJ bs (s / 2) i (by simpa using h) ht (fun k hki => by have := hk (k + 1) (by omega); rwa [testBit_succJ] at this)
    rw [selJ, selJ, if_neg h1, if_neg h2, half_afterJ, show 2 ^ (i + 1) / 2 = 2 ^ i by rw [Nat.pow_succ]; omega, ih]
    rfl
end Go.Proofs.YtbmfphiecllggaaDoor

/- The least of some sets. -/
namespace Go.Proofs.YtbmfphiecllggaaDoor
set_option linter.unusedVariables false
set_option linter.unusedSimpArgs false

/-- Fewer blocks, or as many and a lesser number. -/
def LessJ (m s t : Nat) : Prop := sizeJ m s < sizeJ m t ∨ sizeJ m s = sizeJ m t ∧ s < t
instance (m s t : Nat) : Decidable (LessJ m s t) := by unfold LessJ; infer_instance
theorem less_transJ {m a b c : Nat} (h : LessJ m a b) (h' : LessJ m b c) : LessJ m a c := by unfold LessJ at *; omega
theorem less_totalJ (m a b : Nat) : LessJ m a b ∨ a = b ∨ LessJ m b a := by unfold LessJ; omega
theorem less_irrJ {m a : Nat} (h : LessJ m a a) : False := by unfold LessJ at h; omega
/-- The least of some sets. -/
structure IsFewJ (m : Nat) (P : Nat → Prop) (t : Nat) : Prop where
  is : P t
  le : ∀ s, P s → s = t ∨ LessJ m t s
theorem IsFewJ.eq {m : Nat} {P : Nat → Prop} {t u : Nat} (h : IsFewJ m P t) (h' : IsFewJ m P u) : t = u := by
  rcases h.le u h'.is with e | e
  · exact e.symm
  · rcases h'.le t h.is with e' | e'
    · exact e'
    · exact (less_irrJ (less_transJ e e')).elim
theorem IsFewJ.join {m : Nat} {P Q : Nat → Prop} {t u : Nat} (h : IsFewJ m P t) (h' : IsFewJ m Q u) : IsFewJ m (fun s => P s ∨ Q s) (if LessJ m u t then u else t) := by
  by_cases hl : LessJ m u t
  · rw [if_pos hl]
    refine ⟨.inr h'.is, fun s hs => ?_⟩
    rcases hs with hs | hs
    · rcases h.le s hs with e | e
      · subst e; exact .inr hl
      · exact .inr (less_transJ hl e)
    · exact h'.le s hs
  · rw [if_neg hl]
    refine ⟨.inl h.is, fun s hs => ?_⟩
    rcases hs with hs | hs
    · exact h.le s hs
    · have h1 : u = t ∨ LessJ m t u := by
        rcases less_totalJ m u t with e | e | e
        · exact absurd e hl
        · exact .inl e
        · exact .inr e
      rcases h'.le s hs with e | e
      · subst e; exact h1
      · rcases h1 with e1 | e1
        · subst e1; exact .inr e
        · exact .inr (less_transJ e1 e)
theorem IsFewJ.congr {m : Nat} {P Q : Nat → Prop} {t : Nat} (h : IsFewJ m P t) (hpq : ∀ s, P s ↔ Q s) : IsFewJ m Q t :=
  ⟨(hpq t).1 h.is, fun s hs => h.le s ((hpq s).2 hs)⟩
theorem size_congrJ : ∀ (m s t : Nat), (∀ k, k < m → s.testBit k = t.testBit k) → sizeJ m s = sizeJ m t
  | 0, _, _, _ => rfl
  | m + 1, s, t, h => by rw [sizeJ, sizeJ, size_congrJ m s t (fun k hk => h k (by omega)), h m (by omega)]
/-- With one block more, that is behind all of a set. -/
theorem size_withJ (m s i : Nat) (hs : s < 2 ^ i) (hi : i < m) : sizeJ m (s + 2 ^ i) = sizeJ m s + 1 := by
  have hb : ∀ k, (s + 2 ^ i).testBit k = if k = i then true else s.testBit k := fun k => by
    rw [show s + 2 ^ i = 2 ^ i * 1 + s by omega, Nat.two_pow_add_eq_or_of_lt hs, Nat.testBit_or, Nat.mul_one, Nat.testBit_two_pow]
    by_cases h : k = i
    · subst h; simp
    · rw [if_neg h, decide_eq_false (fun e => h e.symm), Bool.false_or]
  induction m with
  | zero => omega
  | succ m ih =>
    rw [sizeJ, sizeJ, hb m]
    by_cases h : m = i
    · subst h
      have h1 : s.testBit m = false := Nat.testBit_lt_two_pow hs
      rw [if_pos rfl, h1]
      have h2 : sizeJ m (s + 2 ^ m) = sizeJ m s := size_congrJ m _ _ (fun k hk => by rw [hb k, if_neg (by omega)])
      rw [h2]; rfl
    · rw [if_neg h, ih (by omega)]; omega
end Go.Proofs.YtbmfphiecllggaaDoor

/- How long stacks are. -/
namespace Go.Proofs.YtbmfphiecllggaaDoor
set_option linter.unusedVariables false
set_option linter.unusedSimpArgs false

theorem IsFewJ.with {m i : Nat} {P : Nat → Prop} {t : Nat} (h : IsFewJ m P t) (hP : ∀ s, P s → s < 2 ^ i) (hi : i < m) : IsFewJ m (fun s => ∃ s', P s' ∧ s = s' + 2 ^ i) (t + 2 ^ i) := by
  refine ⟨⟨t, h.is, rfl⟩, ?_⟩
  rintro _ ⟨s, hs, rfl⟩
  rcases h.le s hs with e | e
  · subst e; exact .inl rfl
  · right
    have h1 := size_withJ m s i (hP s hs) hi
    have h2 := size_withJ m t i (hP t h.is) hi
    unfold LessJ at e ⊢
    omega
/-- How long the blocks of a list are, with their films, and how many. -/
structure LenJ where
  lo : Int
  hi : Int
  many : Int
deriving DecidableEq
def LenJ.zero : LenJ := ⟨0, 0, 0⟩
def LenJ.with (l : LenJ) (b film : Int × Int) : LenJ :=
  if 0 < l.many then ⟨l.lo + film.1 + b.1, l.hi + film.2 + b.2, l.many + 1⟩ else ⟨l.lo + b.1, l.hi + b.2, l.many + 1⟩
def lenJ (film : Int × Int) (l : List (Int × Int)) : LenJ := l.foldl (fun l b => l.with b film) .zero
theorem lenJ_snoc (film : Int × Int) (l : List (Int × Int)) (b : Int × Int) : lenJ film (l ++ [b]) = (lenJ film l).with b film := by
  unfold lenJ; rw [List.foldl_append]; rfl
theorem lenJ_fold (film : Int × Int) : ∀ (l : List (Int × Int)) (a : LenJ), (l.foldl (fun l b => l.with b film) a).many = a.many + l.length
  | [], a => by simp
  | b :: l, a => by
    have h : (a.with b film).many = a.many + 1 := by unfold LenJ.with; split <;> rfl
    rw [List.foldl_cons, lenJ_fold film l, h, List.length_cons]
    omega
theorem lenJ_many (film : Int × Int) (l : List (Int × Int)) : (lenJ film l).many = l.length := by
  have := lenJ_fold film l .zero
  unfold lenJ
  rw [this]
  show (0 : Int) + _ = _
  omega
/-- What is surely so of a length, and what can be. -/
def insideJ (w : Int × Int) (l : LenJ) : Bool := decide (w.1 ≤ l.lo) && decide (l.hi ≤ w.2)
def meetsJ (w : Int × Int) (l : LenJ) : Bool := decide (w.1 ≤ l.hi) && decide (l.lo ≤ w.2)
theorem sel_takeJ {α : Type} : ∀ (bs : List α) (s i : Nat), s < 2 ^ i → i ≤ bs.length → selJ (bs.take i) s = selJ bs s
  | [], s, i, _, _ => by simp
  | b :: bs, s, 0, hs, _ => by
    have h0 : s = 0 := by simpa using hs
    subst h0
    rw [sel_zeroJ, sel_zeroJ]
  | b :: bs, s, i + 1, hs, hi => by
    have h2 : s / 2 < 2 ^ i := by rw [Nat.pow_succ] at hs; omega
    rw [List.take_succ_cons, selJ, selJ, sel_takeJ bs (s / 2) i h2 (by simpa using hi)]
/-- A set with one block more that is behind all. -/
theorem sel_withJ {α : Type} : ∀ (bs : List α) (s i : Nat) (h : i < bs.length), s < 2 ^ i → selJ bs (s + 2 ^ i) = selJ bs s ++ [bs[i]]
  | [], _, _, h, _ => by simp at h
  | b :: bs, s, 0, _, hs => by
    have h0 : s = 0 := by simpa using hs
    subst h0
    rw [sel_zeroJ, selJ, if_pos (by decide), show (0 + 2 ^ 0) / 2 = 0 by decide, sel_zeroJ]
    rfl
  | b :: bs, s, i + 1, h, hs => by
    have h1 : (s + 2 ^ (i + 1)) % 2 = s % 2 := by rw [Nat.pow_succ]; omega
    have h2 : (s + 2 ^ (i + 1)) / 2 = s / 2 + 2 ^ i := by rw [Nat.pow_succ]; omega
    have ih := sel_withJ bs (s / 2) i (by simpa using h) (by rw [Nat.pow_succ] at hs; omega)
    rw [selJ, selJ, h1, h2, ih]
    split <;> rfl
end Go.Proofs.YtbmfphiecllggaaDoor

/- A truth of a stack is within its length. -/
namespace Go.Proofs.YtbmfphiecllggaaDoor
set_option linter.unusedVariables false
set_option linter.unusedSimpArgs false

end Go.Proofs.YtbmfphiecllggaaDoor

/- Rounds: what the search finds is right, and it finds some. -/
namespace Go.Proofs.YtbmfphiecllggaaDoor
set_option linter.unusedVariables false
set_option linter.unusedSimpArgs false

/-- The wants with a number. -/
def withJ : List Nat → Nat → Nat → Nat
  | [], _, _ => 0
  | x :: l, w, n => (if x = n then 2 ^ w else 0) + withJ l (w + 1) n
theorem with_snocJ : ∀ (l : List Nat) (w n i : Nat), withJ (l ++ [i]) w n = withJ l w n + if i = n then 2 ^ (w + l.length) else 0
  | [], w, n, i => by simp [withJ]
  | x :: l, w, n, i => by
    rw [List.cons_append, withJ, withJ, with_snocJ l (w + 1) n i, List.length_cons, show w + 1 + l.length = w + (l.length + 1) by omega]
    omega
theorem with_ltJ (l : List Nat) (n : Nat) : withJ l 0 n < 2 ^ l.length := by
  induction hk : l.length generalizing l with
  | zero =>
    have := List.length_eq_zero_iff.1 hk
    subst this; simp [withJ]
  | succ k ih =>
    have hne : l ≠ [] := by intro e; subst e; simp at hk
    obtain ⟨t, i, rfl⟩ : ∃ t i, l = t ++ [i] := ⟨l.dropLast, l.getLast hne, (List.dropLast_concat_getLast hne).symm⟩
    have ht : t.length = k := by simpa using hk
    have h1 := ih t ht
    rw [with_snocJ, ht, Nat.zero_add, Nat.pow_succ]
    split <;> omega
theorem with_noneJ : ∀ (l : List Nat) (w n : Nat), (∀ x ∈ l, x < n) → withJ l w n = 0
  | [], _, _, _ => rfl
  | x :: l, w, n, h => by
    have h1 := h x (List.mem_cons_self ..)
    rw [withJ, if_neg (by omega), with_noneJ l (w + 1) n (fun y hy => h y (List.mem_cons_of_mem _ hy))]
/-- A want is put into a round. -/
def putJ (rs : List Nat) (i w : Nat) : List Nat := if i = rs.length then rs ++ [2 ^ w] else rs.modify i (· ||| 2 ^ w)
/-- The search for rounds: k wants are left. -/
def onJ (can : Nat → Bool) (most : Nat) : Nat → List Nat → List Nat → Option (List Nat)
  | 0, _, l => some l
  | k + 1, rs, l => (List.range (min most (rs.length + 1))).findSome? fun i =>
      if can ((putJ rs i l.length).getD i 0) then onJ can most k (putJ rs i l.length) (l ++ [i]) else none
/-- Rounds that are right. -/
structure GoodJ (can : Nat → Bool) (rs l : List Nat) : Prop where
  can : ∀ r ∈ rs, can r = true
  eq : rs = (List.range rs.length).map (withJ l 0)
  lt : ∀ x ∈ l, x < rs.length
theorem GoodJ.nil (can : Nat → Bool) : GoodJ can [] [] := ⟨by simp, rfl, by simp⟩
theorem put_lenJ (rs : List Nat) (i w : Nat) : (putJ rs i w).length = if i = rs.length then rs.length + 1 else rs.length := by
  unfold putJ; split <;> simp
theorem GoodJ.put {can : Nat → Bool} {rs l : List Nat} (h : GoodJ can rs l) {i : Nat} (hi : i ≤ rs.length) (hc : can ((putJ rs i l.length).getD i 0) = true) : GoodJ can (putJ rs i l.length) (l ++ [i]) := by
  have hlen := put_lenJ rs i l.length
  have hget : ∀ n, n < rs.length → rs[n]? = some (withJ l 0 n) := fun n hn => by
    have := congrArg (fun r => r[n]?) h.eq
    try dsimp only at this
    rw [this]; simp [hn]
  have heq : ∀ n, n < (putJ rs i l.length).length → (putJ rs i l.length)[n]? = some (withJ (l ++ [i]) 0 n) := by
    intro n hn
    rw [hlen] at hn
    rw [with_snocJ, Nat.zero_add]
    unfold putJ
    by_cases e : i = rs.length
    · rw [if_pos e] at hn ⊢
      by_cases en : n = rs.length
      · subst en
        rw [if_pos e, with_noneJ l 0 rs.length h.lt]
        simp
      · rw [List.getElem?_append_left (by omega), hget n (by omega), if_neg (by omega)]; simp
    · rw [if_neg e] at hn ⊢
      rw [List.getElem?_modify, hget n hn]
      by_cases en : i = n
      · subst en
        have hlt := with_ltJ l i
        have := Nat.two_pow_add_eq_or_of_lt hlt 1
        rw [Nat.mul_one] at this
        simp only [if_true, Option.map_eq_map, Option.map_some]
        rw [Nat.or_comm, ← this, Nat.add_comm]
      · rw [if_neg en]; simp [en]
  refine ⟨fun r hr => ?_, ?_, fun x hx => ?_⟩
  · obtain ⟨n, hn, rfl⟩ := List.getElem_of_mem hr
    by_cases en : n = i
    · subst en
      rw [List.getD_eq_getElem?_getD, List.getElem?_eq_getElem hn] at hc
      exact hc
    · have hn' : n < rs.length := by rw [hlen] at hn; split at hn <;> omega
      have h1 := heq n hn
      rw [List.getElem?_eq_getElem hn, with_snocJ, if_neg (fun e => en e.symm), Nat.add_zero] at h1
      have h2 := hget n hn'
      rw [List.getElem?_eq_getElem hn'] at h2
      rw [Option.some.inj h1, ← Option.some.inj h2]
      exact h.can _ (List.getElem_mem hn')
  · refine List.ext_getElem? fun n => ?_
    by_cases hn : n < (putJ rs i l.length).length
    · rw [heq n hn]; simp [hn]
    · rw [List.getElem?_eq_none (by omega), List.getElem?_eq_none (by simpa using hn)]
  · rw [hlen]
    rcases List.mem_append.1 hx with hx | hx
    · have := h.lt x hx
      split <;> omega
    · have : x = i := by simpa using hx
      subst this
      split <;> omega
/-- What is found is right. -/
theorem on_goodJ (can : Nat → Bool) (most : Nat) : ∀ (k : Nat) (rs l l' : List Nat), GoodJ can rs l → onJ can most k rs l = some l' → l'.length = l.length + k ∧ ∃ rs', GoodJ can rs' l'
  | 0, rs, l, l', h, e => by
    have : l = l' := Option.some.inj e
    subst this; exact ⟨rfl, rs, h⟩
  | k + 1, rs, l, l', h, e => by
    rw [onJ] at e
    obtain ⟨i, hi, h1⟩ := List.exists_of_findSome?_eq_some e
    rw [List.mem_range] at hi
    split at h1
    · rename_i hc
      obtain ⟨h2, h3⟩ := on_goodJ can most k _ _ l' (h.put (by omega) hc) h1
      rw [List.length_append] at h2
      exact ⟨by simp only [List.length_cons, List.length_nil] at h2; omega, h3⟩
    · cases h1
/-- With as many rounds as wants some are found, if each want can alone. -/
theorem on_someJ (can : Nat → Bool) (n : Nat) (hall : ∀ w, w < n → can (2 ^ w) = true) : ∀ (k : Nat) (rs l : List Nat), l.length + k = n → rs.length ≤ l.length → (onJ can n k rs l).isSome = true
  | 0, _, _, _, _ => rfl
  | k + 1, rs, l, h, hr => by
    rw [onJ, List.isSome_findSome?, List.any_eq_true]
    refine ⟨rs.length, by rw [List.mem_range]; omega, ?_⟩
    have hp : putJ rs rs.length l.length = rs ++ [2 ^ l.length] := by unfold putJ; rw [if_pos rfl]
    rw [hp]
    have hg : (rs ++ [2 ^ l.length]).getD rs.length 0 = 2 ^ l.length := by simp
    rw [hg, if_pos (hall _ (by omega))]
    exact on_someJ can n hall k _ _ (by simp; omega) (by simp; omega)
end Go.Proofs.YtbmfphiecllggaaDoor

/- What a right plan is: no block twice, each stack right. -/
namespace Go.Proofs.YtbmfphiecllggaaDoor
set_option linter.unusedVariables false
set_option linter.unusedSimpArgs false

/-- No block is used twice. -/
def FreeJ : Nat → List Nat → Prop
  | _, [] => True
  | used, s :: l => used &&& s = 0 ∧ FreeJ (used ||| s) l
theorem PlanJ.free : ∀ {Rs : List (List Nat)} {av : Nat} {l : List Nat} (used : Nat), PlanJ Rs av l → (∀ i, used.testBit i = true → av.testBit i = false) → FreeJ used l
  | [], _, l, used, h, _ => by
    have h : l = [] := h
    subst h; trivial
  | R :: Rs, av, l, used, h, hu => by
    obtain ⟨s, t, rfl, h1, h2, h3⟩ := h
    rw [subJ_iff] at h2
    refine ⟨Nat.eq_of_testBit_eq fun i => ?_, PlanJ.free (used ||| s) h3 fun i hi => ?_⟩
    · rw [Nat.testBit_and, Nat.zero_testBit]
      cases hui : used.testBit i with
      | false => rfl
      | true =>
        cases hsi : s.testBit i with
        | false => rfl
        | true =>
          have e1 := hu i hui
          rw [h2 i hsi] at e1
          cases e1
    · rw [Nat.testBit_or] at hi
      rw [afterJ_bit]
      cases hui : used.testBit i with
      | true => rw [hu i hui]; rfl
      | false =>
        rw [hui, Bool.false_or] at hi
        rw [hi]; simp
theorem PlanJ.length : ∀ {Rs : List (List Nat)} {av : Nat} {l : List Nat}, PlanJ Rs av l → l.length = Rs.length
  | [], _, l, h => by
    have h : l = [] := h
    subst h; rfl
  | R :: Rs, av, l, h => by
    obtain ⟨s, t, rfl, _, _, h3⟩ := h
    rw [List.length_cons, List.length_cons, PlanJ.length h3]
theorem PlanJ.get : ∀ {Rs : List (List Nat)} {av : Nat} {l : List Nat}, PlanJ Rs av l → ∀ (i : Nat) (h : i < l.length) (h' : i < Rs.length), l[i] ∈ Rs[i]
  | [], _, _, _, _, _, h' => by simp at h'
  | R :: Rs, av, l, h, i, hi, hi' => by
    obtain ⟨s, t, rfl, h1, _, h3⟩ := h
    cases i with
    | zero => exact h1
    | succ i => exact PlanJ.get h3 i (by simpa using hi) (by simpa using hi')
/-- With more blocks, or with more stacks that are right, no less can be met. -/
theorem PlanJ.more : ∀ {Rs Rs' : List (List Nat)} {av av' : Nat} {l : List Nat}, PlanJ Rs av l → Rs.length = Rs'.length → (∀ (i : Nat) (h : i < Rs.length) (h' : i < Rs'.length), ∀ s ∈ Rs[i], s ∈ Rs'[i]) → subJ av av' = true → PlanJ Rs' av' l
  | [], [], _, _, _, h, _, _, _ => h
  | [], _ :: _, _, _, _, _, he, _, _ => by simp at he
  | _ :: _, [], _, _, _, _, he, _, _ => by simp at he
  | R :: Rs, R' :: Rs', av, av', l, h, he, hm, hs => by
    obtain ⟨s, t, rfl, h1, h2, h3⟩ := h
    rw [subJ_iff] at h2 hs
    refine ⟨s, t, rfl, hm 0 (by simp) (by simp) s h1, (subJ_iff _ _).2 fun i hi => hs i (h2 i hi), ?_⟩
    refine PlanJ.more h3 (by simpa using he) (fun i hi hi' x hx => hm (i + 1) (by simpa using hi) (by simpa using hi') x hx) ?_
    rw [subJ_iff]
    intro i hi
    rw [afterJ_bit] at hi ⊢
    rw [Bool.and_eq_true] at hi ⊢
    exact ⟨hs i hi.1, hi.2⟩
end Go.Proofs.YtbmfphiecllggaaDoor

/- A table by lengths, block by block. -/
namespace Go.Proofs.YtbmfphiecllggaaDoor
set_option linter.unusedVariables false
set_option linter.unusedSimpArgs false

/-- A table by lengths: for each the least set of those that are so long. -/
def TabJ (m : Nat) (P : LenJ → Nat → Prop) (all : LenJ → Option Nat) : Prop :=
  ∀ l, (all l = none → ∀ s, ¬ P l s) ∧ ∀ t, all l = some t → IsFewJ m (P l) t
def putTJ (m : Nat) (all : LenJ → Option Nat) (l : LenJ) (t : Nat) : LenJ → Option Nat := fun x =>
  if x = l then (match all l with
    | none => some t
    | some u => some (if LessJ m t u then t else u)) else all x
theorem TabJ.put {m : Nat} {P : LenJ → Nat → Prop} {Q : Nat → Prop} {all : LenJ → Option Nat} (h : TabJ m P all) {l : LenJ} {t : Nat} (ht : IsFewJ m Q t) : TabJ m (fun x s => P x s ∨ x = l ∧ Q s) (putTJ m all l t) := by
  intro x
  unfold putTJ
  by_cases e : x = l
  · subst e
    simp only [if_true]
    cases hx : all x with
    | none =>
      refine ⟨fun h1 => (by cases h1), fun t' h1 => ?_⟩
      have h1 : t = t' := Option.some.inj h1
      subst h1
      exact ht.congr fun s => ⟨fun hs => .inr ⟨by trivial, hs⟩, fun hs => hs.elim (fun hp => absurd hp ((h x).1 hx s)) fun hq => hq.2⟩
    | some u =>
      refine ⟨fun h1 => (by cases h1), fun t' h1 => ?_⟩
      have h1 := Option.some.inj h1
      subst h1
      exact (((h x).2 u hx).join ht).congr fun s => ⟨fun hs => hs.elim .inl fun hq => .inr ⟨by trivial, hq⟩, fun hs => hs.elim .inl fun hq => .inr hq.2⟩
  · rw [if_neg e]
    refine ⟨fun h1 s hs => ?_, fun t' h1 => ?_⟩
    · rcases hs with hs | hs
      · exact (h x).1 h1 s hs
      · exact e hs.1
    · exact ((h x).2 t' h1).congr fun s => ⟨.inl, fun hs => hs.elim id fun hq => absurd hq.1 e⟩
theorem TabJ.congr {m : Nat} {P Q : LenJ → Nat → Prop} {all : LenJ → Option Nat} (h : TabJ m P all) (hpq : ∀ l s, P l s ↔ Q l s) : TabJ m Q all :=
  fun l => ⟨fun h1 s hs => (h l).1 h1 s ((hpq l s).2 hs), fun t h1 => ((h l).2 t h1).congr (hpq l)⟩
/-- The sets of the first i blocks that are so long. -/
def OfJ (film : Int × Int) (bs : List (Int × Int)) (i : Nat) (l : LenJ) (s : Nat) : Prop := s < 2 ^ i ∧ lenJ film (selJ bs s) = l
/-- Those of one block more, of which the length without it has been gone through. -/
def OfKJ (film : Int × Int) (bs : List (Int × Int)) (i : Nat) (K : LenJ → Prop) (l : LenJ) (s : Nat) : Prop :=
  (∃ k, K k ∧ OfJ film bs i k s ∧ k = l) ∨ (∃ k s', K k ∧ OfJ film bs i k s' ∧ s = s' + 2 ^ i ∧ lenJ film (selJ bs s) = l)
/-- One length more is gone through. -/
theorem TabJ.step {m i : Nat} {film : Int × Int} {bs : List (Int × Int)} {K : LenJ → Prop} {next : LenJ → Option Nat} {k : LenJ} {t : Nat} (hi : i < bs.length) (him : i < m) (h : TabJ m (OfKJ film bs i K) next) (ht : IsFewJ m (OfJ film bs i k) t) :
    TabJ m (OfKJ film bs i (fun x => K x ∨ x = k)) (putTJ m (putTJ m next k t) (k.with bs[i] film) (t + 2 ^ i)) := by
  refine ((h.put ht).put (ht.with (fun s hs => hs.1) him)).congr fun l s => ?_
  have hlen : ∀ s', OfJ film bs i k s' → lenJ film (selJ bs (s' + 2 ^ i)) = k.with bs[i] film := fun s' hs => by
    rw [sel_withJ bs s' i hi hs.1, lenJ_snoc, hs.2]
  unfold OfKJ
  constructor
  · rintro ((h1 | ⟨h1, h2⟩) | ⟨h1, s', h2, h3⟩)
    · rcases h1 with ⟨x, hx, h2⟩ | ⟨x, s', hx, h2⟩
      · exact .inl ⟨x, .inl hx, h2⟩
      · exact .inr ⟨x, s', .inl hx, h2⟩
    · exact .inl ⟨k, .inr rfl, h2, h1.symm⟩
    · exact .inr ⟨k, s', .inr rfl, h2, h3, by rw [h3, hlen s' h2, h1]⟩
  · rintro (⟨x, hx | hx, h2⟩ | ⟨x, s', hx | hx, h2, h3, h4⟩)
    · exact .inl (.inl (.inl ⟨x, hx, h2⟩))
    · subst hx; exact .inl (.inr ⟨h2.2.symm, h2.1⟩)
    · exact .inl (.inl (.inr ⟨x, s', hx, h2, h3, h4⟩))
    · subst hx; exact .inr ⟨by rw [← h4, h3, hlen s' h2], s', h2, h3⟩
/-- All are gone through: the sets of one block more. -/
theorem TabJ.all {m i : Nat} {film : Int × Int} {bs : List (Int × Int)} {K : LenJ → Prop} {next : LenJ → Option Nat} (h : TabJ m (OfKJ film bs i K) next) (hK : ∀ l s, OfJ film bs i l s → K l) : TabJ m (OfJ film bs (i + 1)) next := by
  refine h.congr fun l s => ?_
  unfold OfKJ OfJ
  have hp : 2 ^ (i + 1) = 2 ^ i + 2 ^ i := by rw [Nat.pow_succ]; omega
  constructor
  · rintro (⟨k, _, ⟨h1, h2⟩, rfl⟩ | ⟨k, s', _, ⟨h1, h2⟩, rfl, h4⟩)
    · exact ⟨by omega, h2⟩
    · exact ⟨by omega, h4⟩
  · rintro ⟨h1, h2⟩
    by_cases hs : s < 2 ^ i
    · exact .inl ⟨l, hK l s ⟨hs, h2⟩, ⟨hs, h2⟩, rfl⟩
    · have h3 : s - 2 ^ i < 2 ^ i := by omega
      exact .inr ⟨_, s - 2 ^ i, hK _ (s - 2 ^ i) ⟨h3, rfl⟩, ⟨h3, rfl⟩, by omega, h2⟩
end Go.Proofs.YtbmfphiecllggaaDoor

/- The stacks that are right, with and without a block. -/
namespace Go.Proofs.YtbmfphiecllggaaDoor
set_option linter.unusedVariables false
set_option linter.unusedSimpArgs false

/-- The stacks that are right for a want, in order. -/
def rightsJ (film : Int × Int) (bs : List (Int × Int)) (w : Int × Int) : List Nat :=
  (List.range (2 ^ bs.length)).filter fun s => s != 0 && insideJ w (lenJ film (selJ bs s))
theorem mem_rightsJ {film : Int × Int} {bs : List (Int × Int)} {w : Int × Int} {s : Nat} : s ∈ rightsJ film bs w ↔ s < 2 ^ bs.length ∧ s ≠ 0 ∧ insideJ w (lenJ film (selJ bs s)) = true := by
  unfold rightsJ
  rw [List.mem_filter, List.mem_range, Bool.and_eq_true, bne_iff_ne]
end Go.Proofs.YtbmfphiecllggaaDoor

/- The least set of all lengths. -/
namespace Go.Proofs.YtbmfphiecllggaaDoor
set_option linter.unusedVariables false
set_option linter.unusedSimpArgs false

/-- The least set of all lengths that are gone through, in whatever order. -/
theorem fold_fewJ (m : Nat) (P : LenJ → Nat → Prop) : ∀ (es : List (LenJ × Nat)) (t : Nat) (Q : Nat → Prop), IsFewJ m Q t → (∀ e ∈ es, IsFewJ m (P e.1) e.2) →
    IsFewJ m (fun s => Q s ∨ ∃ e ∈ es, P e.1 s) (es.foldl (fun t e => if LessJ m e.2 t then e.2 else t) t)
  | [], t, Q, h, _ => h.congr fun s => ⟨.inl, fun hs => hs.elim id fun ⟨_, he, _⟩ => by cases he⟩
  | e :: es, t, Q, h, he => by
    have ih := fold_fewJ m P es _ _ (h.join (he e (List.mem_cons_self ..))) (fun x hx => he x (List.mem_cons_of_mem _ hx))
    rw [List.foldl_cons]
    refine ih.congr fun s => ⟨fun hs => ?_, fun hs => ?_⟩
    · rcases hs with (hs | hs) | ⟨x, hx, hs⟩
      · exact .inl hs
      · exact .inr ⟨e, List.mem_cons_self .., hs⟩
      · exact .inr ⟨x, List.mem_cons_of_mem _ hx, hs⟩
    · rcases hs with hs | ⟨x, hx, hs⟩
      · exact .inl (.inl hs)
      · rcases List.mem_cons.1 hx with rfl | hx
        · exact .inl (.inr hs)
        · exact .inr ⟨x, hx, hs⟩
end Go.Proofs.YtbmfphiecllggaaDoor
