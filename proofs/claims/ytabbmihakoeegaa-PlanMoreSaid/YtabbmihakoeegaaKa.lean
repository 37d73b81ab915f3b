/- Texts Po, G, I, L, A, C, B, D, P, E, F, H, J, K, M, N, O in one file; each begins with a word on what it proves. -/
import Derived.Test.YtabbmihakoeegaaRows
import Derived.WalkKit
import Derived.ProofKit
import Derived.OpenShut
import Derived.WalkSpells
import Derived.WalkLawsBesides
import Derived.Lib.Hide
import Derived.BigQuiet
import Derived.Deep.QuietTactic
import Derived.StillTailTactics
import Derived.Laws.CopyOwn
import Derived.Deep.RegionHeld3
import Derived.Deep.MidRow
import Derived.RangeFuncNested
import Derived.RangeFuncLeaves
import Derived.OrdersIn
import Derived.RangeFuncCalls
import Derived.OwnWalkIn
import Derived.TacticsInMore
import Derived.LoopNIn
import Derived.LoopIn
import Derived.Shelf.Abstract
import Derived.Maps.AppendAt
import Derived.Laws.StructEq
import Derived.Maps.RangeRun

/- The post of a law that leaves what was there, and returns one bool (plain). -/
namespace Go.Proofs.Ytabbmihakoeegaa
set_option linter.unusedVariables false
set_option linter.unusedSimpArgs false
open Go.ChangeShapes Go.WideShapes Go.ChangeAt Go.RowKit

theorem own_knob : ownKnob Try.prog.godebug = none := by kernel_rfl
theorem post_of_below {H : Type} {enc : TypeId × Value → H} {P : Program} {f : Func} {s : ChangeSpec} {apart fresh handsOn again : Bool} {W W' : World} {args : Array Value} {v : Value} {ds gs : List (DataW H)} {before pa pv : List MemPlace}
    (hW : DataW.Whole enc P f.params.toList s.vars apart W args.toList ds gs before)
    (hres : ∀ (b : Nat) (sp : Nat → Bool) (hd : Bool), DataW.TrodAll enc P W' b sp hd f.resultTypes.toList (v.resultList f.resultTypes.size) (s.fn H (ds ++ gs)).results [])
    (hargs : ∀ sp : Nat → Bool, (∀ p ∈ before, sp p.block = true) → DataW.TrodAll enc P W' 0 sp true f.params.toList args.toList (s.fn H (ds ++ gs)).args pa)
    (hvars : ∀ sp : Nat → Bool, (∀ p ∈ before, sp p.block = true) → DataW.TrodVars enc P W' sp s.vars (s.fn H (ds ++ gs)).vars pv)
    (hps : before = pa ++ pv) (hb : Below W.heap.size W W')
    (hok : ∀ (j : Nat) (t : TypeId) (r : Value), f.resultTypes[j]? = some t → (v.resultList f.resultTypes.size)[j]? = some r → Value.okWide P W' .any 0 t r) :
    s.post enc P f apart fresh handsOn again W args v W' := by
  have hlt := hW.lt
  have hold : ∀ p ∈ before, (fun b => decide (b < W.heap.size)) p.block = true := fun p hp => by simpa using hlt p hp
  refine ⟨ds, gs, before, [], pa, pv, hW, hres _ _ _, hargs _ hold, hvars _ hold, World.keptBut_mono (fun p hp => ⟨hp, ?_⟩) (hb.frame (· ∈ before)), fun _ => ?_⟩
  · rw [hps, List.mem_append] at hp
    exact Or.inr hp
  · obtain ⟨_, _, _, _, _, hz, hn⟩ := hW
    refine ⟨hok, _, _, ([] ++ pa) ++ pv, ⟨[] ++ pa, pv, trodAll_append (hargs _ (fun _ _ => rfl)) (hres _ _ _), hvars _ (fun _ _ => rfl), rfl, ?_, ?_⟩, ?_⟩
    · intro b off hp
      have hin : MemPlace.cell b off ∈ before := by rw [hps]; simpa using hp
      rw [hb.frozen (p := ⟨b, off, none⟩) (hlt _ hin)]
      exact hz b off hin
    · intro ha
      have := hn ha
      rw [hps] at this
      simpa using this
    · intro p hp _
      rw [hps]
      simpa using hp

end Go.Proofs.Ytabbmihakoeegaa

/- General lemmas: a region that draws its order, whose head yields fixed values in each world of a class (calls that make memory too), and whose tail comes in one forced order. -/
namespace Go.Proofs.Ytabbmihakoeegaa
set_option linter.unusedVariables false
set_option linter.unusedSimpArgs false
open Go.RowKit

section
variable {P : Program} {ops : Array Oper} {md : Region.Mode} {C : World → Prop}

/-- What an operation comes to in a world: this value, and a world of the class. -/
def fixUpon (P : Program) (C : World → Prop) (v : Value) : Result Next → Prop
  | .ok (.value u) w' => C w' ∧ u = v
  | .ok .skip w' => C w' ∧ v = undef
  | .ok (.enter f args) w' => Calls P f args w' (fun e w'' => e = .returned v ∧ C w'')
  | _ => False
/-- In state a operation o yields v in every world of the class, and leaves one of the class. -/
def Fix (P : Program) (ops : Array Oper) (C : World → Prop) (o : Oper) (v : Value) (a : Act) : Prop :=
  (Region.wanted o (yielded ops a.tmps) = true ∧ ∀ w, C w → fixUpon P C v ((execOp a.eval o).run P w)) ∨
  (Region.wanted o (yielded ops a.tmps) = false ∧ v = undef)
theorem Fix.of_same {o : Oper} {v : Value} {a a' : Act} (h : Fix P ops C o v a) (he : execOp a'.eval o = execOp a.eval o)
    (hw : Region.wanted o (yielded ops a'.tmps) = Region.wanted o (yielded ops a.tmps)) : Fix P ops C o v a' := by
  unfold Fix at *
  rw [he, hw]
  exact h
theorem Fix.wpOp {i : Nat} {o : Oper} {v : Value} {a : Act} (hi : ops[i]? = some o) (h : Fix P ops C o v a) {K : Act → World → Prop} {Q : Exit → Act → World → Prop} {w : World} (hC : C w)
    (hK : ∀ w', C w' → K (a.put o.dst v) w') : Go.wpOp P ops Q i K a w := by
  unfold Go.wpOp
  simp only [hi]
  rcases h with ⟨hw, hv⟩ | ⟨hw, rfl⟩
  · rw [if_pos hw]
    left
    have h3 := hv w hC
    unfold Oper.wp
    generalize (execOp a.eval o).run P w = r at *
    cases r with
    | ok n w' =>
      cases n <;> simp only [fixUpon] at h3 <;> simp only [Oper.upon]
      case value u => obtain ⟨e1, e2⟩ := h3; rw [e2]; exact hK _ e1
      case skip => obtain ⟨e1, e2⟩ := h3; rw [← e2]; exact hK _ e1
      case enter f args => exact h3.mono fun e w'' ⟨he, hw''⟩ => by subst he; exact hK _ hw''
    | halt x w' => simp only [fixUpon] at h3
  · rw [if_neg (by rw [hw]; decide)]
    exact hK _ hC

/-- The walk of the head, in the text's order. -/
def WF (P : Program) (ops : Array Oper) (C : World → Prop) (K : Act → Prop) : List Oper → Act → Prop
  | [], a => K a
  | o :: rest, a => ∃ v, Fix P ops C o v a ∧ WF P ops C K rest (a.put o.dst v)
/-- Whatever order the head is picked in. -/
def AnyF (P : Program) (md : Region.Mode) (ops : Array Oper) (C : World → Prop) (n : Nat) (L : Array Bool → Act → Prop) : Nat → Array Bool → Act → Prop
  | 0, listed, a => L listed a
  | f + 1, listed, a => Region.ready md ops listed ≠ [] ∧ ∀ i ∈ Region.ready md ops listed, i < n ∧ ∃ o v, ops[i]? = some o ∧ Fix P ops C o v a ∧ AnyF P md ops C n L f (listed.setIfInBounds i true) (a.put o.dst v)

theorem wpAny_of_AnyF {n g : Nat} {L : Array Bool → Act → Prop} {Q : Exit → Act → World → Prop} (hL : ∀ listed a, L listed a → ∀ w, C w → wpAny P md ops Q g listed a w) :
    ∀ (f : Nat) (listed : Array Bool) (a : Act), AnyF P md ops C n L f listed a → ∀ w, C w → wpAny P md ops Q (f + g) listed a w
  | 0, listed, a, h, w, hw => by rw [Nat.zero_add]; exact hL _ _ h w hw
  | f + 1, listed, a, h, w, hw => by
    rw [show f + 1 + g = (f + g) + 1 by omega]
    refine ⟨fun h0 => absurd h0 h.1, fun i hi => ?_⟩
    obtain ⟨_, o, v, ho, hy, hr⟩ := h.2 i hi
    exact hy.wpOp ho hw fun w' hw' => wpAny_of_AnyF hL f _ _ hr w' hw'

theorem AnyF_first {n i : Nat} {oi : Oper} {v : Value} {L : Array Bool → Act → Prop} (hi : ops[i]? = some oi) (hsel : ∀ (j : Nat) (o : Oper) cs b, ops[j]? = some o → o.op ≠ .select cs b)
    (hs : Region.sinkB md ops n = true) (hc : Region.chainB md ops n = true) (hn : n < ops.size) (hin : i < n)
    (hdone : ∀ listed a, L listed a → ∀ j ∈ Region.ready md ops listed, n ≤ j) :
    ∀ (f : Nat) (listed : Array Bool) (a : Act), HeadInv md ops n listed →
      (∀ j oj, ops[j]? = some oj → j ≠ i → listed.getD j true = false → (∀ e ∈ oj.after, Region.binds md e = true → e.on ≠ i) → oi.apart ops oj = true) →
      i ∈ Region.ready md ops listed → Fix P ops C oi v a →
      AnyF P md ops C n L f (listed.setIfInBounds i true) (a.put oi.dst v) → AnyF P md ops C n L (f + 1) listed a := by
  intro f
  induction f with
  | zero =>
    intro listed a inv _ hr hy H
    have hun := (mem_ready.1 hr).1
    refine ⟨fun h => (by rw [h] at hr; cases hr), fun j hj => ?_⟩
    have hjn : j < n := Nat.lt_of_not_le fun h => tail_waits hs hc hn inv _ i rfl hin hun j h hj
    refine ⟨hjn, ?_⟩
    by_cases hji : j = i
    · subst hji; exact ⟨oi, v, hi, hy, H⟩
    · have := hdone _ _ H j (ready_mono hj hji)
      omega
  | succ f ih =>
    intro listed a inv hfree hr hy H
    have hun := (mem_ready.1 hr).1
    refine ⟨fun h => (by rw [h] at hr; cases hr), fun j hj => ?_⟩
    have hjn : j < n := Nat.lt_of_not_le fun h => tail_waits hs hc hn inv _ i rfl hin hun j h hj
    refine ⟨hjn, ?_⟩
    by_cases hji : j = i
    · subst hji; exact ⟨oi, v, hi, hy, H⟩
    · obtain ⟨_, oj', u, hoj', hyj, hrest⟩ := H.2 j (ready_mono hj hji)
      obtain ⟨hjun, oj, hoj, hall⟩ := mem_ready.1 hj
      obtain rfl : oj = oj' := Option.some.inj (hoj.symm.trans hoj')
      have hnot : ∀ e ∈ oj.after, Region.binds md e = true → e.on ≠ i := fun e he hb heq => by
        have h1 := hall e he hb
        rw [heq, getD_both hun] at h1
        cases h1
      have hap := hfree j oj hoj hji hjun hnot
      obtain ⟨h1, h2, h3⟩ := Oper.apart_spec hap
      have hsi := fun cs b => hsel i oi cs b hi
      have hsj := fun cs b => hsel j oj cs b hoj
      have hyj' : Fix P ops C oj u a := hyj.of_same (execOp_put oj hsj a oi.dst v h1).symm (wanted_put oj a oi.dst v h1).symm
      have hyi' : Fix P ops C oi v (a.put oj.dst u) := hy.of_same (execOp_put oi hsi a oj.dst u h3) (wanted_put oi a oj.dst u h3)
      refine ⟨oj, u, hoj, hyj', ih (listed.setIfInBounds j true) _ (inv.set hj hjn) ?_ (ready_mono hr (Ne.symm hji)) hyi' ?_⟩
      · intro k ok hk hki hun' hno
        refine hfree k ok hk hki ?_ hno
        by_cases hjk : j = k
        · subst hjk; exact hjun
        · rw [getD_set_ne true hjk] at hun'; exact hun'
      · rw [Array.setIfInBounds_comm _ _ hji, ← Act.put_comm a v u h2]
        exact hrest

theorem AnyF_lex {n g : Nat} {K : Act → Prop} (hsel : Region.noSelect ops = true) (hs : Region.sinkB md ops n = true) (hc : Region.chainB md ops n = true) (hn : n < ops.size) :
    ∀ (l : List Oper) (k : Nat) (listed : Array Bool) (a : Act), (∀ j, j < l.length → l[j]? = ops[k + j]?) → k + l.length = n → HeadInv md ops n listed →
    Region.lexHead md ops g l.length k listed = true → WF P ops C K l a →
    AnyF P md ops C n (fun listed' a' => Region.seqB md ops g n listed' = true ∧ K a') l.length listed a
  | [], k, listed, a, _, hk, _, hB, h => by
    obtain rfl : k = n := by simpa using hk
    exact ⟨by simpa [Region.lexHead] using hB, h⟩
  | o :: l, k, listed, a, hl, hk, inv, hB, h => by
    have h0 : ops[k]? = some o := by simpa using (hl 0 (by simp)).symm
    simp only [List.length_cons, Region.lexHead, Bool.and_eq_true] at hB
    obtain ⟨⟨hr, hf⟩, hB'⟩ := hB
    have hkn : k < n := by simp only [List.length_cons] at hk; omega
    have hr' : k ∈ Region.ready md ops listed := by simpa using hr
    obtain ⟨v, hy, hK⟩ := h
    exact AnyF_first h0 (Region.noSelect_spec hsel) hs hc hn hkn (fun listed' a' hL => seqB_ready hL.1) l.length listed a inv (Region.free_spec h0 hf) hr' hy
      (AnyF_lex hsel hs hc hn l (k + 1) _ _ (fun j hj => by have := hl (j + 1) (by simp; omega); simpa [Nat.add_assoc, Nat.add_comm 1 j] using this) (by simp only [List.length_cons] at hk; omega) (inv.set hr' hkn) hB' hK)

/-- A region that draws its order: n operations of fixed values in a class of worlds, then a tail in one forced order. -/
theorem region_fix {id : Nat} {Q : Exit → Act → World → Prop} {a : Act} {w : World} {l : List Oper} (n : Nat) (C : World → Prop) (hm : P.follows .mixedOrders = true) (hB : Region.lexTailB .any l.toArray n = true) (hC : C w.drew)
    (h : WF P l.toArray C (fun a' => ∀ w', C w' → wpList P l.toArray Q (l.drop n) a' w') (l.take n) a) : (Code.region id l.toArray true).wp P Q a w := by
  simp only [Region.lexTailB, Bool.and_eq_true, decide_eq_true_eq] at hB
  obtain ⟨⟨⟨⟨hsel, hn⟩, hs⟩, hc⟩, hlex⟩ := hB
  have hn' : n < l.length := by simpa using hn
  have htl : (l.take n).length = n := by simp; omega
  have hdl : (l.drop n).length = l.toArray.size - n := by simp
  have inv0 : HeadInv .any l.toArray n (Array.replicate l.toArray.size false) :=
    ⟨by simp, fun j oj _ hl => (by rw [getD_replicate_false] at hl; cases hl), fun t _ ht => getD_in (by simpa using ht) (getD_replicate_false _ _)⟩
  have H := AnyF_lex (md := .any) (g := l.toArray.size - n) hsel hs hc hn (l.take n) 0 _ a (fun j hj => by
    have hj' : j < n := by rw [htl] at hj; exact hj
    simp [hj']) (by simpa using htl) inv0 (by rw [htl]; exact hlex) h
  refine wp_region_any hm ?_
  have := wpAny_of_AnyF (Q := Q) (g := l.toArray.size - n) (fun listed a' hL w' hw' => by
    have := wpAny_of_seq (md := .any) (Q' := Q) (l.drop n) n listed a' w' (fun j => by simp [List.getElem?_drop]) (by rw [hdl]; exact hL.1) (hL.2 w' hw')
    rwa [hdl] at this) _ _ _ H w.drew hC
  rw [htl, show n + (l.toArray.size - n) = l.toArray.size by omega] at this
  exact this
end

/-- One step of the head's walk. -/
theorem WF_step {P : Program} {ops : Array Oper} {C : World → Prop} {K : Act → Prop} {a : Act} {o : Oper} {rest : List Oper} (v : Value)
    (h : ∀ w, C w → fixUpon P C v ((execOp a.eval o).run P w)) (hg : o.guard = none) (hr : WF P ops C K rest (a.put o.dst v)) : WF P ops C K (o :: rest) a :=
  ⟨v, .inl ⟨by simp [Region.wanted, hg], h⟩, hr⟩
theorem heap_alloc_at (w : World) (o : Obj) (i : Nat) (h : i = w.heap.size) : (w.alloc o).heap[i]? = some o := by rw [h]; exact heap_alloc_new w o
theorem hget (w : World) (o : Obj) (i : Nat) : (w.alloc o).heap[i]? = if i = w.heap.size then some o else w.heap[i]? := by
  by_cases h : i = w.heap.size
  · rw [if_pos h]; exact heap_alloc_at w o i h
  · rw [if_neg h]
    rcases Nat.lt_or_ge i w.heap.size with h' | h'
    · exact Below.heap_alloc w o i h'
    · rw [Array.getElem?_eq_none h', Array.getElem?_eq_none (by simp; omega)]
theorem hget_old (w : World) (o : Obj) (i : Nat) (h : i ≠ w.heap.size) : (w.alloc o).heap[i]? = w.heap[i]? := by rw [hget, if_neg h]
theorem wrap_neg (n : Int) (h1 : -9000000000000000000 ≤ n) (h2 : n ≤ 9000000000000000000) : IntKind.i64.wrap (-n) = -n := by
  apply IntWalk.i64_in
  omega
theorem WF_nil {P : Program} {ops : Array Oper} {C : World → Prop} {K : Act → Prop} {a : Act} (h : K a) : WF P ops C K [] a := h
theorem WF_skip {P : Program} {ops : Array Oper} {C : World → Prop} {K : Act → Prop} {a : Act} {o : Oper} {rest : List Oper}
    (h : Region.wanted o (yielded ops a.tmps) = false) (hr : WF P ops C K rest (a.put o.dst undef)) : WF P ops C K (o :: rest) a :=
  ⟨undef, .inr ⟨h, rfl⟩, hr⟩
theorem WF_stepG {P : Program} {ops : Array Oper} {C : World → Prop} {K : Act → Prop} {a : Act} {o : Oper} {rest : List Oper} (v : Value)
    (h : ∀ w, C w → fixUpon P C v ((execOp a.eval o).run P w)) (hg : Region.wanted o (yielded ops a.tmps) = true) (hr : WF P ops C K rest (a.put o.dst v)) : WF P ops C K (o :: rest) a :=
  ⟨v, .inl ⟨hg, h⟩, hr⟩
theorem fix_load_row {P : Program} {C : World → Prop} {o : Oper} {ρ : Operand → Value} {w : World} (ty : TypeId) (x : Operand) (ho : o.op = .load ty x)
    (g : Nat) (hx : ρ x = .pointer (some ⟨g, 0, none⟩)) (t : TypeId) (cs : Array Value) (fr : Nat × Nat) (d : TypeDesc) (hg : w.heap[g]? = some (.cells cs t fr))
    (hu : P.underlying ty = some d) (hd : (match d with | .struct _ | .array _ _ => true | _ => false) = true) (hi : (P.info? ty).map (·.size) = some cs.size) (hC : C w) :
    fixUpon P C (.agg cs) ((execOp ρ o).run P w) := by
  unfold execOp
  simp only [ho, hx, Instr.loadAt, Instr.sureAddr, Sem.run_bind, Sem.run_pure, Result.andThen_ok, run_loadVar_row w g t ty cs fr d hg hu hd hi]
  exact ⟨hC, rfl⟩
theorem fix_value {P : Program} {C : World → Prop} {v : Value} {w : World} (h : C w) : fixUpon P C v (.ok (.value v) w) := ⟨h, rfl⟩
theorem fix_enter {P : Program} {C : World → Prop} {v : Value} {w : World} {f : FuncId} {args : Array Value} (h : Calls P f args w (fun e w'' => e = .returned v ∧ C w'')) : fixUpon P C v (.ok (.enter f args) w) := h

end Go.Proofs.Ytabbmihakoeegaa

/- Iterators: a contract for a function value that is ranged over, and a law for the statement that ranges over it. -/
namespace Go.Proofs.Ytabbmihakoeegaa
set_option linter.unusedVariables false
set_option linter.unusedSimpArgs false
open Go.RowKit

/-- The memory is the same, but for blocks of a set, and for new ones. -/
structure Keeps (Mut : Nat → Prop) (w w' : World) : Prop where
  os : w'.os = w.os
  tape : w'.tape = w.tape
  output : w'.output = w.output
  size : w.heap.size ≤ w'.heap.size
  block : ∀ k, k < w.heap.size → ¬ Mut k → w'.heap[k]? = w.heap[k]?
theorem Keeps.refl (Mut : Nat → Prop) (w : World) : Keeps Mut w w := ⟨rfl, rfl, rfl, Nat.le_refl _, fun _ _ _ => rfl⟩
theorem Keeps.trans {Mut : Nat → Prop} {a b c : World} (h : Keeps Mut a b) (k : Keeps Mut b c) : Keeps Mut a c :=
  ⟨k.os.trans h.os, k.tape.trans h.tape, k.output.trans h.output, Nat.le_trans h.size k.size, fun i hi hm => (k.block i (Nat.lt_of_lt_of_le hi h.size) hm).trans (h.block i hi hm)⟩
theorem Keeps.transNew {Mut N : Nat → Prop} {a b c : World} (h : Keeps Mut a b) (k : Keeps N b c) (hN : ∀ i, N i → a.heap.size ≤ i) : Keeps Mut a c :=
  ⟨k.os.trans h.os, k.tape.trans h.tape, k.output.trans h.output, Nat.le_trans h.size k.size, fun i hi hm => (k.block i (Nat.lt_of_lt_of_le hi h.size) (fun hn => by have := hN i hn; omega)).trans (h.block i hi hm)⟩
theorem Keeps.mono {Mut Mut' : Nat → Prop} {w w' : World} (h : Keeps Mut w w') (hm : ∀ k, k < w.heap.size → Mut k → Mut' k) : Keeps Mut' w w' :=
  ⟨h.os, h.tape, h.output, h.size, fun k hk hn => h.block k hk (fun hx => hn (hm k hk hx))⟩
theorem Keeps.of_below {Mut : Nat → Prop} {B : Nat} {w w' : World} (h : Below B w w') (hm : ∀ k, B ≤ k → k < w.heap.size → Mut k) : Keeps Mut w w' :=
  ⟨h.os, h.tape, h.output, h.size, fun k hk hn => h.block k (Nat.lt_of_not_le fun hb => hn (hm k hb hk))⟩
theorem Keeps.below {Mut : Nat → Prop} {B : Nat} {w w' : World} (h : Keeps Mut w w') (hB : B ≤ w.heap.size) (hm : ∀ k, k < B → ¬ Mut k) : Below B w w' :=
  ⟨h.os, h.tape, h.output, h.size, fun k hk => h.block k (by omega) (hm k hk)⟩
theorem Keeps.alloc (Mut : Nat → Prop) (w : World) (o : Obj) : Keeps Mut w (w.alloc o) :=
  ⟨rfl, rfl, rfl, by simp, fun k hk _ => Below.heap_alloc w o k hk⟩
theorem Keeps.setCell {Mut : Nat → Prop} (w : World) (p : Addr) (v : Value) (hp : Mut p.block) : Keeps Mut w (w.setCell p v) :=
  ⟨rfl, rfl, rfl, by simp [World.setCell], fun k _ hn => Below.heap_setCell w p v k (fun e => hn (e ▸ hp))⟩
theorem Keeps.drew (Mut : Nat → Prop) (w : World) : Keeps Mut w w.drew := ⟨rfl, rfl, rfl, Nat.le_refl _, fun _ _ _ => rfl⟩
theorem Keeps.putObj {Mut : Nat → Prop} (w : World) (l : Nat) (o : Obj) (hl : Mut l) : Keeps Mut w (w.putObj l o) :=
  ⟨rfl, rfl, rfl, by simp, fun k _ hn => World.putObj_heap_other (fun e => hn (e ▸ hl))⟩
theorem Keeps.setRow {Mut : Nat → Prop} (w : World) (g : Nat) (cs : Array Value) (hg : Mut g) : Keeps Mut w (w.setRow g cs) :=
  ⟨rfl, rfl, rfl, by simp, fun k _ hn => setRow_other w g k cs (fun e => hn (e ▸ hg))⟩

/-- What is so of a state stays so while the one that ranges works on memory of its own. -/
def Stable {α : Type} (B : Nat) (J : List α → (Nat → Prop) → World → Prop) : Prop :=
  ∀ s G W1 W2, J s G W1 → Keeps (fun k => B ≤ k ∧ ¬ G k) W1 W2 → J s G W2
/-- The blocks that a round has made are added. -/
def Grow (G : Nat → Prop) (W1 W2 : World) : Nat → Prop := fun k => G k ∨ (W1.heap.size ≤ k ∧ k < W2.heap.size)

/-- A function value yields these, one after the other, as long as it is told to go on. -/
def SeqAt {α : Type} (P : Program) (g : FuncId) (lb : Array Value) (encs : α → Array Value) (xs : List α) (Rd : Nat → Prop) (W : World) : Prop :=
  ∀ (l : Nat) (Mut : Nat → Prop) (J Jx : List α → (Nat → Prop) → World → Prop),
    (∀ k, Mut k → k < W.heap.size ∧ ¬ Rd k) → Stable W.heap.size J → Stable W.heap.size Jx →
    (∀ pre x rest G W1, xs = pre ++ x :: rest → J pre G W1 → W.heap.size ≤ W1.heap.size → YieldAt Fence.wide 0 P l (encs x) W1 fun e W2 =>
      Keeps Mut W1 W2 ∧ ((e = .returned (.bool true) ∧ J (pre ++ [x]) (Grow G W1 W2) W2) ∨ (e = .returned (.bool false) ∧ Jx (pre ++ [x]) (Grow G W1 W2) W2))) →
    J [] (fun _ => False) W →
    Calls P g (#[.func (.yield l) #[] #[]] ++ lb) W fun e W2 => (∃ v, e = .returned v) ∧ Keeps Mut W W2 ∧
      ∃ G, (J xs G W2 ∨ ∃ pre x rest, xs = pre ++ x :: rest ∧ Jx (pre ++ [x]) G W2)

/-- What is asked where a round's body ends. -/
def roundEnd {α : Type} (Mut : Nat → Prop) (I : List α → (Nat → Prop) → World → Prop) (Ix : Code → List α → (Nat → Prop) → World → Prop) (s : List α) (G : Nat → Prop) (W W2 : World) : Exit → Act → World → Prop
  | .normal, _, W3 => Keeps Mut W2 W3 ∧ I s (Grow G W W3) W3
  | .ret, _, W3 => Keeps Mut W2 W3 ∧ Ix .ret s (Grow G W W3) W3
  | .exit id, _, W3 => Keeps Mut W2 W3 ∧ Ix (.exit id) s (Grow G W W3) W3
  | .goto t, _, W3 => Keeps Mut W2 W3 ∧ Ix (.goto t) s (Grow G W W3) W3
  | _, _, _ => False

theorem wp_range {α : Type} {P : Program} {g : Operand} {ps : Array Tmp} {assign body : Code} {Q : Exit → Act → World → Prop} {a : Act} {w : World} {gf : Nat} {lb : Array Value}
    (hg : a.eval g = .func (.func gf) #[] lb) (eg : ∀ args w, (callFunc gf args).run P w = .ok (.enter gf args) w)
    {encs : α → Array Value} (hps : ∀ x, (encs x).size = ps.size) (Rd Mut : Nat → Prop) (hRd : ∀ k, Rd k → k < w.heap.size) (hM : ∀ k, Mut k → k < w.heap.size ∧ ¬ Rd k) (xs : List α)
    (hseq : ∀ W, Below w.heap.size w W → SeqAt P gf lb encs xs Rd W)
    (I : List α → (Nat → Prop) → World → Prop) (Ix : Code → List α → (Nat → Prop) → World → Prop) (hI : Stable w.heap.size I) (hIx : ∀ c, Stable w.heap.size (Ix c)) (h0 : I [] (fun _ => False) w)
    (hround : ∀ l pre x rest G W, xs = pre ++ x :: rest → I pre G W → w.heap.size ≤ l → l < W.heap.size → (∀ k, G k → l < k) →
      assign.wpIn (Fence.wide.inRound l) 0 P (Exit.then (fun a₁ W₁ => Keeps Mut W W₁ ∧ ∀ W₂, Keeps (fun k => k = l) W₁ W₂ → W₂.heap.size = W₁.heap.size →
        body.wpIn (Fence.wide.inRound l) 0 P (roundEnd Mut I Ix (pre ++ [x]) G W W₂) a₁ W₂) (fun _ _ _ => False))
        { tmps := (ps.zip (encs x)).foldl (fun t (p, v) => t.setIfInBounds p v) a.tmps, defers := [] } W)
    (hdone : ∀ D G W, I xs G W → (∀ k, G k → D < k) → Keeps (fun k => Mut k ∨ w.heap.size ≤ k) w W → W.heap[D]? = some (.deferred (some [])) → w.heap.size ≤ D →
      Q .normal { a with defers := { target := .collected D, args := #[] } :: a.defers } W)
    (hstop : ∀ D c pre x rest G W, xs = pre ++ x :: rest → Ix c (pre ++ [x]) G W → (∀ k, G k → D < k) → Keeps (fun k => Mut k ∨ w.heap.size ≤ k) w W → W.heap[D]? = some (.deferred (some [])) → w.heap.size ≤ D →
      c.wp P Q { a with defers := { target := .collected D, args := #[] } :: a.defers } W) :
    (Code.rangeFunc g ps assign body).wp P Q a w := by
  refine (wpIn_wide (n := 0)).1 (wpIn_rangeFunc ?_)
  intro fn hfn
  obtain ⟨rec, hrec⟩ : ∃ rec : LoopState → Option Code → Loop, rec = fun st pe => { state := st, pending := pe, fn, tmps := a.tmps, params := ps, assign, body, defers := w.heap.size } := ⟨_, rfl⟩
  obtain ⟨W1, hW1⟩ : ∃ W1, (w.alloc (.deferred (some []))).alloc (.loop (rec .ready none)) = W1 := ⟨_, rfl⟩
  have hsz : W1.heap.size = w.heap.size + 2 := by rw [← hW1]; simp
  have hL1 : W1.heap[w.heap.size + 1]? = some (.loop (rec .ready none)) := by rw [← hW1]; exact heap_alloc_at _ _ _ (by simp)
  have hK1 : W1.heap[w.heap.size]? = some (.deferred (some [])) := by rw [← hW1]; exact (hget_old _ _ _ (by simp)).trans (heap_alloc_at _ _ _ rfl)
  have hkw : ∀ M : Nat → Prop, Keeps M w W1 := fun M => by rw [← hW1]; exact (Keeps.alloc _ _ _).trans (Keeps.alloc _ _ _)
  have hb1 : Below w.heap.size w W1 := (hkw (fun _ => False)).below (Nat.le_refl _) (fun _ _ h => h)
  refine ⟨w.heap.size + 1, [{ target := .collected w.heap.size, args := #[] }], W1, { target := .fn (.func gf) lb, args := #[.func (.yield (w.heap.size + 1)) #[] #[]] }, W1, gf,
    #[.func (.yield (w.heap.size + 1)) #[] #[]] ++ lb, W1, ?_, ?_, fun _ _ => trivial, ?_, fun h => by simp [Fence.wide] at h, ?_⟩
  · rw [← hW1, hrec]; exact run_enterLoop_outer _ _ _ _ _
  · simp only [resolve, hg]
    simp [go_sem]
  · simp [invoke, go_sem, eg]
  refine callsIn_wide.2 ((hseq W1 hb1 (w.heap.size + 1) (fun k => Mut k ∨ k = w.heap.size + 1)
    (fun s G W => I s G W ∧ W.heap[w.heap.size + 1]? = some (.loop (rec .ready none)) ∧ W.heap[w.heap.size]? = some (.deferred (some [])) ∧ ∀ k, G k → w.heap.size + 2 ≤ k)
    (fun s G W => ∃ c, Ix c s G W ∧ W.heap[w.heap.size + 1]? = some (.loop (rec .done (some c))) ∧ W.heap[w.heap.size]? = some (.deferred (some [])) ∧ ∀ k, G k → w.heap.size + 2 ≤ k)
    ?_ ?_ ?_ ?_ ?_).mono ?_)
  · rintro k (hk | rfl)
    · exact ⟨by have := (hM k hk).1; omega, (hM k hk).2⟩
    · exact ⟨by omega, fun h => by have := hRd _ h; omega⟩
  · rintro s G A B ⟨hi, hl, hd, hG⟩ hk
    exact ⟨hI s G A B hi (hk.mono fun k _ h => ⟨by omega, h.2⟩), (hk.block _ (lt_of_block hl) (by omega)).trans hl, (hk.block _ (lt_of_block hd) (by omega)).trans hd, hG⟩
  · rintro s G A B ⟨c, hi, hl, hd, hG⟩ hk
    exact ⟨c, hIx c s G A B hi (hk.mono fun k _ h => ⟨by omega, h.2⟩), (hk.block _ (lt_of_block hl) (by omega)).trans hl, (hk.block _ (lt_of_block hd) (by omega)).trans hd, hG⟩
  · -- one round
    rintro pre x rest G W hxs ⟨hi, hl, hd, hG⟩ hWs
    have hlt : w.heap.size + 1 < W.heap.size := by omega
    have hy := run_yield (P := P) (args := encs x) hl (by rw [hrec]; exact hps x)
    rw [hrec] at hy
    refine ⟨fn, _, assign, body, hy, roundIn_of_wpIn hfn (wpIn_mono (hround (w.heap.size + 1) pre x rest G W hxs hi (by omega) hlt (fun k h => by have := hG k h; omega)) ?_)⟩
    intro e a1 Wa hp
    cases e with
    | normal =>
      obtain ⟨hkm, hbody⟩ := hp
      have hla : Wa.heap[w.heap.size + 1]? = some (.loop (rec .ready none)) := (hkm.block _ hlt (fun h => by have := (hM _ h).1; omega)).trans hl
      have hda : Wa.heap[w.heap.size]? = some (.deferred (some [])) := (hkm.block _ (by omega) (fun h => by have := (hM _ h).1; omega)).trans hd
      refine ⟨_, run_beginRound hla (by rw [hrec]), ?_⟩
      refine wpIn_mono (hbody _ (Keeps.putObj _ _ _ rfl) (by simp)) ?_
      intro e2 a2 W3 hp
      have hl2 : (Wa.putObj (w.heap.size + 1) (.loop { rec .ready none with state := .busy })).heap[w.heap.size + 1]? = some (.loop { rec .ready none with state := .busy }) := World.putObj_heap_same (lt_of_block hla)
      have hd2 : (Wa.putObj (w.heap.size + 1) (.loop { rec .ready none with state := .busy })).heap[w.heap.size]? = some (.deferred (some [])) := (World.putObj_heap_other (by omega)).trans hda
      have fin : ∀ (jump : Option Code), Keeps Mut (Wa.putObj (w.heap.size + 1) (.loop { rec .ready none with state := .busy })) W3 → ∃ W4,
          (Instr.endRound (w.heap.size + 1) jump).run P W3 = .ok (.bool jump.isNone) W4 ∧
          W4.heap[w.heap.size + 1]? = some (.loop (rec (if jump.isNone then .ready else .done) jump)) ∧ W4.heap[w.heap.size]? = some (.deferred (some [])) ∧
          Keeps (fun k => Mut k ∨ k = w.heap.size + 1) W W4 ∧ Keeps (fun k => k = w.heap.size + 1) W3 W4 ∧ W4.heap.size = W3.heap.size := fun jump hk3 => by
        have hs2 : (Wa.putObj (w.heap.size + 1) (.loop { rec .ready none with state := .busy })).heap.size = Wa.heap.size := by simp
        have hl3 := (hk3.block _ (by have := lt_of_block hl2; exact this) (fun h => by have := (hM _ h).1; omega)).trans hl2
        have hd3 := (hk3.block _ (by have := lt_of_block hd2; exact this) (fun h => by have := (hM _ h).1; omega)).trans hd2
        have hr := run_endRound (P := P) jump hl3
        refine ⟨_, hr, ?_, (World.putObj_heap_other (by omega)).trans hd3, ?_, Keeps.putObj _ _ _ rfl, by simp⟩
        · rw [World.putObj_heap_same (lt_of_block hl3), hrec]
        · exact (hkm.mono fun k _ h => .inl h).trans ((Keeps.putObj _ _ _ (.inr rfl)).trans ((hk3.mono fun k _ h => .inl h).trans (Keeps.putObj _ _ _ (.inr rfl))))
      have hstep : ∀ (J : List α → (Nat → Prop) → World → Prop) (W4 : World), Stable w.heap.size J → J (pre ++ [x]) (Grow G W W3) W3 → Keeps (fun k => k = w.heap.size + 1) W3 W4 → W4.heap.size = W3.heap.size → J (pre ++ [x]) (Grow G W W4) W4 := fun J W4 hJ hj hk hs => by
        have : Grow G W W4 = Grow G W W3 := by unfold Grow; rw [hs]
        rw [this]
        refine hJ _ _ _ _ hj (hk.mono fun k _ h => ?_)
        subst h
        refine ⟨by omega, ?_⟩
        rintro (h | h)
        · have := hG _ h; omega
        · omega
      have hGG : ∀ W4 : World, ∀ k, Grow G W W4 k → w.heap.size + 2 ≤ k := by
        rintro W4 k (h | h)
        · exact hG k h
        · omega
      cases e2 with
      | normal =>
        obtain ⟨hk3, hi3⟩ := hp
        obtain ⟨W4, hr, hl4, hd4, hkk, hk4, hs4⟩ := fin none hk3
        exact ⟨_, _, hr, hkk, .inl ⟨rfl, hstep _ _ hI hi3 hk4 hs4, hl4, hd4, hGG _⟩⟩
      | ret =>
        obtain ⟨hk3, hi3⟩ := hp
        obtain ⟨W4, hr, hl4, hd4, hkk, hk4, hs4⟩ := fin (some .ret) hk3
        exact ⟨_, _, hr, hkk, .inr ⟨rfl, _, hstep _ _ (hIx _) hi3 hk4 hs4, hl4, hd4, hGG _⟩⟩
      | exit id =>
        obtain ⟨hk3, hi3⟩ := hp
        obtain ⟨W4, hr, hl4, hd4, hkk, hk4, hs4⟩ := fin (some (.exit id)) hk3
        exact ⟨_, _, hr, hkk, .inr ⟨rfl, _, hstep _ _ (hIx _) hi3 hk4 hs4, hl4, hd4, hGG _⟩⟩
      | goto t =>
        obtain ⟨hk3, hi3⟩ := hp
        obtain ⟨W4, hr, hl4, hd4, hkk, hk4, hs4⟩ := fin (some (.goto t)) hk3
        exact ⟨_, _, hr, hkk, .inr ⟨rfl, _, hstep _ _ (hIx _) hi3 hk4 hs4, hl4, hd4, hGG _⟩⟩
      | panic ch => exact hp.elim
      | outgrown => exact hp.elim
    | ret => exact hp.elim
    | exit id => exact hp.elim
    | goto t => exact hp.elim
    | panic ch => exact hp.elim
    | outgrown => exact hp.elim
  · exact ⟨hI _ _ _ _ h0 (hkw _), hL1, hK1, fun _ h => h.elim⟩
  · -- behind the iterator
    rintro e W2 ⟨⟨v, rfl⟩, hk, G, h⟩
    have hkk : ∀ o, Keeps (fun k => Mut k ∨ w.heap.size ≤ k) w (W2.putObj (w.heap.size + 1) o) := fun o =>
      ((hkw _).trans (hk.mono fun k _ h => h.elim .inl fun e => .inr (by omega))).trans (Keeps.putObj _ _ _ (.inr (by omega)))
    have hst : ∀ (J : List α → (Nat → Prop) → World → Prop) (s : List α) (o : Obj), Stable w.heap.size J → J s G W2 → (∀ k, G k → w.heap.size + 2 ≤ k) → J s G (W2.putObj (w.heap.size + 1) o) := fun J s o hJ hj hG =>
      hJ _ _ _ _ hj (Keeps.putObj _ _ _ ⟨by omega, fun h => by have := hG _ h; omega⟩)
    rcases h with ⟨hi, hl, hd, hG⟩ | ⟨pre, x, rest, hxs, c, hi, hl, hd, hG⟩
    · exact ⟨none, _, by have := run_endLoop (P := P) hl (by rw [hrec]; simp); rw [hrec] at this; exact this,
        hdone _ G _ (hst _ _ _ hI hi hG) (fun k h => by have := hG k h; omega) (hkk _) ((World.putObj_heap_other (by omega)).trans hd) (Nat.le_refl _)⟩
    · exact ⟨some c, _, by have := run_endLoop (P := P) hl (by rw [hrec]; simp); rw [hrec] at this; exact this,
        wpIn_wide.2 (hstop _ c pre x rest G _ hxs (hst _ _ _ (hIx c) hi hG) (fun k h => by have := hG k h; omega) (hkk _) ((World.putObj_heap_other (by omega)).trans hd) (Nat.le_refl _))⟩

theorem run_load_row {P : Program} {o : Oper} {ρ : Operand → Value} {w : World} (ty : TypeId) (x : Operand) (ho : o.op = .load ty x)
    (g : Nat) (hx : ρ x = .pointer (some ⟨g, 0, none⟩)) (t : TypeId) (cs : Array Value) (fr : Nat × Nat) (d : TypeDesc) (hg : w.heap[g]? = some (.cells cs t fr))
    (hu : P.underlying ty = some d) (hd : (match d with | .struct _ | .array _ _ => true | _ => false) = true) (hi : (P.info? ty).map (·.size) = some cs.size) :
    (execOp ρ o).run P w = .ok (.value (.agg cs)) w := by
  unfold execOp
  simp only [ho, hx, Instr.loadAt, Instr.sureAddr, Sem.run_bind, Sem.run_pure, Result.andThen_ok, run_loadVar_row w g t ty cs fr d hg hu hd hi]
theorem run_store_row {P : Program} {o : Oper} {ρ : Operand → Value} {w : World} (ty : TypeId) (x y : Operand) (ho : o.op = .store ty x y)
    (g : Nat) (cells : Array Value) (hx : ρ x = .pointer (some ⟨g, 0, none⟩)) (hy : ρ y = .agg cells)
    (t : TypeId) (old : Array Value) (hg : w.heap[g]? = some (.cells old t (0, 0))) (hi : (P.info? ty).map (·.size) = some cells.size)
    (hold : old.size = cells.size) (h1 : cells.all (·.oneCell') = true) :
    (execOp ρ o).run P w = .ok .skip (w.setRow g cells) := by
  unfold execOp
  simp only [ho, hx, hy, Instr.storeAt, Instr.sureAddr, Sem.run_bind, Sem.run_pure, Result.andThen_ok, run_storeVar_row w g t ty old cells hg hi hold h1]
theorem wpListIn_value {l n : Nat} {P : Program} {ops : Array Oper} {Q : Exit → Act → World → Prop} {a : Act} {w w' : World} {rest : List Oper} {o : Oper} {v : Value}
    (hg : o.guard = none) (hd : ∀ c, o.op ≠ .defer c) (hrun : (execOp a.eval o).run P w = .ok (.value v) w') (h : wpListIn (Fence.wide.inRound l) n P ops Q rest (a.put o.dst v) w') :
    wpListIn (Fence.wide.inRound l) n P ops Q (o :: rest) a w := by
  refine wpListIn_plain hg fun K hK => ⟨fun _ _ => trivial, ?_⟩
  rw [show (Fence.wide.inRound l).round = some l from rfl, Oper.semAt_some l a.eval o hd, hrun]
  exact hK _ _ h
theorem wpListIn_valueG {l n : Nat} {P : Program} {ops : Array Oper} {Q : Exit → Act → World → Prop} {a : Act} {w w' : World} {rest : List Oper} {o : Oper} {v : Value}
    (hg : Region.wanted o (yielded ops a.tmps) = true) (hd : ∀ c, o.op ≠ .defer c) (hrun : (execOp a.eval o).run P w = .ok (.value v) w') (h : wpListIn (Fence.wide.inRound l) n P ops Q rest (a.put o.dst v) w') :
    wpListIn (Fence.wide.inRound l) n P ops Q (o :: rest) a w := by
  refine wpListIn_step fun K hK => ?_
  rw [if_pos hg]
  refine ⟨fun _ _ => trivial, ?_⟩
  rw [show (Fence.wide.inRound l).round = some l from rfl, Oper.semAt_some l a.eval o hd, hrun]
  exact hK _ _ h
theorem wpListIn_done {l n : Nat} {P : Program} {ops : Array Oper} {Q : Exit → Act → World → Prop} {a : Act} {w w' : World} {rest : List Oper} {o : Oper}
    (hg : o.guard = none) (hd : ∀ c, o.op ≠ .defer c) (hrun : (execOp a.eval o).run P w = .ok .skip w') (h : wpListIn (Fence.wide.inRound l) n P ops Q rest (a.put o.dst undef) w') :
    wpListIn (Fence.wide.inRound l) n P ops Q (o :: rest) a w := by
  refine wpListIn_plain hg fun K hK => ⟨fun _ _ => trivial, ?_⟩
  rw [show (Fence.wide.inRound l).round = some l from rfl, Oper.semAt_some l a.eval o hd, hrun]
  exact hK _ _ h

theorem keeps_setRow (w : World) (g : Nat) (cs : Array Value) : Keeps (fun k => k = g) w (w.setRow g cs) := Keeps.setRow w g cs rfl
theorem wpListIn_storeA {l n : Nat} {P : Program} {ops : Array Oper} {Q : Exit → Act → World → Prop} {a : Act} {w : World} {rest : List Oper} {o : Oper}
    (hg : o.guard = none) (ty : TypeId) (x y : Operand) (ho : o.op = .store ty x y)
    (g : Nat) (cells : Array Value) (hx : a.eval x = .pointer (some ⟨g, 0, none⟩)) (hy : a.eval y = .agg cells)
    (t : TypeId) (old : Array Value) (hgw : w.heap[g]? = some (.cells old t (0, 0))) (hi : (P.info? ty).map (·.size) = some cells.size)
    (hold : old.size = cells.size) (h1 : cells.all (·.oneCell') = true)
    (h : ∀ w', w'.heap[g]? = some (.cells cells t (0, 0)) → Keeps (fun k => k = g) w w' → w'.heap.size = w.heap.size → wpListIn (Fence.wide.inRound l) n P ops Q rest (a.put o.dst undef) w') :
    wpListIn (Fence.wide.inRound l) n P ops Q (o :: rest) a w :=
  wpListIn_done hg (by rw [ho]; intro c hc; cases hc) (run_store_row ty x y ho g cells hx hy t old hgw hi hold h1) (h _ (setRow_heap _ _ _ _ _ _ hgw) (keeps_setRow _ _ _) (by simp))

theorem own_base {w : World} {base : Nat} {e : TypeId} {size : Nat} {v : Value} {n : Nat} {xs : List Value} (h : w.ownsRow base e size v n xs) : ∀ k, v.ownBlock = some k → base ≤ k := by
  intro k hk
  rcases h.2 with ⟨h2, _⟩ | ⟨g, cap, cur, h2, hg, _⟩
  · subst h2; simp [Value.ownBlock] at hk
  · subst h2; simp [Value.ownBlock] at hk; omega
theorem news_block {w : World} {g : Nat} {cs : Array Value} {t : TypeId} {fr : Nat × Nat} (h : w.heap[g]? = some (.cells cs t fr)) : ∀ (j : Nat) u, cs.toList[j]? = some u → w.cell? ((⟨g, 0, none⟩ : Addr).add j) = some u := by
  intro j u hu
  rw [Addr.add_mid, Nat.zero_add, cell_of_row w g j cs t fr h]
  simpa using hu
/-- An append of one element, which lies in a block of its own, to a row that the call owns. -/
theorem wpList_append1 {P : Program} {ops : Array Oper} {rest : List Oper} {o : Oper} {a : Act} {w : World} {Q : Exit → Act → World → Prop} (hgd : o.guard = none) (s x : Operand) (t : TypeId)
    (ho : o.op = .call { callee := .builtin .append, args := #[s, x], argTypes := #[t, t] })
    (base : Nat) (e : TypeId) (size bytes : Nat) (z : Value) (ht : P.underlying t = some (.slice e)) (hinfo : (P.info? e).map (fun i => (i.zero, i.size, i.bytes)) = some (some z, size, bytes)) (hzs : z.cells.size = size) (hsz : 0 < size)
    (v : Value) (n : Nat) (xs : List Value) (hs : a.eval s = v) (hown : w.ownsRow base e size v n xs)
    (g c : Nat) (cs : Array Value) (t2 : TypeId) (fr : Nat × Nat) (hx : a.eval x = .slice (some ⟨g, 0, none⟩) 1 c) (hgc : w.heap[g]? = some (.cells cs t2 fr)) (hcs : cs.size = size) (h1 : cs.all (·.oneCell') = true)
    (h63 : n ≤ 1000000) (hbytes : bytes ≤ 1000) (hbase : base ≤ w.heap.size)
    (h : ∀ v' w', w'.ownsRow base e size v' (n + 1) (xs ++ cs.toList) → w.grownBy w' v.ownBlock → Below base w w' → wpList P ops Q rest (a.put o.dst v') w') : wpList P ops Q (o :: rest) a w := by
  obtain ⟨i, hi, hz, hsize, hby⟩ := info_parts hinfo
  refine wpList_append_own w hgd s x t ho base e i z size bytes ht hi hz hsize hby hzs hsz v n xs hs hown ⟨g, 0, none⟩ 1 c cs.toList hx (by simp [hcs]) (news_block hgc) (fun u hu => (Array.all_eq_true_iff_forall_mem.1 h1) u (by simpa using hu)) (by unfold maxLen; omega) ?_ hbase ?_
  · have h2 : (n + 1) * bytes ≤ 1000001 * 1000 := Nat.mul_le_mul (by omega) hbytes
    omega
  · intro v' w' hown' hgrow _
    exact h v' w' hown' hgrow ((Below.refl _ _).grown hgrow hbase (own_base hown))

/-- A function whose body ranges over a function. -/
theorem calls_of_wp_marks {P : Program} {f : FuncId} {fn : Func} {c : Code} {args : Array Value} {w : World} {R : Ending → World → Prop}
    (hf : P.funcs[f]? = some fn) (hb : fn.body = some c)
    (h : c.wp P (bodyPostM Fence.wide 0 P fn R) { tmps := args ++ Array.replicate (fn.ntmps - args.size) undef, defers := [] } w) : Calls P f args w R :=
  callsIn_wide.1 (callsIn_of_wp_marks (F := Fence.wide) (n := 0) hf hb trivial (wpIn_wide.2 h) rfl)

end Go.Proofs.Ytabbmihakoeegaa

/- More general lemmas: a region that draws its order inside a round; labels inside a round; worlds. -/
namespace Go.Proofs.Ytabbmihakoeegaa
set_option linter.unusedVariables false
set_option linter.unusedSimpArgs false
open Go.RowKit

section
variable {P : Program} {ops : Array Oper} {md : Region.Mode} {C : World → Prop} {l : Nat}
def noDefer (ops : Array Oper) : Bool := ops.all fun o => match o.op with | .defer _ => false | _ => true
theorem noDefer_spec (h : noDefer ops = true) (j : Nat) (o : Oper) (ho : ops[j]? = some o) (c : Call) : o.op ≠ .defer c := by
  intro hc
  have h1 := (Array.all_eq_true_iff_forall_mem.1 h) o (Array.mem_of_getElem? ho)
  simp [hc] at h1
theorem Fix.wpOpIn {i : Nat} {o : Oper} {v : Value} {a : Act} (hi : ops[i]? = some o) (hd : ∀ c, o.op ≠ .defer c) (h : Fix P ops C o v a) {K : Act → World → Prop} {Q : Exit → Act → World → Prop} {w : World} (hC : C w)
    (hK : ∀ w', C w' → K (a.put o.dst v) w') : Go.wpOpIn (Fence.wide.inRound l) 0 P ops Q i K a w := by
  unfold Go.wpOpIn
  simp only [hi]
  rcases h with ⟨hw, hv⟩ | ⟨hw, rfl⟩
  · rw [if_pos hw]
    refine ⟨fun _ _ => trivial, ?_⟩
    have h3 := hv w hC
    rw [show (Fence.wide.inRound l).round = some l from rfl, Oper.semAt_some l a.eval o hd]
    generalize (execOp a.eval o).run P w = r at *
    cases r with
    | ok n w' =>
      cases n <;> simp only [fixUpon] at h3 <;> simp only [Oper.uponIn]
      case value u => obtain ⟨e1, e2⟩ := h3; rw [e2]; exact hK _ e1
      case skip => obtain ⟨e1, e2⟩ := h3; rw [← e2]; exact hK _ e1
      case enter f args => exact ⟨(fun h => by cases h), CallsIn.inRound l (callsIn_wide.2 (h3.mono (fun e w'' ⟨he, hw''⟩ => by subst he; exact hK _ hw'')))⟩
    | halt x w' => simp only [fixUpon] at h3
  · rw [if_neg (by rw [hw]; decide)]
    exact ⟨fun _ _ => trivial, hK _ hC⟩
theorem wpAnyIn_of_AnyF {n g : Nat} {L : Array Bool → Act → Prop} {Q : Exit → Act → World → Prop} (hnd : noDefer ops = true) (hL : ∀ listed a, L listed a → ∀ w, C w → wpAnyIn (Fence.wide.inRound l) 0 P md ops Q g listed a w) :
    ∀ (f : Nat) (listed : Array Bool) (a : Act), AnyF P md ops C n L f listed a → ∀ w, C w → wpAnyIn (Fence.wide.inRound l) 0 P md ops Q (f + g) listed a w
  | 0, listed, a, h, w, hw => by rw [Nat.zero_add]; exact hL _ _ h w hw
  | f + 1, listed, a, h, w, hw => by
    rw [show f + 1 + g = (f + g) + 1 by omega]
    refine ⟨fun h0 => absurd h0 h.1, fun i hi => ?_⟩
    obtain ⟨_, o, v, ho, hy, hr⟩ := h.2 i hi
    exact hy.wpOpIn ho (noDefer_spec hnd i o ho) hw fun w' hw' => wpAnyIn_of_AnyF hnd hL f _ _ hr w' hw'
theorem wpAnyIn_of_seq {Q' : Exit → Act → World → Prop} {F : Fence} {m : Nat} : ∀ (l : List Oper) (k : Nat) (listed : Array Bool) (a : Act) (w : World), (∀ j, l[j]? = ops[k + j]?) →
    Region.seqB md ops l.length k listed = true → wpListIn F m P ops Q' l a w → wpAnyIn F m P md ops Q' l.length listed a w
  | [], _, _, _, _, _, hB, h => ⟨by simpa [Region.seqB] using hB, h⟩
  | o :: l, k, listed, a, w, hl, hB, h => by
    have h0 : ops[k]? = some o := by simpa using (hl 0).symm
    simp only [List.length_cons, Region.seqB, Bool.and_eq_true, decide_eq_true_eq] at hB
    refine ⟨fun h1 => (by rw [hB.1] at h1; cases h1), fun i hi => ?_⟩
    rw [hB.1] at hi
    obtain rfl : i = k := by simpa using hi
    have hw : wpOpIn F m P ops Q' i (wpListIn F m P ops Q' l) a w := by unfold wpOpIn; simp only [h0]; exact h
    exact wpOpIn_mono (fun a' w' h' => wpAnyIn_of_seq l (i + 1) _ a' w' (fun j => by have := hl (j + 1); simpa [Nat.add_assoc, Nat.add_comm 1 j] using this) hB.2 h') hw
/-- 'region_fix' inside a round. -/
theorem region_fixIn {id : Nat} {Q : Exit → Act → World → Prop} {a : Act} {w : World} {ls : List Oper} (n : Nat) (C : World → Prop) (hm : P.follows .mixedOrders = true) (hB : Region.lexTailB .any ls.toArray n = true) (hnd : noDefer ls.toArray = true) (hC : C w.drew)
    (h : WF P ls.toArray C (fun a' => ∀ w', C w' → wpListIn (Fence.wide.inRound l) 0 P ls.toArray Q (ls.drop n) a' w') (ls.take n) a) : (Code.region id ls.toArray true).wpIn (Fence.wide.inRound l) 0 P Q a w := by
  simp only [Region.lexTailB, Bool.and_eq_true, decide_eq_true_eq] at hB
  obtain ⟨⟨⟨⟨hsel, hn⟩, hs⟩, hc⟩, hlex⟩ := hB
  have hn' : n < ls.length := by simpa using hn
  have htl : (ls.take n).length = n := by simp; omega
  have hdl : (ls.drop n).length = ls.toArray.size - n := by simp
  have inv0 : HeadInv .any ls.toArray n (Array.replicate ls.toArray.size false) :=
    ⟨by simp, fun j oj _ hl => (by rw [getD_replicate_false] at hl; cases hl), fun t _ ht => getD_in (by simpa using ht) (getD_replicate_false _ _)⟩
  have H := AnyF_lex (md := .any) (g := ls.toArray.size - n) hsel hs hc hn (ls.take n) 0 _ a (fun j hj => by
    have hj' : j < n := by rw [htl] at hj; exact hj
    simp [hj']) (by simpa using htl) inv0 (by rw [htl]; exact hlex) h
  refine wpIn_region_any hm ?_
  have := wpAnyIn_of_AnyF (Q := Q) (g := ls.toArray.size - n) hnd (fun listed a' hL w' hw' => by
    have := wpAnyIn_of_seq (md := .any) (Q' := Q) (ls.drop n) n listed a' w' (fun j => by simp [List.getElem?_drop]) (by rw [hdl]; exact hL.1) (hL.2 w' hw')
    rwa [hdl] at this) _ _ _ H w.drew hC
  rw [htl, show n + (ls.toArray.size - n) = ls.toArray.size by omega] at this
  exact this
end

end Go.Proofs.Ytabbmihakoeegaa

/- General lemmas, and the small functions and tables of package pair. -/
namespace Go.Proofs.Ytabbmihakoeegaa
set_option linter.unusedVariables false
set_option linter.unusedSimpArgs false
open Go.RowKit

theorem region_tail {P : Program} {id : Nat} {Q : Exit → Act → World → Prop} {a : Act} {w : World} {l : List Oper} (n : Nat) (hm : P.follows .mixedOrders = true) (hB : Region.lexTailB .any l.toArray n = true)
    (h : wpStill P l.toArray w.drew (fun a' => wpList P l.toArray Q (l.drop n) a' w.drew) (l.take n) a) : (Code.region id l.toArray true).wp P Q a w :=
  wp_region_still_tail n hm hB h

theorem results_row_tmp {P : Program} {fn : Func} {p u : Tmp} {ty : TypeId} (h : fn.results = #[.cell p ty, .tmp u]) (tmps : Array Value) (w : World) (g : Nat) (t : TypeId) (cs : Array Value) (fr : Nat × Nat) (d : TypeDesc)
    (hp : tmps.getD p undef = .pointer (some ⟨g, 0, none⟩)) (hg : w.heap[g]? = some (.cells cs t fr))
    (hu : P.underlying ty = some d) (hd : (match d with | .struct _ | .array _ _ => true | _ => false) = true) (hi : (P.info? ty).map (·.size) = some cs.size) :
    (results fn tmps).run P w = .ok (.tuple #[.agg cs, tmps.getD u undef]) w := by
  rw [results_cell_tmp h]
  simp only [hp, asAddr, Sem.run_pure, Result.andThen_ok, run_loadVar_row w g t ty cs fr d hg hu hd hi]

theorem ret_int {k : IntKind} {a b : Int} (h : a = b) : Ending.returned (.int k a) = .returned (.int k b) := by rw [h]

/-! ### tables -/
abbrev Tab := Nat → Nat → Int
def tcells (t : Tab) : Array Value := ((List.range 36).map fun k => Value.int .i64 (t (k / 6) (k % 6))).toArray
theorem tcells_size (t : Tab) : (tcells t).size = 36 := by simp [tcells]
theorem tcells_one (t : Tab) : (tcells t).all (·.oneCell') = true := by simp [tcells, Value.oneCell']
theorem tcells_at (t : Tab) (i j : Nat) (_hi : i < 6) (hj : j < 6) : (tcells t)[i * 6 + j]? = some (.int .i64 (t i j)) := by
  have h : i * 6 + j < 36 := by omega
  have h1 : (i * 6 + j) / 6 = i := by omega
  have h2 : (i * 6 + j) % 6 = j := by omega
  simp [tcells, h, h1, h2]
def upd (t : Tab) (i j : Nat) (v : Int) : Tab := fun a b => if a = i ∧ b = j then v else t a b
theorem tcells_set (t : Tab) (i j : Nat) (hi : i < 6) (hj : j < 6) (v : Int) : (tcells t).setIfInBounds (i * 6 + j) (.int .i64 v) = tcells (upd t i j v) := by
  apply Array.ext_getElem?
  intro k
  by_cases hk : k < 36
  · by_cases e : k = i * 6 + j
    · subst e
      have h1 : (i * 6 + j) / 6 = i := by omega
      have h2 : (i * 6 + j) % 6 = j := by omega
      simp [tcells, hk, upd, h1, h2]
    · have h3 : ¬ (k / 6 = i ∧ k % 6 = j) := by omega
      have e' : ¬ i * 6 + j = k := fun h => e h.symm
      simp [tcells, hk, upd, h3, e']
  · simp [tcells, hk]
def stepN (k : Nat) (c : Tab) : Tab := upd c (k / 6 % 6) (k % 6) (min (c (k / 6 % 6) (k % 6)) (c (k / 6 % 6) (k / 36) + c (k / 36) (k % 6)))
def fwN (t : Tab) : Nat → Tab
  | 0 => t
  | k + 1 => stepN k (fwN t k)
def diagOk (c : Tab) : Bool := (List.range 6).all fun i => decide (0 ≤ c i i)
theorem diagOk_iff (c : Tab) : diagOk c = true ↔ ∀ i, i < 6 → 0 ≤ c i i := by simp [diagOk]
def leastT (t : Tab) (i j : Nat) (m : Int) : Tab := upd t i j (min (t i j) m)
def putT (t : Tab) (i j : Nat) (lo hi : Int) : Tab := leastT (leastT t i j hi) j i (-lo)
theorem cell_tab {w : World} {B : Nat} {t : Tab} {T : TypeId} (h : w.heap[B]? = some (.cells (tcells t) T (0, 0))) (i j : Nat) (hi : i < 6) (hj : j < 6) :
   w.cell? ⟨B, i * 6 + j, none⟩ = some (.int .i64 (t i j)) := by
  rw [cell_of_row w B _ _ T _ h, tcells_at t i j hi hj]
theorem heap_setCell_tab {w : World} {B : Nat} {T : TypeId} {c : Tab} (h : w.heap[B]? = some (.cells (tcells c) T (0, 0))) (i j : Nat) (hi : i < 6) (hj : j < 6) (v : Int) :
    (w.setCell ⟨B, i * 6 + j, none⟩ (.int .i64 v)).heap[B]? = some (.cells (tcells (upd c i j v)) T (0, 0)) := by
  rw [← tcells_set c i j hi hj v]
  simp [World.setCell, Array.getElem?_modify, h]
def CW (w : World) (B : Nat) (T : TypeId) (c : Tab) (wr : World) : Prop :=
  wr.heap[B]? = some (.cells (tcells c) T (0, 0)) ∧ (∃ z : Array Value, z.size = 36 ∧ wr.heap[B + 1]? = some (.cells z T (0, 0))) ∧ Below B w wr
theorem CW.drew {w : World} {B : Nat} {T : TypeId} {c : Tab} {wr : World} (h : CW w B T c wr) : CW w B T c wr.drew := ⟨h.1, h.2.1, h.2.2.drew⟩
theorem CW.set {w : World} {B : Nat} {T : TypeId} {c : Tab} {wr : World} (h : CW w B T c wr) (i j : Nat) (hi : i < 6) (hj : j < 6) (v : Int) : CW w B T (upd c i j v) (wr.setCell ⟨B, i * 6 + j, none⟩ (.int .i64 v)) := by
  obtain ⟨h1, ⟨z, hz, h2⟩, h3⟩ := h
  exact ⟨heap_setCell_tab h1 i j hi hj v, ⟨z, hz, (Below.heap_setCell _ _ _ _ (by simp)).trans h2⟩, h3.setCell (by simp) _⟩
theorem CW_start (w : World) (t : Tab) (T : TypeId) (z : Array Value) (hz : z.size = 36) : CW w w.heap.size T t ((w.alloc (.cells (tcells t) T)).alloc (.cells z T)) :=
  ⟨heap_alloc2_old _ _ _, ⟨z, hz, heap_alloc2_new _ _ _⟩, ((Below.refl _ _).alloc (Nat.le_refl _) _).alloc (by simp) _⟩
theorem sizeTab (c : Tab) : (Try.prog.info? 138).map (·.size) = some (tcells c).size := by rw [tcells_size]; kernel_rfl
theorem underTab : Try.prog.underlying 138 = some (.array 6 136) := by kernel_rfl

/-! ### small functions -/
def inB (n a b : Int) : Bool := decide (a ≤ n ∧ n ≤ b)
theorem within_any (n a b : Int) (w : World) :
    Calls Try.prog 80 #[.int .i64 n, .int .i64 a, .int .i64 b] w fun e w' => e = .returned (.bool (inB n a b)) ∧ w = w' := by
  have H : Hid (inB n a b = (decide (a ≤ n) && decide (n ≤ b))) := by show _ = _; simp [inB]
  go_enter Try.func80, Try.ntmps80
  go_wp2
  all_goals go_ret
  all_goals exact ⟨by rw [H.out]; simp [*]; try omega, rfl⟩
def okSpan (lo hi m : Int) : Bool := decide (-m ≤ lo ∧ lo ≤ hi ∧ hi ≤ m)
theorem isSpan_any (lo hi m : Int) (hm : -1000000 ≤ m ∧ m ≤ 1000000) (w : World) :
    Calls Try.prog 81 #[.agg #[.int .i64 lo, .int .i64 hi], .int .i64 m] w fun e w' => e = .returned (.bool (okSpan lo hi m)) ∧ Below w.heap.size w w' := by
  have H : Hid (okSpan lo hi m = (decide (-m ≤ lo) && decide (lo ≤ hi) && decide (hi ≤ m))) := by show _ = _; simp [okSpan, Bool.and_assoc]
  obtain ⟨hm1, hm2⟩ := hm
  go_enter Try.func81, Try.ntmps81
  go_wp2
  all_goals go_ret
  all_goals exact ⟨by rw [H.out]; simp [*]; try omega, (Below.refl _ _).alloc (Nat.le_refl _) _⟩
theorem isMinute_any (n : Int) (w : World) :
    Calls Try.prog 82 #[.int .i64 n] w fun e w' => e = .returned (.bool (inB n 0 60)) ∧ w = w' := by
  go_enter Try.func82, Try.ntmps82
  go_wp2_with (go_at_call 80; refine (within_any _ _ _ _).mono ?_; rintro e w' ⟨rfl, rfl⟩)
  go_ret
  exact ⟨rfl, rfl⟩
theorem must_ok (n : Int) (w : World) :
    Calls Try.prog 79 #[.bool true, .int .i64 n] w fun e w' => e = .returned (.tuple #[]) ∧ w = w' := by
  go_enter Try.func79, Try.ntmps79
  go_wp2
  go_end0
  exact ⟨rfl, rfl⟩
def stopV (n : Int) : Value := .iface 126 (.agg #[.int .i64 n])
theorem must_no (n : Int) (w : World) :
    Calls Try.prog 79 #[.bool false, .int .i64 n] w fun e w' => e = .panicked [{ v := stopV n, recovered := false }] ∧ w = w' := by
  go_enter Try.func79, Try.ntmps79
  go_wp2
  exact ⟨rfl, rfl, rfl⟩
theorem always_any (v : Value) (w : World) :
    Calls Try.prog 61 #[v] w fun e w' => e = .returned (.bool true) ∧ w = w' := by
  go_enter Try.func61, Try.ntmps61
  go_wp2
  go_ret
  exact ⟨rfl, rfl⟩
def showsC (z r m : Int) : Int := z + r * m / 10
theorem tdiv_facts (n : Int) : 10 * n.tdiv 10 + n.tmod 10 = n ∧ -10 < n.tmod 10 ∧ n.tmod 10 < 10 ∧ (0 ≤ n → 0 ≤ n.tmod 10) ∧ (n ≤ 0 → n.tmod 10 ≤ 0) := by
  refine ⟨Int.mul_tdiv_add_tmod n 10, ?_, Int.tmod_lt_of_pos n (by decide), fun h => Int.tmod_nonneg 10 h, fun h => ?_⟩
  · have := Int.tmod_lt_of_pos (-n) (b := 10) (by decide)
    rw [Int.neg_tmod] at this
    omega
  · have := Int.tmod_nonneg (a := -n) 10 (by omega)
    rw [Int.neg_tmod] at this
    omega
theorem cshows_any (z r m : Int) (hz : -1000000 ≤ z ∧ z ≤ 1000000) (hr : -1000000 ≤ r * m ∧ r * m ≤ 1000000) (w : World) :
    Calls Try.prog 121 #[.agg #[.int .i64 z, .int .i64 r], .int .i64 m] w fun e w' => e = .returned (.int .i64 (showsC z r m)) ∧ Below w.heap.size w w' := by
  obtain ⟨hr1, hr2⟩ := hr
  obtain ⟨hz1, hz2⟩ := hz
  have HX : Hid (showsC z r m = z + r * m / 10) := rfl
  have HT := Lib.hid (tdiv_facts (r * m))
  have d1 : -1000000 ≤ (r * m).tdiv 10 := by have := HT.out; omega
  have d2 : (r * m).tdiv 10 ≤ 1000000 := by have := HT.out; omega
  go_enter Try.func121, Try.ntmps121
  go_wp2
  all_goals go_ret
  all_goals exact ⟨ret_int (by have := HT.out; rw [HX.out]; omega), (Below.refl _ _).alloc (Nat.le_refl _) _⟩

/-! ### tables -/
attribute [local irreducible] tcells
set_option maxHeartbeats 400000 in
set_option maxRecDepth 4000 in
theorem tspan_any (t : Tab) (a b : Nat) (ha : a < 6) (hb : b < 6) (hr : -1000000000000 ≤ t b a ∧ t b a ≤ 1000000000000) (w : World) :
    Calls Try.prog 88 #[.agg (tcells t), .int .i64 a, .int .i64 b] w fun e w' => e = .returned (.agg #[.int .i64 (- t b a), .int .i64 (t a b)]) ∧ Below w.heap.size w w' := by
  have ha' : (a : Int) < 6 := by omega
  have hb' : (b : Int) < 6 := by omega
  have c1 := tcells_at t b a hb ha
  have c2 := tcells_at t a b ha hb
  obtain ⟨hr1, hr2⟩ := hr
  go_enter Try.func88, Try.ntmps88
  go_wp2
  refine region_tail 12 (by kernel_rfl) (by kernel_rfl) ?_
  simp only [List.take_succ_cons, List.take_zero, List.drop_succ_cons, List.drop_zero]
  repeat still_step
  refine wpStill_nil ?_
  go_wp2
  refine bodyPost_ret (v := .agg #[.int .i64 (- t b a), .int .i64 (t a b)]) (by simp [results, Try.results88, go_sem]) rfl ⟨rfl, ?_⟩
  exact (((Below.refl _ _).alloc (Nat.le_refl _) _).alloc (by simp) _).drew

set_option maxHeartbeats 400000 in
set_option maxRecDepth 4000 in
theorem least_any (t : Tab) (a b : Nat) (m : Int) (ha : a < 6) (hb : b < 6) (w : World) :
    Calls Try.prog 123 #[.agg (tcells t), .int .i64 a, .int .i64 b, .int .i64 m] w fun e w' => e = .returned (.agg (tcells (leastT t a b m))) ∧ Below w.heap.size w w' := by
  have ha' : (a : Int) < 6 := by omega
  have hb' : (b : Int) < 6 := by omega
  have c1 := tcells_at t a b ha hb
  by_cases hm : m < t a b
  · have hs : (tcells t).setIfInBounds (a * 6 + b) (.int .i64 m) = tcells (leastT t a b m) := by rw [tcells_set t a b ha hb, leastT, show min (t a b) m = m by omega]
    go_enter Try.func123, Try.ntmps123
    go_wp2
    refine region_tail 11 (by kernel_rfl) (by kernel_rfl) ?_
    simp only [List.take_succ_cons, List.take_zero, List.drop_succ_cons, List.drop_zero]
    repeat still_step
    refine wpStill_nil ?_
    go_wp2_with (first | (refine wpList_load_row rfl 138 _ rfl w.heap.size rfl 138 (tcells (leastT t a b m)) (0, 0) _ (heap_alloc2_old _ _ _) underTab rfl (sizeTab _) ?_) | (refine wpList_store_row rfl 138 _ _ rfl (w.heap.size + 1) (tcells (leastT t a b m)) rfl rfl 138 _ (heap_alloc2_new _ _ _) (sizeTab _) (tcells_size _).symm (tcells_one _) ?_))
    refine bodyPost_ret (v := .agg (tcells (leastT t a b m))) (results_cell_row (fn := Try.f123) (p := 8) rfl _ _ (w.heap.size + 1) 138 (tcells (leastT t a b m)) (0, 0) _ rfl (setRow_heap _ _ _ _ _ _ (heap_alloc2_new _ _ _)) underTab rfl (sizeTab _)) rfl ⟨rfl, ?_⟩
    exact below_setRow ((((Below.refl _ _).alloc (Nat.le_refl _) _).alloc (by simp) _).drew) (by omega) _
  · have hs : (tcells t).setIfInBounds (a * 6 + b) (.int .i64 (t a b)) = tcells (leastT t a b m) := by rw [tcells_set t a b ha hb, leastT, show min (t a b) m = t a b by omega]
    go_enter Try.func123, Try.ntmps123
    go_wp2
    refine region_tail 11 (by kernel_rfl) (by kernel_rfl) ?_
    simp only [List.take_succ_cons, List.take_zero, List.drop_succ_cons, List.drop_zero]
    repeat still_step
    refine wpStill_nil ?_
    go_wp2_with (first | (refine wpList_load_row rfl 138 _ rfl w.heap.size rfl 138 (tcells (leastT t a b m)) (0, 0) _ (heap_alloc2_old _ _ _) underTab rfl (sizeTab _) ?_) | (refine wpList_store_row rfl 138 _ _ rfl (w.heap.size + 1) (tcells (leastT t a b m)) rfl rfl 138 _ (heap_alloc2_new _ _ _) (sizeTab _) (tcells_size _).symm (tcells_one _) ?_))
    refine bodyPost_ret (v := .agg (tcells (leastT t a b m))) (results_cell_row (fn := Try.f123) (p := 8) rfl _ _ (w.heap.size + 1) 138 (tcells (leastT t a b m)) (0, 0) _ rfl (setRow_heap _ _ _ _ _ _ (heap_alloc2_new _ _ _)) underTab rfl (sizeTab _)) rfl ⟨rfl, ?_⟩
    exact below_setRow ((((Below.refl _ _).alloc (Nat.le_refl _) _).alloc (by simp) _).drew) (by omega) _

set_option maxHeartbeats 800000 in
set_option maxRecDepth 4000 in
theorem kput_any (a b : Nat) (lo hi z r : Int) (t : Tab) (ha : a < 6) (hb : b < 6) (hlo : -1000000000 ≤ lo ∧ lo ≤ 1000000000) (w : World) :
    Calls Try.prog 122 #[.agg #[.int .i64 a, .int .i64 b, .int .i64 lo, .int .i64 hi], .agg (tcells t), .agg #[.int .i64 z, .int .i64 r]] w fun e w' => e = .returned (.agg (tcells (putT t a b lo hi))) ∧ Below w.heap.size w w' := by
  obtain ⟨hlo1, hlo2⟩ := hlo
  have HR : Hid (leastT (leastT t a b hi) b a (-lo) = putT t a b lo hi) := rfl
  have hi1 := sizeTab t
  rw [tcells_size] at hi1
  have hu := underTab
  go_enter Try.func122, Try.ntmps122
  go_wp2_with fail
  obtain ⟨W, hW⟩ : ∃ W, W = (((w.alloc (.cells #[.int .i64 a, .int .i64 b, .int .i64 lo, .int .i64 hi] 157)).alloc (.cells (tcells t) 138)).alloc (.cells #[.int .i64 z, .int .i64 r] 135)).alloc (.cells #[Value.int IntKind.i64 0, Value.int IntKind.i64 0, Value.int IntKind.i64 0, Value.int IntKind.i64 0, Value.int IntKind.i64 0, Value.int IntKind.i64 0, Value.int IntKind.i64 0, Value.int IntKind.i64 0, Value.int IntKind.i64 0, Value.int IntKind.i64 0, Value.int IntKind.i64 0, Value.int IntKind.i64 0, Value.int IntKind.i64 0, Value.int IntKind.i64 0, Value.int IntKind.i64 0, Value.int IntKind.i64 0, Value.int IntKind.i64 0, Value.int IntKind.i64 0, Value.int IntKind.i64 0, Value.int IntKind.i64 0, Value.int IntKind.i64 0, Value.int IntKind.i64 0, Value.int IntKind.i64 0, Value.int IntKind.i64 0, Value.int IntKind.i64 0, Value.int IntKind.i64 0, Value.int IntKind.i64 0, Value.int IntKind.i64 0, Value.int IntKind.i64 0, Value.int IntKind.i64 0, Value.int IntKind.i64 0, Value.int IntKind.i64 0, Value.int IntKind.i64 0, Value.int IntKind.i64 0, Value.int IntKind.i64 0, Value.int IntKind.i64 0] 138) := ⟨_, rfl⟩
  rw [← hW]
  have hbw : Below w.heap.size w W := by
    rw [hW]
    exact ((((Below.refl _ _).alloc (Nat.le_refl _) _).alloc (by simp) _).alloc (by simp <;> omega) _).alloc (by simp <;> omega) _
  obtain ⟨z, hz36, hz⟩ : ∃ z : Array Value, z.size = 36 ∧ W.heap[w.heap.size + 1 + 1 + 1]? = some (.cells z 138 (0, 0)) := ⟨#[Value.int IntKind.i64 0, Value.int IntKind.i64 0, Value.int IntKind.i64 0, Value.int IntKind.i64 0, Value.int IntKind.i64 0, Value.int IntKind.i64 0, Value.int IntKind.i64 0, Value.int IntKind.i64 0, Value.int IntKind.i64 0, Value.int IntKind.i64 0, Value.int IntKind.i64 0, Value.int IntKind.i64 0, Value.int IntKind.i64 0, Value.int IntKind.i64 0, Value.int IntKind.i64 0, Value.int IntKind.i64 0, Value.int IntKind.i64 0, Value.int IntKind.i64 0, Value.int IntKind.i64 0, Value.int IntKind.i64 0, Value.int IntKind.i64 0, Value.int IntKind.i64 0, Value.int IntKind.i64 0, Value.int IntKind.i64 0, Value.int IntKind.i64 0, Value.int IntKind.i64 0, Value.int IntKind.i64 0, Value.int IntKind.i64 0, Value.int IntKind.i64 0, Value.int IntKind.i64 0, Value.int IntKind.i64 0, Value.int IntKind.i64 0, Value.int IntKind.i64 0, Value.int IntKind.i64 0, Value.int IntKind.i64 0, Value.int IntKind.i64 0], rfl, by rw [hW]; exact heap_alloc_at _ _ _ (by simp)⟩
  have h0 : W.cell? ⟨w.heap.size, 0, none⟩ = some (.int .i64 a) := by rw [hW]; simp [go_sem]
  have h1 : W.cell? ⟨w.heap.size, 1, none⟩ = some (.int .i64 b) := by rw [hW]; simp [go_sem]
  have h2 : W.cell? ⟨w.heap.size, 2, none⟩ = some (.int .i64 lo) := by rw [hW]; simp [go_sem]
  have h3 : W.cell? ⟨w.heap.size, 3, none⟩ = some (.int .i64 hi) := by rw [hW]; simp [go_sem]
  have h4 : W.heap[w.heap.size + 1]? = some (.cells (tcells t) 138 (0, 0)) := by rw [hW]; exact (Below.heap_alloc _ _ _ (by simp <;> omega)).trans ((Below.heap_alloc _ _ _ (by simp)).trans (heap_alloc_at _ _ _ (by simp)))
  have hsz : w.heap.size + 4 ≤ W.heap.size := by rw [hW]; simp
  have hwr : IntKind.i64.wrap (-lo) = -lo := wrap_neg lo (by omega) (by omega)
  clear hW
  refine region_fix 20 (fun W' => Below W.heap.size W W') (by kernel_rfl) (by kernel_rfl) (Below.refl _ _).drew ?_
  simp only [List.take_succ_cons, List.take_zero, List.drop_succ_cons, List.drop_zero]
  refine WF_step ?_ (fun W' hC => ?_) rfl ?_
  rotate_left
  · have f0 := (hC.cell (p := ⟨w.heap.size, 0, none⟩) (by simp; omega)).trans h0
    have f1 := (hC.cell (p := ⟨w.heap.size, 1, none⟩) (by simp; omega)).trans h1
    have f2 := (hC.cell (p := ⟨w.heap.size, 2, none⟩) (by simp; omega)).trans h2
    have f3 := (hC.cell (p := ⟨w.heap.size, 3, none⟩) (by simp; omega)).trans h3
    go_simp
    exact fix_value hC
  simp only [Act.put, List.setIfInBounds_toArray, List.set_cons_zero, List.set_cons_succ]
  refine WF_step ?_ (fun W' hC => ?_) rfl ?_
  rotate_left
  · have f0 := (hC.cell (p := ⟨w.heap.size, 0, none⟩) (by simp; omega)).trans h0
    have f1 := (hC.cell (p := ⟨w.heap.size, 1, none⟩) (by simp; omega)).trans h1
    have f2 := (hC.cell (p := ⟨w.heap.size, 2, none⟩) (by simp; omega)).trans h2
    have f3 := (hC.cell (p := ⟨w.heap.size, 3, none⟩) (by simp; omega)).trans h3
    go_simp
    exact fix_value hC
  simp only [Act.put, List.setIfInBounds_toArray, List.set_cons_zero, List.set_cons_succ]
  refine WF_step (.agg (tcells t)) (fun W' hC => fix_load_row 138 (.tmp 4) rfl (w.heap.size + 1) rfl 138 (tcells t) (0, 0) _ ((hC.block (w.heap.size + 1) (by omega)).trans h4) underTab rfl (sizeTab _) hC) rfl ?_
  simp only [Act.put, List.setIfInBounds_toArray, List.set_cons_zero, List.set_cons_succ]
  iterate 7
    refine WF_step ?_ (fun W' hC => ?_) rfl ?_
    rotate_left
    · have f0 := (hC.cell (p := ⟨w.heap.size, 0, none⟩) (by simp; omega)).trans h0
      have f1 := (hC.cell (p := ⟨w.heap.size, 1, none⟩) (by simp; omega)).trans h1
      have f2 := (hC.cell (p := ⟨w.heap.size, 2, none⟩) (by simp; omega)).trans h2
      have f3 := (hC.cell (p := ⟨w.heap.size, 3, none⟩) (by simp; omega)).trans h3
      go_simp
      exact fix_value hC
    simp only [Act.put, List.setIfInBounds_toArray, List.set_cons_zero, List.set_cons_succ]
  refine WF_step (.agg (tcells (leastT t a b hi))) (fun W' hC => ?_) rfl ?_
  · go_simp
    refine fix_enter ((least_any t a b hi ha hb _).mono ?_)
    rintro e w1 ⟨rfl, hb1⟩
    exact ⟨rfl, hC.trans (hb1.mono hC.size)⟩
  simp only [Act.put, List.setIfInBounds_toArray, List.set_cons_zero, List.set_cons_succ]
  iterate 8
    refine WF_step ?_ (fun W' hC => ?_) rfl ?_
    rotate_left
    · have f0 := (hC.cell (p := ⟨w.heap.size, 0, none⟩) (by simp; omega)).trans h0
      have f1 := (hC.cell (p := ⟨w.heap.size, 1, none⟩) (by simp; omega)).trans h1
      have f2 := (hC.cell (p := ⟨w.heap.size, 2, none⟩) (by simp; omega)).trans h2
      have f3 := (hC.cell (p := ⟨w.heap.size, 3, none⟩) (by simp; omega)).trans h3
      go_simp
      exact fix_value hC
    simp only [Act.put, List.setIfInBounds_toArray, List.set_cons_zero, List.set_cons_succ]
  refine WF_step (.agg (tcells (putT t a b lo hi))) (fun W' hC => ?_) rfl ?_
  · go_simp
    refine fix_enter ((least_any (leastT t a b hi) b a (-lo) hb ha _).mono ?_)
    rintro e w1 ⟨rfl, hb1⟩
    exact ⟨rfl, hC.trans (hb1.mono hC.size)⟩
  simp only [Act.put, List.setIfInBounds_toArray, List.set_cons_zero, List.set_cons_succ]
  refine WF_nil ?_
  intro W1 hC1
  go_wp2_with (refine wpList_store_row rfl 138 _ _ rfl (w.heap.size + 1 + 1 + 1) (tcells (putT t a b lo hi)) rfl rfl 138 z ((hC1.block _ (by omega)).trans hz) (sizeTab _) (hz36.trans (tcells_size _).symm) (tcells_one _) ?_)
  refine bodyPost_ret (v := .agg (tcells (putT t a b lo hi))) (results_cell_row (fn := Try.f122) (p := 6) rfl _ _ (w.heap.size + 1 + 1 + 1) 138 (tcells (putT t a b lo hi)) (0, 0) _ rfl (setRow_heap _ _ _ _ _ _ ((hC1.block _ (by omega)).trans hz)) underTab rfl (sizeTab _)) rfl ⟨rfl, ?_⟩
  exact below_setRow (hbw.trans (hC1.mono hbw.size)) (by omega) _

end Go.Proofs.Ytabbmihakoeegaa

/- The comparators of a pair, one after the other. -/
namespace Go.Proofs.Ytabbmihakoeegaa
set_option linter.unusedVariables false
set_option linter.unusedSimpArgs false
open Go.RowKit
attribute [local go_sem] Oper.semAt_some

/-- Elements of a list by number: what has come, what comes, what is left. -/
theorem split_at {α : Type} (l : List α) (k : Nat) (h : k < l.length) : l = l.take k ++ l[k] :: l.drop (k + 1) := by
  rw [List.getElem_cons_drop, List.take_append_drop]
theorem take_next {α : Type} (l : List α) (k : Nat) (h : k < l.length) : l.take (k + 1) = l.take k ++ [l[k]] := by
  rw [List.take_succ_eq_append_getElem h]

def wideN (lo hi : Int) : Nat := (hi - lo + 1).toNat
/-- The comparators: of each zero all rates. -/
def comps (zl zh rl rh : Int) : List (Int × Int) := (List.range (wideN zl zh * wideN rl rh)).map fun k => (zl + ((k / wideN rl rh : Nat) : Int), rl + ((k % wideN rl rh : Nat) : Int))
theorem comps_length (zl zh rl rh : Int) : (comps zl zh rl rh).length = wideN zl zh * wideN rl rh := by simp [comps]
theorem comps_at (zl zh rl rh : Int) (i j : Nat) (hi : i < wideN zl zh) (hj : j < wideN rl rh) (h : i * wideN rl rh + j < (comps zl zh rl rh).length) :
    (comps zl zh rl rh)[i * wideN rl rh + j] = (zl + (i : Int), rl + (j : Int)) := by
  have hm : 0 < wideN rl rh := by omega
  have h1 : (i * wideN rl rh + j) / wideN rl rh = i := by rw [Nat.mul_comm, Nat.mul_add_div hm, Nat.div_eq_of_lt hj, Nat.add_zero]
  have h2 : (i * wideN rl rh + j) % wideN rl rh = j := by rw [Nat.mul_comm, Nat.mul_add_mod, Nat.mod_eq_of_lt hj]
  simp only [comps, List.getElem_map, List.getElem_range, h1, h2]
theorem row_lt (i j n m : Nat) (hi : i < n) (hj : j < m) : i * m + j < n * m := by
  have : (i + 1) * m ≤ n * m := Nat.mul_le_mul_right m hi
  rw [Nat.add_mul] at this
  omega

theorem comps_mem {zl zh rl rh z r : Int} (h : ((z, r) : Int × Int) ∈ comps zl zh rl rh) : zl ≤ z ∧ z ≤ zh ∧ rl ≤ r ∧ r ≤ rh := by
  unfold comps at h
  obtain ⟨k, hk, he⟩ := List.mem_map.1 h
  simp only [Prod.mk.injEq] at he
  obtain ⟨rfl, rfl⟩ := he
  have hk' : k < wideN zl zh * wideN rl rh := by simpa using hk
  have hpos : 0 < wideN rl rh := by
    rcases Nat.eq_zero_or_pos (wideN rl rh) with h0 | h0
    · rw [h0] at hk'; simp at hk'
    · exact h0
  have h1 : k / wideN rl rh < wideN zl zh := Nat.div_lt_of_lt_mul (by rw [Nat.mul_comm]; exact hk')
  have h2 : k % wideN rl rh < wideN rl rh := Nat.mod_lt _ hpos
  generalize k / wideN rl rh = i at *
  generalize k % wideN rl rh = j at *
  unfold wideN at *
  omega
theorem mul_bounds (r m : Int) (h1 : -1000 ≤ r) (h2 : r ≤ 1000) (h3 : 0 ≤ m) (h4 : m ≤ 60) : -1000000 ≤ r * m ∧ r * m ≤ 1000000 := by
  have a1 : r * m ≤ 1000 * m := Int.mul_le_mul_of_nonneg_right h2 h3
  have a2 : -1000 * m ≤ r * m := Int.mul_le_mul_of_nonneg_right h1 h3
  omega

/-- A pair's bench in memory: its blocks' and readings' slices, zero and rate, and what is told. -/
def benchObj (bs rs : Value) (zl zh rl rh : Int) (m : Value) : Obj := .cells #[bs, .int .i64 zl, .int .i64 zh, .int .i64 rl, .int .i64 rh, rs, m] 100 (0, 0)
def boxPtr (bp : Nat) : Obj := .cells #[.pointer (some ⟨bp, 0, none⟩)] 80 (0, 0)

set_option maxRecDepth 100000 in
set_option maxHeartbeats 2000000 in
theorem comparators_seq (b1 bp : Nat) (bs rs mv : Value) (zl zh rl rh : Int) (hz : zl ≤ zh) (hr : rl ≤ rh) (hz1 : -1000000 ≤ zl) (hz2 : zh ≤ 1000000) (hr1 : -1000000 ≤ rl) (hr2 : rh ≤ 1000000) (W : World)
    (hb1 : W.heap[b1]? = some (boxPtr bp)) (hbp : W.heap[bp]? = some (benchObj bs rs zl zh rl rh mv)) :
    SeqAt Try.prog 101 #[.pointer (some ⟨b1, 0, none⟩)] (fun c : Int × Int => #[.agg #[.int .i64 c.1, .int .i64 c.2]]) (comps zl zh rl rh) (fun k => k = b1 ∨ k = bp) W := by
  intro l Mut J Jx hM hJ hJx hY h0
  have HM := Lib.hid hM
  have HJ := Lib.hid hJ
  have HJx := Lib.hid hJx
  have HY := Lib.hid hY
  clear hM hJ hJx hY
  have hlt1 := lt_of_block hb1
  have hlt2 := lt_of_block hbp
  refine callsIn_wide.1 (callsIn_of_wp (F := Fence.wide) (n := 0) Try.func101 rfl trivial ?_ rfl)
  simp only [Try.ntmps101, List.size_toArray, List.length_cons, List.length_nil, Nat.reduceAdd, Nat.reduceSub, Array.replicate_succ, Array.replicate_zero, List.push_toArray, List.append_toArray, List.nil_append, List.cons_append]
  have c0 : W.cell? ⟨b1, 0, none⟩ = some (.pointer (some ⟨bp, 0, none⟩)) := by rw [cell_of_row W b1 _ _ _ _ hb1]; rfl
  have c1 : W.cell? ⟨bp, 1, none⟩ = some (.int .i64 zl) := by rw [cell_of_row W bp _ _ _ _ hbp]; rfl
  have hcz : (zl : Int) + (wideN zl zh : Int) = zh + 1 := by unfold wideN; omega
  have hcr : (rl : Int) + (wideN rl rh : Int) = rh + 1 := by unfold wideN; omega
  have HCZ := Lib.hid hcz
  have HCR := Lib.hid hcr
  have hpz : 0 < wideN zl zh := by omega
  have hpr : 0 < wideN rl rh := by omega
  have hlen := comps_length zl zh rl rh
  have HL := Lib.hid hlen
  clear hcz hcr hlen
  have HB1 := Lib.hid hb1
  have HBP := Lib.hid hbp
  clear hb1 hbp
  have facts : ∀ wr, Keeps Mut W wr → wr.cell? ⟨b1, 0, none⟩ = some (.pointer (some ⟨bp, 0, none⟩)) ∧ wr.cell? ⟨bp, 1, none⟩ = some (.int .i64 zl) ∧ wr.cell? ⟨bp, 2, none⟩ = some (.int .i64 zh) ∧ wr.cell? ⟨bp, 3, none⟩ = some (.int .i64 rl) ∧ wr.cell? ⟨bp, 4, none⟩ = some (.int .i64 rh) := by
    intro wr hk
    have k1 := (hk.block b1 hlt1 (fun h => (HM.out _ h).2 (.inl rfl))).trans HB1.out
    have k2 := (hk.block bp hlt2 (fun h => (HM.out _ h).2 (.inr rfl))).trans HBP.out
    exact ⟨by rw [cell_of_row wr b1 _ _ _ _ k1]; rfl, by rw [cell_of_row wr bp _ _ _ _ k2]; rfl, by rw [cell_of_row wr bp _ _ _ _ k2]; rfl, by rw [cell_of_row wr bp _ _ _ _ k2]; rfl, by rw [cell_of_row wr bp _ _ _ _ k2]; rfl⟩
  have HF := Lib.hid facts
  clear facts
  gi_wp2
  refine wpIn_wide.2 (wp_scope_straight ((wpIn_wide (n := 0)).1 (wpIn_seq (wpIn_label ?_))))
  simp only [Exit.then]
  gi_wp2
  gi_loopw [3] (fun z wr => ∃ (i : Nat) (G : Nat → Prop), i ≤ wideN zl zh ∧ z = .int .i64 (zl + i) ∧ J ((comps zl zh rl rh).take (i * wideN rl rh)) G wr ∧ Keeps Mut W wr) (fun z _ => (zh + 1 - intOf z).toNat)
  case atStart => exact ⟨0, fun _ => False, Nat.zero_le _, by simp, by simpa using h0, Keeps.refl _ _⟩
  case round =>
    obtain ⟨i, G, hi, rfl, hj, hk⟩ := hrel
    have HK := Lib.hid hk
    have HJJ := Lib.hid hj
    obtain ⟨f0, f1, f2, f3, f4⟩ := HF.out wr hk
    clear hj hk
    by_cases hlt : i < wideN zl zh
    · have t1 : zl + (i : Int) ≤ zh := by have := HCZ.out; omega
      gi_wp2
      gi_loopw [4] (fun r wr => ∃ (j : Nat) (G : Nat → Prop), j ≤ wideN rl rh ∧ r = .int .i64 (rl + j) ∧ J ((comps zl zh rl rh).take (i * wideN rl rh + j)) G wr ∧ Keeps Mut W wr) (fun r _ => (rh + 1 - intOf r).toNat)
      case atStart => exact ⟨0, G, Nat.zero_le _, by simp, HJJ.out, HK.out⟩
      case round =>
        clear f0 f1 f2 f3 f4
        obtain ⟨j, G2, hj2, rfl, hj, hk⟩ := hrel
        obtain ⟨f0, f1, f2, f3, f4⟩ := HF.out wr hk
        have HK2 := Lib.hid hk
        have HJ2 := Lib.hid hj
        clear hj hk
        by_cases hltj : j < wideN rl rh
        · have t2 : rl + (j : Int) ≤ rh := by have := HCR.out; omega
          have hin : i * wideN rl rh + j < (comps zl zh rl rh).length := by rw [HL.out]; exact row_lt i j _ _ hlt hltj
          have hat := comps_at zl zh rl rh i j hlt hltj hin
          have hsp := split_at (comps zl zh rl rh) (i * wideN rl rh + j) hin
          have hnx := take_next (comps zl zh rl rh) (i * wideN rl rh + j) hin
          rw [hat] at hsp hnx
          obtain ⟨fn, tmps, assign, body, hy, hR⟩ := HY.out _ _ _ G2 wr hsp HJ2.out HK2.out.size
          rw [← hnx] at hR
          have HSP := Lib.hid hsp
          clear hat hsp
          have HN := Lib.hid hnx
          have HIN := Lib.hid hin
          clear hnx hin
          gi_wp2
          refine ⟨rfl, hR.mono ?_⟩
          rintro e W3 ⟨hk3, ⟨rfl, hj3⟩ | ⟨rfl, hj3⟩⟩
          · gi_wp2
            go_roundw
            case rel => exact ⟨j + 1, _, by omega, by go_num, hj3, HK2.out.trans hk3⟩
            case measure => simp [intOf]; omega
          · gi_wp2
            simp only [Exit.noGoto]
            first | go_end0 | skip
            exact ⟨⟨_, rfl⟩, HK2.out.trans hk3, _, .inr ⟨_, _, _, HSP.out, by rw [← HN.out]; exact hj3⟩⟩
        · obtain rfl : j = wideN rl rh := by omega
          have t2 : ¬ rl + (wideN rl rh : Int) ≤ rh := by have := HCR.out; omega
          gi_wp2
          go_roundw
          case rel =>
            refine ⟨i + 1, G2, by omega, by go_num, ?_, HK2.out⟩
            have := HJ2.out
            rwa [← Nat.succ_mul] at this
          case measure => simp [intOf]; omega
    · obtain rfl : i = wideN zl zh := by omega
      have t1 : ¬ zl + (wideN zl zh : Int) ≤ zh := by have := HCZ.out; omega
      have hall : J (comps zl zh rl rh) G wr := by have := HJJ.out; rwa [← HL.out, List.take_length] at this
      have HA := Lib.hid hall
      clear hall
      gi_wp2
      go_end0
      exact ⟨⟨_, rfl⟩, HK.out, G, .inl HA.out⟩

set_option maxHeartbeats 400000 in
/-- 'comparators' returns the function value that yields them: over a box of its own, which holds the bench. -/
theorem comparators_any (bp : Nat) (w : World) :
    Calls Try.prog 96 #[.pointer (some ⟨bp, 0, none⟩)] w fun e w' => e = .returned (.func (.func 101) #[] #[.pointer (some ⟨w.heap.size, 0, none⟩)]) ∧ w.alloc (boxPtr bp) = w' := by
  have hmf : ∀ (fn : Fn) (first cap : Array Value) (w : World), (Instr.makeFunc fn first cap).run Try.prog w = .ok (.func fn first cap) w := fun _ _ _ _ => rfl
  go_enter Try.func96, Try.ntmps96
  go_wp2
  go_ret
  exact ⟨rfl, rfl⟩

end Go.Proofs.Ytabbmihakoeegaa

/- Tables of package pair: what follows from a table; a reading put into one. -/
namespace Go.Proofs.Ytabbmihakoeegaa
set_option linter.unusedVariables false
set_option linter.unusedSimpArgs false
open Go.RowKit

attribute [local irreducible] tcells
set_option maxHeartbeats 1600000 in
set_option maxRecDepth 4000 in
theorem closed_any (t : Tab) (hB : ∀ k, k ≤ 216 → ∀ i j, i < 6 → j < 6 → -1000000000000 ≤ fwN t k i j ∧ fwN t k i j ≤ 1000000000000) (w : World) :
    Calls Try.prog 97 #[.agg (tcells t)] w fun e w' => e = .returned (.tuple #[.agg (tcells (fwN t 216)), .bool (diagOk (fwN t 216))]) ∧ Below w.heap.size w w' := by
  have HB := Lib.hid hB
  clear hB
  go_enter Try.func97, Try.ntmps97
  go_wp2
  go_loopw [8] (fun i wr => ∃ k : Nat, k ≤ 6 ∧ i = .int .i64 k ∧ CW w w.heap.size 138 (fwN t (36 * k)) wr) (fun i _ => 6 - (intOf i).toNat)
  case atStart => exact ⟨0, by omega, rfl, CW_start _ _ _ _ rfl⟩
  case round =>
    obtain ⟨by', hby, rfl, hcw⟩ := hrel
    by_cases hlt : by' < 6
    · go_wp2
      go_loopw [11] (fun i wr => ∃ k : Nat, k ≤ 6 ∧ i = .int .i64 k ∧ CW w w.heap.size 138 (fwN t (36 * by' + 6 * k)) wr) (fun i _ => 6 - (intOf i).toNat)
      case atStart => exact ⟨0, by omega, rfl, hcw⟩
      case round =>
        clear hcw
        obtain ⟨a', ha, rfl, hcw⟩ := hrel
        by_cases hlta : a' < 6
        · go_wp2
          go_loopw [14] (fun i wr => ∃ k : Nat, k ≤ 6 ∧ i = .int .i64 k ∧ CW w w.heap.size 138 (fwN t (36 * by' + 6 * a' + k)) wr) (fun i _ => 6 - (intOf i).toNat)
          case atStart => exact ⟨0, by omega, rfl, hcw⟩
          case round =>
            clear hcw
            obtain ⟨b', hb, rfl, hcw⟩ := hrel
            by_cases hltb : b' < 6
            · have HE : Hid (fwN t (36 * by' + 6 * a' + (b' + 1)) = upd (fwN t (36 * by' + 6 * a' + b')) a' b' (min (fwN t (36 * by' + 6 * a' + b') a' b') (fwN t (36 * by' + 6 * a' + b') a' by' + fwN t (36 * by' + 6 * a' + b') by' b'))) := by
                show _ = _
                have e1 : (36 * by' + 6 * a' + b') / 6 % 6 = a' := by omega
                have e2 : (36 * by' + 6 * a' + b') % 6 = b' := by omega
                have e3 : (36 * by' + 6 * a' + b') / 36 = by' := by omega
                rw [← Nat.add_assoc, fwN, stepN, e1, e2, e3]
              have hb1 := HB.out (36 * by' + 6 * a' + b') (by omega) a' by' hlta hlt
              have hb2 := HB.out (36 * by' + 6 * a' + b') (by omega) by' b' hlt hltb
              generalize hc : fwN t (36 * by' + 6 * a' + b') = c at *
              have HC := Lib.hid hc
              have HW := Lib.hid hcw
              obtain ⟨hb1, hb1'⟩ := hb1
              obtain ⟨hb2, hb2'⟩ := hb2
              have c1 := cell_tab hcw.1 a' b' hlta hltb
              have c2 := cell_tab hcw.1 a' by' hlta hlt
              have c3 := cell_tab hcw.1 by' b' hlt hltb
              have f1 := frozen_of_row wr w.heap.size (a' * 6 + b') _ _ hcw.1
              clear hc hcw
              have la : (a' : Int) < 6 := by omega
              have lb : (b' : Int) < 6 := by omega
              have ly : (by' : Int) < 6 := by omega
              go_wp2
              refine region_tail 21 (by kernel_rfl) (by kernel_rfl) ?_
              simp only [List.take_succ_cons, List.take_zero, List.drop_succ_cons, List.drop_zero]
              repeat still_step
              refine wpStill_nil ?_
              go_wp2
              all_goals
                go_roundw
                case measure => simp [intOf]; omega
                case rel =>
                  refine ⟨b' + 1, by omega, by go_num, ?_⟩
                  rw [HE.out]
                  first
                  | (rw [show min (c a' b') (c a' by' + c by' b') = c a' b' by omega]; exact (HW.out.set a' b' hlta hltb _).drew)
                  | (rw [show min (c a' b') (c a' by' + c by' b') = c a' by' + c by' b' by omega]; exact (HW.out.set a' b' hlta hltb _).drew)
            · obtain rfl : b' = 6 := by omega
              go_wp2
              go_roundw
              case measure => simp [intOf]; omega
              case rel => exact ⟨a' + 1, by omega, by go_num, hcw⟩
        · obtain rfl : a' = 6 := by omega
          go_wp2
          go_roundw
          case measure => simp [intOf]; omega
          case rel => exact ⟨by' + 1, by omega, by go_num, hcw⟩
    · obtain rfl : by' = 6 := by omega
      have hc0 : CW w w.heap.size 138 (fwN t 216) wr := hcw
      clear hcw HB
      obtain ⟨c, hc⟩ : ∃ c, fwN t 216 = c := ⟨_, rfl⟩
      rw [hc] at hc0
      have HQ := Lib.hid hc
      clear hc
      go_wp2
      go_loopw [41] (fun i wr => ∃ k : Nat, k ≤ 6 ∧ i = .int .i64 k ∧ (∀ j, j < k → 0 ≤ c j j) ∧ CW w w.heap.size 138 c wr) (fun i _ => 6 - (intOf i).toNat)
      case atStart => exact ⟨0, by omega, rfl, fun j h => absurd h (by omega), hc0⟩
      case round =>
        clear hc0
        obtain ⟨k, hk, rfl, hpos, hcw⟩ := hrel
        have HW := Lib.hid hcw
        have HP := Lib.hid hpos
        obtain ⟨hg, ⟨z, hz, hg2⟩, hbel⟩ := hcw
        by_cases hlt : k < 6
        · have c1 := cell_tab hg k k hlt hlt
          have lk : (k : Int) < 6 := by omega
          have HZ := Lib.hid hz
          have HG := Lib.hid hg
          have HG2 := Lib.hid hg2
          have HBl := Lib.hid hbel
          clear hpos hz hg hg2 hbel
          by_cases hneg : c k k < 0
          · have hd : decide (c k k < 0) = true := by simpa using hneg
            have HD : Hid (diagOk c = false) := by
              show _ = _
              rw [Bool.eq_false_iff]
              intro h
              have := (diagOk_iff c).1 h k hlt
              omega
            go_wp2_with (first | (refine wpList_load_row rfl 138 _ rfl w.heap.size rfl 138 (tcells c) (0, 0) _ HG.out underTab rfl (sizeTab c) ?_) | (refine wpList_store_row rfl 138 _ _ rfl (w.heap.size + 1) (tcells c) rfl rfl 138 z HG2.out (sizeTab c) (HZ.out.trans (tcells_size c).symm) (tcells_one c) ?_))
            refine bodyPost_ret (v := .tuple #[.agg (tcells c), .bool false]) (results_row_tmp (fn := Try.f97) (p := 2) (u := 3) rfl _ _ (w.heap.size + 1) 138 (tcells c) (0, 0) _ rfl (setRow_heap _ _ _ _ _ _ HG2.out) underTab rfl (sizeTab c)) rfl ⟨by rw [HQ.out, HD.out], ?_⟩
            exact below_setRow HBl.out (by omega) _
          · have hd : decide (c k k < 0) = false := by simpa using hneg
            go_wp2
            go_roundw
            case measure => simp [intOf]; omega
            case rel =>
              refine ⟨k + 1, by omega, by go_num, ?_, HW.out⟩
              intro j hj
              by_cases e : j = k
              · subst e; omega
              · exact HP.out j (by omega)
        · obtain rfl : k = 6 := by omega
          have HZ := Lib.hid hz
          have HG := Lib.hid hg
          have HG2 := Lib.hid hg2
          have HBl := Lib.hid hbel
          clear hpos hz hg hg2 hbel
          have HD : Hid (diagOk c = true) := by
            show _ = _
            rw [diagOk_iff]
            exact HP.out
          go_wp2_with (first | (refine wpList_load_row rfl 138 _ rfl w.heap.size rfl 138 (tcells c) (0, 0) _ HG.out underTab rfl (sizeTab c) ?_) | (refine wpList_store_row rfl 138 _ _ rfl (w.heap.size + 1) (tcells c) rfl rfl 138 z HG2.out (sizeTab c) (HZ.out.trans (tcells_size c).symm) (tcells_one c) ?_))
          refine bodyPost_ret (v := .tuple #[.agg (tcells c), .bool true]) (results_row_tmp (fn := Try.f97) (p := 2) (u := 3) rfl _ _ (w.heap.size + 1) 138 (tcells c) (0, 0) _ rfl (setRow_heap _ _ _ _ _ _ HG2.out) underTab rfl (sizeTab c)) rfl ⟨by rw [HQ.out, HD.out], ?_⟩
          exact below_setRow HBl.out (by omega) _


set_option maxHeartbeats 800000 in
set_option maxRecDepth 4000 in
theorem sput_any (a b : Nat) (lo hi m z r : Int) (t : Tab) (ha : a < 6) (hb : b < 6) (hlo : -1000000 ≤ lo ∧ lo ≤ 1000000) (hhi : -1000000 ≤ hi ∧ hi ≤ 1000000)
    (hz : -1000000 ≤ z ∧ z ≤ 1000000) (hr : -1000000 ≤ r * m ∧ r * m ≤ 1000000) (w : World) :
    Calls Try.prog 124 #[.agg #[.int .i64 a, .int .i64 b, .int .i64 lo, .int .i64 hi, .int .i64 m], .agg (tcells t), .agg #[.int .i64 z, .int .i64 r]] w
      fun e w' => e = .returned (.agg (tcells (putT t a b (lo - showsC z r m) (hi - showsC z r m)))) ∧ Below w.heap.size w w' := by
  obtain ⟨hlo1, hlo2⟩ := hlo
  obtain ⟨hhi1, hhi2⟩ := hhi
  have hs1 : -3000000 ≤ showsC z r m := by unfold showsC; omega
  have hs2 : showsC z r m ≤ 3000000 := by unfold showsC; omega
  have HZ := Lib.hid hz
  have HR := Lib.hid hr
  clear hz hr
  go_enter Try.func124, Try.ntmps124
  go_wp2_with fail
  refine (cshows_any z r m HZ.out HR.out _).mono ?_
  rintro e w1 ⟨rfl, hb1⟩
  have f0 := (hb1.cell (p := ⟨w.heap.size, 0, none⟩) (by simp <;> omega)).trans (b := _) (c := some (.int .i64 a)) (by simp [go_sem])
  have f1 := (hb1.cell (p := ⟨w.heap.size, 1, none⟩) (by simp <;> omega)).trans (c := some (.int .i64 b)) (by simp [go_sem])
  have f2 := (hb1.cell (p := ⟨w.heap.size, 2, none⟩) (by simp <;> omega)).trans (c := some (.int .i64 lo)) (by simp [go_sem])
  have f3 := (hb1.cell (p := ⟨w.heap.size, 3, none⟩) (by simp <;> omega)).trans (c := some (.int .i64 hi)) (by simp [go_sem])
  have g0 := (hb1.cell (p := ⟨w.heap.size + 1 + 1, 0, none⟩) (by simp <;> omega)).trans (c := some (.int .i64 z)) (by simp [go_sem])
  have g1 := (hb1.cell (p := ⟨w.heap.size + 1 + 1, 1, none⟩) (by simp <;> omega)).trans (c := some (.int .i64 r)) (by simp [go_sem])
  have ht := (hb1.block (w.heap.size + 1) (by simp <;> omega)).trans (c := some (.cells (tcells t) 138 (0, 0))) (by repeat (first | (refine heap_alloc_at _ _ _ ?_; (simp <;> omega); done) | (refine (hget_old _ _ _ ?_).trans ?_; · (simp <;> omega))))
  obtain ⟨q, hq36, hq⟩ : ∃ q : Array Value, q.size = 36 ∧ w1.heap[w.heap.size + 1 + 1 + 1]? = some (.cells q 138 (0, 0)) := ⟨#[Value.int IntKind.i64 0, Value.int IntKind.i64 0, Value.int IntKind.i64 0, Value.int IntKind.i64 0, Value.int IntKind.i64 0, Value.int IntKind.i64 0, Value.int IntKind.i64 0, Value.int IntKind.i64 0, Value.int IntKind.i64 0, Value.int IntKind.i64 0, Value.int IntKind.i64 0, Value.int IntKind.i64 0, Value.int IntKind.i64 0, Value.int IntKind.i64 0, Value.int IntKind.i64 0, Value.int IntKind.i64 0, Value.int IntKind.i64 0, Value.int IntKind.i64 0, Value.int IntKind.i64 0, Value.int IntKind.i64 0, Value.int IntKind.i64 0, Value.int IntKind.i64 0, Value.int IntKind.i64 0, Value.int IntKind.i64 0, Value.int IntKind.i64 0, Value.int IntKind.i64 0, Value.int IntKind.i64 0, Value.int IntKind.i64 0, Value.int IntKind.i64 0, Value.int IntKind.i64 0, Value.int IntKind.i64 0, Value.int IntKind.i64 0, Value.int IntKind.i64 0, Value.int IntKind.i64 0, Value.int IntKind.i64 0, Value.int IntKind.i64 0], by rfl, (hb1.block (w.heap.size + 1 + 1 + 1) (by simp <;> omega)).trans (by repeat (first | (refine heap_alloc_at _ _ _ ?_; (simp <;> omega); done) | (refine (hget_old _ _ _ ?_).trans ?_; · (simp <;> omega))))⟩
  have hbw : Below w.heap.size w w1 := ((((((Below.refl _ _).alloc (Nat.le_refl _) _).alloc (by simp) _).alloc (by simp <;> omega) _).alloc (by simp <;> omega) _)).trans (hb1.mono (by simp <;> omega))
  have hsz : w.heap.size + 4 ≤ w1.heap.size := by have := hb1.size; simp at this; omega
  have HQ := Lib.hid hq36
  have HT := Lib.hid ht
  have HQ1 := Lib.hid hq
  have HB := Lib.hid hb1
  have HBW := Lib.hid hbw
  clear hb1 hbw ht hq hq36
  go_wp2_with (first | (refine wpList_load_row rfl 138 _ rfl (w.heap.size + 1) rfl 138 (tcells t) (0, 0) _ HT.out underTab rfl (sizeTab _) ?_))
  refine (kput_any a b (lo - showsC z r m) (hi - showsC z r m) z r t ha hb (by constructor <;> omega) _).mono ?_
  rintro e w2 ⟨rfl, hb2⟩
  have HB2 := Lib.hid hb2
  clear hb2
  go_wp2_with (first | (refine wpList_store_row rfl 138 _ _ rfl (w.heap.size + 1 + 1 + 1) (tcells (putT t a b (lo - showsC z r m) (hi - showsC z r m))) rfl rfl 138 q ((HB2.out.block _ (by omega)).trans HQ1.out) (sizeTab _) (HQ.out.trans (tcells_size _).symm) (tcells_one _) ?_))
  refine bodyPost_ret (v := .agg (tcells (putT t a b (lo - showsC z r m) (hi - showsC z r m)))) (results_cell_row (fn := Try.f124) (p := 6) rfl _ _ (w.heap.size + 1 + 1 + 1) 138 (tcells (putT t a b (lo - showsC z r m) (hi - showsC z r m))) (0, 0) _ rfl (setRow_heap _ _ _ _ _ _ ((HB2.out.block _ (by omega)).trans HQ1.out)) underTab rfl (sizeTab _)) rfl ⟨rfl, ?_⟩
  exact below_setRow (HBW.out.trans (HB2.out.mono (by omega))) (by omega) _

end Go.Proofs.Ytabbmihakoeegaa

/- The tables of a pair by some bounds: of each comparator that can be, one. -/
namespace Go.Proofs.Ytabbmihakoeegaa
set_option linter.unusedVariables false
set_option linter.unusedSimpArgs false
open Go.RowKit Go.Shelf
attribute [local go_sem] Oper.semAt_some

/-- A bound: of two blocks (5: the mark), from a number to a number; if it was shown: at a minute. -/
structure Bnd where
  kn : Bool
  a : Nat
  b : Nat
  lo : Int
  hi : Int
  m : Int
def encB (x : Bnd) : Value :=
  if x.kn then .iface 157 (.agg #[.int .i64 x.a, .int .i64 x.b, .int .i64 x.lo, .int .i64 x.hi])
  else .iface 159 (.agg #[.int .i64 x.a, .int .i64 x.b, .int .i64 x.lo, .int .i64 x.hi, .int .i64 x.m])
def okB (x : Bnd) : Prop := x.a < 6 ∧ x.b < 6 ∧ -1000000 ≤ x.lo ∧ x.lo ≤ 1000000 ∧ -1000000 ≤ x.hi ∧ x.hi ≤ 1048576 ∧ (x.kn = false → x.hi ≤ 1000000) ∧ 0 ≤ x.m ∧ x.m ≤ 60
def putB (c : Int × Int) (t : Tab) (x : Bnd) : Tab :=
  if x.kn then putT t x.a x.b x.lo x.hi else putT t x.a x.b (x.lo - showsC c.1 c.2 x.m) (x.hi - showsC c.1 c.2 x.m)
def T0 : Tab := fun i j => if i = j then 0 else 1048576
def rawT (l : List Bnd) (c : Int × Int) : Tab := l.foldl (putB c) T0
def tabOf (l : List Bnd) (c : Int × Int) : Tab := fwN (rawT l c) 216
def outs (l : List Bnd) (cs : List (Int × Int)) : List ((Int × Int) × Tab) := cs.filterMap fun c => if diagOk (tabOf l c) then some (c, tabOf l c) else none
def encCT (x : (Int × Int) × Tab) : Array Value := #[.agg #[.int .i64 x.1.1, .int .i64 x.1.2], .agg (tcells x.2)]

/-- A slice value whose elements are these, one cell each. -/
def ListAt (W : World) (v : Value) (xs : List Value) (Rd : Nat → Prop) : Prop :=
  ∃ ao cap, v = .slice ao xs.length cap ∧ xs.length ≤ 1000 ∧ ∀ i (h : i < xs.length), ∃ b off, ao = some ⟨b, off, none⟩ ∧ Rd b ∧ b < W.heap.size ∧ W.cell? ⟨b, off + i, none⟩ = some xs[i]

theorem outs_yes (l : List Bnd) (c : Int × Int) (h : diagOk (tabOf l c) = true) : outs l [c] = [(c, tabOf l c)] := by simp [outs, h]
theorem outs_no (l : List Bnd) (c : Int × Int) (h : diagOk (tabOf l c) = false) : outs l [c] = [] := by simp [outs, h]
theorem outs_append (l : List Bnd) (a b : List (Int × Int)) : outs l (a ++ b) = outs l a ++ outs l b := by simp [outs]

/-- The first table, as far as it is made. -/
def partT (i j : Nat) : Tab := fun a b => if a < i ∨ (a = i ∧ b < j) then T0 a b else 0
theorem partT_zero : tcells (partT 0 0) = #[Value.int IntKind.i64 0, Value.int IntKind.i64 0, Value.int IntKind.i64 0, Value.int IntKind.i64 0, Value.int IntKind.i64 0, Value.int IntKind.i64 0, Value.int IntKind.i64 0, Value.int IntKind.i64 0, Value.int IntKind.i64 0, Value.int IntKind.i64 0, Value.int IntKind.i64 0, Value.int IntKind.i64 0, Value.int IntKind.i64 0, Value.int IntKind.i64 0, Value.int IntKind.i64 0, Value.int IntKind.i64 0, Value.int IntKind.i64 0, Value.int IntKind.i64 0, Value.int IntKind.i64 0, Value.int IntKind.i64 0, Value.int IntKind.i64 0, Value.int IntKind.i64 0, Value.int IntKind.i64 0, Value.int IntKind.i64 0, Value.int IntKind.i64 0, Value.int IntKind.i64 0, Value.int IntKind.i64 0, Value.int IntKind.i64 0, Value.int IntKind.i64 0, Value.int IntKind.i64 0, Value.int IntKind.i64 0, Value.int IntKind.i64 0, Value.int IntKind.i64 0, Value.int IntKind.i64 0, Value.int IntKind.i64 0, Value.int IntKind.i64 0] := by rfl
theorem partT_next (i j : Nat) : upd (partT i j) i j (T0 i j) = partT i (j + 1) := by
  funext a b
  unfold upd partT
  by_cases h : a = i ∧ b = j
  · obtain ⟨rfl, rfl⟩ := h
    simp
  · rw [if_neg h]
    by_cases h2 : a < i ∨ (a = i ∧ b < j)
    · rw [if_pos h2, if_pos (by omega)]
    · rw [if_neg h2, if_neg (by omega)]
theorem upd_upd (t : Tab) (i j : Nat) (u v : Int) : upd (upd t i j u) i j v = upd t i j v := by
  funext a b
  unfold upd
  split <;> rfl
theorem partT_row (i : Nat) : tcells (partT i 6) = tcells (partT (i + 1) 0) := by
  unfold tcells
  congr 1
  apply List.map_congr_left
  intro k hk
  have h1 : k % 6 < 6 := Nat.mod_lt _ (by decide)
  unfold partT
  by_cases h : k / 6 < i + 1
  · rw [if_pos (by omega), if_pos (by omega)]
  · rw [if_neg (by omega), if_neg (by omega)]
theorem partT_all : tcells (partT 6 0) = tcells T0 := by rfl

theorem method_known (cs : Array Value) (w : World) : (method 283 157 (.agg cs) "blockworks/pair.put").run Try.prog w = .ok (122, .agg cs) w := by kernel_rfl
theorem method_shown (cs : Array Value) (w : World) : (method 283 159 (.agg cs) "blockworks/pair.put").run Try.prog w = .ok (124, .agg cs) w := by kernel_rfl

set_option maxRecDepth 100000 in
set_option maxHeartbeats 4000000 in
theorem tables_seq (bnds : List Bnd) (hok : ∀ x ∈ bnds, okB x) (b1 b2 bp : Nat) (bs rs mv lv : Value) (zl zh rl rh : Int) (hz : zl ≤ zh) (hr : rl ≤ rh) (hz1 : -1000 ≤ zl) (hz2 : zh ≤ 1000) (hq1 : -1000 ≤ rl) (hq2 : rh ≤ 1000)
    (hFW : ∀ c ∈ comps zl zh rl rh, ∀ k, k ≤ 216 → ∀ i j, i < 6 → j < 6 → -1000000000000 ≤ fwN (rawT bnds c) k i j ∧ fwN (rawT bnds c) k i j ≤ 1000000000000)
    (Rd : Nat → Prop) (W : World) (hr1 : Rd b1) (hr2 : Rd b2) (hr3 : Rd bp)
    (hb1 : W.heap[b1]? = some (boxPtr bp)) (hbp : W.heap[bp]? = some (benchObj bs rs zl zh rl rh mv)) (hb2 : W.heap[b2]? = some (.cells #[lv] 131 (0, 0))) (hlv : ListAt W lv (bnds.map encB) Rd) :
    SeqAt Try.prog 95 #[.pointer (some ⟨b1, 0, none⟩), .pointer (some ⟨b2, 0, none⟩)] encCT (outs bnds (comps zl zh rl rh)) Rd W := by
  intro l Mut J Jx hM hJ hJx hY h0
  have HM := Lib.hid hM
  have HJ := Lib.hid hJ
  have HJx := Lib.hid hJx
  have HY := Lib.hid hY
  have HFW := Lib.hid hFW
  have HOK := Lib.hid hok
  clear hM hJ hJx hY hFW hok
  have hlt1 := lt_of_block hb1
  have hlt2 := lt_of_block hbp
  have hlt3 := lt_of_block hb2
  refine calls_of_wp_marks Try.func95 rfl ?_
  simp only [Try.ntmps95, List.size_toArray, List.length_cons, List.length_nil, Nat.reduceAdd, Nat.reduceSub, Array.replicate_succ, Array.replicate_zero, List.push_toArray, List.append_toArray, List.nil_append, List.cons_append]
  have c0 : W.cell? ⟨b1, 0, none⟩ = some (.pointer (some ⟨bp, 0, none⟩)) := by rw [cell_of_row W b1 _ _ _ _ hb1]; rfl
  go_wp2_with fail
  refine (comparators_any bp _).mono ?_
  rintro e w1 ⟨rfl, rfl⟩
  go_wp2_with fail
  obtain ⟨W1, hW1⟩ : ∃ W1, W1 = (W.alloc (.cells #[.func (.yield l) #[] #[]] 147)).alloc (boxPtr bp) := ⟨_, rfl⟩
  rw [← hW1]
  have hsz : W1.heap.size = W.heap.size + 2 := by rw [hW1]; simp
  have hkw : ∀ M, Keeps M W W1 := fun M => by rw [hW1]; exact (Keeps.alloc _ _ _).trans (Keeps.alloc _ _ _)
  have hbel : Below W.heap.size W W1 := (hkw (fun _ => False)).below (Nat.le_refl _) (fun _ _ h => h)
  have hy0 : W1.heap[W.heap.size]? = some (.cells #[.func (.yield l) #[] #[]] 147 (0, 0)) := by rw [hW1]; exact (hget_old _ _ _ (by simp)).trans (heap_alloc_at _ _ _ rfl)
  have hbx : W1.heap[W.heap.size + 1]? = some (boxPtr bp) := by rw [hW1]; exact heap_alloc_at _ _ _ (by simp)
  have hbp1 : W1.heap[bp]? = some (benchObj bs rs zl zh rl rh mv) := (hbel.block bp hlt2).trans hbp
  have HW1 := Lib.hid hW1
  have HSZ := Lib.hid hsz
  have HKW := Lib.hid hkw
  have HY0 := Lib.hid hy0
  have HBX := Lib.hid hbx
  have HBP1 := Lib.hid hbp1
  have HB1 := Lib.hid hb1
  have HB2 := Lib.hid hb2
  have HBP := Lib.hid hbp
  have HLV := Lib.hid hlv
  clear hW1 hkw hbel hy0 hbx hbp1 hb1 hb2 hbp hlv c0
  refine wp_range (gf := 101) (lb := #[.pointer (some ⟨W.heap.size + 1, 0, none⟩)]) rfl (enters_of Try.func101 (by kernel_rfl) rfl) (encs := fun c : Int × Int => #[.agg #[.int .i64 c.1, .int .i64 c.2]]) (fun _ => rfl)
    (fun k => k = W.heap.size + 1 ∨ k = bp) Mut ?hRd ?hM (comps zl zh rl rh) ?hseq
    (fun pre G' Wr => ∃ G, J (outs bnds pre) G Wr ∧ (∀ k, G k → G' k) ∧ Keeps Mut W1 Wr)
    (fun c pre G' Wr => c = .ret ∧ ∃ G preO y restO, outs bnds (comps zl zh rl rh) = preO ++ y :: restO ∧ Jx (preO ++ [y]) G Wr ∧ (∀ k, G k → G' k) ∧ Keeps Mut W1 Wr)
    ?hI ?hIx ?h0 ?hround ?hdone ?hstop
  case hRd => rintro k (rfl | rfl) <;> omega
  case hM =>
    intro k hk
    have := HM.out k hk
    refine ⟨by omega, ?_⟩
    rintro (rfl | rfl)
    · omega
    · exact this.2 hr3
  case hseq =>
    intro W' hb
    exact comparators_seq (W.heap.size + 1) bp bs rs mv zl zh rl rh hz hr (by omega) (by omega) (by omega) (by omega) W' ((hb.block _ (by omega)).trans HBX.out) ((hb.block _ (by omega)).trans HBP1.out)
  case hI =>
    rintro s G' A B ⟨G, hj, hg, hk⟩ hkk
    exact ⟨G, HJ.out _ _ _ _ hj (hkk.mono fun k _ h => ⟨by omega, fun hg' => h.2 (hg _ hg')⟩), hg, hk.transNew hkk (fun i h => h.1)⟩
  case hIx =>
    rintro c s G' A B ⟨hc, G, preO, y, restO, hx, hj, hg, hk⟩ hkk
    exact ⟨hc, G, preO, y, restO, hx, HJx.out _ _ _ _ hj (hkk.mono fun k _ h => ⟨by omega, fun hg' => h.2 (hg _ hg')⟩), hg, hk.transNew hkk (fun i h => h.1)⟩
  case h0 => exact ⟨fun _ => False, HJ.out _ _ _ _ h0 (HKW.out _), fun _ h => h, Keeps.refl _ _⟩
  case hround =>
    rintro l2 pre x rest G' Wr hxs ⟨G, hj, hg, hk⟩ hl1 hl2 hGl
    obtain ⟨z, r⟩ := x
    have hzr : (-1000000 ≤ z ∧ z ≤ 1000000) ∧ ∀ m : Int, 0 ≤ m → m ≤ 60 → -1000000 ≤ r * m ∧ r * m ≤ 1000000 := by
      have hmem : ((z, r) : Int × Int) ∈ comps zl zh rl rh := by rw [hxs]; simp
      obtain ⟨h1, h2, h3, h4⟩ := comps_mem hmem
      refine ⟨by omega, fun m h0 h60 => ?_⟩
      exact mul_bounds r m (by omega) (by omega) h0 h60
    have ZR := Lib.hid hzr
    clear hzr
    have HXS := Lib.hid hxs
    have HJJ := Lib.hid hj
    have HG := Lib.hid hg
    have HK := Lib.hid hk
    have HGL := Lib.hid hGl
    clear hxs hj hg hk hGl
    gi_wp2
    refine ⟨Keeps.alloc _ _ _, ?_⟩
    intro W2 hk2 hs2
    have hs2' : W2.heap.size = Wr.heap.size + 1 := by rw [hs2]; simp
    have hcb : W2.heap[Wr.heap.size]? = some (.cells #[.int .i64 z, .int .i64 r] 135 (0, 0)) := (hk2.block _ (by simp) (by omega)).trans (heap_alloc_at _ _ _ rfl)
    have hold : ∀ k, k < Wr.heap.size → k ≠ l2 → W2.heap[k]? = Wr.heap[k]? := fun k hk hne => (hk2.block k (by simp; omega) hne).trans (Below.heap_alloc _ _ _ hk)
    have hM1 : ∀ k, k < W1.heap.size → ¬ Mut k → W2.heap[k]? = W1.heap[k]? := fun k hk hm => (hold k (by omega) (by omega)).trans (HK.out.block k hk hm)
    have hyb : W2.heap[W.heap.size]? = some (.cells #[.func (.yield l) #[] #[]] 147 (0, 0)) := (hM1 _ (by omega) (fun h => by have := (HM.out _ h).1; omega)).trans HY0.out
    have hlb : W2.heap[b2]? = some (.cells #[lv] 131 (0, 0)) := (hM1 _ (by omega) (fun h => (HM.out _ h).2 hr2)).trans (((HKW.out (fun _ => False)).block _ hlt3 (fun h => h)).trans HB2.out)
    have HOLD := Lib.hid hold
    have HM1 := Lib.hid hM1
    have HK2 := Lib.hid hk2
    have HCB := Lib.hid hcb
    have HYB := Lib.hid hyb
    have HLB := Lib.hid hlb
    have HS2 := Lib.hid hs2'
    clear hold hM1 hk2 hcb hyb hlb hs2 hs2'
    gi_wp2
    gi_loopw [16] (fun s wr => ∃ i : Nat, i ≤ 6 ∧ s = .int .i64 i ∧ wr.heap[W2.heap.size]? = some (.cells (tcells (partT i 0)) 138 (0, 0)) ∧ Below W2.heap.size W2 wr) (fun s _ => 6 - (intOf s).toNat)
    case atStart => exact ⟨0, by omega, rfl, by rw [partT_zero]; exact heap_alloc_at _ _ _ rfl, (Below.refl _ _).alloc (Nat.le_refl _) _⟩
    case round =>
      obtain ⟨i, hi, rfl, hg, hb⟩ := hrel
      have HG1 := Lib.hid hg
      have HB := Lib.hid hb
      clear hg hb
      by_cases hlt : i < 6
      · gi_wp2
        gi_loopw [19] (fun s wr => ∃ j : Nat, j ≤ 6 ∧ s = .int .i64 j ∧ wr.heap[W2.heap.size]? = some (.cells (tcells (partT i j)) 138 (0, 0)) ∧ Below W2.heap.size W2 wr) (fun s _ => 6 - (intOf s).toNat)
        case atStart => exact ⟨0, by omega, rfl, HG1.out, HB.out⟩
        case round =>
          obtain ⟨j, hj, rfl, hg, hb⟩ := hrel
          have HG2 := Lib.hid hg
          have HB2' := Lib.hid hb
          by_cases hltj : j < 6
          · have c1 := cell_tab hg i j hlt hltj
            have f1 := frozen_of_row wr W2.heap.size (i * 6 + j) _ _ hg
            have li : (i : Int) < 6 := by omega
            have lj : (j : Int) < 6 := by omega
            have HN := Lib.hid (partT_next i j)
            clear hg hb
            by_cases hij : i = j
            · have heq : ((i : Int) == (j : Int)) = true := by simp [hij]
              have HIJ := Lib.hid hij
              clear hij
              gi_wp2
              go_roundw
              case rel =>
                refine ⟨j + 1, by omega, by go_num, ?_, (HB2'.out.setCell (Nat.le_refl _) _).setCell (Nat.le_refl _) _⟩
                rw [← HN.out, ← upd_upd _ i j 1048576]
                have : T0 i j = 0 := by unfold T0; rw [if_pos HIJ.out]
                rw [this]
                exact heap_setCell_tab (heap_setCell_tab HG2.out i j hlt hltj _) i j hlt hltj _
              case measure => simp [intOf]; omega
            · have heq : ((i : Int) == (j : Int)) = false := by simp; omega
              have HIJ := Lib.hid hij
              clear hij
              gi_wp2
              go_roundw
              case rel =>
                refine ⟨j + 1, by omega, by go_num, ?_, HB2'.out.setCell (Nat.le_refl _) _⟩
                rw [← HN.out]
                have : T0 i j = 1048576 := by unfold T0; rw [if_neg HIJ.out]
                rw [this]
                exact heap_setCell_tab HG2.out i j hlt hltj _
              case measure => simp [intOf]; omega
          · obtain rfl : j = 6 := by omega
            clear hg hb
            gi_wp2
            go_roundw
            case rel => exact ⟨i + 1, by omega, by go_num, by rw [← partT_row]; exact HG2.out, HB2'.out⟩
            case measure => simp [intOf]; omega
      · obtain rfl : i = 6 := by omega
        have HT0 := HG1.out
        rw [partT_all] at HT0
        have HT := Lib.hid HT0
        clear HT0 HG1
        obtain ⟨ao, cap, hlvv, hlen, hel⟩ := HLV.out
        rw [List.length_map] at hlvv hlen
        subst hlvv
        have hel' : ∀ wr, Below W2.heap.size W2 wr → ∀ k (h : k < bnds.length), ∃ b off, ao = some ⟨b, off, none⟩ ∧ wr.cell? ⟨b, off + k, none⟩ = some (encB bnds[k]) := by
          intro wr hbl k hk
          obtain ⟨b, off, h1, h2, h3, h4⟩ := hel k (by simpa using hk)
          refine ⟨b, off, h1, ?_⟩
          have e1 : wr.heap[b]? = W.heap[b]? := (hbl.block b (by have := HS2.out; omega)).trans ((HM1.out b (by omega) (fun h => (HM.out _ h).2 h2)).trans ((HKW.out (fun _ => False)).block b h3 (fun h => h)))
          rw [World.cell?_of_block (w := W) (a := ⟨b, off + k, none⟩) e1, h4]
          simp
        have HEL := Lib.hid hel'
        clear hel hel'
        have hl2' : wr.cell? ⟨b2, 0, none⟩ = some (.slice ao bnds.length cap) := by
          have e1 : wr.heap[b2]? = _ := (HB.out.block b2 (by have := HS2.out; omega)).trans HLB.out
          rw [cell_of_row wr b2 _ _ _ _ e1]
          simp
        gi_wp2
        gi_loopw [37] (fun s wr => ∃ k : Nat, k ≤ bnds.length ∧ s = .int .i64 k ∧ wr.heap[W2.heap.size]? = some (.cells (tcells ((bnds.take k).foldl (putB (z, r)) T0)) 138 (0, 0)) ∧ Below W2.heap.size W2 wr) (fun s _ => bnds.length - (intOf s).toNat)
        case atStart => exact ⟨0, by omega, rfl, by simpa using HT.out, HB.out⟩
        case round =>
          clear hl2'
          obtain ⟨k, hk, rfl, hg, hb⟩ := hrel
          have HG2 := Lib.hid hg
          have HB3 := Lib.hid hb
          clear hg hb
          by_cases hlt : k < bnds.length
          · obtain ⟨b, off, rfl, hcell⟩ := HEL.out wr HB3.out k hlt
            have hm : bnds[k] ∈ bnds := List.getElem_mem hlt
            have hokx := HOK.out _ hm
            have hnext : (bnds.take (k + 1)).foldl (putB (z, r)) T0 = putB (z, r) ((bnds.take k).foldl (putB (z, r)) T0) bnds[k] := by rw [take_next bnds k hlt, List.foldl_append]; rfl
            generalize bnds[k] = x at hcell hokx hnext
            obtain ⟨t, ht⟩ : ∃ t, (bnds.take k).foldl (putB (z, r)) T0 = t := ⟨_, rfl⟩
            have HTT := HG2.out
            rw [ht] at HTT hnext
            have HG3 := Lib.hid HTT
            have HNX := Lib.hid hnext
            clear HTT HG2 hnext hm
            obtain ⟨kn, xa, xb, xlo, xhi, xm⟩ := x
            obtain ⟨o1, o2, o3, o4, o5, o6, o7, o8, o9⟩ := hokx
            have hcb2 := (HB3.out.block Wr.heap.size (by have := HS2.out; omega)).trans HCB.out
            have d0 : wr.cell? ⟨Wr.heap.size, 0, none⟩ = some (.int .i64 z) := by rw [cell_of_row wr _ _ _ _ _ hcb2]; rfl
            have d1 : wr.cell? ⟨Wr.heap.size, 1, none⟩ = some (.int .i64 r) := by rw [cell_of_row wr _ _ _ _ _ hcb2]; rfl
            clear hcb2
            cases kn with
            | true =>
              have he : encB ⟨true, xa, xb, xlo, xhi, xm⟩ = .iface 157 (.agg #[.int .i64 xa, .int .i64 xb, .int .i64 xlo, .int .i64 xhi]) := rfl
              rw [he] at hcell
              clear he
              have hmt := method_known
              gi_wp2_with (first | (refine wpListIn_value rfl (by intro c h; cases h) (run_load_row 138 _ rfl W2.heap.size rfl 138 (tcells t) (0, 0) _ HG3.out underTab rfl (sizeTab _)) ?_))
              refine ⟨trivial, rfl, CallsIn.inRound l2 (callsIn_wide.2 ((kput_any xa xb xlo xhi z r t o1 o2 (by omega) _).mono ?_))⟩
              rintro e w2 ⟨rfl, hb2⟩
              have hlw := lt_of_block HG3.out
              have HG4 := Lib.hid ((hb2.block W2.heap.size hlw).trans HG3.out)
              have HB4 := Lib.hid (HB3.out.trans (hb2.mono (by have := HB3.out.size; omega)))
              clear hb2 d0 d1 hmt
              gi_wp2_with (first | (refine wpListIn_done rfl (by intro c h; cases h) (run_store_row 138 _ _ rfl W2.heap.size (tcells (putT t xa xb xlo xhi)) rfl rfl 138 (tcells t) HG4.out (sizeTab _) ((tcells_size _).trans (tcells_size _).symm) (tcells_one _)) ?_))
              go_roundw
              case rel => (repeat apply Exists.intro); exact ⟨⟨k + 1, by omega, by go_num, by rw [HNX.out]; exact setRow_heap _ _ _ _ _ _ HG4.out, below_setRow HB4.out (Nat.le_refl _) _⟩, rfl⟩
              case measure => simp [intOf]; omega
            | false =>
              have he : encB ⟨false, xa, xb, xlo, xhi, xm⟩ = .iface 159 (.agg #[.int .i64 xa, .int .i64 xb, .int .i64 xlo, .int .i64 xhi, .int .i64 xm]) := rfl
              rw [he] at hcell
              clear he
              have hmt := method_shown
              gi_wp2_with (first | (refine wpListIn_value rfl (by intro c h; cases h) (run_load_row 138 _ rfl W2.heap.size rfl 138 (tcells t) (0, 0) _ HG3.out underTab rfl (sizeTab _)) ?_))
              refine ⟨trivial, rfl, CallsIn.inRound l2 (callsIn_wide.2 ((sput_any xa xb xlo xhi xm z r t o1 o2 (by omega) (by have := o7 (by simp); omega) ZR.out.1 (ZR.out.2 xm o8 o9) _).mono ?_))⟩
              rintro e w2 ⟨rfl, hb2⟩
              have hlw := lt_of_block HG3.out
              have HG4 := Lib.hid ((hb2.block W2.heap.size hlw).trans HG3.out)
              have HB4 := Lib.hid (HB3.out.trans (hb2.mono (by have := HB3.out.size; omega)))
              clear hb2 d0 d1 hmt
              gi_wp2_with (first | (refine wpListIn_done rfl (by intro c h; cases h) (run_store_row 138 _ _ rfl W2.heap.size (tcells (putT t xa xb (xlo - showsC z r xm) (xhi - showsC z r xm))) rfl rfl 138 (tcells t) HG4.out (sizeTab _) ((tcells_size _).trans (tcells_size _).symm) (tcells_one _)) ?_))
              go_roundw
              case rel => (repeat apply Exists.intro); exact ⟨⟨k + 1, by omega, by go_num, by rw [HNX.out]; exact setRow_heap _ _ _ _ _ _ HG4.out, below_setRow HB4.out (Nat.le_refl _) _⟩, rfl⟩
              case measure => simp [intOf]; omega
          · obtain rfl : k = bnds.length := by omega
            have hraw : wr.heap[W2.heap.size]? = some (.cells (tcells (rawT bnds (z, r))) 138 (0, 0)) := by have := HG2.out; rwa [List.take_length] at this
            have HR := Lib.hid hraw
            clear hraw HG2
            gi_wp2_with (first | (refine wpListIn_value rfl (by intro c h; cases h) (run_load_row 138 _ rfl W2.heap.size rfl 138 (tcells (rawT bnds (z, r))) (0, 0) _ HR.out underTab rfl (sizeTab _)) ?_))
            have hcm : ((z, r) : Int × Int) ∈ comps zl zh rl rh := by rw [HXS.out]; simp
            refine ⟨trivial, rfl, CallsIn.inRound l2 (callsIn_wide.2 ((closed_any (rawT bnds (z, r)) (HFW.out _ hcm) _).mono ?_))⟩
            rintro e w3 ⟨rfl, hb3⟩
            clear hcm
            have hbl3 := HB3.out.trans (hb3.mono (by have := HB3.out.size; omega))
            have HBL := Lib.hid hbl3
            have HB33 := Lib.hid hb3
            clear hb3 hbl3
            obtain ⟨tab, htab⟩ : ∃ t, fwN (rawT bnds (z, r)) 216 = t := ⟨_, rfl⟩
            have htab' : tabOf bnds (z, r) = tab := htab
            rw [htab]
            have HTAB := Lib.hid htab'
            clear htab htab'
            have hzz : (#[] : Array Value).size = 0 := rfl
            cases hd : diagOk tab with
            | false =>
              have HD := Lib.hid hd
              clear hd hzz
              gi_wp2_with (first | (refine wpListIn_storeA rfl 138 _ _ rfl w3.heap.size (tcells tab) rfl rfl 138 _ (heap_alloc_at _ _ _ rfl) (sizeTab _) (by rw [tcells_size]; rfl) (tcells_one _) ?_; intro wy hyr hyk hys; have hby := Lib.hid (HBL.out.trans ((((Below.refl _ _).alloc (Nat.le_refl _) _).mono (by have := HBL.out.size; omega)).trans (hyk.below (B := W2.heap.size) (by have := HBL.out.size; simp; omega) (fun k h e => by have := HBL.out.size; omega)))); clear hyr hyk hys))
              repeat (refine ⟨fun _ _ => trivial, ?_⟩; gi_wp2)
              have hkr : Keeps (fun k => W.heap.size ≤ k ∧ ¬ G k) Wr W2 := (Keeps.alloc _ _ _).trans (HK2.out.mono fun k _ h => by subst h; exact ⟨by omega, fun hg => by have := HGL.out _ (HG.out _ hg); omega⟩)
              have hkr2 : Keeps (fun k => W.heap.size ≤ k ∧ ¬ G k) W2 wy := Keeps.of_below hby.out (fun k h1 h2 => by omega)
              have hjy := HJ.out _ _ _ _ HJJ.out (hkr.trans hkr2)
              have hon : outs bnds (pre ++ [(z, r)]) = outs bnds pre := by
                rw [outs_append, outs_no bnds (z, r) (by rw [HTAB.out]; exact HD.out), List.append_nil]
              have h1 : Keeps Mut W2 wy := Keeps.of_below hby.out (fun k h1 h2 => by omega)
              have h2 : Keeps Mut W1 W2 := (HK.out.trans (Keeps.alloc _ _ _)).transNew HK2.out (fun i hi => by omega)
              exact ⟨h1, G, by rw [hon]; exact hjy, fun k h => .inl (HG.out k h), h2.trans h1⟩
            | true =>
              have HD := Lib.hid hd
              clear hd hzz
              have hK1 : ∀ wy, Below W2.heap.size W2 wy → wy.cell? ⟨W.heap.size, 0, none⟩ = some (.func (.yield l) #[] #[]) ∧ wy.cell? ⟨Wr.heap.size, 0, none⟩ = some (.int .i64 z) ∧ wy.cell? ⟨Wr.heap.size, 1, none⟩ = some (.int .i64 r) := by
                intro wy hb
                have hs := HS2.out
                have k0 := (hb.block W.heap.size (by omega)).trans HYB.out
                have k1 := (hb.block Wr.heap.size (by omega)).trans HCB.out
                exact ⟨by rw [cell_of_row wy _ _ _ _ _ k0]; rfl, by rw [cell_of_row wy _ _ _ _ _ k1]; rfl, by rw [cell_of_row wy _ _ _ _ _ k1]; rfl⟩
              have HK1 := Lib.hid hK1
              clear hK1
              gi_wp2_with (first | (refine wpListIn_storeA rfl 138 _ _ rfl w3.heap.size (tcells tab) rfl rfl 138 _ (heap_alloc_at _ _ _ rfl) (sizeTab _) (by rw [tcells_size]; rfl) (tcells_one _) ?_; intro wy hyr hyk hys; have HYR := Lib.hid hyr; have hby := Lib.hid (HBL.out.trans ((((Below.refl _ _).alloc (Nat.le_refl _) _).mono (by have := HBL.out.size; omega)).trans (hyk.below (B := W2.heap.size) (by have := HBL.out.size; simp; omega) (fun k h e => by have := HBL.out.size; omega)))); obtain ⟨d0, d1, d2⟩ := HK1.out wy hby.out; clear hyr hyk hys) | (refine wpListIn_valueG (by rfl) (by intro c h; cases h) (run_load_row 138 _ rfl w3.heap.size rfl 138 (tcells tab) (0, 0) _ HYR.out underTab rfl (sizeTab _)) ?_))
              have hkr : Keeps (fun k => W.heap.size ≤ k ∧ ¬ G k) Wr W2 := (Keeps.alloc _ _ _).trans (HK2.out.mono fun k _ h => by subst h; exact ⟨by omega, fun hg => by have := HGL.out _ (HG.out _ hg); omega⟩)
              have hkr2 : Keeps (fun k => W.heap.size ≤ k ∧ ¬ G k) W2 wy := Keeps.of_below hby.out (fun k h1 h2 => by omega)
              have hjy := HJ.out _ _ _ _ HJJ.out (hkr.trans hkr2)
              have hxo : outs bnds (comps zl zh rl rh) = outs bnds pre ++ ((z, r), tab) :: outs bnds rest := by
                rw [HXS.out, show pre ++ (z, r) :: rest = pre ++ ([(z, r)] ++ rest) from rfl, outs_append, outs_append, outs_yes bnds (z, r) (by rw [HTAB.out]; exact HD.out), HTAB.out]
                rfl
              have hon : outs bnds (pre ++ [(z, r)]) = outs bnds pre ++ [((z, r), tab)] := by
                rw [outs_append, outs_yes bnds (z, r) (by rw [HTAB.out]; exact HD.out), HTAB.out]
              obtain ⟨fn, tmps, assign, body, hy, hR⟩ := HY.out (outs bnds pre) ((z, r), tab) (outs bnds rest) G wy hxo hjy (by have := hby.out.size; have := HS2.out; omega)
              have hy' : (Instr.yield l #[.agg #[.int .i64 z, .int .i64 r], .agg (tcells tab)]).run Try.prog wy = .ok (.round l fn tmps assign body) wy := hy
              have HXO := Lib.hid hxo
              have HON := Lib.hid hon
              have HR2 := Lib.hid hR
              clear hkr hkr2 hjy hxo hon hy hR d0 d1 d2
              rw [hy']
              gi_wp2
              refine ⟨rfl, RoundIn.mono (show RoundIn (Fence.wide.inRound l2) 0 Try.prog l fn tmps assign body wy _ from HR2.out) ?_⟩
              have hgrow : ∀ W3, wy.heap.size ≤ W3.heap.size → ∀ k, Grow G wy W3 k → Grow G' Wr W3 k := by
                rintro W3 hs k (h | h)
                · exact .inl (HG.out k h)
                · exact .inr ⟨by have := hby.out.size; have := HS2.out; omega, h.2⟩
              have hkeep : ∀ W3, Keeps Mut wy W3 → Keeps Mut W2 W3 ∧ Keeps Mut W1 W3 := by
                intro W3 hk3
                have h1 : Keeps Mut W2 W3 := (Keeps.of_below hby.out (fun k h1 h2 => by omega)).trans hk3
                have h2 : Keeps Mut W1 W2 := (HK.out.trans (Keeps.alloc _ _ _)).transNew HK2.out (fun i hi => by omega)
                exact ⟨h1, h2.trans h1⟩
              have HGR := Lib.hid hgrow
              have HKP := Lib.hid hkeep
              clear hgrow hkeep
              rintro e W3 ⟨hk3, ⟨rfl, hj3⟩ | ⟨rfl, hj3⟩⟩
              · have HK3 := Lib.hid hk3
                have HJ3 := Lib.hid hj3
                clear hk3 hj3
                gi_wp2
                exact ⟨(HKP.out W3 HK3.out).1, Grow G wy W3, by rw [HON.out]; exact HJ3.out, HGR.out W3 HK3.out.size, (HKP.out W3 HK3.out).2⟩
              · have HK3 := Lib.hid hk3
                have HJ3 := Lib.hid hj3
                clear hk3 hj3
                gi_wp2
                exact ⟨(HKP.out W3 HK3.out).1, rfl, Grow G wy W3, _, _, _, HXO.out, HJ3.out, HGR.out W3 HK3.out.size, (HKP.out W3 HK3.out).2⟩
  case hdone =>
    rintro D G' W' ⟨G, hj, hg, hk⟩ hGD hkk hD hDs
    have HJJ := Lib.hid hj
    have HG := Lib.hid hg
    have HK := Lib.hid hk
    have HGD := Lib.hid hGD
    have HDD := Lib.hid hD
    clear hj hg hk hGD hkk hD
    go_wp2
    refine ⟨by simp, .inl ⟨_, _, rfl, run_takeDeferred HDD.out, ?_⟩⟩
    refine ⟨.tuple #[], results_none rfl _ _ _, ⟨_, rfl⟩, ((HKW.out Mut).trans (HK.out.transNew (Keeps.putObj (Mut := fun k => k = D) _ _ _ rfl) (fun i h => by omega))), G, .inl ?_⟩
    exact HJ.out _ _ _ _ HJJ.out (Keeps.putObj _ _ _ ⟨by omega, fun h => by have := HGD.out _ (HG.out _ h); omega⟩)
  case hstop =>
    rintro D c pre x rest G' W' hxs ⟨rfl, G, preO, y, restO, hx, hj, hg, hk⟩ hGD hkk hD hDs
    have HJJ := Lib.hid hj
    have HG := Lib.hid hg
    have HK := Lib.hid hk
    have HX := Lib.hid hx
    have HGD := Lib.hid hGD
    have HDD := Lib.hid hD
    clear hj hg hk hGD hkk hD hx hxs
    go_wp2
    refine ⟨by simp, .inl ⟨_, _, rfl, run_takeDeferred HDD.out, ?_⟩⟩
    refine ⟨.tuple #[], results_none rfl _ _ _, ⟨_, rfl⟩, ((HKW.out Mut).trans (HK.out.transNew (Keeps.putObj (Mut := fun k => k = D) _ _ _ rfl) (fun i h => by omega))), G, .inr ⟨_, _, _, HX.out, ?_⟩⟩
    exact HJx.out _ _ _ _ HJJ.out (Keeps.putObj _ _ _ ⟨by omega, fun h => by have := HGD.out _ (HG.out _ h); omega⟩)

end Go.Proofs.Ytabbmihakoeegaa

/- Bounds on what follows from a table (plain). -/
namespace Go.Proofs.Ytabbmihakoeegaa
set_option linter.unusedVariables false
set_option linter.unusedSimpArgs false

def getL (c : List Int) (i j : Nat) : Int := c.getD (i * 6 + j) 0
def stepL (k : Nat) (c : List Int) : List Int := c.set (k / 6 % 6 * 6 + k % 6) (min (getL c (k / 6 % 6) (k % 6)) (getL c (k / 6 % 6) (k / 36) + getL c (k / 36) (k % 6)))
def fwL : Nat → List Int
  | 0 => List.replicate 36 (-3145728)
  | k + 1 => stepL k (fwL k)
def chkL : Nat → Nat → List Int → Bool
  | 0, _, c => c.all fun x => decide (-1000000000000 ≤ x)
  | n + 1, k, c => (c.all fun x => decide (-1000000000000 ≤ x)) && chkL n (k + 1) (stepL k c)
theorem chk_all : chkL 216 0 (fwL 0) = true := by decide +kernel
theorem fwL_length (k : Nat) : (fwL k).length = 36 := by
  induction k with
  | zero => simp [fwL]
  | succ k ih => simp [fwL, stepL, ih]
theorem chk_spec : ∀ n k, chkL n k (fwL k) = true → ∀ j, j ≤ n → (fwL (k + j)).all (fun x => decide (-1000000000000 ≤ x)) = true := by
  intro n
  induction n with
  | zero =>
    intro k h j hj
    obtain rfl : j = 0 := by omega
    rw [Nat.add_zero]
    exact h
  | succ n ih =>
    intro k h j hj
    simp only [chkL, Bool.and_eq_true] at h
    cases j with
    | zero => exact h.1
    | succ j =>
      have := ih (k + 1) h.2 j (by omega)
      rwa [show k + (j + 1) = k + 1 + j by omega]
theorem getL_low (k i j : Nat) (hk : k ≤ 216) (hi : i < 6) (hj : j < 6) : -1000000000000 ≤ getL (fwL k) i j := by
  have h := chk_spec 216 0 chk_all k hk
  rw [Nat.zero_add] at h
  have hl := fwL_length k
  have hx : i * 6 + j < (fwL k).length := by omega
  have hm := (List.all_eq_true.1 h) _ (List.getElem_mem hx)
  unfold getL
  rw [List.getD_eq_getElem?_getD, List.getElem?_eq_getElem hx]
  simpa using hm
theorem fw_low (t : Tab) (h0 : ∀ i j, i < 6 → j < 6 → -3145728 ≤ t i j) : ∀ k, k ≤ 216 → ∀ i j, i < 6 → j < 6 → getL (fwL k) i j ≤ fwN t k i j := by
  intro k
  induction k with
  | zero =>
    intro _ i j hi hj
    have : i * 6 + j < 36 := by omega
    have h1 : getL (fwL 0) i j = -3145728 := by
      unfold getL fwL
      rw [List.getD_eq_getElem?_getD, List.getElem?_replicate, if_pos this]
      rfl
    rw [h1]
    exact h0 i j hi hj
  | succ k ih =>
    intro hk i j hi hj
    have ih' := ih (by omega)
    have b1 : k / 6 % 6 < 6 := Nat.mod_lt _ (by decide)
    have b2 : k % 6 < 6 := Nat.mod_lt _ (by decide)
    have b3 : k / 36 < 6 := by omega
    have l := fwL_length k
    show getL (stepL k (fwL k)) i j ≤ stepN k (fwN t k) i j
    unfold stepN upd
    have e1 := ih' _ _ b1 b2
    have e2 := ih' _ _ b1 b3
    have e3 := ih' _ _ b3 b2
    have hset : getL (stepL k (fwL k)) i j = if i = k / 6 % 6 ∧ j = k % 6 then min (getL (fwL k) (k / 6 % 6) (k % 6)) (getL (fwL k) (k / 6 % 6) (k / 36) + getL (fwL k) (k / 36) (k % 6)) else getL (fwL k) i j := by
      unfold stepL
      generalize (min (getL (fwL k) (k / 6 % 6) (k % 6)) (getL (fwL k) (k / 6 % 6) (k / 36) + getL (fwL k) (k / 36) (k % 6))) = v
      generalize k / 6 % 6 = p at *
      generalize k % 6 = q at *
      unfold getL
      rw [List.getD_eq_getElem?_getD, List.getElem?_set, List.getD_eq_getElem?_getD]
      by_cases e : i = p ∧ j = q
      · obtain ⟨rfl, rfl⟩ := e
        rw [if_pos rfl, if_pos (by omega), if_pos ⟨rfl, rfl⟩]
        rfl
      · rw [if_neg (by omega), if_neg e]
    rw [hset]
    split
    · omega
    · exact ih' i j hi hj
theorem fw_high (t : Tab) (k i j : Nat) : fwN t k i j ≤ t i j := by
  induction k with
  | zero => exact Int.le_refl _
  | succ k ih =>
    show stepN k (fwN t k) i j ≤ t i j
    unfold stepN upd
    split
    · rename_i h
      obtain ⟨rfl, rfl⟩ := h
      omega
    · exact ih
theorem least_range (t : Tab) (a b : Nat) (m L : Int) (h : ∀ i j, i < 6 → j < 6 → L ≤ t i j ∧ t i j ≤ 1048576) (hm : L ≤ m) : ∀ i j, i < 6 → j < 6 → L ≤ leastT t a b m i j ∧ leastT t a b m i j ≤ 1048576 := by
  intro i j hi hj
  have := h i j hi hj
  unfold leastT upd
  split
  · rename_i e
    obtain ⟨rfl, rfl⟩ := e
    omega
  · exact this
theorem putB_range (c : Int × Int) (x : Bnd) (t : Tab) (hx : okB x) (hz : -1000 ≤ c.1 ∧ c.1 ≤ 1000) (hr : -1000 ≤ c.2 ∧ c.2 ≤ 1000) (h : ∀ i j, i < 6 → j < 6 → -3145728 ≤ t i j ∧ t i j ≤ 1048576) :
    ∀ i j, i < 6 → j < 6 → -3145728 ≤ putB c t x i j ∧ putB c t x i j ≤ 1048576 := by
  obtain ⟨h1, h2, h3, h4, h5, h6, h7, h8, h9⟩ := hx
  have hb := mul_bounds c.2 x.m hr.1 hr.2 h8 h9
  unfold putB putT
  split
  · exact least_range _ _ _ _ _ (least_range _ _ _ _ _ h (by omega)) (by omega)
  · have : -200000 ≤ showsC c.1 c.2 x.m ∧ showsC c.1 c.2 x.m ≤ 200000 := by unfold showsC; omega
    exact least_range _ _ _ _ _ (least_range _ _ _ _ _ h (by omega)) (by omega)
theorem rawT_range (c : Int × Int) (hz : -1000 ≤ c.1 ∧ c.1 ≤ 1000) (hr : -1000 ≤ c.2 ∧ c.2 ≤ 1000) (l : List Bnd) (hok : ∀ x ∈ l, okB x) : ∀ i j, i < 6 → j < 6 → -3145728 ≤ rawT l c i j ∧ rawT l c i j ≤ 1048576 := by
  unfold rawT
  suffices h : ∀ (l : List Bnd) (t : Tab), (∀ x ∈ l, okB x) → (∀ i j, i < 6 → j < 6 → -3145728 ≤ t i j ∧ t i j ≤ 1048576) → ∀ i j, i < 6 → j < 6 → -3145728 ≤ l.foldl (putB c) t i j ∧ l.foldl (putB c) t i j ≤ 1048576 by
    refine h l T0 hok (fun i j _ _ => ?_)
    unfold T0
    split <;> omega
  intro l
  induction l with
  | nil => intro t _ ht; exact ht
  | cons x l ih => intro t hok ht; exact ih _ (fun y hy => hok y (List.mem_cons_of_mem _ hy)) (putB_range c x t (hok x List.mem_cons_self) hz hr ht)
/-- Whatever follows from a table is in range. -/
theorem fw_range (l : List Bnd) (hok : ∀ x ∈ l, okB x) (zl zh rl rh : Int) (hz1 : -1000 ≤ zl) (hz2 : zh ≤ 1000) (hr1 : -1000 ≤ rl) (hr2 : rh ≤ 1000) :
    ∀ c ∈ comps zl zh rl rh, ∀ k, k ≤ 216 → ∀ i j, i < 6 → j < 6 → -1000000000000 ≤ fwN (rawT l c) k i j ∧ fwN (rawT l c) k i j ≤ 1000000000000 := by
  rintro ⟨z, r⟩ hc k hk i j hi hj
  obtain ⟨h1, h2, h3, h4⟩ := comps_mem hc
  have hr := rawT_range (z, r) (by simp only; omega) (by simp only; omega) l hok
  have a1 := getL_low k i j hk hi hj
  have a2 := fw_low _ (fun i j hi hj => (hr i j hi hj).1) k hk i j hi hj
  have a3 := fw_high (rawT l (z, r)) k i j
  have a4 := hr i j hi hj
  omega

end Go.Proofs.Ytabbmihakoeegaa

/- A pair in memory; its bounds. -/
namespace Go.Proofs.Ytabbmihakoeegaa
set_option linter.unusedVariables false
set_option linter.unusedSimpArgs false
open Go.RowKit Go.Shelf

/-- A reading: of which blocks, at which minute, from a number to a number. -/
structure RdD where
  a : Int
  b : Int
  m : Int
  lo : Int
  hi : Int
/-- A pair. -/
structure PairD where
  bs : List (Int × Int)
  zl : Int
  zh : Int
  rl : Int
  rh : Int
  rs : List RdD

def SpansAt (W : World) (v : Value) (l : List (Int × Int)) (Rd : Nat → Prop) : Prop :=
  ∃ ao cap, v = .slice ao l.length cap ∧ l.length ≤ cap ∧ cap ≤ maxLen ∧ ∀ i (h : i < l.length), ∃ b off, ao = some ⟨b, off, none⟩ ∧ Rd b ∧ b < W.heap.size ∧
    W.cell? ⟨b, off + i * 2, none⟩ = some (.int .i64 l[i].1) ∧ W.cell? ⟨b, off + i * 2 + 1, none⟩ = some (.int .i64 l[i].2)
def ReadsAt (W : World) (v : Value) (l : List RdD) (Rd : Nat → Prop) : Prop :=
  ∃ ao cap, v = .slice ao l.length cap ∧ l.length ≤ cap ∧ cap ≤ maxLen ∧ ∀ i (h : i < l.length), ∃ b off, ao = some ⟨b, off, none⟩ ∧ Rd b ∧ b < W.heap.size ∧
    W.cell? ⟨b, off + i * 5, none⟩ = some (.int .i64 l[i].a) ∧ W.cell? ⟨b, off + i * 5 + 1, none⟩ = some (.int .i64 l[i].b) ∧ W.cell? ⟨b, off + i * 5 + 2, none⟩ = some (.int .i64 l[i].m) ∧
    W.cell? ⟨b, off + i * 5 + 3, none⟩ = some (.int .i64 l[i].lo) ∧ W.cell? ⟨b, off + i * 5 + 4, none⟩ = some (.int .i64 l[i].hi)
def blockB (i : Nat) (s : Int × Int) : Bnd := ⟨true, i, 5, s.1, s.2, 0⟩
def readB (r : RdD) : Bnd := ⟨false, r.a.toNat, r.b.toNat, r.lo, r.hi, r.m⟩
def blocksL (l : List (Int × Int)) (k : Nat) : List Bnd := (l.take k).mapIdx blockB
def readsL (l : List RdD) (s : Nat) (k : Nat) : List Bnd := (List.range k).filterMap fun i => if s.testBit i then (l[i]?).map readB else none
def boundsL (p : PairD) (s : Nat) : List Bnd := blocksL p.bs p.bs.length ++ readsL p.rs s p.rs.length
theorem blocksL_next (l : List (Int × Int)) (k : Nat) (h : k < l.length) : blocksL l (k + 1) = blocksL l k ++ [blockB k l[k]] := by
  unfold blocksL
  rw [take_next l k h, List.mapIdx_append]
  simp [Nat.min_eq_left (Nat.le_of_lt h)]
theorem encB_one (x : Bnd) : (#[encB x]).all (·.oneCell') = true := by
  unfold encB
  split <;> simp [Value.oneCell']
theorem readsL_no (l : List RdD) (s k : Nat) (h : s.testBit k = false) : readsL l s (k + 1) = readsL l s k := by
  unfold readsL
  rw [List.range_succ, List.filterMap_append]
  simp [h]
theorem readsL_yes (l : List RdD) (s k : Nat) (r : RdD) (h : s.testBit k = true) (hr : l[k]? = some r) : readsL l s (k + 1) = readsL l s k ++ [readB r] := by
  unfold readsL
  rw [List.range_succ, List.filterMap_append]
  simp [h, hr]
theorem readsL_le (l : List RdD) (s k : Nat) : (readsL l s k).length ≤ k := by
  unfold readsL
  refine Nat.le_trans (List.length_filterMap_le _ _) ?_
  simp
theorem underBounds : Try.prog.underlying 131 = some (.slice 152) := by kernel_rfl
theorem bit_test (s k : Nat) (hs : s < 256) : (bits BinOp.and IntKind.u64 ((s : Int) / 2 ^ k) 1 == 1) = s.testBit k := by
  have h1 : ((s : Int) / 2 ^ k) = ((s / 2 ^ k : Nat) : Int) := by simp
  have h2 : s / 2 ^ k ≤ s := Nat.div_le_self _ _
  rw [h1, Nat.testBit_eq_decide_div_mod_eq]
  generalize s / 2 ^ k = q at *
  rw [and_one_u64 _ (by omega) (by omega)]
  rw [Bool.eq_iff_iff]
  simp
  omega
theorem infoBound : (Try.prog.info? 152).map (fun i => (i.zero, i.size, i.bytes)) = some (some .nilIface, 1, 16) := by kernel_rfl

set_option maxRecDepth 100000 in
set_option maxHeartbeats 2000000 in
theorem bounds_any (p : PairD) (bp s : Nat) (hs : s < 256) (bs rs mv : Value) (Rd : Nat → Prop) (w : World) (hbp : w.heap[bp]? = some (benchObj bs rs p.zl p.zh p.rl p.rh mv))
    (hn : p.bs.length ≤ 5) (hm : p.rs.length ≤ 8) (hbs : SpansAt w bs p.bs Rd) (hrs : ReadsAt w rs p.rs Rd) (hab : ∀ r ∈ p.rs, 0 ≤ r.a ∧ 0 ≤ r.b) :
    Calls Try.prog 84 #[.pointer (some ⟨bp, 0, none⟩), .int .u64 s] w fun e w' => ∃ v, e = .returned v ∧ w'.ownsRow w.heap.size 152 1 v (boundsL p s).length ((boundsL p s).map encB) ∧ Below w.heap.size w w' := by
  obtain ⟨i0, hi0, hz0, hz1, hz2⟩ := info_parts infoBound
  obtain ⟨ao, cap, rfl, hc1, hc2, hel⟩ := hbs
  obtain ⟨ao2, cap2, rfl, hc3, hc4, hel2⟩ := hrs
  have hlt := lt_of_block hbp
  have c0 : w.cell? ⟨bp, 0, none⟩ = some (.slice ao p.bs.length cap) := by rw [cell_of_row w bp _ _ _ _ hbp]; rfl
  have HBP := Lib.hid hbp
  have HE1 := Lib.hid hel
  have HE2 := Lib.hid hel2
  clear hbp hel hel2
  go_enter Try.func84, Try.ntmps84
  go_wp2
  go_loopw [4, 15] (fun v i wr => ∃ k : Nat, k ≤ p.bs.length ∧ i = .int .i64 k ∧ wr.ownsRow w.heap.size 152 1 v k ((blocksL p.bs k).map encB) ∧ Below w.heap.size w wr) (fun _ i _ => p.bs.length - (intOf i).toNat)
  case atStart => exact ⟨0, by omega, rfl, World.ownsRow_nil _ _ _ _, Below.refl _ _⟩
  case round =>
    obtain ⟨k, hk, rfl, hown, hb⟩ := hrel
    have HO := Lib.hid hown
    have HB := Lib.hid hb
    clear hown hb
    by_cases hlk : k < p.bs.length
    · obtain ⟨b, off, rfl, hr, hbl, e1, e2⟩ := HE1.out k hlk
      have f1 := (HB.out.cell (p := ⟨b, off + k * 2, none⟩) hbl).trans e1
      have f2 := (HB.out.cell (p := ⟨b, off + k * 2 + 1, none⟩) hbl).trans e2
      clear e1 e2
      have HX := Lib.hid (blocksL_next p.bs k hlk)
      generalize p.bs[k] = sp at *
      obtain ⟨slo, shi⟩ := sp
      go_wp2_with (at_builtin; refine wpList_append1 rfl _ _ 131 rfl w.heap.size 152 1 16 .nilIface underBounds infoBound rfl (by decide) _ k _ rfl ((HO.out.alloc _).alloc _) (wr.heap.size + 1) 1 #[encB (blockB k (slo, shi))] 152 (0, 0) rfl (heap_alloc_at _ _ _ (by simp)) rfl (encB_one _) (by omega) (by decide) (by have := HB.out.size; simp; omega) ?_; intro v' w1 hown' hgrow' hbel'; have HO1 := Lib.hid hown'; have HB1 := Lib.hid ((((HB.out).alloc (by have := HB.out.size; omega) _).alloc (by have := HB.out.size; simp; omega) _).trans hbel'); clear hown' hgrow' hbel')
      go_roundw
      case rel => exact ⟨k + 1, by omega, by go_num, by rw [HX.out, List.map_append]; exact HO1.out, HB1.out⟩
      case measure => simp [intOf]; omega
    · obtain rfl : k = p.bs.length := by omega
      have c5 : wr.cell? ⟨bp, 5, none⟩ = some (.slice ao2 p.rs.length cap2) := (HB.out.cell (p := ⟨bp, 5, none⟩) hlt).trans (by rw [cell_of_row w bp _ _ _ _ HBP.out]; rfl)
      have HL := Lib.hid (show (blocksL p.bs p.bs.length).length = p.bs.length by simp [blocksL])
      go_wp2
      go_loopw [4, 34] (fun v i wr => ∃ k : Nat, k ≤ p.rs.length ∧ i = .int .i64 k ∧ wr.ownsRow w.heap.size 152 1 v (p.bs.length + (readsL p.rs s k).length) ((blocksL p.bs p.bs.length ++ readsL p.rs s k).map encB) ∧ Below w.heap.size w wr) (fun _ i _ => p.rs.length - (intOf i).toNat)
      case atStart => exact ⟨0, by omega, rfl, by simpa [readsL] using HO.out, HB.out⟩
      case round =>
        clear c5
        obtain ⟨k, hk, rfl, hown, hb⟩ := hrel
        have HO2 := Lib.hid hown
        have HB2 := Lib.hid hb
        clear hown hb
        by_cases hlk : k < p.rs.length
        · obtain ⟨b, off, rfl, hr, hbl, e1, e2, e3, e4, e5⟩ := HE2.out k hlk
          have f1 := (HB2.out.cell (p := ⟨b, off + k * 5, none⟩) hbl).trans e1
          have f2 := (HB2.out.cell (p := ⟨b, off + k * 5 + 1, none⟩) hbl).trans e2
          have f3 := (HB2.out.cell (p := ⟨b, off + k * 5 + 2, none⟩) hbl).trans e3
          have f4 := (HB2.out.cell (p := ⟨b, off + k * 5 + 3, none⟩) hbl).trans e4
          have f5 := (HB2.out.cell (p := ⟨b, off + k * 5 + 4, none⟩) hbl).trans e5
          clear e1 e2 e3 e4 e5
          have hgk : p.rs[k]? = some p.rs[k] := List.getElem?_eq_getElem hlk
          have hnn := hab p.rs[k] (List.getElem_mem hlk)
          have HGK := Lib.hid hgk
          clear hgk
          generalize p.rs[k] = rd at *
          obtain ⟨ra, rb, rm, rlo, rhi⟩ := rd
          have HBT := Lib.hid (bit_test s k hs)
          cases ht : s.testBit k with
          | false =>
            have hbt := HBT.out
            rw [ht] at hbt
            have HN := Lib.hid (readsL_no p.rs s k ht)
            clear ht HGK
            go_wp2
            go_roundw
            case rel => exact ⟨k + 1, by omega, by go_num, by rw [HN.out]; exact HO2.out.alloc _, HB2.out.alloc (by have := HB2.out.size; omega) _⟩
            case measure => simp [intOf]; omega
          | true =>
            have hbt := HBT.out
            rw [ht] at hbt
            have HN := Lib.hid (readsL_yes p.rs s k _ ht HGK.out)
            have HE : Hid (encB (readB ⟨ra, rb, rm, rlo, rhi⟩) = .iface 159 (.agg #[.int .i64 ra, .int .i64 rb, .int .i64 rlo, .int .i64 rhi, .int .i64 rm])) := by
              show _ = _
              unfold encB readB
              simp [Int.toNat_of_nonneg hnn.1, Int.toNat_of_nonneg hnn.2]
            have HLE := Lib.hid (readsL_le p.rs s k)
            clear ht HGK hnn
            go_wp2_with (at_builtin; refine wpList_append1 rfl _ _ 131 rfl w.heap.size 152 1 16 .nilIface underBounds infoBound rfl (by decide) _ (p.bs.length + (readsL p.rs s k).length) _ rfl ((HO2.out.alloc _).alloc _) (wr.heap.size + 1) 1 #[encB (readB ⟨ra, rb, rm, rlo, rhi⟩)] 152 (0, 0) rfl (by rw [HE.out]; exact heap_alloc_at _ _ _ (by simp)) rfl (encB_one _) (by have := HLE.out; omega) (by decide) (by have := HB2.out.size; simp; omega) ?_; intro v' w1 hown' hgrow' hbel'; have HO1 := Lib.hid hown'; have HB1 := Lib.hid ((((HB2.out).alloc (by have := HB2.out.size; omega) _).alloc (by have := HB2.out.size; simp; omega) _).trans hbel'); clear hown' hgrow' hbel')
            go_roundw
            case rel =>
              refine ⟨k + 1, by omega, by go_num, ?_, HB1.out⟩
              have := HO1.out
              rw [HN.out, List.length_append, ← List.append_assoc, List.map_append]
              exact this
            case measure => simp [intOf]; omega
        · obtain rfl : k = p.rs.length := by omega
          go_wp2
          go_ret
          refine ⟨_, rfl, ?_, HB2.out⟩
          have := HO2.out
          unfold boundsL
          rw [List.length_append, HL.out]
          exact this

end Go.Proofs.Ytabbmihakoeegaa

/- Of a pair: all readings; the tables; what is told. -/
namespace Go.Proofs.Ytabbmihakoeegaa
set_option linter.unusedVariables false
set_option linter.unusedSimpArgs false
open Go.RowKit Go.Shelf

theorem u64_pow (n : Nat) (hn : n ≤ 8) : IntKind.u64.wrap (IntKind.u64.wrap (2 ^ n) - 1) = ((2 ^ n - 1 : Nat) : Int) := by
  have h : ∀ m, m < 9 → IntKind.u64.wrap (IntKind.u64.wrap (2 ^ m) - 1) = ((2 ^ m - 1 : Nat) : Int) := by decide
  exact h n (by omega)

set_option maxHeartbeats 400000 in
theorem every_any (bp n cap : Nat) (ao : Option Addr) (bs mv : Value) (zl zh rl rh : Int) (hn : n ≤ 8) (w : World) (hbp : w.heap[bp]? = some (benchObj bs (.slice ao n cap) zl zh rl rh mv)) :
    Calls Try.prog 85 #[.pointer (some ⟨bp, 0, none⟩)] w fun e w' => e = .returned (.int .u64 ((2 ^ n - 1 : Nat) : Int)) ∧ w = w' := by
  have c5 : w.cell? ⟨bp, 5, none⟩ = some (.slice ao n cap) := by rw [cell_of_row w bp _ _ _ _ hbp]; rfl
  clear hbp
  go_enter Try.func85, Try.ntmps85
  go_wp2
  go_ret
  exact ⟨by rw [← u64_pow n hn]; rfl, rfl⟩

theorem tables_any (bp n cap : Nat) (ao : Option Addr) (w : World) :
    Calls Try.prog 83 #[.pointer (some ⟨bp, 0, none⟩), .slice ao n cap] w fun e w' => e = .returned (.func (.func 95) #[] #[.pointer (some ⟨w.heap.size, 0, none⟩), .pointer (some ⟨w.heap.size + 1, 0, none⟩)]) ∧ (w.alloc (boxPtr bp)).alloc (.cells #[.slice ao n cap] 131 (0, 0)) = w' := by
  have hmf : ∀ (fn : Fn) (first cap : Array Value) (w : World), (Instr.makeFunc fn first cap).run Try.prog w = .ok (.func fn first cap) w := fun _ _ _ _ => rfl
  go_enter Try.func83, Try.ntmps83
  go_wp2
  go_ret
  exact ⟨rfl, rfl⟩

theorem isBlock_any (bp n cap : Nat) (ao : Option Addr) (rs mv : Value) (zl zh rl rh k : Int) (hn : n ≤ 1000) (w : World) (hbp : w.heap[bp]? = some (benchObj (.slice ao n cap) rs zl zh rl rh mv)) :
    Calls Try.prog 47 #[.pointer (some ⟨bp, 0, none⟩), .int .i64 k] w fun e w' => e = .returned (.bool (inB k 0 ((n : Int) - 1))) ∧ w = w' := by
  have c5 : w.cell? ⟨bp, 0, none⟩ = some (.slice ao n cap) := by rw [cell_of_row w bp _ _ _ _ hbp]; rfl
  clear hbp
  go_enter Try.func47, Try.ntmps47
  go_wp2_with (go_at_call 80; refine (within_any _ _ _ _).mono ?_; rintro e w' ⟨rfl, rfl⟩)
  go_ret
  exact ⟨rfl, rfl⟩

end Go.Proofs.Ytabbmihakoeegaa

/- Whether there is a truth by some bounds. -/
namespace Go.Proofs.Ytabbmihakoeegaa
set_option linter.unusedVariables false
set_option linter.unusedSimpArgs false
open Go.RowKit Go.Shelf
attribute [local go_sem] Oper.semAt_some

theorem own_form {w : World} {base : Nat} {e : TypeId} {v : Value} {n : Nat} {xs : List Value} (h : w.ownsRow base e 1 v n xs) : ∃ ao cap, v = .slice ao n cap := by
  rcases h.2 with ⟨h2, h3⟩ | ⟨g, cap, cur, h2, _⟩
  · exact ⟨none, 0, by rw [h2, h3]⟩
  · exact ⟨_, cap, h2⟩
theorem own_length {w : World} {base : Nat} {e : TypeId} {v : Value} {n : Nat} {xs : List Value} (h : w.ownsRow base e 1 v n xs) : xs.length = n := by have := h.1; omega
theorem listAt_of_own {w W : World} {base : Nat} {e : TypeId} {v : Value} {n : Nat} {xs : List Value} (h : w.ownsRow base e 1 v n xs) (hb : Below w.heap.size w W) (hn : n ≤ 1000) (Rd : Nat → Prop) (hR : ∀ k, k < w.heap.size → Rd k) : ListAt W v xs Rd := by
  have hl := own_length h
  rcases h.2 with ⟨h2, h3⟩ | ⟨g, cap, cur, h2, h3, h4, h5, h6, h7, h8⟩
  · subst h3
    exact ⟨none, 0, by rw [h2, hl], by omega, fun i hi => by omega⟩
  · refine ⟨_, cap, by rw [h2, hl], by omega, fun i hi => ⟨g, 0, rfl, hR g (lt_of_block h4), Nat.lt_of_lt_of_le (lt_of_block h4) hb.size, ?_⟩⟩
    rw [Nat.zero_add, cell_of_row W g i cur e (0, 0) ((hb.block g (lt_of_block h4)).trans h4)]
    subst h8
    simp at hi ⊢

end Go.Proofs.Ytabbmihakoeegaa

/- What is told of a pair. -/
namespace Go.Proofs.Ytabbmihakoeegaa
set_option linter.unusedVariables false
set_option linter.unusedSimpArgs false
open Go.RowKit Go.Shelf
attribute [local go_sem] Oper.semAt_some

def encC (c : Int × Int) : Value := .agg #[.int .i64 c.1, .int .i64 c.2]
theorem under_comp : Try.prog.underlying 135 = some (.struct (Try.prog.fieldsOf 135)) := by kernel_rfl
theorem under_int : Try.prog.underlying 3 = some (.int .i64) := by kernel_rfl
theorem under_map : Try.prog.underlying 98 = some (.map 135 138) := by kernel_rfl

theorem eqComp (c d : Int × Int) (w : World) : (Op.equal 135 (encC c) (encC d)).run Try.prog w = .ok (c == d) w := by
  unfold encC Op.equal Op.maxDepth
  rw [run_equalIn_agg w 9999 135 _ _ under_comp (by kernel_rfl)]
  simp [go_sem, Op.eqFields]
  obtain ⟨a, b⟩ := c
  obtain ⟨a', b'⟩ := d
  by_cases h1 : a = a' <;> by_cases h2 : b = b' <;> simp [h1, h2]
theorem checkComp (c : Int × Int) (e : Bool) (w : World) : (Instr.checkKey e 10000 135 (encC c)).run Try.prog w = .ok () w := by
  kernel_rfl

/-- The map's entries, in the order in which they came. -/
def entsOf (xs : List ((Int × Int) × Tab)) : Array MapEntry := (xs.mapIdx fun i x => { key := encC x.1, val := .agg (tcells x.2), born := i }).toArray
theorem findAsk_none (c : Int × Int) (w : World) : ∀ (l : List MapEntry) (i : Nat), (∀ e ∈ l, ∃ d, e.key = encC d ∧ c ≠ d) → (Instr.findAsking 135 (encC c) l i).run Try.prog w = .ok none w
  | [], i, _ => by simp [Instr.findAsking]
  | e :: l, i, h => by
    obtain ⟨d, hd, hne⟩ := h e List.mem_cons_self
    have hf : (c == d) = false := by simpa using hne
    simp only [Instr.findAsking, Sem.run_bind, hd, eqComp, hf, Result.andThen_ok, Bool.false_eq_true, if_false]
    exact findAsk_none c w l (i + 1) (fun e he => h e (List.mem_cons_of_mem _ he))
theorem find_none (c : Int × Int) (w : World) (l : List MapEntry) (h : ∀ e ∈ l, ∃ d, e.key = encC d ∧ c ≠ d) : (Instr.findKey 135 (encC c) l).run Try.prog w = .ok none w := by
  unfold Instr.findKey
  simp only [Sem.run_bind, run_underlying under_comp, Result.andThen_ok]
  cases l with
  | nil => simp [Instr.findNow]
  | cons e l =>
    obtain ⟨d, hd, hne⟩ := h e List.mem_cons_self
    have : Instr.findNow (.struct (Try.prog.fieldsOf 135)) (encC c) (e :: l) 0 = none := by
      simp [Instr.findNow, Instr.sameNow]
    rw [this]
    exact findAsk_none c w (e :: l) 0 h
/-- A new key is put into a map. -/
theorem update_new (mb : Nat) (es : Array MapEntry) (clock : Nat) (c : Int × Int) (v : Value) (w : World) (hm : w.heap[mb]? = some (.map es clock)) (h : ∀ e ∈ es.toList, ∃ d, e.key = encC d ∧ c ≠ d) :
    (Instr.mapUpdate 98 (.map (some mb)) (encC c) v).run Try.prog w = .ok () (w.putObj mb (.map (es.push { key := encC c, val := v, born := clock }) (clock + 1))) := by
  have hg : (getObj mb).run Try.prog w = .ok (.map es clock) w := by simp [getObj, Sem.run, hm]
  unfold Instr.mapUpdate
  simp only [Sem.run_bind, run_underlying under_map, Result.andThen_ok, hg, checkComp, find_none c w es.toList h]
  simp [setObj, Sem.run, hm, World.putObj]
theorem entsOf_next (xs : List ((Int × Int) × Tab)) (x : (Int × Int) × Tab) : entsOf (xs ++ [x]) = (entsOf xs).push { key := encC x.1, val := .agg (tcells x.2), born := xs.length } := by
  simp [entsOf, List.mapIdx_append]
theorem entsOf_keys (xs : List ((Int × Int) × Tab)) (c : Int × Int) (h : ∀ x ∈ xs, c ≠ x.1) : ∀ e ∈ (entsOf xs).toList, ∃ d, e.key = encC d ∧ c ≠ d := by
  intro e he
  simp only [entsOf, List.mem_mapIdx] at he
  obtain ⟨i, hi, rfl⟩ := he
  exact ⟨_, rfl, h _ (List.getElem_mem hi)⟩

end Go.Proofs.Ytabbmihakoeegaa

/- What is told of a pair. -/
namespace Go.Proofs.Ytabbmihakoeegaa
set_option linter.unusedVariables false
set_option linter.unusedSimpArgs false
open Go.RowKit Go.Shelf
attribute [local go_sem] Oper.semAt_some

/-- Numbers of a valid pair. -/
structure OkP (p : PairD) : Prop where
  n1 : 1 ≤ p.bs.length
  n5 : p.bs.length ≤ 5
  m8 : p.rs.length ≤ 8
  bs : ∀ s ∈ p.bs, -20 ≤ s.1 ∧ s.1 ≤ s.2 ∧ s.2 ≤ 20
  zz : -10 ≤ p.zl ∧ p.zl ≤ p.zh ∧ p.zh ≤ 10
  rr : -5 ≤ p.rl ∧ p.rl ≤ p.rh ∧ p.rh ≤ 5
  rs : ∀ r ∈ p.rs, 0 ≤ r.a ∧ r.a < p.bs.length ∧ 0 ≤ r.b ∧ r.b < p.bs.length ∧ 0 ≤ r.m ∧ r.m ≤ 60 ∧ -80 ≤ r.lo ∧ r.lo ≤ r.hi ∧ r.hi ≤ 80
theorem okB_bounds (p : PairD) (h : OkP p) (s : Nat) : ∀ x ∈ boundsL p s, okB x := by
  intro x hx
  unfold boundsL at hx
  rcases List.mem_append.1 hx with hx | hx
  · unfold blocksL at hx
    rw [List.mem_mapIdx] at hx
    obtain ⟨i, hi, rfl⟩ := hx
    simp at hi
    have hb := h.bs _ (List.mem_of_mem_take (List.getElem_mem (l := p.bs.take p.bs.length) (n := i) (by simpa using hi)))
    have := h.n5
    unfold okB blockB
    dsimp only
    refine ⟨by omega, by omega, by omega, by omega, by omega, by omega, by simp, by simp, by simp⟩
  · unfold readsL at hx
    rw [List.mem_filterMap] at hx
    obtain ⟨i, hi, hx⟩ := hx
    split at hx
    · obtain ⟨r, hr, rfl⟩ := Option.map_eq_some_iff.1 hx
      have := h.rs r (List.mem_of_getElem? hr)
      have := h.n5
      unfold okB readB
      dsimp only
      refine ⟨by omega, by omega, by omega, by omega, by omega, by omega, fun _ => by omega, by omega, by omega⟩
    · cases hx
theorem boundsL_length (p : PairD) (h : OkP p) (s : Nat) : (boundsL p s).length ≤ 13 := by
  unfold boundsL
  have h1 := readsL_le p.rs s p.rs.length
  have h2 : (blocksL p.bs p.bs.length).length = p.bs.length := by simp [blocksL]
  have := h.n5
  have := h.m8
  rw [List.length_append]
  omega
/-- The tables of a pair, by the readings of a set. -/
def pairOuts (p : PairD) (s : Nat) : List ((Int × Int) × Tab) := outs (boundsL p s) (comps p.zl p.zh p.rl p.rh)
def allR (p : PairD) : Nat := 2 ^ p.rs.length - 1
theorem allR_lt (p : PairD) (h : p.rs.length ≤ 8) : allR p < 256 := by
  unfold allR
  have : 2 ^ p.rs.length ≤ 2 ^ 8 := Nat.pow_le_pow_right (by decide) h
  omega
theorem comps_ne (zl zh rl rh : Int) (i j : Nat) (hi : i < (comps zl zh rl rh).length) (hj : j < (comps zl zh rl rh).length) (h : (comps zl zh rl rh)[i] = (comps zl zh rl rh)[j]) : i = j := by
  unfold comps at *
  simp only [List.getElem_map, List.getElem_range, Prod.mk.injEq] at h
  have hd1 := Nat.div_add_mod i (wideN rl rh)
  have hd2 := Nat.div_add_mod j (wideN rl rh)
  have e1 : i / wideN rl rh = j / wideN rl rh := by omega
  have e2 : i % wideN rl rh = j % wideN rl rh := by omega
  rw [e1, e2] at hd1
  omega
theorem outs_fst (l : List Bnd) (cs : List (Int × Int)) : (outs l cs).map (·.1) = cs.filter (fun c => diagOk (tabOf l c)) := by
  induction cs with
  | nil => rfl
  | cons c cs ih =>
    have h1 : outs l (c :: cs) = outs l [c] ++ outs l cs := outs_append l [c] cs
    rw [h1, List.map_append, ih, List.filter_cons]
    cases hd : diagOk (tabOf l c) with
    | true => rw [outs_yes l c hd]; rfl
    | false => rw [outs_no l c hd]; rfl
theorem outs_keys (l : List Bnd) (zl zh rl rh : Int) (pre rest : List ((Int × Int) × Tab)) (x : (Int × Int) × Tab) (h : outs l (comps zl zh rl rh) = pre ++ x :: rest) : ∀ y ∈ pre, x.1 ≠ y.1 := by
  have hnd : (comps zl zh rl rh).Nodup := by
    rw [List.nodup_iff_pairwise_ne, List.pairwise_iff_getElem]
    intro i j hi hj hij he
    have := comps_ne zl zh rl rh i j hi hj he
    omega
  have hnd2 : ((outs l (comps zl zh rl rh)).map (·.1)).Nodup := by
    rw [outs_fst]
    exact hnd.filter _
  rw [h, List.map_append, List.nodup_append] at hnd2
  intro y hy he
  exact hnd2.2.2 y.1 (List.mem_map_of_mem hy) x.1 (by simp) he.symm

theorem listAt_of_own2 {w W : World} {base : Nat} {e : TypeId} {v : Value} {n : Nat} {xs : List Value} (h : w.ownsRow base e 1 v n xs) (hb : Below w.heap.size w W) (hn : n ≤ 1000) (Rd : Nat → Prop) (hR : ∀ k, base ≤ k → k < w.heap.size → Rd k) : ListAt W v xs Rd := by
  have hl := own_length h
  rcases h.2 with ⟨h2, h3⟩ | ⟨g, cap, cur, h2, h3, h4, h5, h6, h7, h8⟩
  · subst h3
    exact ⟨none, 0, by rw [h2, hl], by omega, fun i hi => by omega⟩
  · refine ⟨_, cap, by rw [h2, hl], by omega, fun i hi => ⟨g, 0, rfl, hR g h3 (lt_of_block h4), Nat.lt_of_lt_of_le (lt_of_block h4) hb.size, ?_⟩⟩
    rw [Nat.zero_add, cell_of_row W g i cur e (0, 0) ((hb.block g (lt_of_block h4)).trans h4)]
    subst h8
    simp at hi ⊢
theorem bench_set (w : World) (bp : Nat) (bs rs m m' : Value) (zl zh rl rh : Int) (h : w.heap[bp]? = some (benchObj bs rs zl zh rl rh m)) : (w.setCell ⟨bp, 6, none⟩ m').heap[bp]? = some (benchObj bs rs zl zh rl rh m') := by
  unfold benchObj at *
  simp [World.setCell, Array.getElem?_modify, h]
theorem SpansAt.later {w W : World} {v : Value} {l : List (Int × Int)} {Rd : Nat → Prop} (h : SpansAt w v l Rd) (hs : w.heap.size ≤ W.heap.size) (hk : ∀ k, k < w.heap.size → Rd k → W.heap[k]? = w.heap[k]?) : SpansAt W v l Rd := by
  obtain ⟨ao, cap, h1, h2, h3, h4⟩ := h
  refine ⟨ao, cap, h1, h2, h3, fun i hi => ?_⟩
  obtain ⟨b, off, e1, e2, e3, e4, e5⟩ := h4 i hi
  have hb := hk b e3 e2
  exact ⟨b, off, e1, e2, Nat.lt_of_lt_of_le e3 hs, (World.cell?_of_block (w := w) (a := ⟨b, off + i * 2, none⟩) hb).trans e4, (World.cell?_of_block (w := w) (a := ⟨b, off + i * 2 + 1, none⟩) hb).trans e5⟩
theorem ReadsAt.later {w W : World} {v : Value} {l : List RdD} {Rd : Nat → Prop} (h : ReadsAt w v l Rd) (hs : w.heap.size ≤ W.heap.size) (hk : ∀ k, k < w.heap.size → Rd k → W.heap[k]? = w.heap[k]?) : ReadsAt W v l Rd := by
  obtain ⟨ao, cap, h1, h2, h3, h4⟩ := h
  refine ⟨ao, cap, h1, h2, h3, fun i hi => ?_⟩
  obtain ⟨b, off, e1, e2, e3, e4, e5, e6, e7, e8⟩ := h4 i hi
  have hb := hk b e3 e2
  exact ⟨b, off, e1, e2, Nat.lt_of_lt_of_le e3 hs, (World.cell?_of_block (w := w) (a := ⟨b, off + i * 5, none⟩) hb).trans e4, (World.cell?_of_block (w := w) (a := ⟨b, off + i * 5 + 1, none⟩) hb).trans e5,
    (World.cell?_of_block (w := w) (a := ⟨b, off + i * 5 + 2, none⟩) hb).trans e6, (World.cell?_of_block (w := w) (a := ⟨b, off + i * 5 + 3, none⟩) hb).trans e7, (World.cell?_of_block (w := w) (a := ⟨b, off + i * 5 + 4, none⟩) hb).trans e8⟩

set_option maxRecDepth 100000 in
set_option maxHeartbeats 2000000 in
theorem told_any (p : PairD) (hp : OkP p) (bp : Nat) (bs rs : Value) (w : World) (hbp : w.heap[bp]? = some (benchObj bs rs p.zl p.zh p.rl p.rh (.map none))) (Rd : Nat → Prop) (hRd : ∀ k, Rd k → k ≠ bp)
    (hbs : SpansAt w bs p.bs Rd) (hrs : ReadsAt w rs p.rs Rd) :
    Calls Try.prog 48 #[.pointer (some ⟨bp, 0, none⟩)] w fun e w' => Keeps (fun k => k = bp) w w' ∧
      ((pairOuts p (allR p) = [] ∧ e = .panicked [{ v := stopV 10, recovered := false }]) ∨
       (pairOuts p (allR p) ≠ [] ∧ e = .returned (.pointer (some ⟨bp, 0, none⟩)) ∧ ∃ mb, w.heap.size ≤ mb ∧ w'.heap[bp]? = some (benchObj bs rs p.zl p.zh p.rl p.rh (.map (some mb))) ∧
         w'.heap[mb]? = some (.map (entsOf (pairOuts p (allR p))) (pairOuts p (allR p)).length))) := by
  have hlt := lt_of_block hbp
  have hmm := @run_makeMap Try.prog
  obtain ⟨aor, capr, hrsv, _⟩ := id hrs
  obtain ⟨aob, capb, hbsv, _⟩ := id hbs
  subst hbsv hrsv
  have HBS := Lib.hid hbs
  have HRS := Lib.hid hrs
  clear hbs hrs
  have HBP := Lib.hid hbp
  clear hbp
  refine calls_of_wp_marks Try.func48 rfl ?_
  simp only [Try.ntmps48, List.size_toArray, List.length_cons, List.length_nil, Nat.reduceAdd, Nat.reduceSub, Array.replicate_succ, Array.replicate_zero, List.push_toArray, List.append_toArray, List.nil_append, List.cons_append]
  have c6 : w.cell? ⟨bp, 6, none⟩ = some (.map none) := by rw [cell_of_row w bp _ _ _ _ HBP.out]; rfl
  have f6 : w.frozen? ⟨bp, 6, none⟩ = false := frozen_of_row w bp 6 _ _ HBP.out
  go_wp2_with fail
  obtain ⟨W1, hW1⟩ : ∃ W1, W1 = ((w.setCell ⟨bp, 6, none⟩ (.map (some (w.heap.size + 1)))).alloc (boxPtr bp)).alloc (.map #[] 0) := ⟨_, rfl⟩
  rw [show (((w.setCell ⟨bp, 6, none⟩ (.map (some (w.heap.size + 1)))).alloc (.cells #[.pointer (some ⟨bp, 0, none⟩)] 80)).alloc (.map #[] 0)) = W1 from hW1.symm]
  have hsz : W1.heap.size = w.heap.size + 2 := by rw [hW1]; simp
  have hkw : Keeps (fun k => k = bp) w W1 := by rw [hW1]; exact ((Keeps.setCell (Mut := fun k => k = bp) _ _ _ rfl).trans (Keeps.alloc _ _ _)).trans (Keeps.alloc _ _ _)
  have hbx : W1.heap[w.heap.size]? = some (boxPtr bp) := by rw [hW1]; exact (by repeat (first | (refine heap_alloc_at _ _ _ ?_; (simp <;> omega); done) | (refine (hget_old _ _ _ ?_).trans ?_; · (simp <;> omega))))
  have hmb : W1.heap[w.heap.size + 1]? = some (.map #[] 0) := by rw [hW1]; exact (by repeat (first | (refine heap_alloc_at _ _ _ ?_; (simp <;> omega); done) | (refine (hget_old _ _ _ ?_).trans ?_; · (simp <;> omega))))
  have hbp1 : W1.heap[bp]? = some (benchObj (.slice aob p.bs.length capb) (.slice aor p.rs.length capr) p.zl p.zh p.rl p.rh (.map (some (w.heap.size + 1)))) := by
    rw [hW1]
    exact (hget_old _ _ _ (by simp <;> omega)).trans ((hget_old _ _ _ (by simp <;> omega)).trans (bench_set w bp _ _ _ _ _ _ _ _ HBP.out))
  have hbs1 := HBS.out.later (W := W1) (by omega) (fun k h1 h2 => hkw.block k h1 (hRd k h2))
  have hrs1 := HRS.out.later (W := W1) (by omega) (fun k h1 h2 => hkw.block k h1 (hRd k h2))
  have HBS1 := Lib.hid hbs1
  have HRS1 := Lib.hid hrs1
  have HKW := Lib.hid hkw
  have HBX := Lib.hid hbx
  have HMB := Lib.hid hmb
  have HBP1 := Lib.hid hbp1
  clear hW1 hkw hbx hmb hbp1 hbs1 hrs1 c6 f6 hmm
  have hx0 : W1.cell? ⟨w.heap.size, 0, none⟩ = some (.pointer (some ⟨bp, 0, none⟩)) := by rw [cell_of_row W1 _ _ _ _ _ HBX.out]; rfl
  have hab : ∀ r ∈ p.rs, 0 ≤ r.a ∧ 0 ≤ r.b := fun r hr => ⟨(hp.rs r hr).1, (hp.rs r hr).2.2.1⟩
  have HAB := Lib.hid hab
  have HP := Lib.hid hp
  clear hab hp
  go_region_held3 (fun w' => w'.cell? ⟨w.heap.size, 0, none⟩ = some (.pointer (some ⟨bp, 0, none⟩)))
    (first | exact hx0 | exact (hb1.cell (by simp; omega)).trans hx0 | exact (World.cell?_of_block (w := w1) (a := ⟨w.heap.size, 0, none⟩) ((hget_old _ _ _ (by have := hb1.size; simp at this ⊢; omega)).trans (hget_old _ _ _ (by have := hb1.size; simp at this ⊢; omega)))).trans ((hb1.cell (p := ⟨w.heap.size, 0, none⟩) (by simp; omega)).trans hx0))
    (first | (go_at_call 85; refine (every_any bp p.rs.length capr aor _ _ _ _ _ _ HP.out.m8 _ (by exact HBP1.out)).mono ?_; rintro e w1 ⟨rfl, rfl⟩) | (go_at_call 84; refine (bounds_any p bp (allR p) (allR_lt p HP.out.m8) _ _ _ Rd _ (by exact HBP1.out) HP.out.n5 HP.out.m8 (by exact HBS1.out) (by exact HRS1.out) HAB.out).mono ?_; rintro e w1 ⟨lv, rfl, hown, hb1⟩; obtain ⟨lao, lcap, rfl⟩ := own_form hown) | (go_at_call 83; refine (tables_any bp _ _ _ _).mono ?_; rintro e w2 ⟨rfl, rfl⟩))
  clear hx0
  have HOWN := Lib.hid hown
  have HB1 := Lib.hid hb1
  clear hown hb1
  go_wp2_with fail
  obtain ⟨W2, hW2⟩ : ∃ W2, W2 = (w1.alloc (boxPtr bp)).alloc (.cells #[.slice lao (boundsL p (allR p)).length lcap] 131 (0, 0)) := ⟨_, rfl⟩
  rw [← hW2]
  have hb1 := HB1.out
  have hs1 : W1.heap.size ≤ w1.heap.size := by have := hb1.size; simpa using this
  have hsz2 : W2.heap.size = w1.heap.size + 2 := by rw [hW2]; simp
  have hblw : Below w1.heap.size w1 W2 := by rw [hW2]; exact ((Below.refl _ _).alloc (Nat.le_refl _) _).alloc (by simp) _
  have hbl2 : Below W1.heap.size W1 W2 := (⟨hb1.os, hb1.tape, hb1.output, hb1.size, hb1.block⟩ : Below W1.heap.size W1 w1).trans (hblw.mono hs1)
  have hy1 : W2.heap[w1.heap.size]? = some (boxPtr bp) := by rw [hW2]; exact (by repeat (first | (refine heap_alloc_at _ _ _ ?_; (simp <;> omega); done) | (refine (hget_old _ _ _ ?_).trans ?_; · (simp <;> omega))))
  have hy2 : W2.heap[w1.heap.size + 1]? = some (.cells #[.slice lao (boundsL p (allR p)).length lcap] 131 (0, 0)) := by rw [hW2]; exact (by repeat (first | (refine heap_alloc_at _ _ _ ?_; (simp <;> omega); done) | (refine (hget_old _ _ _ ?_).trans ?_; · (simp <;> omega))))
  have HY1 := Lib.hid hy1
  have HY2 := Lib.hid hy2
  have HBL2 := Lib.hid hbl2
  have HBLW := Lib.hid hblw
  clear hW2 hb1 hblw hbl2 hy1 hy2
  have hzz := HP.out.zz
  have hrr := HP.out.rr
  have hokb := okB_bounds p HP.out (allR p)
  have HOKB := Lib.hid hokb
  clear hokb
  refine wp_range (gf := 95) (lb := #[.pointer (some ⟨w1.heap.size, 0, none⟩), .pointer (some ⟨w1.heap.size + 1, 0, none⟩)]) rfl (enters_of Try.func95 (by kernel_rfl) rfl) (encs := fun x : (Int × Int) × Tab => #[.agg #[.int .i64 x.1.1, .int .i64 x.1.2], .agg (tcells x.2)]) (fun _ => rfl)
    (fun k => k ≠ w.heap.size + 1 ∧ k < W2.heap.size) (fun k => k = w.heap.size + 1) ?hRd ?hM (pairOuts p (allR p)) ?hseq
    (fun pre _ Wr => Wr.heap[w.heap.size + 1]? = some (.map (entsOf pre) pre.length) ∧ Keeps (fun k => k = w.heap.size + 1) W2 Wr)
    (fun _ _ _ _ => False)
    ?hI ?hIx ?h0 ?hround ?hdone ?hstop
  case hRd => intro k hk; exact hk.2
  case hM => rintro k rfl; exact ⟨by omega, fun h => h.1 rfl⟩
  case hseq =>
    intro W' hb
    refine tables_seq (boundsL p (allR p)) HOKB.out w1.heap.size (w1.heap.size + 1) bp _ _ _ (.slice lao (boundsL p (allR p)).length lcap) p.zl p.zh p.rl p.rh (by omega) (by omega) (by omega) (by omega) (by omega) (by omega) (fw_range _ HOKB.out _ _ _ _ (by omega) (by omega) (by omega) (by omega)) _ W' ⟨by omega, by omega⟩ ⟨by omega, by omega⟩ ⟨by omega, by omega⟩ ((hb.block _ (by omega)).trans HY1.out) ((hb.block _ (by omega)).trans ((HBL2.out.block _ (by omega)).trans HBP1.out)) ((hb.block _ (by omega)).trans HY2.out) ?_
    have hown := HOWN.out
    refine listAt_of_own2 hown (W := W') (HBLW.out.trans (hb.mono (by omega))) (by have := boundsL_length p HP.out (allR p); omega) _ (fun k hk1 hk2 => ?_)
    simp at hk1
    exact ⟨by omega, by omega⟩
  case hI =>
    rintro s G A B ⟨h1, h2⟩ hk
    exact ⟨(hk.block _ (lt_of_block h1) (by omega)).trans h1, h2.transNew hk (fun i h => h.1)⟩
  case hIx => rintro c s G A B h hk; exact h
  case h0 => exact ⟨(HBL2.out.block _ (by omega)).trans HMB.out, Keeps.refl _ _⟩
  case hround =>
    rintro l pre x rest G Wr hxs ⟨h1, h2⟩ hl1 hl2 hGl
    obtain ⟨⟨z, r⟩, t⟩ := x
    have H1 := Lib.hid h1
    have H2 := Lib.hid h2
    have HXS := Lib.hid hxs
    clear h1 h2 hxs hGl
    gi_wp2_with (first | (refine wpListIn_storeA rfl 138 _ _ rfl (Wr.heap.size + 1) (tcells t) rfl rfl 138 _ (heap_alloc_at _ _ _ (by simp)) (sizeTab _) (by rw [tcells_size]; rfl) (tcells_one _) ?_; intro wy hyr hyk hys; have HYR := Lib.hid hyr; have HYK := Lib.hid hyk; clear hyr hyk))
    have hyk := HYK.out
    have hwy : ∀ k, k < Wr.heap.size → wy.heap[k]? = Wr.heap[k]? := fun k hk => (hyk.block k (by simp; omega) (by omega)).trans ((Below.heap_alloc _ _ _ (by simp; omega)).trans (Below.heap_alloc _ _ _ hk))
    have hcw : wy.heap[Wr.heap.size]? = some (.cells #[.int .i64 z, .int .i64 r] 135 (0, 0)) := (hyk.block _ (by simp <;> omega) (by omega)).trans ((hget_old _ _ _ (by simp)).trans (heap_alloc_at _ _ _ rfl))
    have hsw : Wr.heap.size + 2 = wy.heap.size := by rw [hys]; simp
    have hmut : ∀ M, Keeps M Wr wy := fun M => ⟨hyk.os, hyk.tape, hyk.output, by omega, fun k hk _ => hwy k hk⟩
    refine ⟨hmut _, ?_⟩
    intro W3 hk3 hs3
    have h3 : ∀ k, k < Wr.heap.size → k ≠ l → W3.heap[k]? = Wr.heap[k]? := fun k hk hne => (hk3.block k (by omega) hne).trans (hwy k hk)
    have q0 : W3.heap[w.heap.size]? = some (boxPtr bp) := (h3 _ (by omega) (by omega)).trans ((H2.out.block _ (by omega) (by omega)).trans ((HBL2.out.block _ (by omega)).trans HBX.out))
    have q1 := (h3 bp (by omega) (by omega)).trans ((H2.out.block bp (by omega) (by omega)).trans ((HBL2.out.block bp (by omega)).trans HBP1.out))
    have q2 : W3.heap[Wr.heap.size]? = some (.cells #[.int .i64 z, .int .i64 r] 135 (0, 0)) := (hk3.block _ (by omega) (by omega)).trans hcw
    have q3 : W3.heap[Wr.heap.size + 1]? = some (.cells (tcells t) 138 (0, 0)) := (hk3.block _ (by omega) (by omega)).trans HYR.out
    have q4 := (h3 _ (by omega) (by omega)).trans H1.out
    have d0 : W3.cell? ⟨w.heap.size, 0, none⟩ = some (.pointer (some ⟨bp, 0, none⟩)) := by rw [cell_of_row W3 _ _ _ _ _ q0]; rfl
    have d1 : W3.cell? ⟨bp, 6, none⟩ = some (.map (some (w.heap.size + 1))) := by rw [cell_of_row W3 _ _ _ _ _ q1]; rfl
    have d2 : W3.cell? ⟨Wr.heap.size, 0, none⟩ = some (.int .i64 z) := by rw [cell_of_row W3 _ _ _ _ _ q2]; rfl
    have d3 : W3.cell? ⟨Wr.heap.size, 1, none⟩ = some (.int .i64 r) := by rw [cell_of_row W3 _ _ _ _ _ q2]; rfl
    have HMT := Lib.hid (hmut (fun k => k = w.heap.size + 1))
    have Q3 := Lib.hid q3
    have Q4 := Lib.hid q4
    have HK3 := Lib.hid hk3
    have H3 := Lib.hid h3
    clear hyk hwy hcw hmut hk3 h3 q0 q1 q2 q3 q4
    gi_wp2
    refine region_fixIn 6 (fun W' => W' = W3.drew) (by kernel_rfl) (by kernel_rfl) (by kernel_rfl) rfl ?_
    simp only [List.take_succ_cons, List.take_zero, List.drop_succ_cons, List.drop_zero]
    iterate 5
      refine WF_step ?_ (fun W' hC => ?_) rfl ?_
      rotate_left
      · subst hC
        go_simp
        exact fix_value (P := Try.prog) rfl
      simp only [Act.put, List.setIfInBounds_toArray, List.set_cons_zero, List.set_cons_succ]
    refine WF_step (.agg (tcells t)) (fun W' hC => by subst hC; exact fix_load_row 138 (.tmp 4) rfl (Wr.heap.size + 1) rfl 138 (tcells t) (0, 0) _ Q3.out underTab rfl (sizeTab _) rfl) rfl ?_
    simp only [Act.put, List.setIfInBounds_toArray, List.set_cons_zero, List.set_cons_succ]
    refine WF_nil ?_
    rintro W' rfl
    have hup := update_new (w.heap.size + 1) (entsOf pre) pre.length (z, r) (.agg (tcells t)) W3.drew Q4.out (entsOf_keys pre (z, r) (outs_keys _ _ _ _ _ pre rest ((z, r), t) HXS.out))
    refine wpListIn_done rfl (by intro c h; cases h) (w' := W3.drew.putObj (w.heap.size + 1) (.map ((entsOf pre).push { key := encC (z, r), val := .agg (tcells t), born := pre.length }) (pre.length + 1))) (by
      unfold execOp
      simp only [Act.eval]
      exact (by simpa [Sem.run_bind, encC] using congrArg (fun r => r.andThen fun _ w' => Result.ok Next.skip w') hup)) ?_
    gi_wp2
    have hlm : w.heap.size + 1 < W3.heap.size := by omega
    refine ⟨(Keeps.drew _ _).trans (Keeps.putObj _ _ _ rfl), ?_, ?_⟩
    · rw [entsOf_next, List.length_append]
      exact World.putObj_heap_same hlm
    · exact ((H2.out.trans HMT.out).transNew HK3.out (fun i hi => by omega)).trans ((Keeps.drew _ _).trans (Keeps.putObj _ _ _ rfl))
  case hdone =>
    rintro D G W' ⟨h1, h2⟩ hGD hkk hD hDs
    have q0 : W'.heap[w.heap.size]? = some (boxPtr bp) := (h2.block _ (by omega) (by omega)).trans ((HBL2.out.block _ (by omega)).trans HBX.out)
    have q1 := (h2.block bp (by omega) (by omega)).trans ((HBL2.out.block bp (by omega)).trans HBP1.out)
    have d0 : W'.cell? ⟨w.heap.size, 0, none⟩ = some (.pointer (some ⟨bp, 0, none⟩)) := by rw [cell_of_row W' _ _ _ _ _ q0]; rfl
    have d1 : W'.cell? ⟨bp, 6, none⟩ = some (.map (some (w.heap.size + 1))) := by rw [cell_of_row W' _ _ _ _ _ q1]; rfl
    have hfin : Keeps (fun k => k = bp) w (W'.putObj D (.deferred none)) := by
      have a1 : Keeps (fun k => k = bp) w W2 := HKW.out.trans (Keeps.of_below HBL2.out (fun k h1 h2 => by omega))
      exact (a1.transNew h2 (fun i h => by omega)).transNew (Keeps.putObj (Mut := fun k => k = D) _ _ _ rfl) (fun i h => by omega)
    have Q1 := Lib.hid q1
    have H1 := Lib.hid h1
    have H2 := Lib.hid h2
    have HD := Lib.hid hD
    have HFIN := Lib.hid hfin
    clear q0 q1 h1 h2 hGD hkk hD hfin
    have hlen := fun t ty hu => run_len_map (P := Try.prog) W' t ty (w.heap.size + 1) (entsOf (pairOuts p (allR p))) _ hu H1.out
    go_wp2_with fail
    have hes : (entsOf (pairOuts p (allR p))).size = (pairOuts p (allR p)).length := by simp [entsOf]
    by_cases hne : pairOuts p (allR p) = []
    · have hd : decide (0 < (entsOf (pairOuts p (allR p))).size) = false := by rw [hes, hne]; rfl
      rw [hd]
      refine (must_no 10 W').mono ?_
      rintro e W2' ⟨rfl, rfl⟩
      go_wp2_with fail
      refine ⟨by simp, .inl ⟨_, _, rfl, run_takeDeferred HD.out, ?_⟩⟩
      exact ⟨HFIN.out, .inl ⟨hne, rfl⟩⟩
    · have hd : decide (0 < (entsOf (pairOuts p (allR p))).size) = true := by rw [hes]; simpa using List.length_pos_iff.2 hne
      rw [hd]
      refine (must_ok 10 W').mono ?_
      rintro e W2' ⟨rfl, rfl⟩
      go_wp2_with fail
      refine ⟨by simp, .inl ⟨_, _, rfl, run_takeDeferred HD.out, ?_⟩⟩
      refine ⟨.pointer (some ⟨bp, 0, none⟩), ?_, HFIN.out, .inr ⟨hne, rfl, w.heap.size + 1, by omega, ?_, ?_⟩⟩
      · simp [results, Try.results48, go_sem]
      · exact (World.putObj_heap_other (by omega)).trans Q1.out
      · exact (World.putObj_heap_other (by omega)).trans H1.out
  case hstop => rintro D c pre x rest G W' hxs h; exact h.elim

end Go.Proofs.Ytabbmihakoeegaa

/- The span of all that can be: over a map, in whatever order. -/
namespace Go.Proofs.Ytabbmihakoeegaa
set_option linter.unusedVariables false
set_option linter.unusedSimpArgs false
open Go.RowKit Go.Shelf
open Go.ChangeMaps (setBlock)
attribute [local go_sem] Oper.semAt_some

def spanV (s : Int × Int) : Value := .agg #[.int .i64 s.1, .int .i64 s.2]
/-- A span that holds some spans, and no more. -/
def IsHull (S : Int × Int → Prop) (s : Int × Int) : Prop := (∃ a, S a ∧ a.1 = s.1) ∧ (∃ a, S a ∧ a.2 = s.2) ∧ ∀ a, S a → s.1 ≤ a.1 ∧ a.2 ≤ s.2
theorem IsHull.congr {S T : Int × Int → Prop} {s : Int × Int} (h : IsHull S s) (e : ∀ x, S x ↔ T x) : IsHull T s := by
  have : S = T := funext fun x => propext (e x)
  exact this ▸ h
theorem IsHull.one (a : Int × Int) : IsHull (fun x => x = a) a := ⟨⟨a, rfl, rfl⟩, ⟨a, rfl, rfl⟩, fun x h => by subst h; omega⟩
theorem IsHull.add {S : Int × Int → Prop} {s : Int × Int} (h : IsHull S s) (a : Int × Int) : IsHull (fun x => S x ∨ x = a) (min s.1 a.1, max s.2 a.2) := by
  obtain ⟨⟨b, hb, e1⟩, ⟨c, hc, e2⟩, h3⟩ := h
  refine ⟨?_, ?_, ?_⟩
  · by_cases hle : s.1 ≤ a.1
    · exact ⟨b, .inl hb, by simp only; omega⟩
    · exact ⟨a, .inr rfl, by simp only; omega⟩
  · by_cases hle : a.2 ≤ s.2
    · exact ⟨c, .inl hc, by simp only; omega⟩
    · exact ⟨a, .inr rfl, by simp only; omega⟩
  · rintro x (hx | rfl)
    · have := h3 x hx; simp only; omega
    · simp only; omega
theorem IsHull.unique {S : Int × Int → Prop} {s t : Int × Int} (h : IsHull S s) (k : IsHull S t) : s = t := by
  obtain ⟨⟨b, hb, e1⟩, ⟨c, hc, e2⟩, h3⟩ := h
  obtain ⟨⟨b', hb', e1'⟩, ⟨c', hc', e2'⟩, h3'⟩ := k
  have := h3 b' hb'; have := h3 c' hc'; have := h3' b hb; have := h3' c hc
  apply Prod.ext <;> omega
def SeenIn {α : Type} (g : α → Int × Int) (xs : List α) (seen : Array Nat) (x : Int × Int) : Prop := ∃ i, seen.contains i = true ∧ ∃ y, xs[i]? = some y ∧ x = g y
theorem seenIn_push {α : Type} (g : α → Int × Int) (xs : List α) (seen : Array Nat) (i : Nat) (y : α) (hy : xs[i]? = some y) (x : Int × Int) : (SeenIn g xs seen x ∨ x = g y) ↔ SeenIn g xs (seen.push i) x := by
  unfold SeenIn
  constructor
  · rintro (⟨j, h1, h2⟩ | rfl)
    · exact ⟨j, by simp at h1 ⊢; exact .inl h1, h2⟩
    · exact ⟨i, by simp, y, hy, rfl⟩
  · rintro ⟨j, h1, z, h2, rfl⟩
    simp at h1
    rcases h1 with h1 | rfl
    · exact .inl ⟨j, by simpa using h1, z, h2, rfl⟩
    · rw [hy] at h2; cases h2; exact .inr rfl
theorem entsOf_mem (xs : List ((Int × Int) × Tab)) (e : MapEntry) (h : e ∈ (entsOf xs).toList) : ∃ y, xs[e.born]? = some y ∧ e.key = encC y.1 ∧ e.val = .agg (tcells y.2) := by
  simp only [entsOf, List.mem_mapIdx] at h
  obtain ⟨i, hi, rfl⟩ := h
  exact ⟨_, List.getElem?_eq_getElem hi, rfl, rfl⟩
theorem entsOf_born (xs : List ((Int × Int) × Tab)) (e : MapEntry) (h : e ∈ (entsOf xs).toList) : e.born < xs.length := by
  obtain ⟨y, hy, _⟩ := entsOf_mem xs e h
  exact (List.getElem?_eq_some_iff.1 hy).1
theorem entsOf_borns (xs : List ((Int × Int) × Tab)) : (entsOf xs).toList.map (·.born) = List.range xs.length := by
  apply List.ext_getElem
  · simp [entsOf]
  · intro i h1 h2
    simp [entsOf]
theorem entsOf_at (xs : List ((Int × Int) × Tab)) (i : Nat) (y) (h : xs[i]? = some y) : ∃ e ∈ (entsOf xs).toList, e.born = i := by
  obtain ⟨hi, rfl⟩ := List.getElem?_eq_some_iff.1 h
  refine ⟨{ key := encC xs[i].1, val := .agg (tcells xs[i].2), born := i }, ?_, rfl⟩
  simp only [entsOf, List.mem_mapIdx]
  exact ⟨i, hi, rfl⟩
theorem seenIn_all {xs : List ((Int × Int) × Tab)} (g : (Int × Int) × Tab → Int × Int) (seen : Array Nat) (h : (leftOf (entsOf xs) seen).size = 0) (x : Int × Int) : SeenIn g xs seen x ↔ x ∈ xs.map g := by
  unfold SeenIn
  rw [List.mem_map]
  constructor
  · rintro ⟨i, _, y, hy, rfl⟩; exact ⟨y, List.mem_of_getElem? hy, rfl⟩
  · rintro ⟨y, hy, rfl⟩
    obtain ⟨i, hi⟩ := List.mem_iff_getElem?.1 hy
    obtain ⟨e, he, rfl⟩ := entsOf_at xs i y hi
    exact ⟨e.born, all_seen _ _ h e he, y, hi, rfl⟩

/-- How many entries are still to come. -/
def leftAt (w : World) (b r : Nat) : Nat :=
  match w.heap[b]?, w.heap[r]? with
  | some (.map es _), some (.mapIter _ _ seen _) => (leftOf es seen).size
  | _, _ => 0

theorem wpList_storeA {P : Program} {ops : Array Oper} {rest : List Oper} {o : Oper} {a : Act} {w : World} {Q : Exit → Act → World → Prop} (hgd : o.guard = none) (ty : TypeId) (x y : Operand) (ho : o.op = .store ty x y)
    (g : Nat) (cells : Array Value) (hx : a.eval x = .pointer (some ⟨g, 0, none⟩)) (hy : a.eval y = .agg cells)
    (t : TypeId) (old : Array Value) (hg : w.heap[g]? = some (.cells old t (0, 0))) (hi : (P.info? ty).map (·.size) = some cells.size)
    (hold : old.size = cells.size) (h1 : cells.all (·.oneCell') = true)
    (h : ∀ w', w'.heap[g]? = some (.cells cells t (0, 0)) → Keeps (fun k => k = g) w w' → w'.heap.size = w.heap.size → wpList P ops Q rest (a.put o.dst undef) w') : wpList P ops Q (o :: rest) a w :=
  wpList_store_row hgd ty x y ho g cells hx hy t old hg hi hold h1 (h _ (setRow_heap _ _ _ _ _ _ hg) (keeps_setRow _ _ _) (by simp))
theorem two_setCell {w : World} {b : Nat} {x y x' y' : Value} {t : TypeId} {fr : Nat × Nat} (h : w.heap[b]? = some (.cells #[x, y] t fr)) : ((w.setCell ⟨b, 0, none⟩ x').setCell ⟨b, 1, none⟩ y').heap[b]? = some (.cells #[x', y'] t fr) := by
  simp [World.setCell, Array.getElem?_modify, h]

set_option maxRecDepth 100000 in
set_option maxHeartbeats 2000000 in
theorem hull_any (xs : List ((Int × Int) × Tab)) (hne : xs ≠ []) (g : (Int × Int) × Tab → Int × Int) (mb : Nat) (f : Nat) (caps : Array Value) (w : World) (hm : w.heap[mb]? = some (.map (entsOf xs) xs.length))
    (eg : ∀ args w, (callFunc f args).run Try.prog w = .ok (.enter f args) w)
    (hf : ∀ x ∈ xs, ∀ W, Below w.heap.size w W → Calls Try.prog f (#[encC x.1, .agg (tcells x.2)] ++ caps) W fun e W' => e = .returned (spanV (g x)) ∧ Below W.heap.size W W') :
    Calls Try.prog 98 #[.map (some mb), .agg #[.func (.func f) #[] caps]] w fun e w' => (∃ s, IsHull (fun x => x ∈ xs.map g) s ∧ e = .returned (spanV s)) ∧ Below w.heap.size w w' := by
  have hlt := lt_of_block hm
  have HM := Lib.hid hm
  have HF := Lib.hid hf
  clear hm hf
  have hrg := fun W (hw : W.heap[mb]? = some (.map (entsOf xs) xs.length)) => run_range_map W 98 _ _ mb (entsOf xs) xs.length under_map hw
  have hr1 := hrg ((w.alloc (.cells #[.func (.func f) #[] caps] 162 (0, 0))).alloc (.cells #[.int .i64 0, .int .i64 0] 24 (0, 0))) ((hget_old _ _ _ (by simp <;> omega)).trans ((hget_old _ _ _ (by simp <;> omega)).trans HM.out))
  go_enter Try.func98, Try.ntmps98
  go_wp2_with fail
  clear hr1
  go_loopw [5] (fun sm wr => ∃ (seen : Array Nat) (c0 : Nat), xs.length ≤ c0 ∧ wr.heap[w.heap.size + 1 + 1]? = some (.mapIter (some mb) xs.length seen c0) ∧
      ((sm = .bool false ∧ seen = #[] ∧ wr.heap[w.heap.size + 1]? = some (.cells #[.int .i64 0, .int .i64 0] 24 (0, 0))) ∨
       (sm = .bool true ∧ ∃ lo hi, IsHull (SeenIn g xs seen) (lo, hi) ∧ wr.heap[w.heap.size + 1]? = some (.cells #[.int .i64 lo, .int .i64 hi] 24 (0, 0)))) ∧
      wr.heap[w.heap.size]? = some (.cells #[.func (.func f) #[] caps] 162 (0, 0)) ∧ Below w.heap.size w wr)
    (fun _ wr => leftAt wr mb (w.heap.size + 1 + 1))
  case atStart =>
    refine ⟨#[], xs.length, Nat.le_refl _, (by repeat (first | (refine heap_alloc_at _ _ _ ?_; (simp <;> omega); done) | (refine (hget_old _ _ _ ?_).trans ?_; · (simp <;> omega)))), .inl ⟨rfl, rfl, (by repeat (first | (refine heap_alloc_at _ _ _ ?_; (simp <;> omega); done) | (refine (hget_old _ _ _ ?_).trans ?_; · (simp <;> omega))))⟩, (by repeat (first | (refine heap_alloc_at _ _ _ ?_; (simp <;> omega); done) | (refine (hget_old _ _ _ ?_).trans ?_; · (simp <;> omega)))), (((Below.refl _ _).alloc (Nat.le_refl _) _).alloc (by simp) _).alloc (by simp <;> omega) _⟩
  case round =>
    obtain ⟨seen, c0, hc0, hit, hcase, hbx, hb⟩ := hrel
    have hmr := (hb.block mb hlt).trans HM.out
    have hnx := run_next_at (P := Try.prog) wr 0 (w.heap.size + 1 + 1) mb xs.length c0 seen (entsOf xs) xs.length hit hmr (entsOf_born xs) hc0
    rcases hnx with ⟨hz, hrun⟩ | ⟨e, he, w1, hw1, hrun⟩
    · obtain ⟨lo, hi, hih, hs⟩ : ∃ lo hi, IsHull (SeenIn g xs seen) (lo, hi) ∧ wr.heap[w.heap.size + 1]? = some (.cells #[.int .i64 lo, .int .i64 hi] 24 (0, 0)) := by
        rcases hcase with ⟨_, rfl, _⟩ | ⟨_, lo, hi, h1, h2⟩
        · obtain ⟨y, ys, rfl⟩ := List.exists_cons_of_ne_nil hne
          have := all_seen _ _ hz _ (entsOf_at (y :: ys) 0 y rfl).choose_spec.1
          simp at this
        · exact ⟨lo, hi, h1, h2⟩
      have d0 : wr.cell? ⟨w.heap.size + 1, 0, none⟩ = some (.int .i64 lo) := by rw [cell_of_row wr _ _ _ _ _ hs]; rfl
      have d1 : wr.cell? ⟨w.heap.size + 1, 1, none⟩ = some (.int .i64 hi) := by rw [cell_of_row wr _ _ _ _ _ hs]; rfl
      have d2 : ∀ k, wr.frozen? ⟨w.heap.size + 1, k, none⟩ = false := fun k => frozen_of_row wr _ _ _ _ hs
      have HZ := Lib.hid hz
      have HB := Lib.hid hb
      have HI := Lib.hid (hih.congr (seenIn_all g seen hz))
      have HS := Lib.hid (two_setCell (x' := .int .i64 lo) (y' := .int .i64 hi) hs)
      clear hz hcase hb hs hih
      go_wp2
      obtain ⟨W3, hW3⟩ : ∃ W3, W3 = (wr.setCell ⟨w.heap.size + 1, 0, none⟩ (.int .i64 lo)).setCell ⟨w.heap.size + 1, 1, none⟩ (.int .i64 hi) := ⟨_, rfl⟩
      have HBB := Lib.hid ((HB.out.setCell (p := ⟨w.heap.size + 1, 0, none⟩) (by simp) (.int .i64 lo)).setCell (p := ⟨w.heap.size + 1, 1, none⟩) (by simp) (.int .i64 hi))
      rw [← hW3] at HS HBB
      rw [← hW3]
      have e0 : W3.cell? ⟨w.heap.size + 1, 0, none⟩ = some (.int .i64 lo) := by rw [cell_of_row W3 _ _ _ _ _ HS.out]; rfl
      have e1 : W3.cell? ⟨w.heap.size + 1, 1, none⟩ = some (.int .i64 hi) := by rw [cell_of_row W3 _ _ _ _ _ HS.out]; rfl
      refine bodyPost_ret (v := spanV (lo, hi)) ?_ rfl ⟨⟨(lo, hi), HI.out, rfl⟩, HBB.out⟩
      simp [results, Try.results98, go_sem, spanV, e0, e1]
    · obtain ⟨W, hW⟩ : ∃ W, W = setBlock w1 (w.heap.size + 1 + 1) (.mapIter (some mb) xs.length (seen.push e.born) xs.length) := ⟨_, rfl⟩
      rw [← hW] at hrun
      have hkW : Keeps (fun k => k = w.heap.size + 1 + 1) wr W := by
        rw [hW]
        rcases hw1 with rfl | rfl
        · exact Keeps.putObj _ _ _ rfl
        · exact (Keeps.drew _ _).trans (Keeps.putObj _ _ _ rfl)
      have hsW : W.heap.size = wr.heap.size := by rw [hW]; rcases hw1 with rfl | rfl <;> simp [setBlock]
      have hiW : W.heap[w.heap.size + 1 + 1]? = some (.mapIter (some mb) xs.length (seen.push e.born) xs.length) := by
        have := lt_of_block hit
        rw [hW]; rcases hw1 with rfl | rfl <;> simp [setBlock, this]
      clear hW
      obtain ⟨hee, _⟩ := mem_left he
      obtain ⟨y, hy, hke, hva⟩ := entsOf_mem xs e hee
      have hmW : W.heap[mb]? = some (.map (entsOf xs) xs.length) := (hkW.block mb (lt_of_block hmr) (by omega)).trans hmr
      have hen := run_entry_at (P := Try.prog) W (w.heap.size + 1 + 1) mb xs.length seen (entsOf xs) xs.length e hiW hmW hee (by rw [entsOf_borns]; exact List.nodup_range)
      rw [hke, hva] at hen hrun
      obtain ⟨⟨cz, cr⟩, ty⟩ := y
      simp only [encC] at hen hrun
      have HSW := Lib.hid hsW
      clear hsW
      have HC := Lib.hid hcase
      have HB := Lib.hid hb
      have HKW := Lib.hid hkW
      have HIW := Lib.hid hiW
      have HMW := Lib.hid hmW
      have HMR := Lib.hid hmr
      have HIT := Lib.hid hit
      have HY := Lib.hid hy
      have HBX := Lib.hid hbx
      have HE := Lib.hid he
      clear hcase hb hkW hiW hmW hmr hit hy hbx he hee hke hva
      have hfa : ∀ W', Below w.heap.size w W' → Calls Try.prog f (#[.agg #[.int .i64 cz, .int .i64 cr], .agg (tcells ty)] ++ caps) W' fun e W'' => e = .returned (spanV (g ((cz, cr), ty))) ∧ Below W'.heap.size W' W'' := HF.out _ (List.mem_of_getElem? HY.out)
      have HFA := Lib.hid hfa
      clear hfa
      have hbW : Below w.heap.size w W := HB.out.trans (HKW.out.below (by have := HB.out.size; omega) (fun k h => by omega))
      have HBW := Lib.hid hbW
      clear hbW
      go_wp2_with (first | (refine wpList_storeA rfl 138 _ _ rfl (W.heap.size + 1) (tcells ty) rfl rfl 138 #[Value.int IntKind.i64 0, Value.int IntKind.i64 0, Value.int IntKind.i64 0, Value.int IntKind.i64 0, Value.int IntKind.i64 0, Value.int IntKind.i64 0, Value.int IntKind.i64 0, Value.int IntKind.i64 0, Value.int IntKind.i64 0, Value.int IntKind.i64 0, Value.int IntKind.i64 0, Value.int IntKind.i64 0, Value.int IntKind.i64 0, Value.int IntKind.i64 0, Value.int IntKind.i64 0, Value.int IntKind.i64 0, Value.int IntKind.i64 0, Value.int IntKind.i64 0, Value.int IntKind.i64 0, Value.int IntKind.i64 0, Value.int IntKind.i64 0, Value.int IntKind.i64 0, Value.int IntKind.i64 0, Value.int IntKind.i64 0, Value.int IntKind.i64 0, Value.int IntKind.i64 0, Value.int IntKind.i64 0, Value.int IntKind.i64 0, Value.int IntKind.i64 0, Value.int IntKind.i64 0, Value.int IntKind.i64 0, Value.int IntKind.i64 0, Value.int IntKind.i64 0, Value.int IntKind.i64 0, Value.int IntKind.i64 0, Value.int IntKind.i64 0] (by repeat (first | (refine heap_alloc_at _ _ _ ?_; (simp <;> omega); done) | (refine (hget_old _ _ _ ?_).trans ?_; · (simp <;> omega)))) (sizeTab _) (tcells_size _).symm (tcells_one _) ?_))
      intro wy hyr hyk hys
      have HYR := Lib.hid hyr
      have HYK := Lib.hid hyk
      have HYS := Lib.hid hys
      clear hyr hyk hys
      have hsy : wy.heap.size = W.heap.size + 2 := by rw [HYS.out]
      have hbxW := (HKW.out.block w.heap.size (by have := HIT.out; have := lt_of_block this; omega) (by omega)).trans HBX.out
      have hby : Below W.heap.size W wy := (((Below.refl _ _).alloc (Nat.le_refl _) _).alloc (by simp) _).trans (HYK.out.below (by simp; omega) (fun k h => by omega))
      have q0 := (hby.block _ (lt_of_block hbxW)).trans hbxW
      have q1 : wy.heap[W.heap.size]? = some (.cells #[.int .i64 cz, .int .i64 cr] 135 (0, 0)) := (HYK.out.block _ (by simp <;> omega) (by omega)).trans ((hget_old _ _ _ (by simp)).trans (heap_alloc_at _ _ _ rfl))
      have d0 : wy.cell? ⟨w.heap.size, 0, none⟩ = some (.func (.func f) #[] caps) := by rw [cell_of_row wy _ _ _ _ _ q0]; rfl
      have d2 : wy.cell? ⟨W.heap.size, 0, none⟩ = some (.int .i64 cz) := by rw [cell_of_row wy _ _ _ _ _ q1]; rfl
      have d3 : wy.cell? ⟨W.heap.size, 1, none⟩ = some (.int .i64 cr) := by rw [cell_of_row wy _ _ _ _ _ q1]; rfl
      have Q1 := Lib.hid q1
      have HBY := Lib.hid hby
      have HSY := Lib.hid hsy
      clear q0 q1 hby hsy hbxW
      go_wp2_with (first | (refine wpList_load_row rfl 138 _ rfl (W.heap.size + 1) rfl 138 (tcells ty) (0, 0) _ HYR.out underTab rfl (sizeTab _) ?_))
      refine (HFA.out wy (HBW.out.trans (HBY.out.mono (by have := HBW.out.size; omega)))).mono ?_
      rintro e2 w2 ⟨rfl, hb2⟩
      obtain ⟨⟨gl, gh⟩, hgv⟩ : ∃ v, v = g ((cz, cr), ty) := ⟨_, rfl⟩
      rw [← hgv]
      have HG := Lib.hid hgv
      clear hgv
      have hle1 := HBW.out.size
      have hsr := HSW.out
      have hold : ∀ k, k < wr.heap.size → k ≠ w.heap.size + 1 + 1 → w2.heap[k]? = wr.heap[k]? := fun k hk hne => (hb2.block k (by have := HSY.out; omega)).trans ((HBY.out.block k (by omega)).trans (HKW.out.block k hk hne))
      have hRlt : w.heap.size + 1 + 1 < wr.heap.size := by have := HIT.out; exact lt_of_block this
      have hR2 : w2.heap[w.heap.size + 1 + 1]? = some (.mapIter (some mb) xs.length (seen.push e.born) xs.length) := (hb2.block _ (by have := HSY.out; omega)).trans ((HBY.out.block _ (by omega)).trans HIW.out)
      have hB2 : w2.heap[w.heap.size]? = some (.cells #[.func (.func f) #[] caps] 162 (0, 0)) := (hold _ (by omega) (by omega)).trans HBX.out
      have hM2 : w2.heap[mb]? = some (.map (entsOf xs) xs.length) := (hold _ (by omega) (by omega)).trans HMR.out
      have hbel : Below w.heap.size w w2 := HBW.out.trans (HBY.out.trans (hb2.mono (by have := HSY.out; omega)) |>.mono hle1)
      have HB2 := Lib.hid hb2
      have HOLD := Lib.hid hold
      have HR2 := Lib.hid hR2
      have HBB2 := Lib.hid hB2
      have HM2 := Lib.hid hM2
      have HBEL := Lib.hid hbel
      have hs2 : wr.heap.size + 2 ≤ w2.heap.size := by have := hb2.size; have := HSY.out; omega
      clear hb2 hold hR2 hB2 hM2 hbel hsr hle1
      have hmeas : ∀ w4 : World, w4.heap[mb]? = some (.map (entsOf xs) xs.length) → w4.heap[w.heap.size + 1 + 1]? = some (.mapIter (some mb) xs.length (seen.push e.born) xs.length) → leftAt w4 mb (w.heap.size + 1 + 1) < leftAt wr mb (w.heap.size + 1 + 1) := by
        intro w4 h1 h2
        unfold leftAt
        rw [h1, h2, HMR.out, HIT.out]
        exact left_shrinks _ _ _ HE.out
      have HMEAS := Lib.hid hmeas
      clear hmeas
      unfold spanV
      have hC := HC.out
      rcases hC with ⟨rfl, h0, hs0⟩ | ⟨rfl, lo, hi, hih, hs0⟩
      · have hS2 := (HOLD.out _ (by omega) (by omega)).trans hs0
        have hS3 : ∀ o, (w2.alloc o).heap[w.heap.size + 1]? = some (.cells #[.int .i64 0, .int .i64 0] 24 (0, 0)) := fun o => (hget_old _ _ _ (by omega)).trans hS2
        have d2 : ∀ o k, (w2.alloc o).frozen? ⟨w.heap.size + 1, k, none⟩ = false := fun o k => frozen_of_row _ _ _ _ _ (hS3 o)
        have d3 : ∀ o, (w2.alloc o).cell? ⟨w.heap.size + 1, 0, none⟩ = some (.int .i64 0) := fun o => by rw [cell_of_row _ _ _ _ _ _ (hS3 o)]; rfl
        have d4 : ∀ o, (w2.alloc o).cell? ⟨w.heap.size + 1, 1, none⟩ = some (.int .i64 0) := fun o => by rw [cell_of_row _ _ _ _ _ _ (hS3 o)]; rfl
        have hend : ∀ (o : Obj) (a b : Int), a = gl ∧ b = gh → ∀ sm : Value, sm = .bool true → ∀ W4, W4 = ((w2.alloc o).setCell ⟨w.heap.size + 1, 0, none⟩ (.int .i64 a)).setCell ⟨w.heap.size + 1, 1, none⟩ (.int .i64 b) → (∃ (seen' : Array Nat) (c0 : Nat), xs.length ≤ c0 ∧ W4.heap[w.heap.size + 1 + 1]? = some (.mapIter (some mb) xs.length seen' c0) ∧
            ((sm = .bool false ∧ seen' = #[] ∧ W4.heap[w.heap.size + 1]? = some (.cells #[.int .i64 0, .int .i64 0] 24 (0, 0))) ∨
             (sm = .bool true ∧ ∃ lo hi, IsHull (SeenIn g xs seen') (lo, hi) ∧ W4.heap[w.heap.size + 1]? = some (.cells #[.int .i64 lo, .int .i64 hi] 24 (0, 0)))) ∧
            W4.heap[w.heap.size]? = some (.cells #[.func (.func f) #[] caps] 162 (0, 0)) ∧ Below w.heap.size w W4) ∧ leftAt W4 mb (w.heap.size + 1 + 1) < leftAt wr mb (w.heap.size + 1 + 1) := by
          rintro o a b hab sm hsm W4 rfl
          have hk : ∀ k, k < w2.heap.size → k ≠ w.heap.size + 1 → (((w2.alloc o).setCell ⟨w.heap.size + 1, 0, none⟩ (.int .i64 a)).setCell ⟨w.heap.size + 1, 1, none⟩ (.int .i64 b)).heap[k]? = w2.heap[k]? := fun k h1 h2 =>
            (Below.heap_setCell _ _ _ _ h2).trans ((Below.heap_setCell _ _ _ _ h2).trans (hget_old _ _ _ (by omega)))
          refine ⟨⟨seen.push e.born, xs.length, Nat.le_refl _, (hk _ (by omega) (by omega)).trans HR2.out, .inr ⟨hsm, a, b, by obtain ⟨rfl, rfl⟩ := hab; refine (IsHull.one (a, b)).congr fun x => ?_; rw [← seenIn_push g xs seen e.born _ HY.out x, HG.out]; unfold SeenIn; simp [h0], two_setCell (hS3 o)⟩, (hk _ (by omega) (by omega)).trans HBB2.out, ?_⟩, HMEAS.out _ ((hk _ (by omega) (by omega)).trans HM2.out) ((hk _ (by omega) (by omega)).trans HR2.out)⟩
          exact ((HBEL.out.alloc (by omega) o).setCell (by simp) _).setCell (by simp) _
        have HEND := Lib.hid hend
        clear hend hS2
        clear hS3 hs0
        go_wp2
        all_goals go_roundw
        all_goals first | (refine (HEND.out _ _ _ ?_ _ rfl _ rfl).1; constructor <;> (repeat' split) <;> omega) | (refine (HEND.out _ _ _ ?_ _ rfl _ rfl).2; constructor <;> (repeat' split) <;> omega)
      · have hS2 := (HOLD.out _ (by omega) (by omega)).trans hs0
        have hS3 : ∀ o, (w2.alloc o).heap[w.heap.size + 1]? = some (.cells #[.int .i64 lo, .int .i64 hi] 24 (0, 0)) := fun o => (hget_old _ _ _ (by omega)).trans hS2
        have d2 : ∀ o k, (w2.alloc o).frozen? ⟨w.heap.size + 1, k, none⟩ = false := fun o k => frozen_of_row _ _ _ _ _ (hS3 o)
        have d3 : ∀ o, (w2.alloc o).cell? ⟨w.heap.size + 1, 0, none⟩ = some (.int .i64 lo) := fun o => by rw [cell_of_row _ _ _ _ _ _ (hS3 o)]; rfl
        have d4 : ∀ o, (w2.alloc o).cell? ⟨w.heap.size + 1, 1, none⟩ = some (.int .i64 hi) := fun o => by rw [cell_of_row _ _ _ _ _ _ (hS3 o)]; rfl
        have hend : ∀ (o : Obj) (a b : Int), a = min lo gl ∧ b = max hi gh → ∀ sm : Value, sm = .bool true → ∀ W4, W4 = ((w2.alloc o).setCell ⟨w.heap.size + 1, 0, none⟩ (.int .i64 a)).setCell ⟨w.heap.size + 1, 1, none⟩ (.int .i64 b) → (∃ (seen' : Array Nat) (c0 : Nat), xs.length ≤ c0 ∧ W4.heap[w.heap.size + 1 + 1]? = some (.mapIter (some mb) xs.length seen' c0) ∧
            ((sm = .bool false ∧ seen' = #[] ∧ W4.heap[w.heap.size + 1]? = some (.cells #[.int .i64 0, .int .i64 0] 24 (0, 0))) ∨
             (sm = .bool true ∧ ∃ lo hi, IsHull (SeenIn g xs seen') (lo, hi) ∧ W4.heap[w.heap.size + 1]? = some (.cells #[.int .i64 lo, .int .i64 hi] 24 (0, 0)))) ∧
            W4.heap[w.heap.size]? = some (.cells #[.func (.func f) #[] caps] 162 (0, 0)) ∧ Below w.heap.size w W4) ∧ leftAt W4 mb (w.heap.size + 1 + 1) < leftAt wr mb (w.heap.size + 1 + 1) := by
          rintro o a b hab sm hsm W4 rfl
          have hk : ∀ k, k < w2.heap.size → k ≠ w.heap.size + 1 → (((w2.alloc o).setCell ⟨w.heap.size + 1, 0, none⟩ (.int .i64 a)).setCell ⟨w.heap.size + 1, 1, none⟩ (.int .i64 b)).heap[k]? = w2.heap[k]? := fun k h1 h2 =>
            (Below.heap_setCell _ _ _ _ h2).trans ((Below.heap_setCell _ _ _ _ h2).trans (hget_old _ _ _ (by omega)))
          refine ⟨⟨seen.push e.born, xs.length, Nat.le_refl _, (hk _ (by omega) (by omega)).trans HR2.out, .inr ⟨hsm, a, b, by obtain ⟨rfl, rfl⟩ := hab; have h1 := hih.add (gl, gh); refine h1.congr fun x => ?_; rw [← seenIn_push g xs seen e.born _ HY.out x, HG.out], two_setCell (hS3 o)⟩, (hk _ (by omega) (by omega)).trans HBB2.out, ?_⟩, HMEAS.out _ ((hk _ (by omega) (by omega)).trans HM2.out) ((hk _ (by omega) (by omega)).trans HR2.out)⟩
          exact ((HBEL.out.alloc (by omega) o).setCell (by simp) _).setCell (by simp) _
        have HEND := Lib.hid hend
        clear hend hS2
        clear hS3 hs0
        go_wp2
        all_goals go_roundw
        all_goals first | (refine (HEND.out _ _ _ ?_ _ rfl _ rfl).1; constructor <;> (repeat' split) <;> omega) | (refine (HEND.out _ _ _ ?_ _ rfl _ rfl).2; constructor <;> (repeat' split) <;> omega)

end Go.Proofs.Ytabbmihakoeegaa

/- By how much two blocks differ; what is shown: spans of all tables. -/
namespace Go.Proofs.Ytabbmihakoeegaa
set_option linter.unusedVariables false
set_option linter.unusedSimpArgs false
open Go.RowKit Go.Shelf
attribute [local go_sem] Oper.semAt_some

def okTab (t : Tab) : Prop := ∀ i j, i < 6 → j < 6 → -1000000000000 ≤ t i j ∧ t i j ≤ 1000000000000
def shoOf (m : Int) (e : (Int × Int) × Tab) : Int × Int := (showsC e.1.1 e.1.2 m, showsC e.1.1 e.1.2 m)
def difOf (x y : Nat) (e : (Int × Int) × Tab) : Int × Int := (- e.2 y x, e.2 x y)

set_option maxRecDepth 100000 in
set_option maxHeartbeats 1000000 in
theorem differ1_any (c : Int × Int) (t : Tab) (ht : okTab t) (x y : Nat) (hx : x < 6) (hy : y < 6) (px py : Nat) (w : World) (hpx : w.heap[px]? = some (.cells #[.int .i64 x] 3 (0, 0))) (hpy : w.heap[py]? = some (.cells #[.int .i64 y] 3 (0, 0))) :
    Calls Try.prog 87 (#[encC c, .agg (tcells t)] ++ #[.pointer (some ⟨px, 0, none⟩), .pointer (some ⟨py, 0, none⟩)]) w
      fun e w' => e = .returned (spanV (difOf x y (c, t))) ∧ Below w.heap.size w w' := by
  obtain ⟨cz, cr⟩ := c
  unfold encC
  have hlx := lt_of_block hpx
  have hly := lt_of_block hpy
  have d0 : ∀ o1 o2 o3, (((w.alloc o1).alloc o2).alloc o3).cell? ⟨px, 0, none⟩ = some (.int .i64 x) := fun o1 o2 o3 => by rw [cell_of_row _ _ _ _ _ _ ((hget_old _ _ _ (by simp; omega)).trans ((hget_old _ _ _ (by simp; omega)).trans ((hget_old _ _ _ (by omega)).trans hpx)))]; rfl
  have d1 : ∀ o1 o2 o3, (((w.alloc o1).alloc o2).alloc o3).cell? ⟨py, 0, none⟩ = some (.int .i64 y) := fun o1 o2 o3 => by rw [cell_of_row _ _ _ _ _ _ ((hget_old _ _ _ (by simp; omega)).trans ((hget_old _ _ _ (by simp; omega)).trans ((hget_old _ _ _ (by omega)).trans hpy)))]; rfl
  go_enter Try.func87, Try.ntmps87
  go_wp2_with (first | (refine wpList_load_row rfl 138 _ rfl (w.heap.size + 1) rfl 138 (tcells t) (0, 0) _ (by repeat (first | (refine heap_alloc_at _ _ _ ?_; (simp <;> omega); done) | (refine (hget_old _ _ _ ?_).trans ?_; · (simp <;> omega)))) underTab rfl (sizeTab _) ?_) | (go_at_call 88; refine (tspan_any t x y hx hy (ht y x hy hx) _).mono ?_; rintro e w1 ⟨rfl, hb1⟩; have hr1 : w1.heap[w.heap.size + 1 + 1]? = some (.cells #[.int .i64 0, .int .i64 0] 24 (0, 0)) := (hb1.block _ (by simp <;> omega)).trans (by repeat (first | (refine heap_alloc_at _ _ _ ?_; (simp <;> omega); done) | (refine (hget_old _ _ _ ?_).trans ?_; · (simp <;> omega)))); have f0 := cell_of_row w1 _ 0 _ _ _ hr1; have f1 := cell_of_row w1 _ 1 _ _ _ hr1; have f2 : ∀ k, w1.frozen? ⟨w.heap.size + 1 + 1, k, none⟩ = false := fun k => frozen_of_row _ _ _ _ _ hr1; have HR1 := Lib.hid hr1; have HB1 := Lib.hid hb1; clear hr1 hb1))
  obtain ⟨W3, hW3⟩ : ∃ W3, W3 = (w1.setCell ⟨w.heap.size + 1 + 1, 0, none⟩ (.int .i64 (- t y x))).setCell ⟨w.heap.size + 1 + 1, 1, none⟩ (.int .i64 (t x y)) := ⟨_, rfl⟩
  have hs3 : W3.heap[w.heap.size + 1 + 1]? = some (.cells #[.int .i64 (- t y x), .int .i64 (t x y)] 24 (0, 0)) := by rw [hW3]; exact two_setCell HR1.out
  have e0 : W3.cell? ⟨w.heap.size + 1 + 1, 0, none⟩ = some (.int .i64 (- t y x)) := by rw [cell_of_row W3 _ _ _ _ _ hs3]; rfl
  have e1 : W3.cell? ⟨w.heap.size + 1 + 1, 1, none⟩ = some (.int .i64 (t x y)) := by rw [cell_of_row W3 _ _ _ _ _ hs3]; rfl
  rw [← hW3]
  refine bodyPost_ret (v := spanV (difOf x y ((cz, cr), t))) (by simp [results, Try.results87, go_sem, spanV, e0, e1, difOf, shoOf]) rfl ⟨rfl, ?_⟩
  rw [hW3]
  exact ((((((Below.refl _ _).alloc (Nat.le_refl _) _).alloc (by simp) _).alloc (by simp <;> omega) _).trans (HB1.out.mono (by simp <;> omega))).setCell (by simp; omega) _).setCell (by simp; omega) _

set_option maxRecDepth 100000 in
set_option maxHeartbeats 1000000 in
theorem bspan_any (bp mb : Nat) (xs : List ((Int × Int) × Tab)) (hne : xs ≠ []) (g : (Int × Int) × Tab → Int × Int) (bs rs : Value) (zl zh rl rh : Int) (f : Nat) (caps : Array Value) (w : World)
    (hbp : w.heap[bp]? = some (benchObj bs rs zl zh rl rh (.map (some mb)))) (hm : w.heap[mb]? = some (.map (entsOf xs) xs.length))
    (eg : ∀ args w, (callFunc f args).run Try.prog w = .ok (.enter f args) w)
    (hf : ∀ x ∈ xs, ∀ W, Below w.heap.size w W → Calls Try.prog f (#[encC x.1, .agg (tcells x.2)] ++ caps) W fun e W' => e = .returned (spanV (g x)) ∧ Below W.heap.size W W') :
    Calls Try.prog 86 #[.pointer (some ⟨bp, 0, none⟩), .func (.func f) #[] caps] w fun e w' => (∃ s, IsHull (fun x => x ∈ xs.map g) s ∧ e = .returned (spanV s)) ∧ Below w.heap.size w w' := by
  have hlt := lt_of_block hbp
  have hlm := lt_of_block hm
  have d0 : ∀ o, (w.alloc o).cell? ⟨bp, 6, none⟩ = some (.map (some mb)) := fun o => by rw [cell_of_row _ _ _ _ _ _ ((hget_old _ _ _ (by omega)).trans hbp)]; rfl
  have hal : ∀ o, Below w.heap.size w (w.alloc o) := fun o => (Below.refl _ _).alloc (Nat.le_refl _) _
  have HF := Lib.hid hf
  have HM := Lib.hid hm
  have HAL := Lib.hid hal
  clear hf hm hal hbp
  go_enter Try.func86, Try.ntmps86
  go_wp2_with (first | (go_at_call 98; refine (hull_any xs hne g mb f caps _ ((HAL.out _).block _ hlm |>.trans HM.out) eg (fun x hx W hW => HF.out x hx W ((HAL.out _).trans (hW.mono (by simp)))) ).mono ?_; rintro e w1 ⟨⟨⟨lo, hi⟩, hh, rfl⟩, hb1⟩; have hr1 : w1.heap[w.heap.size]? = some (.cells #[.int .i64 0, .int .i64 0] 24 (0, 0)) := (hb1.block _ (by simp <;> omega)).trans (by repeat (first | (refine heap_alloc_at _ _ _ ?_; (simp <;> omega); done) | (refine (hget_old _ _ _ ?_).trans ?_; · (simp <;> omega)))); have f0 := cell_of_row w1 _ 0 _ _ _ hr1; have f1 := cell_of_row w1 _ 1 _ _ _ hr1; have f2 : ∀ k, w1.frozen? ⟨w.heap.size, k, none⟩ = false := fun k => frozen_of_row _ _ _ _ _ hr1; have HR1 := Lib.hid hr1; have HB1 := Lib.hid hb1; have HH := Lib.hid hh; clear hr1 hb1 hh; unfold spanV))
  obtain ⟨W3, hW3⟩ : ∃ W3, W3 = (w1.setCell ⟨w.heap.size, 0, none⟩ (.int .i64 lo)).setCell ⟨w.heap.size, 1, none⟩ (.int .i64 hi) := ⟨_, rfl⟩
  have hs3 : W3.heap[w.heap.size]? = some (.cells #[.int .i64 lo, .int .i64 hi] 24 (0, 0)) := by rw [hW3]; exact two_setCell HR1.out
  have e0 : W3.cell? ⟨w.heap.size, 0, none⟩ = some (.int .i64 lo) := by rw [cell_of_row W3 _ _ _ _ _ hs3]; rfl
  have e1 : W3.cell? ⟨w.heap.size, 1, none⟩ = some (.int .i64 hi) := by rw [cell_of_row W3 _ _ _ _ _ hs3]; rfl
  rw [← hW3]
  refine bodyPost_ret (v := spanV (lo, hi)) (by simp [results, Try.results86, go_sem, spanV, e0, e1]) rfl ⟨⟨(lo, hi), HH.out, rfl⟩, ?_⟩
  rw [hW3]
  exact (((HAL.out _).trans (HB1.out.mono (by simp))).setCell (by simp) _).setCell (by simp) _

/-- A benchmark: what a looked-at pair's memory holds. -/
structure Told (p : PairD) (bp mb : Nat) (bs rs : Value) (w : World) : Prop where
  b : w.heap[bp]? = some (benchObj bs rs p.zl p.zh p.rl p.rh (.map (some mb)))
  m : w.heap[mb]? = some (.map (entsOf (pairOuts p (allR p))) (pairOuts p (allR p)).length)
theorem Told.later {p : PairD} {bp mb : Nat} {bs rs : Value} {w W : World} (h : Told p bp mb bs rs w) (hb : Below w.heap.size w W) : Told p bp mb bs rs W :=
  ⟨(hb.block _ (lt_of_block h.b)).trans h.b, (hb.block _ (lt_of_block h.m)).trans h.m⟩
theorem outs_mem (l : List Bnd) (cs : List (Int × Int)) (x : (Int × Int) × Tab) (h : x ∈ outs l cs) : x.1 ∈ cs ∧ x.2 = tabOf l x.1 ∧ diagOk x.2 = true := by
  induction cs with
  | nil => simp [outs] at h
  | cons c cs ih =>
    have h1 : outs l (c :: cs) = outs l [c] ++ outs l cs := outs_append l [c] cs
    rw [h1, List.mem_append] at h
    rcases h with h | h
    · cases hd : diagOk (tabOf l c) with
      | true => rw [outs_yes l c hd] at h; simp at h; subst h; exact ⟨by simp, rfl, hd⟩
      | false => rw [outs_no l c hd] at h; simp at h
    · obtain ⟨a, b⟩ := ih h; exact ⟨List.mem_cons_of_mem _ a, b⟩
end Go.Proofs.Ytabbmihakoeegaa

/- By how much two blocks differ, by all tables. -/
namespace Go.Proofs.Ytabbmihakoeegaa
set_option linter.unusedVariables false
set_option linter.unusedSimpArgs false
open Go.RowKit Go.Shelf
attribute [local go_sem] Oper.semAt_some

theorem okTab_of (p : PairD) (hp : OkP p) (s : Nat) (x : (Int × Int) × Tab) (h : x ∈ pairOuts p s) : okTab x.2 := by
  obtain ⟨h1, h2, _⟩ := outs_mem _ _ _ h
  have hz := hp.zz; have hr := hp.rr
  intro i j hi hj
  rw [h2]
  exact fw_range _ (okB_bounds p hp s) _ _ _ _ (by omega) (by omega) (by omega) (by omega) _ h1 216 (by omega) i j hi hj

set_option maxRecDepth 100000 in
set_option maxHeartbeats 1000000 in
theorem differ_any (p : PairD) (hp : OkP p) (hne : pairOuts p (allR p) ≠ []) (bp mb : Nat) (bs rs : Value) (x y : Nat) (hx : x < 6) (hy : y < 6) (w : World) (ht : Told p bp mb bs rs w) :
    Calls Try.prog 49 #[.pointer (some ⟨bp, 0, none⟩), .int .i64 x, .int .i64 y] w
      fun e w' => (∃ s, IsHull (fun v => v ∈ (pairOuts p (allR p)).map (difOf x y)) s ∧ e = .returned (spanV s)) ∧ Below w.heap.size w w' := by
  have hmf : ∀ fn first cap w, (Instr.makeFunc fn first cap).run Try.prog w = .ok (.func fn first cap) w := fun _ _ _ _ => rfl
  have hal : ∀ o1 o2 o3, Below w.heap.size w (((w.alloc o1).alloc o2).alloc o3) := fun _ _ _ => (((Below.refl _ _).alloc (Nat.le_refl _) _).alloc (by simp) _).alloc (by simp <;> omega) _
  have HT := Lib.hid ht
  have HAL := Lib.hid hal
  have HP := Lib.hid hp
  clear ht hal hp
  go_enter Try.func49, Try.ntmps49
  go_wp2_with (first | (go_at_call 86; obtain ⟨W, hW⟩ : ∃ W, W = ((w.alloc (.cells #[.int .i64 x] 3 (0, 0))).alloc (.cells #[.int .i64 y] 3 (0, 0))).alloc (.cells #[.int .i64 0, .int .i64 0] 24 (0, 0)) := ⟨_, rfl⟩; rw [← hW]))
  have hWb : Below w.heap.size w W := by rw [hW]; exact HAL.out _ _ _
  have hWs : W.heap.size = w.heap.size + 3 := by rw [hW]; simp
  have w0 : W.heap[w.heap.size]? = some (.cells #[.int .i64 x] 3 (0, 0)) := by rw [hW]; exact (by repeat (first | (refine heap_alloc_at _ _ _ ?_; (simp <;> omega); done) | (refine (hget_old _ _ _ ?_).trans ?_; · (simp <;> omega))))
  have w1 : W.heap[w.heap.size + 1]? = some (.cells #[.int .i64 y] 3 (0, 0)) := by rw [hW]; exact (by repeat (first | (refine heap_alloc_at _ _ _ ?_; (simp <;> omega); done) | (refine (hget_old _ _ _ ?_).trans ?_; · (simp <;> omega))))
  have w2 : W.heap[w.heap.size + 1 + 1]? = some (.cells #[.int .i64 0, .int .i64 0] 24 (0, 0)) := by rw [hW]; exact (by repeat (first | (refine heap_alloc_at _ _ _ ?_; (simp <;> omega); done) | (refine (hget_old _ _ _ ?_).trans ?_; · (simp <;> omega))))
  clear hW
  have htW := HT.out.later hWb
  refine (bspan_any bp mb _ hne (difOf x y) bs rs p.zl p.zh p.rl p.rh 87 _ W htW.b htW.m (enters_of Try.func87 (by kernel_rfl) rfl) (fun e he W' hb' => differ1_any e.1 e.2 (okTab_of p HP.out _ e he) x y hx hy w.heap.size (w.heap.size + 1) W' ((hb'.block _ (by omega)).trans w0) ((hb'.block _ (by omega)).trans w1))).mono ?_
  rintro e w4 ⟨⟨⟨lo, hi⟩, hh, rfl⟩, hb4⟩
  have hr1 : w4.heap[w.heap.size + 1 + 1]? = some (.cells #[.int .i64 0, .int .i64 0] 24 (0, 0)) := (hb4.block _ (by omega)).trans w2
  have f0 := cell_of_row w4 _ 0 _ _ _ hr1
  have f1 := cell_of_row w4 _ 1 _ _ _ hr1
  have f2 : ∀ k, w4.frozen? ⟨w.heap.size + 1 + 1, k, none⟩ = false := fun k => frozen_of_row _ _ _ _ _ hr1
  have HR1 := Lib.hid hr1
  have HB1 := Lib.hid (hWb.trans (hb4.mono (by omega)))
  have HH := Lib.hid hh
  clear hr1 hb4 hh w0 w1 w2 hWb hWs htW
  unfold spanV
  go_wp2
  obtain ⟨W3, hW3⟩ : ∃ W3, W3 = (w4.setCell ⟨w.heap.size + 1 + 1, 0, none⟩ (.int .i64 lo)).setCell ⟨w.heap.size + 1 + 1, 1, none⟩ (.int .i64 hi) := ⟨_, rfl⟩
  have hs3 : W3.heap[w.heap.size + 1 + 1]? = some (.cells #[.int .i64 lo, .int .i64 hi] 24 (0, 0)) := by rw [hW3]; exact two_setCell HR1.out
  have e0 : W3.cell? ⟨w.heap.size + 1 + 1, 0, none⟩ = some (.int .i64 lo) := by rw [cell_of_row W3 _ _ _ _ _ hs3]; rfl
  have e1 : W3.cell? ⟨w.heap.size + 1 + 1, 1, none⟩ = some (.int .i64 hi) := by rw [cell_of_row W3 _ _ _ _ _ hs3]; rfl
  rw [← hW3]
  refine bodyPost_ret (v := spanV (lo, hi)) (by simp [results, Try.results49, go_sem, spanV, e0, e1]) rfl ⟨⟨(lo, hi), HH.out, rfl⟩, ?_⟩
  rw [hW3]
  exact (HB1.out.setCell (by simp; omega) _).setCell (by simp; omega) _

end Go.Proofs.Ytabbmihakoeegaa
