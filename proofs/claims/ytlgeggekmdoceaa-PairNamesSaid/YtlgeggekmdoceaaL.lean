/- More general lemmas: a region that draws its order inside a round; labels inside a round; worlds. -/
import Derived.Test.YtlgeggekmdoceaaI
import Derived.OrdersIn
import Derived.RangeFuncCalls
namespace Go.Proofs.Ytlgeggekmdoceaa
set_option linter.unusedVariables false
set_option linter.unusedSimpArgs false
open Go.RowKit

section
variable {P : Program} {ops : Array Oper} {md : Region.Mode} {C : World → Prop} {l : Nat}
def noDefer (ops : Array Oper) : Bool := ops.all fun o => match o.op with | .defer _ => false | _ => true
theorem noDefer_spec (h : noDefer ops = true) (j : Nat) (o : Oper) (ho : ops[j]? = some o) (c : Call) : o.op ≠ .defer c := by
  intro hc
  have h1 := (Array.all_eq_true_iff_forall_mem.1 h) o (Array.mem_of_getElem? ho)
  simp [hc] at h1
theorem Fix.wpOpIn {i : Nat} {o : Oper} {v : Value} {a : Act} (hi : ops[i]? = some o) (hd : ∀ c, o.op ≠ .defer c) (h : Fix P ops C o v a) {K : Act → World → Prop} {Q : Exit → Act → World → Prop} {w : World} (hC : C w)
    (hK : ∀ w', C w' → K (a.put o.dst v) w') : Go.wpOpIn (Fence.wide.inRound l) 0 P ops Q i K a w := by
  unfold Go.wpOpIn
  simp only [hi]
  rcases h with ⟨hw, hv⟩ | ⟨hw, rfl⟩
  · rw [if_pos hw]
    refine ⟨fun _ _ => trivial, ?_⟩
    have h3 := hv w hC
    rw [show (Fence.wide.inRound l).round = some l from rfl, Oper.semAt_some l a.eval o hd]
    generalize (execOp a.eval o).run P w = r at *
    cases r with
    | ok n w' =>
      cases n <;> simp only [fixUpon] at h3 <;> simp only [Oper.uponIn]
      case value u => obtain ⟨e1, e2⟩ := h3; rw [e2]; exact hK _ e1
      case skip => obtain ⟨e1, e2⟩ := h3; rw [← e2]; exact hK _ e1
      case enter f args => exact ⟨(fun h => by cases h), CallsIn.inRound l (callsIn_wide.2 (h3.mono (fun e w'' ⟨he, hw''⟩ => by subst he; exact hK _ hw'')))⟩
    | halt x w' => simp only [fixUpon] at h3
  · rw [if_neg (by rw [hw]; decide)]
    exact ⟨fun _ _ => trivial, hK _ hC⟩
theorem wpAnyIn_of_AnyF {n g : Nat} {L : Array Bool → Act → Prop} {Q : Exit → Act → World → Prop} (hnd : noDefer ops = true) (hL : ∀ listed a, L listed a → ∀ w, C w → wpAnyIn (Fence.wide.inRound l) 0 P md ops Q g listed a w) :
    ∀ (f : Nat) (listed : Array Bool) (a : Act), AnyF P md ops C n L f listed a → ∀ w, C w → wpAnyIn (Fence.wide.inRound l) 0 P md ops Q (f + g) listed a w
  | 0, listed, a, h, w, hw => by rw [Nat.zero_add]; exact hL _ _ h w hw
  | f + 1, listed, a, h, w, hw => by
    rw [show f + 1 + g = (f + g) + 1 by omega]
    refine ⟨fun h0 => absurd h0 h.1, fun i hi => ?_⟩
    obtain ⟨_, o, v, ho, hy, hr⟩ := h.2 i hi
    exact hy.wpOpIn ho (noDefer_spec hnd i o ho) hw fun w' hw' => wpAnyIn_of_AnyF hnd hL f _ _ hr w' hw'
theorem wpAnyIn_of_seq {Q' : Exit → Act → World → Prop} {F : Fence} {m : Nat} : ∀ (l : List Oper) (k : Nat) (listed : Array Bool) (a : Act) (w : World), (∀ j, l[j]? = ops[k + j]?) →
    Region.seqB md ops l.length k listed = true → wpListIn F m P ops Q' l a w → wpAnyIn F m P md ops Q' l.length listed a w
  | [], _, _, _, _, _, hB, h => ⟨by simpa [Region.seqB] using hB, h⟩
  | o :: l, k, listed, a, w, hl, hB, h => by
    have h0 : ops[k]? = some o := by simpa using (hl 0).symm
    simp only [List.length_cons, Region.seqB, Bool.and_eq_true, decide_eq_true_eq] at hB
    refine ⟨fun h1 => (by rw [hB.1] at h1; cases h1), fun i hi => ?_⟩
    rw [hB.1] at hi
    obtain rfl : i = k := by simpa using hi
    have hw : wpOpIn F m P ops Q' i (wpListIn F m P ops Q' l) a w := by unfold wpOpIn; simp only [h0]; exact h
    exact wpOpIn_mono (fun a' w' h' => wpAnyIn_of_seq l (i + 1) _ a' w' (fun j => by have := hl (j + 1); simpa [Nat.add_assoc, Nat.add_comm 1 j] using this) hB.2 h') hw
/-- 'region_fix' inside a round. -/
theorem region_fixIn {id : Nat} {Q : Exit → Act → World → Prop} {a : Act} {w : World} {ls : List Oper} (n : Nat) (C : World → Prop) (hm : P.follows .mixedOrders = true) (hB : Region.lexTailB .any ls.toArray n = true) (hnd : noDefer ls.toArray = true) (hC : C w.drew)
    (h : WF P ls.toArray C (fun a' => ∀ w', C w' → wpListIn (Fence.wide.inRound l) 0 P ls.toArray Q (ls.drop n) a' w') (ls.take n) a) : (Code.region id ls.toArray true).wpIn (Fence.wide.inRound l) 0 P Q a w := by
  simp only [Region.lexTailB, Bool.and_eq_true, decide_eq_true_eq] at hB
  obtain ⟨⟨⟨⟨hsel, hn⟩, hs⟩, hc⟩, hlex⟩ := hB
  have hn' : n < ls.length := by simpa using hn
  have htl : (ls.take n).length = n := by simp; omega
  have hdl : (ls.drop n).length = ls.toArray.size - n := by simp
  have inv0 : HeadInv .any ls.toArray n (Array.replicate ls.toArray.size false) :=
    ⟨by simp, fun j oj _ hl => (by rw [getD_replicate_false] at hl; cases hl), fun t _ ht => getD_in (by simpa using ht) (getD_replicate_false _ _)⟩
  have H := AnyF_lex (md := .any) (g := ls.toArray.size - n) hsel hs hc hn (ls.take n) 0 _ a (fun j hj => by
    have hj' : j < n := by rw [htl] at hj; exact hj
    simp [hj']) (by simpa using htl) inv0 (by rw [htl]; exact hlex) h
  refine wpIn_region_any hm ?_
  have := wpAnyIn_of_AnyF (Q := Q) (g := ls.toArray.size - n) hnd (fun listed a' hL w' hw' => by
    have := wpAnyIn_of_seq (md := .any) (Q' := Q) (ls.drop n) n listed a' w' (fun j => by simp [List.getElem?_drop]) (by rw [hdl]; exact hL.1) (hL.2 w' hw')
    rwa [hdl] at this) _ _ _ H w.drew hC
  rw [htl, show n + (ls.toArray.size - n) = ls.toArray.size by omega] at this
  exact this
end

end Go.Proofs.Ytlgeggekmdoceaa
