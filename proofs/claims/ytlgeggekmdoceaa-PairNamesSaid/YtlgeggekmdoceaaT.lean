/- A region that draws its order and may panic, in a function that defers: what is read is taken first; the rest comes in one order. -/
import Derived.Test.YtlgeggekmdoceaaR
import Derived.OrdersHeld
namespace Go.Proofs.Ytlgeggekmdoceaa
set_option linter.unusedVariables false
set_option linter.unusedSimpArgs false
open Go.RowKit Go.Shelf

section
variable {P : Program} {ops : Array Oper} {md : Region.Mode} {S : World → Prop}
theorem Leaves.congr {fn : Func} {t1 t2 : Array Value} {R : Ending → World → Prop} (hr : ∀ w v, (results fn t1).run P w = .ok v w → (results fn t2).run P w = .ok v w) :
    ∀ (ds : List Deferred) (u : FrameMode) (w : World), Leaves P fn t1 R ds u w → Leaves P fn t2 R ds u w
  | [], .returning, w, h => by obtain ⟨v, h1, h2⟩ := h; exact ⟨v, hr _ _ h1, h2⟩
  | [], .panicking _, w, h => h
  | [], .run, w, h => h
  | d :: ds, u, w, h => by
    obtain ⟨h1, fv, cap, f, args, h2, h3, h4⟩ := h
    refine ⟨h1, fv, cap, f, args, h2, h3, h4.mono ?_⟩
    intro e u' w' he
    cases e with
    | returned v => exact Leaves.congr hr ds _ _ he
    | panicked c => exact Leaves.congr hr ds _ _ he
    | outgrown => exact he
theorem wpAnyH_call {Q : Exit → Act → World → Prop} {k fuel : Nat} {o : Oper} {f : FuncId} {args : Array Value} {listed : Array Bool} {a : Act} {w : World} (hr : Region.ready md ops listed = [k]) (ho : ops[k]? = some o) (hg : Region.wanted o (yielded ops a.tmps) = true)
    (hrun : (execOp a.eval o).run P w = .ok (.enter f args) w)
    (h : Calls P f args w fun
      | .returned v, w' => S w' ∧ wpAnyH P md ops Q S fuel (listed.setIfInBounds k true) (a.put o.dst v) w'
      | .panicked c, w' => Q (.panic c) a w'
      | .outgrown, _ => LetsOut Q) : wpAnyH P md ops Q S (fuel + 1) listed a w := by
  refine wpAnyH_all hr (by simp) fun i hi => ?_
  obtain rfl : i = k := by simpa using hi
  unfold wpOp
  rw [ho]
  simp only [hg, if_true]
  left
  unfold Oper.wp
  rw [hrun]
  simp only [Oper.upon]
  refine h.mono fun e w'' he => ?_
  cases e <;> exact he
theorem wpAnyH_skip {Q : Exit → Act → World → Prop} {k fuel : Nat} {o : Oper} {listed : Array Bool} {a : Act} {w w' : World} (hr : Region.ready md ops listed = [k]) (ho : ops[k]? = some o) (hg : Region.wanted o (yielded ops a.tmps) = true)
    (hrun : (execOp a.eval o).run P w = .ok .skip w') (hS : S w')
    (h : wpAnyH P md ops Q S fuel (listed.setIfInBounds k true) (a.put o.dst undef) w') : wpAnyH P md ops Q S (fuel + 1) listed a w := by
  refine wpAnyH_all hr (by simp) fun i hi => ?_
  obtain rfl : i = k := by simpa using hi
  unfold wpOp
  rw [ho]
  simp only [hg, if_true]
  left
  unfold Oper.wp
  rw [hrun]
  exact ⟨hS, h⟩
theorem yields_value {o : Oper} {v : Value} {a : Act} (hg : Region.wanted o (yielded ops a.tmps) = true) (h : ∀ w, S w → (execOp a.eval o).run P w = .ok (.value v) w) : YieldsIf P ops S o v a := .inl ⟨hg, h⟩
end
end Go.Proofs.Ytlgeggekmdoceaa
