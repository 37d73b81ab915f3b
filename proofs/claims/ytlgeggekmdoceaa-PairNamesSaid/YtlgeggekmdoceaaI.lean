/- Iterators: a contract for a function value that is ranged over, and a law for the statement that ranges over it. -/
import Derived.Test.YtlgeggekmdoceaaG
import Derived.RangeFuncNested
import Derived.RangeFuncLeaves
import Derived.Deep.MidRow
namespace Go.Proofs.Ytlgeggekmdoceaa
set_option linter.unusedVariables false
set_option linter.unusedSimpArgs false
open Go.RowKit

/-- The memory is the same, but for blocks of a set, and for new ones. -/
structure Keeps (Mut : Nat → Prop) (w w' : World) : Prop where
  os : w'.os = w.os
  tape : w'.tape = w.tape
  output : w'.output = w.output
  size : w.heap.size ≤ w'.heap.size
  block : ∀ k, k < w.heap.size → ¬ Mut k → w'.heap[k]? = w.heap[k]?
theorem Keeps.refl (Mut : Nat → Prop) (w : World) : Keeps Mut w w := ⟨rfl, rfl, rfl, Nat.le_refl _, fun _ _ _ => rfl⟩
theorem Keeps.trans {Mut : Nat → Prop} {a b c : World} (h : Keeps Mut a b) (k : Keeps Mut b c) : Keeps Mut a c :=
  ⟨k.os.trans h.os, k.tape.trans h.tape, k.output.trans h.output, Nat.le_trans h.size k.size, fun i hi hm => (k.block i (Nat.lt_of_lt_of_le hi h.size) hm).trans (h.block i hi hm)⟩
theorem Keeps.transNew {Mut N : Nat → Prop} {a b c : World} (h : Keeps Mut a b) (k : Keeps N b c) (hN : ∀ i, N i → a.heap.size ≤ i) : Keeps Mut a c :=
  ⟨k.os.trans h.os, k.tape.trans h.tape, k.output.trans h.output, Nat.le_trans h.size k.size, fun i hi hm => (k.block i (Nat.lt_of_lt_of_le hi h.size) (fun hn => by have := hN i hn; omega)).trans (h.block i hi hm)⟩
theorem Keeps.mono {Mut Mut' : Nat → Prop} {w w' : World} (h : Keeps Mut w w') (hm : ∀ k, k < w.heap.size → Mut k → Mut' k) : Keeps Mut' w w' :=
  ⟨h.os, h.tape, h.output, h.size, fun k hk hn => h.block k hk (fun hx => hn (hm k hk hx))⟩
theorem Keeps.of_below {Mut : Nat → Prop} {B : Nat} {w w' : World} (h : Below B w w') (hm : ∀ k, B ≤ k → k < w.heap.size → Mut k) : Keeps Mut w w' :=
  ⟨h.os, h.tape, h.output, h.size, fun k hk hn => h.block k (Nat.lt_of_not_le fun hb => hn (hm k hb hk))⟩
theorem Keeps.below {Mut : Nat → Prop} {B : Nat} {w w' : World} (h : Keeps Mut w w') (hB : B ≤ w.heap.size) (hm : ∀ k, k < B → ¬ Mut k) : Below B w w' :=
  ⟨h.os, h.tape, h.output, h.size, fun k hk => h.block k (by omega) (hm k hk)⟩
theorem Keeps.alloc (Mut : Nat → Prop) (w : World) (o : Obj) : Keeps Mut w (w.alloc o) :=
  ⟨rfl, rfl, rfl, by simp, fun k hk _ => Below.heap_alloc w o k hk⟩
theorem Keeps.setCell {Mut : Nat → Prop} (w : World) (p : Addr) (v : Value) (hp : Mut p.block) : Keeps Mut w (w.setCell p v) :=
  ⟨rfl, rfl, rfl, by simp [World.setCell], fun k _ hn => Below.heap_setCell w p v k (fun e => hn (e ▸ hp))⟩
theorem Keeps.drew (Mut : Nat → Prop) (w : World) : Keeps Mut w w.drew := ⟨rfl, rfl, rfl, Nat.le_refl _, fun _ _ _ => rfl⟩
theorem Keeps.putObj {Mut : Nat → Prop} (w : World) (l : Nat) (o : Obj) (hl : Mut l) : Keeps Mut w (w.putObj l o) :=
  ⟨rfl, rfl, rfl, by simp, fun k _ hn => World.putObj_heap_other (fun e => hn (e ▸ hl))⟩
theorem Keeps.setRow {Mut : Nat → Prop} (w : World) (g : Nat) (cs : Array Value) (hg : Mut g) : Keeps Mut w (w.setRow g cs) :=
  ⟨rfl, rfl, rfl, by simp, fun k _ hn => setRow_other w g k cs (fun e => hn (e ▸ hg))⟩

/-- What is so of a state stays so while the one that ranges works on memory of its own. -/
def Stable {α : Type} (B : Nat) (J : List α → (Nat → Prop) → World → Prop) : Prop :=
  ∀ s G W1 W2, J s G W1 → Keeps (fun k => B ≤ k ∧ ¬ G k) W1 W2 → J s G W2
/-- The blocks that a round has made are added. -/
def Grow (G : Nat → Prop) (W1 W2 : World) : Nat → Prop := fun k => G k ∨ (W1.heap.size ≤ k ∧ k < W2.heap.size)

/-- A function value yields these, one after the other, as long as it is told to go on. -/
def SeqAt {α : Type} (P : Program) (g : FuncId) (lb : Array Value) (encs : α → Array Value) (xs : List α) (Rd : Nat → Prop) (W : World) : Prop :=
  ∀ (l : Nat) (Mut : Nat → Prop) (J Jx : List α → (Nat → Prop) → World → Prop),
    (∀ k, Mut k → k < W.heap.size ∧ ¬ Rd k) → Stable W.heap.size J → Stable W.heap.size Jx →
    (∀ pre x rest G W1, xs = pre ++ x :: rest → J pre G W1 → W.heap.size ≤ W1.heap.size → YieldAt Fence.wide 0 P l (encs x) W1 fun e W2 =>
      Keeps Mut W1 W2 ∧ ((e = .returned (.bool true) ∧ J (pre ++ [x]) (Grow G W1 W2) W2) ∨ (e = .returned (.bool false) ∧ Jx (pre ++ [x]) (Grow G W1 W2) W2))) →
    J [] (fun _ => False) W →
    Calls P g (#[.func (.yield l) #[] #[]] ++ lb) W fun e W2 => (∃ v, e = .returned v) ∧ Keeps Mut W W2 ∧
      ∃ G, (J xs G W2 ∨ ∃ pre x rest, xs = pre ++ x :: rest ∧ Jx (pre ++ [x]) G W2)

/-- What is asked where a round's body ends. -/
def roundEnd {α : Type} (Mut : Nat → Prop) (I : List α → (Nat → Prop) → World → Prop) (Ix : Code → List α → (Nat → Prop) → World → Prop) (s : List α) (G : Nat → Prop) (W W2 : World) : Exit → Act → World → Prop
  | .normal, _, W3 => Keeps Mut W2 W3 ∧ I s (Grow G W W3) W3
  | .ret, _, W3 => Keeps Mut W2 W3 ∧ Ix .ret s (Grow G W W3) W3
  | .exit id, _, W3 => Keeps Mut W2 W3 ∧ Ix (.exit id) s (Grow G W W3) W3
  | .goto t, _, W3 => Keeps Mut W2 W3 ∧ Ix (.goto t) s (Grow G W W3) W3
  | _, _, _ => False

theorem wp_range {α : Type} {P : Program} {g : Operand} {ps : Array Tmp} {assign body : Code} {Q : Exit → Act → World → Prop} {a : Act} {w : World} {gf : Nat} {lb : Array Value}
    (hg : a.eval g = .func (.func gf) #[] lb) (eg : ∀ args w, (callFunc gf args).run P w = .ok (.enter gf args) w)
    {encs : α → Array Value} (hps : ∀ x, (encs x).size = ps.size) (Rd Mut : Nat → Prop) (hRd : ∀ k, Rd k → k < w.heap.size) (hM : ∀ k, Mut k → k < w.heap.size ∧ ¬ Rd k) (xs : List α)
    (hseq : ∀ W, Below w.heap.size w W → SeqAt P gf lb encs xs Rd W)
    (I : List α → (Nat → Prop) → World → Prop) (Ix : Code → List α → (Nat → Prop) → World → Prop) (hI : Stable w.heap.size I) (hIx : ∀ c, Stable w.heap.size (Ix c)) (h0 : I [] (fun _ => False) w)
    (hround : ∀ l pre x rest G W, xs = pre ++ x :: rest → I pre G W → w.heap.size ≤ l → l < W.heap.size → (∀ k, G k → l < k) →
      assign.wpIn (Fence.wide.inRound l) 0 P (Exit.then (fun a₁ W₁ => Keeps Mut W W₁ ∧ ∀ W₂, Keeps (fun k => k = l) W₁ W₂ → W₂.heap.size = W₁.heap.size →
        body.wpIn (Fence.wide.inRound l) 0 P (roundEnd Mut I Ix (pre ++ [x]) G W W₂) a₁ W₂) (fun _ _ _ => False))
        { tmps := (ps.zip (encs x)).foldl (fun t (p, v) => t.setIfInBounds p v) a.tmps, defers := [] } W)
    (hdone : ∀ D G W, I xs G W → (∀ k, G k → D < k) → Keeps (fun k => Mut k ∨ w.heap.size ≤ k) w W → W.heap[D]? = some (.deferred (some [])) → w.heap.size ≤ D →
      Q .normal { a with defers := { target := .collected D, args := #[] } :: a.defers } W)
    (hstop : ∀ D c pre x rest G W, xs = pre ++ x :: rest → Ix c (pre ++ [x]) G W → (∀ k, G k → D < k) → Keeps (fun k => Mut k ∨ w.heap.size ≤ k) w W → W.heap[D]? = some (.deferred (some [])) → w.heap.size ≤ D →
      c.wp P Q { a with defers := { target := .collected D, args := #[] } :: a.defers } W) :
    (Code.rangeFunc g ps assign body).wp P Q a w := by
  refine (wpIn_wide (n := 0)).1 (wpIn_rangeFunc ?_)
  intro fn hfn
  obtain ⟨rec, hrec⟩ : ∃ rec : LoopState → Option Code → Loop, rec = fun st pe => { state := st, pending := pe, fn, tmps := a.tmps, params := ps, assign, body, defers := w.heap.size } := ⟨_, rfl⟩
  obtain ⟨W1, hW1⟩ : ∃ W1, (w.alloc (.deferred (some []))).alloc (.loop (rec .ready none)) = W1 := ⟨_, rfl⟩
  have hsz : W1.heap.size = w.heap.size + 2 := by rw [← hW1]; simp
  have hL1 : W1.heap[w.heap.size + 1]? = some (.loop (rec .ready none)) := by rw [← hW1]; exact heap_alloc_at _ _ _ (by simp)
  have hK1 : W1.heap[w.heap.size]? = some (.deferred (some [])) := by rw [← hW1]; exact (hget_old _ _ _ (by simp)).trans (heap_alloc_at _ _ _ rfl)
  have hkw : ∀ M : Nat → Prop, Keeps M w W1 := fun M => by rw [← hW1]; exact (Keeps.alloc _ _ _).trans (Keeps.alloc _ _ _)
  have hb1 : Below w.heap.size w W1 := (hkw (fun _ => False)).below (Nat.le_refl _) (fun _ _ h => h)
  refine ⟨w.heap.size + 1, [{ target := .collected w.heap.size, args := #[] }], W1, { target := .fn (.func gf) lb, args := #[.func (.yield (w.heap.size + 1)) #[] #[]] }, W1, gf,
    #[.func (.yield (w.heap.size + 1)) #[] #[]] ++ lb, W1, ?_, ?_, fun _ _ => trivial, ?_, fun h => by simp [Fence.wide] at h, ?_⟩
  · rw [← hW1, hrec]; exact run_enterLoop_outer _ _ _ _ _
  · simp only [resolve, hg]
    simp [go_sem]
  · simp [invoke, go_sem, eg]
  refine callsIn_wide.2 ((hseq W1 hb1 (w.heap.size + 1) (fun k => Mut k ∨ k = w.heap.size + 1)
    (fun s G W => I s G W ∧ W.heap[w.heap.size + 1]? = some (.loop (rec .ready none)) ∧ W.heap[w.heap.size]? = some (.deferred (some [])) ∧ ∀ k, G k → w.heap.size + 2 ≤ k)
    (fun s G W => ∃ c, Ix c s G W ∧ W.heap[w.heap.size + 1]? = some (.loop (rec .done (some c))) ∧ W.heap[w.heap.size]? = some (.deferred (some [])) ∧ ∀ k, G k → w.heap.size + 2 ≤ k)
    ?_ ?_ ?_ ?_ ?_).mono ?_)
  · rintro k (hk | rfl)
    · exact ⟨by have := (hM k hk).1; omega, (hM k hk).2⟩
    · exact ⟨by omega, fun h => by have := hRd _ h; omega⟩
  · rintro s G A B ⟨hi, hl, hd, hG⟩ hk
    exact ⟨hI s G A B hi (hk.mono fun k _ h => ⟨by omega, h.2⟩), (hk.block _ (lt_of_block hl) (by omega)).trans hl, (hk.block _ (lt_of_block hd) (by omega)).trans hd, hG⟩
  · rintro s G A B ⟨c, hi, hl, hd, hG⟩ hk
    exact ⟨c, hIx c s G A B hi (hk.mono fun k _ h => ⟨by omega, h.2⟩), (hk.block _ (lt_of_block hl) (by omega)).trans hl, (hk.block _ (lt_of_block hd) (by omega)).trans hd, hG⟩
  · -- one round
    rintro pre x rest G W hxs ⟨hi, hl, hd, hG⟩ hWs
    have hlt : w.heap.size + 1 < W.heap.size := by omega
    have hy := run_yield (P := P) (args := encs x) hl (by rw [hrec]; exact hps x)
    rw [hrec] at hy
    refine ⟨fn, _, assign, body, hy, roundIn_of_wpIn hfn (wpIn_mono (hround (w.heap.size + 1) pre x rest G W hxs hi (by omega) hlt (fun k h => by have := hG k h; omega)) ?_)⟩
    intro e a1 Wa hp
    cases e with
    | normal =>
      obtain ⟨hkm, hbody⟩ := hp
      have hla : Wa.heap[w.heap.size + 1]? = some (.loop (rec .ready none)) := (hkm.block _ hlt (fun h => by have := (hM _ h).1; omega)).trans hl
      have hda : Wa.heap[w.heap.size]? = some (.deferred (some [])) := (hkm.block _ (by omega) (fun h => by have := (hM _ h).1; omega)).trans hd
      refine ⟨_, run_beginRound hla (by rw [hrec]), ?_⟩
      refine wpIn_mono (hbody _ (Keeps.putObj _ _ _ rfl) (by simp)) ?_
      intro e2 a2 W3 hp
      have hl2 : (Wa.putObj (w.heap.size + 1) (.loop { rec .ready none with state := .busy })).heap[w.heap.size + 1]? = some (.loop { rec .ready none with state := .busy }) := World.putObj_heap_same (lt_of_block hla)
      have hd2 : (Wa.putObj (w.heap.size + 1) (.loop { rec .ready none with state := .busy })).heap[w.heap.size]? = some (.deferred (some [])) := (World.putObj_heap_other (by omega)).trans hda
      have fin : ∀ (jump : Option Code), Keeps Mut (Wa.putObj (w.heap.size + 1) (.loop { rec .ready none with state := .busy })) W3 → ∃ W4,
          (Instr.endRound (w.heap.size + 1) jump).run P W3 = .ok (.bool jump.isNone) W4 ∧
          W4.heap[w.heap.size + 1]? = some (.loop (rec (if jump.isNone then .ready else .done) jump)) ∧ W4.heap[w.heap.size]? = some (.deferred (some [])) ∧
          Keeps (fun k => Mut k ∨ k = w.heap.size + 1) W W4 ∧ Keeps (fun k => k = w.heap.size + 1) W3 W4 ∧ W4.heap.size = W3.heap.size := fun jump hk3 => by
        have hs2 : (Wa.putObj (w.heap.size + 1) (.loop { rec .ready none with state := .busy })).heap.size = Wa.heap.size := by simp
        have hl3 := (hk3.block _ (by have := lt_of_block hl2; exact this) (fun h => by have := (hM _ h).1; omega)).trans hl2
        have hd3 := (hk3.block _ (by have := lt_of_block hd2; exact this) (fun h => by have := (hM _ h).1; omega)).trans hd2
        have hr := run_endRound (P := P) jump hl3
        refine ⟨_, hr, ?_, (World.putObj_heap_other (by omega)).trans hd3, ?_, Keeps.putObj _ _ _ rfl, by simp⟩
        · rw [World.putObj_heap_same (lt_of_block hl3), hrec]
        · exact (hkm.mono fun k _ h => .inl h).trans ((Keeps.putObj _ _ _ (.inr rfl)).trans ((hk3.mono fun k _ h => .inl h).trans (Keeps.putObj _ _ _ (.inr rfl))))
      have hstep : ∀ (J : List α → (Nat → Prop) → World → Prop) (W4 : World), Stable w.heap.size J → J (pre ++ [x]) (Grow G W W3) W3 → Keeps (fun k => k = w.heap.size + 1) W3 W4 → W4.heap.size = W3.heap.size → J (pre ++ [x]) (Grow G W W4) W4 := fun J W4 hJ hj hk hs => by
        have : Grow G W W4 = Grow G W W3 := by unfold Grow; rw [hs]
        rw [this]
        refine hJ _ _ _ _ hj (hk.mono fun k _ h => ?_)
        subst h
        refine ⟨by omega, ?_⟩
        rintro (h | h)
        · have := hG _ h; omega
        · omega
      have hGG : ∀ W4 : World, ∀ k, Grow G W W4 k → w.heap.size + 2 ≤ k := by
        rintro W4 k (h | h)
        · exact hG k h
        · omega
      cases e2 with
      | normal =>
        obtain ⟨hk3, hi3⟩ := hp
        obtain ⟨W4, hr, hl4, hd4, hkk, hk4, hs4⟩ := fin none hk3
        exact ⟨_, _, hr, hkk, .inl ⟨rfl, hstep _ _ hI hi3 hk4 hs4, hl4, hd4, hGG _⟩⟩
      | ret =>
        obtain ⟨hk3, hi3⟩ := hp
        obtain ⟨W4, hr, hl4, hd4, hkk, hk4, hs4⟩ := fin (some .ret) hk3
        exact ⟨_, _, hr, hkk, .inr ⟨rfl, _, hstep _ _ (hIx _) hi3 hk4 hs4, hl4, hd4, hGG _⟩⟩
      | exit id =>
        obtain ⟨hk3, hi3⟩ := hp
        obtain ⟨W4, hr, hl4, hd4, hkk, hk4, hs4⟩ := fin (some (.exit id)) hk3
        exact ⟨_, _, hr, hkk, .inr ⟨rfl, _, hstep _ _ (hIx _) hi3 hk4 hs4, hl4, hd4, hGG _⟩⟩
      | goto t =>
        obtain ⟨hk3, hi3⟩ := hp
        obtain ⟨W4, hr, hl4, hd4, hkk, hk4, hs4⟩ := fin (some (.goto t)) hk3
        exact ⟨_, _, hr, hkk, .inr ⟨rfl, _, hstep _ _ (hIx _) hi3 hk4 hs4, hl4, hd4, hGG _⟩⟩
      | panic ch => exact hp.elim
      | outgrown => exact hp.elim
    | ret => exact hp.elim
    | exit id => exact hp.elim
    | goto t => exact hp.elim
    | panic ch => exact hp.elim
    | outgrown => exact hp.elim
  · exact ⟨hI _ _ _ _ h0 (hkw _), hL1, hK1, fun _ h => h.elim⟩
  · -- behind the iterator
    rintro e W2 ⟨⟨v, rfl⟩, hk, G, h⟩
    have hkk : ∀ o, Keeps (fun k => Mut k ∨ w.heap.size ≤ k) w (W2.putObj (w.heap.size + 1) o) := fun o =>
      ((hkw _).trans (hk.mono fun k _ h => h.elim .inl fun e => .inr (by omega))).trans (Keeps.putObj _ _ _ (.inr (by omega)))
    have hst : ∀ (J : List α → (Nat → Prop) → World → Prop) (s : List α) (o : Obj), Stable w.heap.size J → J s G W2 → (∀ k, G k → w.heap.size + 2 ≤ k) → J s G (W2.putObj (w.heap.size + 1) o) := fun J s o hJ hj hG =>
      hJ _ _ _ _ hj (Keeps.putObj _ _ _ ⟨by omega, fun h => by have := hG _ h; omega⟩)
    rcases h with ⟨hi, hl, hd, hG⟩ | ⟨pre, x, rest, hxs, c, hi, hl, hd, hG⟩
    · exact ⟨none, _, by have := run_endLoop (P := P) hl (by rw [hrec]; simp); rw [hrec] at this; exact this,
        hdone _ G _ (hst _ _ _ hI hi hG) (fun k h => by have := hG k h; omega) (hkk _) ((World.putObj_heap_other (by omega)).trans hd) (Nat.le_refl _)⟩
    · exact ⟨some c, _, by have := run_endLoop (P := P) hl (by rw [hrec]; simp); rw [hrec] at this; exact this,
        wpIn_wide.2 (hstop _ c pre x rest G _ hxs (hst _ _ _ (hIx c) hi hG) (fun k h => by have := hG k h; omega) (hkk _) ((World.putObj_heap_other (by omega)).trans hd) (Nat.le_refl _))⟩

theorem run_load_row {P : Program} {o : Oper} {ρ : Operand → Value} {w : World} (ty : TypeId) (x : Operand) (ho : o.op = .load ty x)
    (g : Nat) (hx : ρ x = .pointer (some ⟨g, 0, none⟩)) (t : TypeId) (cs : Array Value) (fr : Nat × Nat) (d : TypeDesc) (hg : w.heap[g]? = some (.cells cs t fr))
    (hu : P.underlying ty = some d) (hd : (match d with | .struct _ | .array _ _ => true | _ => false) = true) (hi : (P.info? ty).map (·.size) = some cs.size) :
    (execOp ρ o).run P w = .ok (.value (.agg cs)) w := by
  unfold execOp
  simp only [ho, hx, Instr.loadAt, Instr.sureAddr, Sem.run_bind, Sem.run_pure, Result.andThen_ok, run_loadVar_row w g t ty cs fr d hg hu hd hi]
theorem run_store_row {P : Program} {o : Oper} {ρ : Operand → Value} {w : World} (ty : TypeId) (x y : Operand) (ho : o.op = .store ty x y)
    (g : Nat) (cells : Array Value) (hx : ρ x = .pointer (some ⟨g, 0, none⟩)) (hy : ρ y = .agg cells)
    (t : TypeId) (old : Array Value) (hg : w.heap[g]? = some (.cells old t (0, 0))) (hi : (P.info? ty).map (·.size) = some cells.size)
    (hold : old.size = cells.size) (h1 : cells.all (·.oneCell') = true) :
    (execOp ρ o).run P w = .ok .skip (w.setRow g cells) := by
  unfold execOp
  simp only [ho, hx, hy, Instr.storeAt, Instr.sureAddr, Sem.run_bind, Sem.run_pure, Result.andThen_ok, run_storeVar_row w g t ty old cells hg hi hold h1]
theorem wpListIn_value {l n : Nat} {P : Program} {ops : Array Oper} {Q : Exit → Act → World → Prop} {a : Act} {w w' : World} {rest : List Oper} {o : Oper} {v : Value}
    (hg : o.guard = none) (hd : ∀ c, o.op ≠ .defer c) (hrun : (execOp a.eval o).run P w = .ok (.value v) w') (h : wpListIn (Fence.wide.inRound l) n P ops Q rest (a.put o.dst v) w') :
    wpListIn (Fence.wide.inRound l) n P ops Q (o :: rest) a w := by
  refine wpListIn_plain hg fun K hK => ⟨fun _ _ => trivial, ?_⟩
  rw [show (Fence.wide.inRound l).round = some l from rfl, Oper.semAt_some l a.eval o hd, hrun]
  exact hK _ _ h
theorem wpListIn_valueG {l n : Nat} {P : Program} {ops : Array Oper} {Q : Exit → Act → World → Prop} {a : Act} {w w' : World} {rest : List Oper} {o : Oper} {v : Value}
    (hg : Region.wanted o (yielded ops a.tmps) = true) (hd : ∀ c, o.op ≠ .defer c) (hrun : (execOp a.eval o).run P w = .ok (.value v) w') (h : wpListIn (Fence.wide.inRound l) n P ops Q rest (a.put o.dst v) w') :
    wpListIn (Fence.wide.inRound l) n P ops Q (o :: rest) a w := by
  refine wpListIn_step fun K hK => ?_
  rw [if_pos hg]
  refine ⟨fun _ _ => trivial, ?_⟩
  rw [show (Fence.wide.inRound l).round = some l from rfl, Oper.semAt_some l a.eval o hd, hrun]
  exact hK _ _ h
theorem wpListIn_done {l n : Nat} {P : Program} {ops : Array Oper} {Q : Exit → Act → World → Prop} {a : Act} {w w' : World} {rest : List Oper} {o : Oper}
    (hg : o.guard = none) (hd : ∀ c, o.op ≠ .defer c) (hrun : (execOp a.eval o).run P w = .ok .skip w') (h : wpListIn (Fence.wide.inRound l) n P ops Q rest (a.put o.dst undef) w') :
    wpListIn (Fence.wide.inRound l) n P ops Q (o :: rest) a w := by
  refine wpListIn_plain hg fun K hK => ⟨fun _ _ => trivial, ?_⟩
  rw [show (Fence.wide.inRound l).round = some l from rfl, Oper.semAt_some l a.eval o hd, hrun]
  exact hK _ _ h

theorem keeps_setRow (w : World) (g : Nat) (cs : Array Value) : Keeps (fun k => k = g) w (w.setRow g cs) := Keeps.setRow w g cs rfl
theorem wpListIn_storeA {l n : Nat} {P : Program} {ops : Array Oper} {Q : Exit → Act → World → Prop} {a : Act} {w : World} {rest : List Oper} {o : Oper}
    (hg : o.guard = none) (ty : TypeId) (x y : Operand) (ho : o.op = .store ty x y)
    (g : Nat) (cells : Array Value) (hx : a.eval x = .pointer (some ⟨g, 0, none⟩)) (hy : a.eval y = .agg cells)
    (t : TypeId) (old : Array Value) (hgw : w.heap[g]? = some (.cells old t (0, 0))) (hi : (P.info? ty).map (·.size) = some cells.size)
    (hold : old.size = cells.size) (h1 : cells.all (·.oneCell') = true)
    (h : ∀ w', w'.heap[g]? = some (.cells cells t (0, 0)) → Keeps (fun k => k = g) w w' → w'.heap.size = w.heap.size → wpListIn (Fence.wide.inRound l) n P ops Q rest (a.put o.dst undef) w') :
    wpListIn (Fence.wide.inRound l) n P ops Q (o :: rest) a w :=
  wpListIn_done hg (by rw [ho]; intro c hc; cases hc) (run_store_row ty x y ho g cells hx hy t old hgw hi hold h1) (h _ (setRow_heap _ _ _ _ _ _ hgw) (keeps_setRow _ _ _) (by simp))

theorem own_base {w : World} {base : Nat} {e : TypeId} {size : Nat} {v : Value} {n : Nat} {xs : List Value} (h : w.ownsRow base e size v n xs) : ∀ k, v.ownBlock = some k → base ≤ k := by
  intro k hk
  rcases h.2 with ⟨h2, _⟩ | ⟨g, cap, cur, h2, hg, _⟩
  · subst h2; simp [Value.ownBlock] at hk
  · subst h2; simp [Value.ownBlock] at hk; omega
theorem news_block {w : World} {g : Nat} {cs : Array Value} {t : TypeId} {fr : Nat × Nat} (h : w.heap[g]? = some (.cells cs t fr)) : ∀ (j : Nat) u, cs.toList[j]? = some u → w.cell? ((⟨g, 0, none⟩ : Addr).add j) = some u := by
  intro j u hu
  rw [Addr.add_mid, Nat.zero_add, cell_of_row w g j cs t fr h]
  simpa using hu
/-- An append of one element, which lies in a block of its own, to a row that the call owns. -/
theorem wpList_append1 {P : Program} {ops : Array Oper} {rest : List Oper} {o : Oper} {a : Act} {w : World} {Q : Exit → Act → World → Prop} (hgd : o.guard = none) (s x : Operand) (t : TypeId)
    (ho : o.op = .call { callee := .builtin .append, args := #[s, x], argTypes := #[t, t] })
    (base : Nat) (e : TypeId) (size bytes : Nat) (z : Value) (ht : P.underlying t = some (.slice e)) (hinfo : (P.info? e).map (fun i => (i.zero, i.size, i.bytes)) = some (some z, size, bytes)) (hzs : z.cells.size = size) (hsz : 0 < size)
    (v : Value) (n : Nat) (xs : List Value) (hs : a.eval s = v) (hown : w.ownsRow base e size v n xs)
    (g c : Nat) (cs : Array Value) (t2 : TypeId) (fr : Nat × Nat) (hx : a.eval x = .slice (some ⟨g, 0, none⟩) 1 c) (hgc : w.heap[g]? = some (.cells cs t2 fr)) (hcs : cs.size = size) (h1 : cs.all (·.oneCell') = true)
    (h63 : n ≤ 1000000) (hbytes : bytes ≤ 1000) (hbase : base ≤ w.heap.size)
    (h : ∀ v' w', w'.ownsRow base e size v' (n + 1) (xs ++ cs.toList) → w.grownBy w' v.ownBlock → Below base w w' → wpList P ops Q rest (a.put o.dst v') w') : wpList P ops Q (o :: rest) a w := by
  obtain ⟨i, hi, hz, hsize, hby⟩ := info_parts hinfo
  refine wpList_append_own w hgd s x t ho base e i z size bytes ht hi hz hsize hby hzs hsz v n xs hs hown ⟨g, 0, none⟩ 1 c cs.toList hx (by simp [hcs]) (news_block hgc) (fun u hu => (Array.all_eq_true_iff_forall_mem.1 h1) u (by simpa using hu)) (by unfold maxLen; omega) ?_ hbase ?_
  · have h2 : (n + 1) * bytes ≤ 1000001 * 1000 := Nat.mul_le_mul (by omega) hbytes
    omega
  · intro v' w' hown' hgrow _
    exact h v' w' hown' hgrow ((Below.refl _ _).grown hgrow hbase (own_base hown))

/-- A function whose body ranges over a function. -/
theorem calls_of_wp_marks {P : Program} {f : FuncId} {fn : Func} {c : Code} {args : Array Value} {w : World} {R : Ending → World → Prop}
    (hf : P.funcs[f]? = some fn) (hb : fn.body = some c)
    (h : c.wp P (bodyPostM Fence.wide 0 P fn R) { tmps := args ++ Array.replicate (fn.ntmps - args.size) undef, defers := [] } w) : Calls P f args w R :=
  callsIn_wide.1 (callsIn_of_wp_marks (F := Fence.wide) (n := 0) hf hb trivial (wpIn_wide.2 h) rfl)

end Go.Proofs.Ytlgeggekmdoceaa
