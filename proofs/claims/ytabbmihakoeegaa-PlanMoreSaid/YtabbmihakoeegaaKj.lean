/- Texts Ig, Va, Vb, Vc, Vd, Ve in one file; each begins with a word on what it proves. -/
import Derived.Lib.MinMax
import Derived.Test.YtabbmihakoeegaaKa
import Derived.Test.YtabbmihakoeegaaKf
import Derived.Test.YtabbmihakoeegaaKg
import Derived.Test.YtabbmihakoeegaaKd
import Derived.Test.YtabbmihakoeegaaKe
import Derived.Test.YtabbmihakoeegaaKi

/- Iterators, and what ranges over one: rounds that work on memory that earlier rounds have made. -/
namespace Go.Proofs.Ytabbmihakoeegaa
set_option linter.unusedVariables false
set_option linter.unusedSimpArgs false
open Go.RowKit

/-- A function value yields these, one after the other, as long as it is told to go on. -/
def SeqG {α : Type} (P : Program) (g : FuncId) (lb : Array Value) (encs : α → Array Value) (xs : List α) (Rd : Nat → Prop) (W : World) : Prop :=
  ∀ (l : Nat) (Mut : Nat → Prop) (J Jx : List α → (Nat → Prop) → World → Prop),
    (∀ k, Mut k → k < W.heap.size ∧ ¬ Rd k) → Stable W.heap.size J → Stable W.heap.size Jx →
    (∀ pre x rest G W1, xs = pre ++ x :: rest → J pre G W1 → W.heap.size ≤ W1.heap.size → (∀ k, G k → W.heap.size ≤ k) → YieldAt Fence.wide 0 P l (encs x) W1 fun e W2 =>
      Keeps (fun k => Mut k ∨ G k) W1 W2 ∧ ((e = .returned (.bool true) ∧ J (pre ++ [x]) (Grow G W1 W2) W2) ∨ (e = .returned (.bool false) ∧ Jx (pre ++ [x]) (Grow G W1 W2) W2))) →
    J [] (fun _ => False) W →
    Calls P g (#[.func (.yield l) #[] #[]] ++ lb) W fun e W2 => (∃ v, e = .returned v) ∧ Keeps (fun k => Mut k ∨ W.heap.size ≤ k) W W2 ∧
      ∃ G, (J xs G W2 ∨ ∃ pre x rest, xs = pre ++ x :: rest ∧ Jx (pre ++ [x]) G W2)

/-- What is asked where a round's body ends. -/
def roundEndG {α : Type} (Mut : Nat → Prop) (I : List α → (Nat → Prop) → World → Prop) (Ix : Code → List α → (Nat → Prop) → World → Prop) (s : List α) (G : Nat → Prop) (W W2 : World) : Exit → Act → World → Prop
  | .normal, _, W3 => Keeps (fun k => Mut k ∨ G k) W2 W3 ∧ I s (Grow G W W3) W3
  | .ret, _, W3 => Keeps (fun k => Mut k ∨ G k) W2 W3 ∧ Ix .ret s (Grow G W W3) W3
  | .exit id, _, W3 => Keeps (fun k => Mut k ∨ G k) W2 W3 ∧ Ix (.exit id) s (Grow G W W3) W3
  | .goto t, _, W3 => Keeps (fun k => Mut k ∨ G k) W2 W3 ∧ Ix (.goto t) s (Grow G W W3) W3
  | _, _, _ => False

theorem wp_rangeG {α : Type} {P : Program} {g : Operand} {ps : Array Tmp} {assign body : Code} {Q : Exit → Act → World → Prop} {a : Act} {w : World} {gf : Nat} {lb : Array Value}
    (hg : a.eval g = .func (.func gf) #[] lb) (eg : ∀ args w, (callFunc gf args).run P w = .ok (.enter gf args) w)
    {encs : α → Array Value} (hps : ∀ x, (encs x).size = ps.size) (Rd Mut : Nat → Prop) (hRd : ∀ k, Rd k → k < w.heap.size) (hM : ∀ k, Mut k → k < w.heap.size ∧ ¬ Rd k) (xs : List α)
    (hseq : ∀ W, Below w.heap.size w W → SeqG P gf lb encs xs Rd W)
    (I : List α → (Nat → Prop) → World → Prop) (Ix : Code → List α → (Nat → Prop) → World → Prop) (hI : Stable w.heap.size I) (hIx : ∀ c, Stable w.heap.size (Ix c)) (h0 : I [] (fun _ => False) w)
    (hround : ∀ l pre x rest G W, xs = pre ++ x :: rest → I pre G W → w.heap.size ≤ l → l < W.heap.size → (∀ k, G k → l < k) →
      assign.wpIn (Fence.wide.inRound l) 0 P (Exit.then (fun a₁ W₁ => Keeps (fun k => Mut k ∨ G k) W W₁ ∧ ∀ W₂, Keeps (fun k => k = l) W₁ W₂ → W₂.heap.size = W₁.heap.size →
        body.wpIn (Fence.wide.inRound l) 0 P (roundEndG Mut I Ix (pre ++ [x]) G W W₂) a₁ W₂) (fun _ _ _ => False))
        { tmps := (ps.zip (encs x)).foldl (fun t (p, v) => t.setIfInBounds p v) a.tmps, defers := [] } W)
    (hdone : ∀ D G W, I xs G W → (∀ k, G k → D < k) → Keeps (fun k => Mut k ∨ w.heap.size ≤ k) w W → W.heap[D]? = some (.deferred (some [])) → w.heap.size ≤ D →
      Q .normal { a with defers := { target := .collected D, args := #[] } :: a.defers } W)
    (hstop : ∀ D c pre x rest G W, xs = pre ++ x :: rest → Ix c (pre ++ [x]) G W → (∀ k, G k → D < k) → Keeps (fun k => Mut k ∨ w.heap.size ≤ k) w W → W.heap[D]? = some (.deferred (some [])) → w.heap.size ≤ D →
      c.wp P Q { a with defers := { target := .collected D, args := #[] } :: a.defers } W) :
    (Code.rangeFunc g ps assign body).wp P Q a w := by
  refine (wpIn_wide (n := 0)).1 (wpIn_rangeFunc ?_)
  intro fn hfn
  obtain ⟨rec, hrec⟩ : ∃ rec : LoopState → Option Code → Loop, rec = fun st pe => { state := st, pending := pe, fn, tmps := a.tmps, params := ps, assign, body, defers := w.heap.size } := ⟨_, rfl⟩
  obtain ⟨W1, hW1⟩ : ∃ W1, (w.alloc (.deferred (some []))).alloc (.loop (rec .ready none)) = W1 := ⟨_, rfl⟩
  have hsz : W1.heap.size = w.heap.size + 2 := by rw [← hW1]; simp
  have hL1 : W1.heap[w.heap.size + 1]? = some (.loop (rec .ready none)) := by rw [← hW1]; exact heap_alloc_at _ _ _ (by simp)
  have hK1 : W1.heap[w.heap.size]? = some (.deferred (some [])) := by rw [← hW1]; exact (hget_old _ _ _ (by simp)).trans (heap_alloc_at _ _ _ rfl)
  have hkw : ∀ M : Nat → Prop, Keeps M w W1 := fun M => by rw [← hW1]; exact (Keeps.alloc _ _ _).trans (Keeps.alloc _ _ _)
  have hb1 : Below w.heap.size w W1 := (hkw (fun _ => False)).below (Nat.le_refl _) (fun _ _ h => h)
  refine ⟨w.heap.size + 1, [{ target := .collected w.heap.size, args := #[] }], W1, { target := .fn (.func gf) lb, args := #[.func (.yield (w.heap.size + 1)) #[] #[]] }, W1, gf,
    #[.func (.yield (w.heap.size + 1)) #[] #[]] ++ lb, W1, ?_, ?_, fun _ _ => trivial, ?_, fun h => by simp [Fence.wide] at h, ?_⟩
  · rw [← hW1, hrec]; exact run_enterLoop_outer _ _ _ _ _
  · simp only [resolve, hg]
    simp [go_sem]
  · simp [invoke, go_sem, eg]
  refine callsIn_wide.2 ((hseq W1 hb1 (w.heap.size + 1) (fun k => Mut k ∨ k = w.heap.size + 1)
    (fun s G W => I s G W ∧ W.heap[w.heap.size + 1]? = some (.loop (rec .ready none)) ∧ W.heap[w.heap.size]? = some (.deferred (some [])) ∧ ∀ k, G k → w.heap.size + 2 ≤ k)
    (fun s G W => ∃ c, Ix c s G W ∧ W.heap[w.heap.size + 1]? = some (.loop (rec .done (some c))) ∧ W.heap[w.heap.size]? = some (.deferred (some [])) ∧ ∀ k, G k → w.heap.size + 2 ≤ k)
    ?_ ?_ ?_ ?_ ?_).mono ?_)
  · rintro k (hk | rfl)
    · exact ⟨by have := (hM k hk).1; omega, (hM k hk).2⟩
    · exact ⟨by omega, fun h => by have := hRd _ h; omega⟩
  · rintro s G A B ⟨hi, hl, hd, hG⟩ hk
    exact ⟨hI s G A B hi (hk.mono fun k _ h => ⟨by omega, h.2⟩), (hk.block _ (lt_of_block hl) (by omega)).trans hl, (hk.block _ (lt_of_block hd) (by omega)).trans hd, hG⟩
  · rintro s G A B ⟨c, hi, hl, hd, hG⟩ hk
    exact ⟨c, hIx c s G A B hi (hk.mono fun k _ h => ⟨by omega, h.2⟩), (hk.block _ (lt_of_block hl) (by omega)).trans hl, (hk.block _ (lt_of_block hd) (by omega)).trans hd, hG⟩
  · -- one round
    rintro pre x rest G W hxs ⟨hi, hl, hd, hG⟩ hWs _
    have hlt : w.heap.size + 1 < W.heap.size := by omega
    have hy := run_yield (P := P) (args := encs x) hl (by rw [hrec]; exact hps x)
    rw [hrec] at hy
    refine ⟨fn, _, assign, body, hy, roundIn_of_wpIn hfn (wpIn_mono (hround (w.heap.size + 1) pre x rest G W hxs hi (by omega) hlt (fun k h => by have := hG k h; omega)) ?_)⟩
    intro e a1 Wa hp
    cases e with
    | normal =>
      obtain ⟨hkm, hbody⟩ := hp
      have hla : Wa.heap[w.heap.size + 1]? = some (.loop (rec .ready none)) := (hkm.block _ hlt (fun h => h.elim (fun h => by have := (hM _ h).1; omega) (fun h => by have := hG _ h; omega))).trans hl
      have hda : Wa.heap[w.heap.size]? = some (.deferred (some [])) := (hkm.block _ (by omega) (fun h => h.elim (fun h => by have := (hM _ h).1; omega) (fun h => by have := hG _ h; omega))).trans hd
      refine ⟨_, run_beginRound hla (by rw [hrec]), ?_⟩
      refine wpIn_mono (hbody _ (Keeps.putObj _ _ _ rfl) (by simp)) ?_
      intro e2 a2 W3 hp
      have hl2 : (Wa.putObj (w.heap.size + 1) (.loop { rec .ready none with state := .busy })).heap[w.heap.size + 1]? = some (.loop { rec .ready none with state := .busy }) := World.putObj_heap_same (lt_of_block hla)
      have hd2 : (Wa.putObj (w.heap.size + 1) (.loop { rec .ready none with state := .busy })).heap[w.heap.size]? = some (.deferred (some [])) := (World.putObj_heap_other (by omega)).trans hda
      have fin : ∀ (jump : Option Code), Keeps (fun k => Mut k ∨ G k) (Wa.putObj (w.heap.size + 1) (.loop { rec .ready none with state := .busy })) W3 → ∃ W4,
          (Instr.endRound (w.heap.size + 1) jump).run P W3 = .ok (.bool jump.isNone) W4 ∧
          W4.heap[w.heap.size + 1]? = some (.loop (rec (if jump.isNone then .ready else .done) jump)) ∧ W4.heap[w.heap.size]? = some (.deferred (some [])) ∧
          Keeps (fun k => (Mut k ∨ k = w.heap.size + 1) ∨ G k) W W4 ∧ Keeps (fun k => k = w.heap.size + 1) W3 W4 ∧ W4.heap.size = W3.heap.size := fun jump hk3 => by
        have hs2 : (Wa.putObj (w.heap.size + 1) (.loop { rec .ready none with state := .busy })).heap.size = Wa.heap.size := by simp
        have hl3 := (hk3.block _ (by have := lt_of_block hl2; exact this) (fun h => h.elim (fun h => by have := (hM _ h).1; omega) (fun h => by have := hG _ h; omega))).trans hl2
        have hd3 := (hk3.block _ (by have := lt_of_block hd2; exact this) (fun h => h.elim (fun h => by have := (hM _ h).1; omega) (fun h => by have := hG _ h; omega))).trans hd2
        have hr := run_endRound (P := P) jump hl3
        refine ⟨_, hr, ?_, (World.putObj_heap_other (by omega)).trans hd3, ?_, Keeps.putObj _ _ _ rfl, by simp⟩
        · rw [World.putObj_heap_same (lt_of_block hl3), hrec]
        · exact (hkm.mono fun k _ h => h.elim (fun h => .inl (.inl h)) .inr).trans ((Keeps.putObj _ _ _ (.inl (.inr rfl))).trans ((hk3.mono fun k _ h => h.elim (fun h => .inl (.inl h)) .inr).trans (Keeps.putObj _ _ _ (.inl (.inr rfl)))))
      have hstep : ∀ (J : List α → (Nat → Prop) → World → Prop) (W4 : World), Stable w.heap.size J → J (pre ++ [x]) (Grow G W W3) W3 → Keeps (fun k => k = w.heap.size + 1) W3 W4 → W4.heap.size = W3.heap.size → J (pre ++ [x]) (Grow G W W4) W4 := fun J W4 hJ hj hk hs => by
        have : Grow G W W4 = Grow G W W3 := by unfold Grow; rw [hs]
        rw [this]
        refine hJ _ _ _ _ hj (hk.mono fun k _ h => ?_)
        subst h
        refine ⟨by omega, ?_⟩
        rintro (h | h)
        · have := hG _ h; omega
        · omega
      have hGG : ∀ W4 : World, ∀ k, Grow G W W4 k → w.heap.size + 2 ≤ k := by
        rintro W4 k (h | h)
        · exact hG k h
        · omega
      cases e2 with
      | normal =>
        obtain ⟨hk3, hi3⟩ := hp
        obtain ⟨W4, hr, hl4, hd4, hkk, hk4, hs4⟩ := fin none hk3
        exact ⟨_, _, hr, hkk, .inl ⟨rfl, hstep _ _ hI hi3 hk4 hs4, hl4, hd4, hGG _⟩⟩
      | ret =>
        obtain ⟨hk3, hi3⟩ := hp
        obtain ⟨W4, hr, hl4, hd4, hkk, hk4, hs4⟩ := fin (some .ret) hk3
        exact ⟨_, _, hr, hkk, .inr ⟨rfl, _, hstep _ _ (hIx _) hi3 hk4 hs4, hl4, hd4, hGG _⟩⟩
      | exit id =>
        obtain ⟨hk3, hi3⟩ := hp
        obtain ⟨W4, hr, hl4, hd4, hkk, hk4, hs4⟩ := fin (some (.exit id)) hk3
        exact ⟨_, _, hr, hkk, .inr ⟨rfl, _, hstep _ _ (hIx _) hi3 hk4 hs4, hl4, hd4, hGG _⟩⟩
      | goto t =>
        obtain ⟨hk3, hi3⟩ := hp
        obtain ⟨W4, hr, hl4, hd4, hkk, hk4, hs4⟩ := fin (some (.goto t)) hk3
        exact ⟨_, _, hr, hkk, .inr ⟨rfl, _, hstep _ _ (hIx _) hi3 hk4 hs4, hl4, hd4, hGG _⟩⟩
      | panic ch => exact hp.elim
      | outgrown => exact hp.elim
    | ret => exact hp.elim
    | exit id => exact hp.elim
    | goto t => exact hp.elim
    | panic ch => exact hp.elim
    | outgrown => exact hp.elim
  · exact ⟨hI _ _ _ _ h0 (hkw _), hL1, hK1, fun _ h => h.elim⟩
  · -- behind the iterator
    rintro e W2 ⟨⟨v, rfl⟩, hk, G, h⟩
    have hkk : ∀ o, Keeps (fun k => Mut k ∨ w.heap.size ≤ k) w (W2.putObj (w.heap.size + 1) o) := fun o =>
      ((hkw _).trans (hk.mono fun k _ h => h.elim (fun h => h.elim .inl fun e => .inr (by omega)) (fun h => .inr (by omega)))).trans (Keeps.putObj _ _ _ (.inr (by omega)))
    have hst : ∀ (J : List α → (Nat → Prop) → World → Prop) (s : List α) (o : Obj), Stable w.heap.size J → J s G W2 → (∀ k, G k → w.heap.size + 2 ≤ k) → J s G (W2.putObj (w.heap.size + 1) o) := fun J s o hJ hj hG =>
      hJ _ _ _ _ hj (Keeps.putObj _ _ _ ⟨by omega, fun h => by have := hG _ h; omega⟩)
    rcases h with ⟨hi, hl, hd, hG⟩ | ⟨pre, x, rest, hxs, c, hi, hl, hd, hG⟩
    · exact ⟨none, _, by have := run_endLoop (P := P) hl (by rw [hrec]; simp); rw [hrec] at this; exact this,
        hdone _ G _ (hst _ _ _ hI hi hG) (fun k h => by have := hG k h; omega) (hkk _) ((World.putObj_heap_other (by omega)).trans hd) (Nat.le_refl _)⟩
    · exact ⟨some c, _, by have := run_endLoop (P := P) hl (by rw [hrec]; simp); rw [hrec] at this; exact this,
        wpIn_wide.2 (hstop _ c pre x rest G _ hxs (hst _ _ _ (hIx c) hi hG) (fun k h => by have := hG k h; omega) (hkk _) ((World.putObj_heap_other (by omega)).trans hd) (Nat.le_refl _))⟩


end Go.Proofs.Ytabbmihakoeegaa

/- A plan, in plain words. -/
namespace Go.Proofs.Ytabbmihakoeegaa
set_option linter.unusedVariables false
set_option linter.unusedSimpArgs false
open Stab

/-! ### a sorted list -/
def insV (lt : Nat → Nat → Bool) (x : Nat) : List Nat → List Nat
  | [] => [x]
  | y :: l => if lt x y then x :: y :: l else y :: insV lt x l
def sortV (lt : Nat → Nat → Bool) : List Nat → List Nat
  | [] => []
  | x :: l => insV lt x (sortV lt l)
theorem insV_perm (lt : Nat → Nat → Bool) (x : Nat) : ∀ l, (insV lt x l).Perm (x :: l)
  | [] => List.Perm.refl _
  | y :: l => by
    unfold insV
    split
    · exact List.Perm.refl _
    · exact ((insV_perm lt x l).cons y).trans (List.Perm.swap x y l)
theorem sortV_perm (lt : Nat → Nat → Bool) : ∀ l, (sortV lt l).Perm l
  | [] => List.Perm.refl _
  | x :: l => (insV_perm lt x _).trans ((sortV_perm lt l).cons x)
theorem insV_srt {lt : Nat → Nat → Bool} (ho : STO (fun x y => lt x y = true)) (x : Nat) : ∀ l, Srt (fun x y => lt x y = true) l → x ∉ l → Srt (fun x y => lt x y = true) (insV lt x l)
  | [], _, _ => List.pairwise_singleton _ _
  | y :: l, h, hn => by
    unfold insV
    split
    · rename_i h1
      refine List.pairwise_cons.2 ⟨fun z hz => ?_, h⟩
      rcases List.mem_cons.1 hz with rfl | hz
      · exact h1
      · exact ho.tr h1 ((List.pairwise_cons.1 h).1 z hz)
    · rename_i h1
      refine List.pairwise_cons.2 ⟨fun z hz => ?_, insV_srt ho x l (List.pairwise_cons.1 h).2 (fun k => hn (List.mem_cons_of_mem _ k))⟩
      rcases List.mem_cons.1 ((insV_perm lt x l).mem_iff.1 hz) with rfl | hz
      · exact ho.not (fun e => hn (by rw [e]; exact List.mem_cons_self)) h1
      · exact (List.pairwise_cons.1 h).1 z hz
theorem sortV_srt {lt : Nat → Nat → Bool} (ho : STO (fun x y => lt x y = true)) : ∀ l : List Nat, l.Nodup → Srt (fun x y => lt x y = true) (sortV lt l)
  | [], _ => List.Pairwise.nil
  | x :: l, h => insV_srt ho x _ (sortV_srt ho l (List.nodup_cons.1 h).2) (fun k => (List.nodup_cons.1 h).1 ((sortV_perm lt l).mem_iff.1 k))
/-- The sorted list is what a sort gives. -/
theorem sortV_is {lt : Nat → Nat → Bool} (ho : STO (fun x y => lt x y = true)) {l M : List Nat} (hn : l.Nodup) (hp : M.Perm l) (hs : Srt (fun x y => lt x y = true) M) : M = sortV lt l :=
  srt_unique ho hs (sortV_srt ho l hn) (hp.trans (sortV_perm lt l).symm)

/-! ### a plan -/
structure PlanD where
  pr : PairD
  wide : Int
  prices : List Int
def validP (q : PlanD) : Bool := validB q.pr && inB q.wide 0 40 && decide (q.prices.length = q.pr.rs.length) && q.prices.all fun n => inB n 0 20
/-- How wide a block is, by a set of readings. -/
def widB (p : PairD) (s b : Nat) : Int := if b < p.bs.length then (hullD (onlyP p s) b 5).2 - (hullD (onlyP p s) b 5).1 else 0
def widsV (p : PairD) (s : Nat) : List Int := (List.range 5).map (widB p s)
def maxL : List Int → Int
  | [] => 0
  | x :: l => l.foldl max x
def sumL (l : List Int) : Int := l.foldl (· + ·) 0
def widestV (p : PairD) (s : Nat) : Int := maxL (widsV p s)
def totalV (p : PairD) (s : Nat) : Int := sumL (widsV p s)
def enoughV (q : PlanD) (s : Nat) : Bool := decide (widestV q.pr s ≤ q.wide)
def everyV (q : PlanD) : Nat := 2 ^ q.prices.length - 1
def costV (q : PlanD) (s : Nat) : Int := sumL ((List.range q.prices.length).filterMap fun i => if s.testBit i then q.prices[i]? else none)
/-- What a set is worth: by how many readings, or by what they cost first. -/
def muchV (q : PlanD) (pr : Bool) (s : Nat) : Int := if pr then costV q s else 0
def lessW (q : PlanD) (pr : Bool) (s t : Nat) : Bool := if muchV q pr s ≠ muchV q pr t then decide (muchV q pr s < muchV q pr t) else decide (ones s < ones t) || (decide (ones s = ones t) && decide (s < t))
theorem lessW_iff (q : PlanD) (pr : Bool) (s t : Nat) : lessW q pr s t = true ↔ muchV q pr s < muchV q pr t ∨ (muchV q pr s = muchV q pr t ∧ (ones s < ones t ∨ (ones s = ones t ∧ s < t))) := by
  unfold lessW
  split
  · simp only [decide_eq_true_eq]; omega
  · simp only [Bool.or_eq_true, Bool.and_eq_true, decide_eq_true_eq]; omega
theorem lessW_sto (q : PlanD) (pr : Bool) : STO (fun s t => lessW q pr s t = true) where
  irr s := by rw [lessW_iff]; omega
  tr {x y z} h1 h2 := by rw [lessW_iff] at *; omega
  tot {x y} h := by rw [lessW_iff, lessW_iff]; omega
def cmpW (q : PlanD) (pr : Bool) (s t : Nat) : Int := if s = t then 0 else if lessW q pr s t then -1 else 1
theorem cmpW_neg (q : PlanD) (pr : Bool) (s t : Nat) : cmpW q pr s t < 0 ↔ lessW q pr s t = true := by
  unfold cmpW
  split
  · rename_i h; subst h
    exact ⟨fun h => absurd h (by decide), fun h => absurd h ((lessW_sto q pr).irr s)⟩
  · split <;> rename_i h
    · exact ⟨fun _ => h, fun _ => by decide⟩
    · exact ⟨fun k => absurd k (by decide), fun k => absurd k h⟩
def setsV (q : PlanD) (pr : Bool) : List Nat := sortV (lessW q pr) (List.range (2 ^ q.prices.length))
def firstV (is : Nat → Bool) (l : List Nat) : Nat := (l.find? is).getD 0

/-! ### what is told -/
/-- The errors: a plan that is not valid, else what is not so, a pair without a truth, readings that are not enough. -/
def errP (q : PlanD) (ok : Bool) : Int := if validP q = false then 1 else if ok = false then 2 else if truA q.pr = [] then 10 else 0
def errE (q : PlanD) : Int := if errP q true ≠ 0 then errP q true else if enoughV q (everyV q) then 0 else 4
def isSetV (q : PlanD) (n : Int) : Bool := inB n 0 (everyV q : Int)
def blocksV (q : PlanD) (n : Int) : (Int × Int) × Int :=
  if errP q (isSetV q n) ≠ 0 then ((0, 0), errP q (isSetV q n)) else (((setN (fun b => decide (widB q.pr n.toNat b ≤ q.wide)) q.pr.bs.length : Nat), widestV q.pr n.toNat), 0)
def fewestV (q : PlanD) : Int × Int := if errE q ≠ 0 then (0, errE q) else ((firstV (enoughV q) (setsV q false) : Nat), 0)
def cheapSetV (q : PlanD) : Nat := firstV (enoughV q) (setsV q true)
def cheapestV (q : PlanD) : (Int × Int) × Int := if errE q ≠ 0 then ((0, 0), errE q) else (((cheapSetV q : Nat), costV q (cheapSetV q)), 0)
def neededV (q : PlanD) : Int × Int := if errE q ≠ 0 then (0, errE q) else ((setN (fun i => !enoughV q (everyV q - 2 ^ i)) q.prices.length : Nat), 0)
def bestStep (q : PlanD) (most : Int) (a : Nat × Int) (s : Nat) : Nat × Int := if (ones s : Int) ≤ most ∧ widestV q.pr s < a.2 then (s, widestV q.pr s) else a
def bestPV (q : PlanD) (most : Int) : Nat × Int := (setsV q false).foldl (bestStep q most) (0, widestV q.pr 0)
def bestPlV (q : PlanD) (most : Int) : (Int × Int) × Int :=
  if errP q (inB most 0 8) ≠ 0 then ((0, 0), errP q (inB most 0 8)) else (((bestPV q most).1, (bestPV q most).2), 0)
/-- The next reading of an order: the first of those that leave all blocks together least wide. -/
def nextStep (q : PlanD) (s : Nat) (a : Int × Int) (n : Nat) : Int × Int :=
  if s.testBit n then a else if a.1 < 0 ∨ totalV q.pr (s + 2 ^ n) < a.2 then ((n : Int), totalV q.pr (s + 2 ^ n)) else a
def nextP (q : PlanD) (s k : Nat) : Int × Int := (List.range k).foldl (nextStep q s) (-1, 0)
def nextV (q : PlanD) (s : Nat) : Int := (nextP q s q.prices.length).1
def orderL (q : PlanD) : Nat → Nat → List Int
  | 0, _ => []
  | f + 1, s => if enoughV q s then [] else nextV q s :: orderL q f (s + 2 ^ (nextV q s).toNat)
def orderV (q : PlanD) : List Int × Int := if errE q ≠ 0 then ([], errE q) else (orderL q q.prices.length 0, 0)
def groupsS (p : PairD) (s : Nat) : Int := (groupsV (onlyP p s)).1
def closedV (q : PlanD) : Int × Int := if validP q = false then (0, 1) else ((firstV (fun s => decide (groupsS q.pr s = groupsS q.pr (everyV q))) (setsV q false) : Nat), 0)

/-! ### the document's examples -/
def samplePD (wide : Int) (l : List RdD) : PlanD :=
  ⟨⟨[(0, 0), (-5, 5), (-5, 5)], 0, 1, 2, 2, [⟨1, 0, 0, 3, 4⟩, ⟨2, 0, 10, 3, 3⟩, ⟨1, 2, 20, 5, 7⟩] ++ l⟩, wide, [5, 4, 1] ++ l.map fun _ => 1⟩
def clashPD : PlanD := samplePD 2 [⟨2, 1, 0, 5, 5⟩]
theorem val_blocksP : blocksV (samplePD 2 []) 5 = ((3, 3), 0) := by decide +kernel
theorem val_fewestP : fewestV (samplePD 2 []) = (3, 0) := by decide +kernel
theorem val_cheapP : cheapestV (samplePD 3 []) = ((5, 6), 0) := by decide +kernel
theorem val_neededP : neededV (samplePD 3 []) = (1, 0) := by decide +kernel
theorem val_bestP : bestPlV (samplePD 2 []) 1 = ((0, 10), 0) := by decide +kernel
theorem val_orderP : orderV (samplePD 2 []) = ([1, 0], 0) := by decide +kernel
theorem val_closedP : closedV clashPD = (3, 0) := by decide +kernel
theorem val_fewest2 : fewestV clashPD = (0, 10) := by decide +kernel
theorem val_fewest3 : fewestV (samplePD 1 []) = (0, 4) := by decide +kernel
end Go.Proofs.Ytabbmihakoeegaa

/- The small functions of package plan. -/
namespace Go.Proofs.Ytabbmihakoeegaa
set_option linter.unusedVariables false
set_option linter.unusedSimpArgs false
open Go.RowKit Go.Shelf
attribute [local go_sem] Oper.semAt_some

theorem pwithin_any (n a b : Int) (w : World) :
    Calls Try.prog 40 #[.int .i64 n, .int .i64 a, .int .i64 b] w fun e w' => e = .returned (.bool (inB n a b)) ∧ w = w' := by
  have H : Hid (inB n a b = (decide (a ≤ n) && decide (n ≤ b))) := by show _ = _; simp [inB]
  go_enter Try.func40, Try.ntmps40
  go_wp2
  all_goals go_ret
  all_goals exact ⟨by rw [H.out]; simp [*]; try omega, rfl⟩
theorem palways_any (v : Value) (w : World) :
    Calls Try.prog 51 #[v] w fun e w' => e = .returned (.bool true) ∧ w = w' := by
  go_enter Try.func51, Try.ntmps51
  go_wp2
  go_ret
  exact ⟨rfl, rfl⟩
theorem ask_ok (n : Int) (w : World) :
    Calls Try.prog 71 #[.bool true, .int .i64 n] w fun e w' => e = .returned (.tuple #[]) ∧ w = w' := by
  go_enter Try.func71, Try.ntmps71
  go_wp2
  go_end0
  exact ⟨rfl, rfl⟩
def refV (n : Int) : Value := .iface 107 (.int .i64 n)
theorem ask_no (n : Int) (w : World) :
    Calls Try.prog 71 #[.bool false, .int .i64 n] w fun e w' => e = .panicked [{ v := refV n, recovered := false }] ∧ w = w' := by
  go_enter Try.func71, Try.ntmps71
  go_wp2
  exact ⟨rfl, rfl, rfl⟩
theorem many_any (s : Nat) (hs : s < 256) (w : World) :
    Calls Try.prog 42 #[.int .u64 s] w fun e w' => e = .returned (.int .i64 (ones s)) ∧ w = w' := by
  go_enter Try.func42, Try.ntmps42
  go_wp2_with (go_at_call 78; refine (ones_any s hs _).mono ?_; rintro e w' ⟨rfl, rfl⟩)
  go_ret
  exact ⟨rfl, rfl⟩
theorem has_any (s n : Nat) (hs : s < 256) (hn : n < 64) (w : World) :
    Calls Try.prog 90 #[.int .u64 s, .int .i64 n] w fun e w' => e = .returned (.bool (s.testBit n)) ∧ w = w' := by
  have hb := bit_test s n hs
  go_enter Try.func90, Try.ntmps90
  go_wp2
  go_ret
  exact ⟨rfl, rfl⟩
theorem or_u64 : ∀ n : Fin 9, ∀ s : Fin 512, bits BinOp.or IntKind.u64 (s.val : Int) (IntKind.u64.wrap (2 ^ n.val)) = ((s.val ||| 2 ^ n.val : Nat) : Int) := by decide +kernel
theorem with_any (s n : Nat) (hs : s < 512) (hn : n ≤ 8) (w : World) :
    Calls Try.prog 35 #[.int .u64 s, .int .i64 n] w fun e w' => e = .returned (.int .u64 ((s ||| 2 ^ n : Nat) : Int)) ∧ w = w' := by
  have hb := or_u64 ⟨n, by omega⟩ ⟨s, hs⟩
  simp only at hb
  have HB := Lib.hid hb
  clear hb
  go_enter Try.func35, Try.ntmps35
  go_wp2
  go_ret
  exact ⟨by rw [← HB.out]; rfl, rfl⟩

/-! ### a sum -/
def NumsAt (W : World) (v : Value) (l : List Int) (Rd : Nat → Prop) : Prop :=
  ∃ ao cap, v = .slice ao l.length cap ∧ l.length ≤ cap ∧ cap ≤ maxLen ∧ ∀ i (h : i < l.length), ∃ b off, ao = some ⟨b, off, none⟩ ∧ Rd b ∧ b < W.heap.size ∧ W.cell? ⟨b, off + i, none⟩ = some (.int .i64 l[i])
theorem NumsAt.later {w W : World} {v : Value} {l : List Int} {Rd : Nat → Prop} (h : NumsAt w v l Rd) (hs : w.heap.size ≤ W.heap.size) (hk : ∀ k, k < w.heap.size → Rd k → W.heap[k]? = w.heap[k]?) : NumsAt W v l Rd := by
  obtain ⟨ao, cap, h1, h2, h3, h4⟩ := h
  refine ⟨ao, cap, h1, h2, h3, fun i hi => ?_⟩
  obtain ⟨b, off, e1, e2, e3, e4⟩ := h4 i hi
  exact ⟨b, off, e1, e2, Nat.lt_of_lt_of_le e3 hs, (World.cell?_of_block (w := w) (a := ⟨b, off + i, none⟩) (hk b e3 e2)).trans e4⟩
theorem NumsAt.mono {W : World} {v : Value} {l : List Int} {Rd Rd' : Nat → Prop} (h : NumsAt W v l Rd) (hr : ∀ k, Rd k → Rd' k) : NumsAt W v l Rd' := by
  obtain ⟨ao, cap, h1, h2, h3, h4⟩ := h
  exact ⟨ao, cap, h1, h2, h3, fun i hi => by obtain ⟨b, off, e1, e2, e3⟩ := h4 i hi; exact ⟨b, off, e1, hr b e2, e3⟩⟩
theorem NumsAt.len {W : World} {v : Value} {l : List Int} {Rd : Nat → Prop} (h : NumsAt W v l Rd) : ∃ ao cap, v = .slice ao l.length cap := by
  obtain ⟨ao, cap, h1, _⟩ := h; exact ⟨ao, cap, h1⟩
theorem sumL_snoc (l : List Int) (x : Int) : sumL (l ++ [x]) = sumL l + x := by unfold sumL; rw [List.foldl_append]; rfl
theorem sumL_take (l : List Int) (k : Nat) (h : k < l.length) : sumL (l.take (k + 1)) = sumL (l.take k) + l[k] := by
  rw [List.take_succ_eq_append_getElem h, sumL_snoc]
theorem sumL_bound (l : List Int) (hb : ∀ x ∈ l, -1000000 ≤ x ∧ x ≤ 1000000) : ∀ k, k ≤ l.length → -1000000 * (k : Int) ≤ sumL (l.take k) ∧ sumL (l.take k) ≤ 1000000 * (k : Int)
  | 0, _ => by rw [List.take_zero]; exact ⟨by decide, by decide⟩
  | k + 1, h => by
    obtain ⟨h1, h2⟩ := sumL_bound l hb k (by omega)
    have h3 := hb _ (List.getElem_mem (show k < l.length by omega))
    rw [sumL_take l k (by omega)]
    omega
set_option maxHeartbeats 1000000 in
theorem total_any (l : List Int) (hb : ∀ x ∈ l, -1000000 ≤ x ∧ x ≤ 1000000) (hl : l.length ≤ 1000) (v : Value) (Rd : Nat → Prop) (w : World) (hv : NumsAt w v l Rd) :
    Calls Try.prog 64 #[v] w fun e w' => e = .returned (.int .i64 (sumL l)) ∧ Below w.heap.size w w' := by
  obtain ⟨ao, cap, rfl, hc1, hc2, hel⟩ := hv
  have HE := Lib.hid hel
  have HB := Lib.hid (sumL_bound l hb)
  have HBX := Lib.hid hb
  clear hel hb
  go_enter Try.func64, Try.ntmps64
  go_wp2
  go_loopw [2, 7] (fun nv iv wr => ∃ i : Nat, i ≤ l.length ∧ iv = .int .i64 i ∧ nv = .int .i64 (sumL (l.take i)) ∧ Below w.heap.size w wr) (fun _ iv _ => l.length - (intOf iv).toNat)
  case atStart => exact ⟨0, Nat.zero_le _, rfl, rfl, Below.refl _ _⟩
  case round =>
    obtain ⟨i, hi, rfl, rfl, hbw⟩ := hrel
    have HW := Lib.hid hbw
    clear hbw
    by_cases hlt : i < l.length
    · obtain ⟨b, off, rfl, _, hbs, he⟩ := HE.out i hlt
      have hc := HW.out.cell (p := ⟨b, off + i, none⟩) hbs
      rw [he] at hc
      have hx := HBX.out _ (List.getElem_mem hlt)
      have h1 := HB.out i (by omega)
      have hs := sumL_take l i hlt
      obtain ⟨x, hxx⟩ : ∃ x, x = l[i] := ⟨_, rfl⟩
      obtain ⟨n, hn⟩ : ∃ n, n = sumL (l.take i) := ⟨_, rfl⟩
      rw [← hxx] at hc hx hs
      rw [← hn] at h1 hs
      have hw : IntKind.i64.wrap (n + x) = n + x := IntWalk.i64_in _ (by omega)
      have HS := Lib.hid hs
      clear hs h1 hx hxx
      rw [← hn]
      clear hn
      go_wp2
      exact ⟨⟨i + 1, by omega, rfl, by rw [HS.out], HW.out⟩, by simp [intOf]; omega⟩
    · obtain rfl : i = l.length := by omega
      go_wp2
      go_ret
      exact ⟨by rw [List.take_length]; rfl, HW.out⟩

/-! ### the readings of a set -/
def ofL (s : Nat) : List Nat := (List.range 8).filter s.testBit
def ofN (s n : Nat) : List Nat := (List.range n).filter s.testBit
theorem ofN_yes (s n : Nat) (h : s.testBit n = true) : ofN s (n + 1) = ofN s n ++ [n] := by
  unfold ofN; rw [List.range_succ, List.filter_append]; simp [h]
theorem ofN_no (s n : Nat) (h : s.testBit n = false) : ofN s (n + 1) = ofN s n := by
  unfold ofN; rw [List.range_succ, List.filter_append]; simp [h]
theorem ofN_split (s n k : Nat) : ∃ rest, ofN s (n + k) = ofN s n ++ rest := by
  induction k with
  | zero => exact ⟨[], by simp⟩
  | succ k ih =>
    obtain ⟨r, hr⟩ := ih
    cases h : s.testBit (n + k) with
    | true => exact ⟨r ++ [n + k], by rw [← Nat.add_assoc, ofN_yes s _ h, hr, List.append_assoc]⟩
    | false => exact ⟨r, by rw [← Nat.add_assoc, ofN_no s _ h, hr]⟩
theorem ofL_at (s n : Nat) (hn : n < 8) (h : s.testBit n = true) : ∃ rest, ofL s = ofN s n ++ n :: rest := by
  obtain ⟨r, hr⟩ := ofN_split s (n + 1) (8 - (n + 1))
  rw [show n + 1 + (8 - (n + 1)) = 8 by omega, ofN_yes s n h] at hr
  exact ⟨r, by rw [show ofL s = ofN s 8 from rfl, hr]; simp⟩
theorem ofN_end (s n : Nat) (hn : n ≤ 8) (h : s < 2 ^ n) : ofN s n = ofL s := by
  have : ∀ k, ofN s (n + k) = ofN s n := by
    intro k
    induction k with
    | zero => rfl
    | succ k ih => rw [← Nat.add_assoc, ofN_no s _ (Nat.testBit_lt_two_pow (Nat.lt_of_lt_of_le h (Nat.pow_le_pow_right (by decide) (by omega)))), ih]
  obtain ⟨k, hk⟩ : ∃ k, 8 = n + k := ⟨8 - n, by omega⟩
  rw [show ofL s = ofN s 8 from rfl, hk, this]
set_option maxHeartbeats 400000 in
theorem of_any (s : Nat) (w : World) :
    Calls Try.prog 56 #[.int .u64 s] w fun e w' => e = .returned (.func (.func 89) #[] #[.pointer (some ⟨w.heap.size, 0, none⟩)]) ∧ w.alloc (.cells #[.int .u64 s] 70 (0, 0)) = w' := by
  have hmf : ∀ (fn : Fn) (first cap : Array Value) (w : World), (Instr.makeFunc fn first cap).run Try.prog w = .ok (.func fn first cap) w := fun _ _ _ _ => rfl
  go_enter Try.func56, Try.ntmps56
  go_wp2
  go_ret
  exact ⟨rfl, rfl⟩
set_option maxRecDepth 100000 in
set_option maxHeartbeats 2000000 in
theorem of_seq (b1 s : Nat) (hs : s < 256) (W : World) (hb1 : W.heap[b1]? = some (.cells #[.int .u64 s] 70 (0, 0))) :
    SeqAt Try.prog 89 #[.pointer (some ⟨b1, 0, none⟩)] (fun n : Nat => #[.int .i64 n]) (ofL s) (fun k => k = b1) W := by
  intro l Mut J Jx hM hJ hJx hY h0
  have HM := Lib.hid hM
  have HJ := Lib.hid hJ
  have HJx := Lib.hid hJx
  have HY := Lib.hid hY
  clear hM hJ hJx hY
  have hlt1 := lt_of_block hb1
  have HB1 := Lib.hid hb1
  clear hb1
  refine callsIn_wide.1 (callsIn_of_wp (F := Fence.wide) (n := 0) Try.func89 rfl trivial ?_ rfl)
  simp only [Try.ntmps89, List.size_toArray, List.length_cons, List.length_nil, Nat.reduceAdd, Nat.reduceSub, Array.replicate_succ, Array.replicate_zero, List.push_toArray, List.append_toArray, List.nil_append, List.cons_append]
  have facts : ∀ wr, Keeps Mut W wr → wr.cell? ⟨b1, 0, none⟩ = some (.int .u64 s) := by
    intro wr hk
    have k1 := (hk.block b1 hlt1 (fun h => (HM.out _ h).2 rfl)).trans HB1.out
    rw [cell_of_row wr b1 _ _ _ _ k1]; rfl
  have HF := Lib.hid facts
  clear facts
  refine wpIn_wide.2 (wp_scope_straight ((wpIn_wide (n := 0)).1 (wpIn_seq (wpIn_label ?_))))
  simp only [Exit.then]
  gi_wp2
  gi_loopw [3] (fun z wr => ∃ (n : Nat) (G : Nat → Prop), n ≤ 8 ∧ z = .int .i64 n ∧ J (ofN s n) G wr ∧ Keeps Mut W wr) (fun z _ => 9 - (intOf z).toNat)
  case atStart => exact ⟨0, fun _ => False, Nat.zero_le _, rfl, h0, Keeps.refl _ _⟩
  case round =>
    obtain ⟨n, G, hn, rfl, hj, hk⟩ := hrel
    have HK := Lib.hid hk
    have HJJ := Lib.hid hj
    have f0 := HF.out wr hk
    clear hj hk
    have hdq : ((s : Int) / 2 ^ n) = ((s / 2 ^ n : Nat) : Int) := by simp
    by_cases hz : s / 2 ^ n = 0
    · have hz2 : (s : Int) / 2 ^ n = 0 := by rw [hdq, hz]; rfl
      have hlt : s < 2 ^ n := by
        rcases Nat.lt_or_ge s (2 ^ n) with h | h
        · exact h
        · have := Nat.div_pos h (Nat.two_pow_pos n); omega
      have HE := Lib.hid (ofN_end s n hn hlt)
      clear hdq hz hlt
      gi_wp2
      simp only [Exit.noGoto]
      go_end0
      exact ⟨⟨_, rfl⟩, HK.out, G, .inl (by rw [← HE.out]; exact HJJ.out)⟩
    · have hz2 : ¬ (s : Int) / 2 ^ n = 0 := by rw [hdq]; omega
      have hn8 : n < 8 := by
        rcases Nat.lt_or_ge n 8 with h | h
        · exact h
        · exact absurd (Nat.div_eq_of_lt (Nat.lt_of_lt_of_le hs (Nat.pow_le_pow_right (show 0 < 2 by decide) h) : s < 2 ^ n)) hz
      have hw : IntKind.i64.wrap ((n : Int) + 1) = ((n + 1 : Nat) : Int) := by rw [IntWalk.i64_in _ (by omega)]; omega
      clear hdq hz
      gi_wp2
      refine ⟨trivial, rfl, callsIn_wide.2 ((has_any s n hs (by omega) _).mono ?_)⟩
      rintro e w2 ⟨rfl, rfl⟩
      cases hb : s.testBit n with
      | false =>
        have HNO := Lib.hid (ofN_no s n hb)
        clear hb
        gi_wp2
        go_roundw
        case rel => exact ⟨n + 1, G, by omega, rfl, by rw [HNO.out]; exact HJJ.out, HK.out⟩
        case measure => simp [intOf]; omega
      | true =>
        have HYE := Lib.hid (ofN_yes s n hb)
        obtain ⟨rest, hrest⟩ := ofL_at s n hn8 hb
        obtain ⟨fn, tmps, assign, body, hy, hR⟩ := HY.out _ _ _ G wr hrest HJJ.out HK.out.size
        rw [← HYE.out] at hR
        have HSP := Lib.hid hrest
        clear hb hrest
        gi_wp2
        refine ⟨rfl, hR.mono ?_⟩
        rintro e W3 ⟨hk3, ⟨rfl, hj3⟩ | ⟨rfl, hj3⟩⟩
        · gi_wp2
          go_roundw
          case rel => exact ⟨n + 1, _, by omega, rfl, hj3, HK.out.trans hk3⟩
          case measure => simp [intOf]; omega
        · gi_wp2
          simp only [Exit.noGoto]
          refine bodyPost_ret (results_none rfl _ _ _) rfl ?_
          exact ⟨⟨_, rfl⟩, HK.out.trans hk3, _, .inr ⟨_, _, _, HSP.out, by rw [← HYE.out]; exact hj3⟩⟩
end Go.Proofs.Ytabbmihakoeegaa

/- A plan in memory; how wide blocks are, kept in a map. -/
namespace Go.Proofs.Ytabbmihakoeegaa
set_option linter.unusedVariables false
set_option linter.unusedSimpArgs false
open Go.RowKit Go.Shelf
attribute [local go_sem] Oper.semAt_some

def planObj (bs rs ps : Value) (q : PlanD) (mv : Value) : Obj := .cells #[bs, .int .i64 q.pr.zl, .int .i64 q.pr.zh, .int .i64 q.pr.rl, .int .i64 q.pr.rh, rs, .int .i64 q.wide, ps, mv] 113 (0, 0)
/-- What is kept of a set: how wide each block is. -/
def knownC (p : PairD) (s : Nat) : Array Value := ((widsV p s).map (Value.int .i64)).toArray
def entK (p : PairD) (i : Nat) (s : Nat) : MapEntry := { key := .int .u64 (s : Int), val := .agg (knownC p s), born := i }
def keptM (p : PairD) (L : List Nat) : Obj := .map (L.mapIdx (entK p)).toArray L.length
structure PlanS (q : PlanD) (B pp mp : Nat) (bs rs ps : Value) (L : List Nat) (W : World) : Prop where
  obj : W.heap[pp]? = some (planObj bs rs ps q (.map (some mp)))
  map : W.heap[mp]? = some (keptM q.pr L)
  hb : SpansAt W bs q.pr.bs (fun k => k < B)
  hr : ReadsAt W rs q.pr.rs (fun k => k < B)
  hp : NumsAt W ps q.prices (fun k => k < B)
  lp : B ≤ pp
  lm : B ≤ mp
  ne : mp ≠ pp
  nd : L.Nodup
  lt : ∀ s ∈ L, s < 2 ^ q.prices.length
theorem PlanS.keeps {q : PlanD} {B pp mp : Nat} {bs rs ps : Value} {L L' : List Nat} {W W' : World} (h : PlanS q B pp mp bs rs ps L W) (hk : Keeps (fun k => k = mp) W W') (hm : W'.heap[mp]? = some (keptM q.pr L')) (nd : L'.Nodup) (lt : ∀ s ∈ L', s < 2 ^ q.prices.length) :
    PlanS q B pp mp bs rs ps L' W' where
  obj := (hk.block pp (lt_of_block h.obj) (fun e => h.ne e.symm)).trans h.obj
  map := hm
  hb := h.hb.later hk.size (fun k h1 h2 => hk.block k h1 (by have := h.lm; omega))
  hr := h.hr.later hk.size (fun k h1 h2 => hk.block k h1 (by have := h.lm; omega))
  hp := h.hp.later hk.size (fun k h1 h2 => hk.block k h1 (by have := h.lm; omega))
  lp := h.lp
  lm := h.lm
  ne := h.ne
  nd := nd
  lt := lt
theorem PlanS.keep {q : PlanD} {B pp mp : Nat} {bs rs ps : Value} {L : List Nat} {W W' : World} (h : PlanS q B pp mp bs rs ps L W) {M : Nat → Prop} (hk : Keeps M W W') (hM : ∀ k, M k → k < W.heap.size → k ≠ pp ∧ k ≠ mp ∧ B ≤ k) : PlanS q B pp mp bs rs ps L W' where
  obj := (hk.block pp (lt_of_block h.obj) (fun e => (hM _ e (lt_of_block h.obj)).1 rfl)).trans h.obj
  map := (hk.block mp (lt_of_block h.map) (fun e => (hM _ e (lt_of_block h.map)).2.1 rfl)).trans h.map
  hb := h.hb.later hk.size (fun k h1 h2 => hk.block k h1 (fun e => by have := (hM k e h1).2.2; omega))
  hr := h.hr.later hk.size (fun k h1 h2 => hk.block k h1 (fun e => by have := (hM k e h1).2.2; omega))
  hp := h.hp.later hk.size (fun k h1 h2 => hk.block k h1 (fun e => by have := (hM k e h1).2.2; omega))
  lp := h.lp
  lm := h.lm
  ne := h.ne
  nd := h.nd
  lt := h.lt
theorem PlanS.below {q : PlanD} {B pp mp : Nat} {bs rs ps : Value} {L : List Nat} {W W' : World} (h : PlanS q B pp mp bs rs ps L W) (hb : Below W.heap.size W W') : PlanS q B pp mp bs rs ps L W' :=
  h.keep (M := fun _ => False) (Keeps.of_below hb (fun k h1 h2 => by omega)) (fun k h => h.elim)
section
variable {q : PlanD} {B pp mp : Nat} {bs rs ps : Value} {L : List Nat} {W : World} (h : PlanS q B pp mp bs rs ps L W)
include h
theorem PlanS.c0 : W.cell? ⟨pp, 0, none⟩ = some bs := by rw [cell_of_row W _ _ _ _ _ h.obj]; rfl
theorem PlanS.c1 : W.cell? ⟨pp, 1, none⟩ = some (.int .i64 q.pr.zl) := by rw [cell_of_row W _ _ _ _ _ h.obj]; rfl
theorem PlanS.c2 : W.cell? ⟨pp, 2, none⟩ = some (.int .i64 q.pr.zh) := by rw [cell_of_row W _ _ _ _ _ h.obj]; rfl
theorem PlanS.c3 : W.cell? ⟨pp, 3, none⟩ = some (.int .i64 q.pr.rl) := by rw [cell_of_row W _ _ _ _ _ h.obj]; rfl
theorem PlanS.c4 : W.cell? ⟨pp, 4, none⟩ = some (.int .i64 q.pr.rh) := by rw [cell_of_row W _ _ _ _ _ h.obj]; rfl
theorem PlanS.c5 : W.cell? ⟨pp, 5, none⟩ = some rs := by rw [cell_of_row W _ _ _ _ _ h.obj]; rfl
theorem PlanS.c6 : W.cell? ⟨pp, 6, none⟩ = some (.int .i64 q.wide) := by rw [cell_of_row W _ _ _ _ _ h.obj]; rfl
theorem PlanS.c7 : W.cell? ⟨pp, 7, none⟩ = some ps := by rw [cell_of_row W _ _ _ _ _ h.obj]; rfl
theorem PlanS.c8 : W.cell? ⟨pp, 8, none⟩ = some (.map (some mp)) := by rw [cell_of_row W _ _ _ _ _ h.obj]; rfl
end
/-- A plan that is valid. -/
structure OkQ (q : PlanD) : Prop where
  pr : validB q.pr = true
  w0 : 0 ≤ q.wide
  w1 : q.wide ≤ 40
  len : q.prices.length = q.pr.rs.length
  m8 : q.prices.length ≤ 8
  ps : ∀ n ∈ q.prices, 0 ≤ n ∧ n ≤ 20
theorem OkQ.of {q : PlanD} (h : validP q = true) : OkQ q := by
  simp only [validP, inB, Bool.and_eq_true, List.all_eq_true, decide_eq_true_eq] at h
  obtain ⟨⟨⟨h1, h2⟩, h3⟩, h4⟩ := h
  exact ⟨h1, h2.1, h2.2, h3, by rw [h3]; exact (OkP.of _ h1).m8, h4⟩
theorem pow_le {m : Nat} (h : m ≤ 8) : 2 ^ m ≤ 256 := Nat.pow_le_pow_right (show 0 < 2 by decide) h
theorem OkQ.p256 {q : PlanD} (h : OkQ q) : 2 ^ q.prices.length ≤ 256 := pow_le h.m8
theorem everyV_lt {q : PlanD} : everyV q < 2 ^ q.prices.length := by unfold everyV; have := Nat.two_pow_pos q.prices.length; omega
theorem everyV_is {q : PlanD} (h : OkQ q) : everyV q = allR q.pr := by unfold everyV allR; rw [h.len]
theorem pevery_any {q : PlanD} (hq : OkQ q) {B pp mp : Nat} {bs rs ps : Value} {L : List Nat} (w : World) (h : PlanS q B pp mp bs rs ps L w) :
    Calls Try.prog 55 #[.pointer (some ⟨pp, 0, none⟩)] w fun e w' => e = .returned (.int .u64 (everyV q : Nat)) ∧ w = w' := by
  have c7 := h.c7
  obtain ⟨ao, cap, rfl⟩ := h.hp.len
  have hm8 := hq.m8
  clear h
  go_enter Try.func55, Try.ntmps55
  go_wp2
  go_ret
  exact ⟨by unfold everyV; rw [← u64_pow q.prices.length hm8]; rfl, rfl⟩
theorem pisSet_any {q : PlanD} (hq : OkQ q) {B pp mp : Nat} {bs rs ps : Value} {L : List Nat} (n : Int) (w : World) (h : PlanS q B pp mp bs rs ps L w) :
    Calls Try.prog 32 #[.pointer (some ⟨pp, 0, none⟩), .int .i64 n] w fun e w' => e = .returned (.bool (isSetV q n)) ∧ w = w' := by
  have HQ := Lib.hid hq
  have H := Lib.hid h
  have hE := @everyV_lt q
  have hp := hq.p256
  have hw : IntKind.i64.wrap ((everyV q : Nat) : Int) = ((everyV q : Nat) : Int) := IntWalk.i64_in _ (by omega)
  clear hq h hE hp
  go_enter Try.func32, Try.ntmps32
  go_wp2_with (first | (go_at_call 55; refine (pevery_any HQ.out _ H.out).mono ?_; rintro e w' ⟨rfl, rfl⟩) | (go_at_call 40; refine (pwithin_any _ _ _ _).mono ?_; rintro e w' ⟨rfl, rfl⟩))
  go_ret
  exact ⟨rfl, rfl⟩

/-! ### the map -/
theorem under_set : Try.prog.underlying 70 = some (.int .u64) := by kernel_rfl
theorem under_kept : Try.prog.underlying 111 = some (.map 70 67) := by kernel_rfl
theorem findK (p : PairD) (x : Nat) : ∀ (L : List Nat) (i : Nat) (l : List MapEntry), (∀ j : Nat, l[j]? = (L[j]?).map fun s => entK p (i + j) s) → ∀ k, (x ∈ L → ∃ j, Instr.findNow (.int .u64) (.int .u64 (x : Int)) l k = some (some (j, .agg (knownC p x)))) ∧ (x ∉ L → Instr.findNow (.int .u64) (.int .u64 (x : Int)) l k = some none)
  | [], i, l, h, k => by
    have : l = [] := by
      have h0 := h 0
      cases l with
      | nil => rfl
      | cons a l => simp at h0
    subst this
    exact ⟨(fun h => by cases h), fun _ => rfl⟩
  | s :: L, i, l, h, k => by
    cases l with
    | nil => have h0 := h 0; simp at h0
    | cons e l =>
      have h0 := h 0
      simp at h0
      subst h0
      have h' : ∀ j : Nat, l[j]? = (L[j]?).map fun s => entK p (i + 1 + j) s := fun j => by
        have := h (j + 1)
        simpa [Nat.add_comm, Nat.add_left_comm, Nat.add_assoc] using this
      obtain ⟨i1, i2⟩ := findK p x L (i + 1) l h' (k + 1)
      by_cases hx : x = s
      · subst hx
        refine ⟨fun _ => ⟨k, ?_⟩, fun hn => absurd List.mem_cons_self hn⟩
        unfold Instr.findNow
        simp [entK, Instr.sameNow]
      · have hs : Instr.sameNow (.int .u64) (.int .u64 (x : Int)) (.int .u64 (s : Int)) = some false := by simp [Instr.sameNow]; omega
        unfold Instr.findNow
        simp only [entK, hs]
        exact ⟨fun hm => i1 ((List.mem_cons.1 hm).resolve_left hx), fun hn => i2 (fun hm => hn (List.mem_cons_of_mem _ hm))⟩
theorem ents_get (p : PairD) (L : List Nat) (j : Nat) : (L.mapIdx (entK p)).toArray.toList[j]? = (L[j]?).map fun s => entK p (0 + j) s := by
  simp [List.getElem?_mapIdx]
theorem check_set (e : Bool) (x : Nat) (w : World) : (Instr.checkKey e 10000 70 (.int .u64 (x : Int))).run Try.prog w = .ok () w := by kernel_rfl
theorem keyK_in (p : PairD) (L : List Nat) (x : Nat) (w : World) (h : x ∈ L) : ∃ j, (Instr.findKey 70 (.int .u64 (x : Int)) (L.mapIdx (entK p)).toArray.toList).run Try.prog w = .ok (some (j, .agg (knownC p x))) w := by
  obtain ⟨j, hj⟩ := (findK p x L 0 _ (ents_get p L) 0).1 h
  refine ⟨j, ?_⟩
  unfold Instr.findKey
  simp only [Sem.run_bind, run_underlying under_set, Result.andThen_ok, hj]
  rfl
theorem keyK_out (p : PairD) (L : List Nat) (x : Nat) (w : World) (h : x ∉ L) : (Instr.findKey 70 (.int .u64 (x : Int)) (L.mapIdx (entK p)).toArray.toList).run Try.prog w = .ok none w := by
  have hj := (findK p x L 0 _ (ents_get p L) 0).2 h
  unfold Instr.findKey
  simp only [Sem.run_bind, run_underlying under_set, Result.andThen_ok, hj]
  rfl
def zeroK : Value := .agg #[.int .i64 0, .int .i64 0, .int .i64 0, .int .i64 0, .int .i64 0]
theorem zero_known (w : World) : (zeroValue 67).run Try.prog w = .ok zeroK w := by kernel_rfl
theorem lookup_kept (p : PairD) (mp : Nat) (L : List Nat) (x : Nat) (w : World) (hm : w.heap[mp]? = some (keptM p L)) :
    (Instr.lookup 111 (.map (some mp)) (.int .u64 (x : Int)) true).run Try.prog w = .ok (.tuple #[if x ∈ L then .agg (knownC p x) else zeroK, .bool (decide (x ∈ L))]) w := by
  have hg : (getObj mp).run Try.prog w = .ok (keptM p L) w := by simp [getObj, Sem.run, hm, keptM]
  unfold Instr.lookup
  by_cases h : x ∈ L
  · obtain ⟨j, hj⟩ := keyK_in p L x w h
    simp only [Sem.run_bind, run_underlying under_kept, Result.andThen_ok, hg, keptM, Sem.run_pure, check_set, hj, h, decide_true, if_true]
    try rfl
  · simp only [Sem.run_bind, run_underlying under_kept, Result.andThen_ok, hg, keptM, Sem.run_pure, check_set, keyK_out p L x w h, h, decide_false, zero_known, if_false]
    try rfl
theorem update_kept (p : PairD) (mp : Nat) (L : List Nat) (x : Nat) (w : World) (hm : w.heap[mp]? = some (keptM p L)) (h : x ∉ L) :
    (Instr.mapUpdate 111 (.map (some mp)) (.int .u64 (x : Int)) (.agg (knownC p x))).run Try.prog w = .ok () (w.putObj mp (keptM p (L ++ [x]))) := by
  have hg : (getObj mp).run Try.prog w = .ok (keptM p L) w := by simp [getObj, Sem.run, hm, keptM]
  have he : keptM p (L ++ [x]) = .map ((L.mapIdx (entK p)).toArray.push { key := .int .u64 (x : Int), val := .agg (knownC p x), born := L.length }) (L.length + 1) := by
    simp [keptM, List.mapIdx_append, entK]
  rw [he]
  unfold Instr.mapUpdate
  simp only [Sem.run_bind, run_underlying under_kept, Result.andThen_ok, hg, keptM, check_set, keyK_out p L x w h]
  simp [setObj, Sem.run, hm, keptM, World.putObj]
end Go.Proofs.Ytabbmihakoeegaa

/- A plan's pair with some of its readings alone: the walk. -/
namespace Go.Proofs.Ytabbmihakoeegaa
set_option linter.unusedVariables false
set_option linter.unusedSimpArgs false
open Go.RowKit Go.Shelf
attribute [local go_sem] Oper.semAt_some

/-- The readings that have come. -/
def selL (l : List RdD) (pre : List Nat) : List RdD := pre.filterMap fun i => l[i]?
theorem selL_snoc (l : List RdD) (pre : List Nat) (x : Nat) (h : x < l.length) : selL l (pre ++ [x]) = selL l pre ++ [l[x]] := by
  unfold selL; rw [List.filterMap_append]; simp [List.getElem?_eq_getElem h]
theorem selL_len (l : List RdD) : ∀ pre : List Nat, (∀ x ∈ pre, x < l.length) → (selL l pre).length = pre.length
  | [], _ => rfl
  | x :: pre, h => by
    unfold selL
    rw [List.filterMap_cons, List.getElem?_eq_getElem (h x List.mem_cons_self)]
    simp only [List.length_cons]
    rw [← selL_len l pre (fun y hy => h y (List.mem_cons_of_mem _ hy))]; rfl
theorem selL_all (l : List RdD) (s : Nat) (hl : l.length ≤ 8) (hs : s < 2 ^ l.length) : selL l (ofL s) = keptL l s l.length := by
  rw [← ofN_end s l.length hl hs]
  unfold selL ofN keptL
  rw [List.filterMap_filter]
theorem ofL_mem {s x : Nat} (h : x ∈ ofL s) : s.testBit x = true ∧ x < 8 := by
  unfold ofL at h
  rw [List.mem_filter, List.mem_range] at h
  exact ⟨h.2, h.1⟩
theorem bit_lt {s x m : Nat} (h : s.testBit x = true) (hs : s < 2 ^ m) : x < m := by
  rcases Nat.lt_or_ge x m with h1 | h1
  · exact h1
  · rw [Nat.testBit_lt_two_pow (Nat.lt_of_lt_of_le hs (Nat.pow_le_pow_right (by decide) h1))] at h; cases h
/-- What a row of readings holds. -/
structure Fill (cur : Array Value) (cnt : Nat) (l : List RdD) : Prop where
  size : cur.size = 5 * cnt
  at_ : ∀ i (h : i < l.length), RdIn cur i l[i]
set_option maxRecDepth 100000 in
set_option maxHeartbeats 4000000 in
theorem ponly_any {q : PlanD} (hq : OkQ q) {B pp mp : Nat} {bs rs ps : Value} {L : List Nat} (s : Nat) (hs : s < 2 ^ q.prices.length) (w : World) (h : PlanS q B pp mp bs rs ps L w) :
    Calls Try.prog 58 #[.pointer (some ⟨pp, 0, none⟩), .int .u64 s] w fun e w' => ∃ rs', e = .returned (.agg (pairRow (onlyP q.pr s) bs rs')) ∧ Below w.heap.size w w' ∧ ReadsAt w' rs' (onlyP q.pr s).rs (fun k => w.heap.size ≤ k) := by
  have HQ := Lib.hid hq
  have H := Lib.hid h
  have hs256 : s < 256 := Nat.lt_of_lt_of_le hs hq.p256
  have c0 := h.c0
  have c1 := h.c1
  have c2 := h.c2
  have c3 := h.c3
  have c4 := h.c4
  have c5 := h.c5
  have hbc : bs.oneCell' = true := by obtain ⟨ao, cap, rfl, _⟩ := h.hb; rfl
  obtain ⟨aor, capr, hrsv, _, hrc, _⟩ := h.hr
  subst hrsv
  have hpl := lt_of_block h.obj
  have hmf : ∀ (fn : Fn) (first cap : Array Value) (w : World), (Instr.makeFunc fn first cap).run Try.prog w = .ok (.func fn first cap) w := fun _ _ _ _ => rfl
  clear h hq
  refine calls_of_wp_marks Try.func58 rfl ?_
  simp only [Try.ntmps58, List.size_toArray, List.length_cons, List.length_nil, Nat.reduceAdd, Nat.reduceSub, Array.replicate_succ, Array.replicate_zero, List.push_toArray, List.append_toArray, List.nil_append, List.cons_append]
  go_wp2_with (first | (refine wpList_storeA rfl 27 _ _ rfl (w.heap.size + 1 + 1) (pairRow q.pr bs (.slice aor q.pr.rs.length capr)) rfl rfl 27 _ (heap_alloc_at _ _ _ (by simp)) rfl rfl (pairRow_one q.pr bs _ hbc rfl) ?_; intro W1 hr1 hk1 hs1))
  clear c0 c1 c2 c3 c4
  have hb1 : Below w.heap.size w W1 := ((((Below.refl _ _).alloc (Nat.le_refl _) _).alloc (by simp) _).alloc (by simp <;> omega) _).trans (hk1.below (by simp <;> omega) (fun k h => by omega))
  have hz1 : W1.heap.size = w.heap.size + 3 := by rw [hs1]; simp
  have hx2 := (hk1.block w.heap.size (by simp <;> omega) (by omega)).trans (show _ = some (.cells #[.pointer (some ⟨pp, 0, none⟩)] 60 (0, 0)) from (by repeat (first | (refine heap_alloc_at _ _ _ ?_; (simp <;> omega); done) | (refine (hget_old _ _ _ ?_).trans ?_; · (simp <;> omega)))))
  have hx4 := (hk1.block (w.heap.size + 1) (by simp <;> omega) (by omega)).trans (show _ = some (.cells #[.slice none 0 0, .int .i64 0, .int .i64 0, .int .i64 0, .int .i64 0, .slice none 0 0] 27 (0, 0)) from (by repeat (first | (refine heap_alloc_at _ _ _ ?_; (simp <;> omega); done) | (refine (hget_old _ _ _ ?_).trans ?_; · (simp <;> omega)))))
  have HB1 := Lib.hid hb1
  have HX2 := Lib.hid hx2
  have HX4 := Lib.hid hx4
  have HX5 := Lib.hid hr1
  clear hr1 hk1 hs1 hb1 hx2 hx4
  go_wp2_with (first | (go_at_call 42; refine (many_any s hs256 _).mono ?_; rintro e w' ⟨rfl, rfl⟩))
  obtain ⟨cnt, hcnt⟩ : ∃ c, c = ones s := ⟨_, rfl⟩
  have hcl : cnt = (ofL s).length := hcnt
  have hc8 : cnt ≤ 8 := by rw [hcl]; unfold ofL; exact Nat.le_trans (List.length_filter_le _ _) (by simp)
  have hmk : (Instr.makeSlice 25 (.int .i64 cnt) (.int .i64 cnt)).run Try.prog W1 = .ok (.slice (some ⟨w.heap.size + 3, 0, none⟩) cnt cnt) (W1.alloc (.cells (madeCells #[.int .i64 0, .int .i64 0, .int .i64 0, .int .i64 0, .int .i64 0] (cnt * 5)) 48)) := by
    obtain ⟨i0, hi0, hz0, hz1', hz2⟩ := info_parts infoRead
    have := run_makeSlice (P := Try.prog) (w := W1) 25 48 i0 _ (by kernel_rfl) hi0 hz0 .i64 .i64 cnt cnt (by omega) (by omega) (by rw [hz1']; simp; omega) (by rw [hz2]; omega) (by omega)
    rw [hz1', hz1] at this
    simpa [Value.cells] using this
  obtain ⟨cur0, hcur0⟩ : ∃ cur0, cur0 = madeCells #[.int .i64 0, .int .i64 0, .int .i64 0, .int .i64 0, .int .i64 0] (cnt * 5) := ⟨_, rfl⟩
  rw [← hcur0] at hmk
  have hsz0 : cur0.size = 5 * cnt := by rw [hcur0, size_madeCells]; omega
  rw [← hcnt, hmk]
  have HCL := Lib.hid hcl
  clear hmk hcur0 hcnt hcl
  have f5 : ∀ o, (W1.alloc o).frozen? ⟨w.heap.size + 1 + 1, 5, none⟩ = false := fun o => frozen_of_row _ _ 5 _ _ ((hget_old _ _ _ (by omega)).trans HX5.out)
  have c5' : ∀ o, (W1.alloc o).cell? ⟨w.heap.size + 1 + 1, 5, none⟩ = some (.slice aor q.pr.rs.length capr) := fun o => by rw [cell_of_row _ _ _ _ _ _ ((hget_old _ _ _ (by omega)).trans HX5.out)]; rfl
  go_wp2_with (first | (go_at_call 56; refine (of_any s _).mono ?_; rintro e w' ⟨rfl, rfl⟩))
  obtain ⟨WZ, hWZ⟩ : ∃ WZ, WZ = ((((W1.setCell ⟨w.heap.size + 1 + 1, 5, none⟩ (.slice (some ⟨w.heap.size + 3, 0, none⟩) cnt cnt)).alloc (.cells cur0 48)).alloc (.cells #[.int .i64 0] 3)).alloc (.cells #[.int .u64 s] 70)) := ⟨_, rfl⟩
  rw [← hWZ]
  have hzz : WZ.heap.size = w.heap.size + 6 := by rw [hWZ]; simp; omega
  have hset : (W1.setCell ⟨w.heap.size + 1 + 1, 5, none⟩ (.slice (some ⟨w.heap.size + 3, 0, none⟩) cnt cnt)).heap[w.heap.size + 1 + 1]? = some (.cells (pairRow q.pr bs (.slice (some ⟨w.heap.size + 3, 0, none⟩) cnt cnt)) 27 (0, 0)) := by
    have := HX5.out
    unfold pairRow at this ⊢
    simp [World.setCell, Array.getElem?_modify, this]
  have hold : ∀ k, k < w.heap.size + 2 → WZ.heap[k]? = W1.heap[k]? := fun k hk => by
    rw [hWZ]
    exact (hget_old _ _ _ (by simp; omega)).trans ((hget_old _ _ _ (by simp; omega)).trans ((hget_old _ _ _ (by simp; omega)).trans (Below.heap_setCell _ _ _ _ (by simp; omega))))
  have y2 : WZ.heap[w.heap.size]? = some (.cells #[.pointer (some ⟨pp, 0, none⟩)] 60 (0, 0)) := (hold _ (by omega)).trans HX2.out
  have y4 := (hold (w.heap.size + 1) (by omega)).trans HX4.out
  have y5 : WZ.heap[w.heap.size + 1 + 1]? = some (.cells (pairRow q.pr bs (.slice (some ⟨w.heap.size + 3, 0, none⟩) cnt cnt)) 27 (0, 0)) := by
    rw [hWZ]; exact (hget_old _ _ _ (by simp; omega)).trans ((hget_old _ _ _ (by simp; omega)).trans ((hget_old _ _ _ (by simp; omega)).trans hset))
  have yo : WZ.heap[w.heap.size + 3]? = some (.cells cur0 48 (0, 0)) := by
    rw [hWZ]; exact (hget_old _ _ _ (by simp; omega)).trans ((hget_old _ _ _ (by simp; omega)).trans (heap_alloc_at _ _ _ (by simp; omega)))
  have ya : WZ.heap[w.heap.size + 3 + 1]? = some (.cells #[.int .i64 0] 3 (0, 0)) := by
    rw [hWZ]; exact (hget_old _ _ _ (by simp; omega)).trans (heap_alloc_at _ _ _ (by simp; omega))
  have ys : WZ.heap[w.heap.size + 3 + 1 + 1]? = some (.cells #[.int .u64 s] 70 (0, 0)) := by
    rw [hWZ]; exact heap_alloc_at _ _ _ (by simp; omega)
  have hbz : Below w.heap.size w WZ := by
    rw [hWZ]; exact (((HB1.out.setCell (by simp <;> omega) _).alloc (by simp; omega) _).alloc (by simp; omega) _).alloc (by simp; omega) _
  have Y2 := Lib.hid y2
  have Y4 := Lib.hid y4
  have Y5 := Lib.hid y5
  have YO := Lib.hid yo
  have YA := Lib.hid ya
  have YS := Lib.hid ys
  have HBZ := Lib.hid hbz
  have HBB := H.out.lp
  have HRR := Lib.hid H.out.hr
  clear hWZ hset hold y2 y4 y5 yo ya ys hbz HX2 HX4 HX5 HB1 hz1 f5 c5' c5 hmf
  refine wp_range (gf := 89) (lb := #[.pointer (some ⟨w.heap.size + 3 + 1 + 1, 0, none⟩)]) rfl (enters_of Try.func89 (by kernel_rfl) rfl) (encs := fun n : Nat => #[.int .i64 n]) (fun _ => rfl)
    (fun k => k = w.heap.size + 3 + 1 + 1) (fun k => k = w.heap.size + 3 ∨ k = w.heap.size + 3 + 1) ?hRd ?hM (ofL s) ?hseq
    (fun pre _ Wr => (∃ cur, Wr.heap[w.heap.size + 3]? = some (.cells cur 48 (0, 0)) ∧ Fill cur cnt (selL q.pr.rs pre)) ∧ Wr.heap[w.heap.size + 3 + 1]? = some (.cells #[.int .i64 pre.length] 3 (0, 0)) ∧ Keeps (fun k => k = w.heap.size + 3 ∨ k = w.heap.size + 3 + 1) WZ Wr)
    (fun _ _ _ _ => False)
    ?hI ?hIx ?h0 ?hround ?hdone ?hstop
  case hRd => intro k hk; omega
  case hM => intro k hk; exact ⟨by omega, fun h => by omega⟩
  case hseq =>
    intro W' hb
    exact of_seq _ s hs256 W' ((hb.block _ (by omega)).trans YS.out)
  case hI =>
    rintro s G A B' ⟨⟨cur, h1, h3⟩, h2, h4⟩ hk
    exact ⟨⟨cur, (hk.block _ (lt_of_block h1) (by omega)).trans h1, h3⟩, (hk.block _ (lt_of_block h2) (by omega)).trans h2, h4.transNew hk (fun i h => h.1)⟩
  case hIx => rintro c s G A B' h hk; exact h
  case h0 => exact ⟨⟨cur0, YO.out, ⟨hsz0, fun i h => by simp [selL] at h⟩⟩, YA.out, Keeps.refl _ _⟩
  case hstop => rintro D c pre x rest G W' hxs h; exact h.elim
  case hround =>
    rintro l pre x rest G Wr hxs ⟨⟨cur, h1, h3⟩, h2, h4⟩ hl1 hl2 hGl
    have hxm := ofL_mem (show x ∈ ofL s by rw [hxs]; simp)
    have hxl : x < q.pr.rs.length := by rw [← HQ.out.len]; exact bit_lt hxm.1 hs
    have hpl2 : ∀ y ∈ pre, y < q.pr.rs.length := fun y hy => by rw [← HQ.out.len]; exact bit_lt (ofL_mem (show y ∈ ofL s by rw [hxs]; simp [hy])).1 hs
    have hpc : pre.length < cnt := by rw [HCL.out, hxs]; simp
    have hpc1 : pre.length ≤ cnt := by omega
    have hpc2 : ¬ cnt = pre.length := by omega
    have hwl : IntKind.i64.wrap ((pre.length : Int) + 1) = ((pre.length + 1 : Nat) : Int) := by rw [IntWalk.i64_in _ (by omega)]; omega
    obtain ⟨rb, ro, haor, hrb, hrbs, e1, e2, e3, e4, e5⟩ : ∃ rb ro, aor = some ⟨rb, ro, none⟩ ∧ rb < B ∧ rb < w.heap.size ∧ w.cell? ⟨rb, ro + x * 5, none⟩ = some (.int .i64 q.pr.rs[x].a) ∧ w.cell? ⟨rb, ro + x * 5 + 1, none⟩ = some (.int .i64 q.pr.rs[x].b) ∧ w.cell? ⟨rb, ro + x * 5 + 2, none⟩ = some (.int .i64 q.pr.rs[x].m) ∧
        w.cell? ⟨rb, ro + x * 5 + 3, none⟩ = some (.int .i64 q.pr.rs[x].lo) ∧ w.cell? ⟨rb, ro + x * 5 + 4, none⟩ = some (.int .i64 q.pr.rs[x].hi) := by
      obtain ⟨ao', cap', he, _, _, hel⟩ := HRR.out
      cases he
      obtain ⟨b, off, rfl, q1, q2, q3⟩ := hel x hxl
      exact ⟨b, off, rfl, q1, q2, q3⟩
    subst haor
    have H1 := Lib.hid h1
    have H2 := Lib.hid h2
    have H3 := Lib.hid h3
    have H4 := Lib.hid h4
    have HE := Lib.hid (And.intro e1 (And.intro e2 (And.intro e3 (And.intro e4 e5))))
    have HXS := Lib.hid hxs
    have HPL2 := Lib.hid hpl2
    clear h1 h2 h3 h4 hxs hGl e1 e2 e3 e4 e5 hpl2 hxm
    gi_wp2
    refine ⟨Keeps.refl _ _, ?_⟩
    intro W3 hk3 hs3
    have hW3 : ∀ k, k < w.heap.size + 6 → W3.heap[k]? = Wr.heap[k]? := fun k hk => hk3.block k (by omega) (by omega)
    have z2 := (hW3 _ (by omega)).trans ((H4.out.block w.heap.size (by omega) (by omega)).trans Y2.out)
    have z5 := (hW3 _ (by omega)).trans ((H4.out.block (w.heap.size + 1 + 1) (by omega) (by omega)).trans Y5.out)
    have za := (hW3 _ (by omega)).trans H2.out
    have zo := (hW3 _ (by omega)).trans H1.out
    have zp := (hW3 pp (by omega)).trans ((H4.out.block pp (by omega) (by omega)).trans ((HBZ.out.block pp hpl).trans H.out.obj))
    have d1 : W3.cell? ⟨w.heap.size + 3 + 1, 0, none⟩ = some (.int .i64 pre.length) := by rw [cell_of_row W3 _ _ _ _ _ za]; rfl
    have d2 : W3.cell? ⟨w.heap.size + 1 + 1, 5, none⟩ = some (.slice (some ⟨w.heap.size + 3, 0, none⟩) cnt cnt) := by rw [cell_of_row W3 _ _ _ _ _ z5]; rfl
    have d3 : W3.cell? ⟨w.heap.size, 0, none⟩ = some (.pointer (some ⟨pp, 0, none⟩)) := by rw [cell_of_row W3 _ _ _ _ _ z2]; rfl
    have d4 : W3.cell? ⟨pp, 5, none⟩ = some (.slice (some ⟨rb, ro, none⟩) q.pr.rs.length capr) := by rw [cell_of_row W3 _ _ _ _ _ zp]; rfl
    have ZA := Lib.hid za
    have ZO := Lib.hid zo
    have HK3 := Lib.hid hk3
    have HW3 := Lib.hid hW3
    have hxw : IntKind.i64.wrap ((x : Int) + 1) = ((x + 1 : Nat) : Int) := by rw [IntWalk.i64_in _ (by have := HQ.out.m8; have := HQ.out.len; omega)]; omega
    have hlc : q.pr.rs.length ≤ capr := by obtain ⟨ao', cap', he, h1, _⟩ := HRR.out; cases he; exact h1
    have hx1 : (0 : Int) ≤ (x : Int) + 1 := by omega
    have hx2 : (x : Int) + 1 ≤ (capr : Int) := by omega
    have hx3 : ¬ capr = x := by omega
    clear z2 z5 za zo zp hk3 hW3
    gi_wp2
    refine region_tailIn (S := fun W' => W'.cell? ⟨w.heap.size + 3 + 1, 0, none⟩ = some (.int .i64 pre.length) ∧ W'.cell? ⟨w.heap.size + 1 + 1, 5, none⟩ = some (.slice (some ⟨w.heap.size + 3, 0, none⟩) cnt cnt) ∧ W'.cell? ⟨w.heap.size, 0, none⟩ = some (.pointer (some ⟨pp, 0, none⟩)) ∧ W'.cell? ⟨pp, 5, none⟩ = some (.slice (some ⟨rb, ro, none⟩) q.pr.rs.length capr))
      17 #[false, false, false, false, false, false, false, false, false, false, false, false, false, false, false, false, false, true] (by kernel_rfl) (by kernel_rfl) (by kernel_rfl) (fun ⟨a, w, h⟩ => h) rfl ⟨d1, d2, d3, d4⟩ fun hS => ?_
    clear d1 d2 d3 d4
    refine wpAnyH_take (i := 0) (v := ?_) rfl (by kernel_rfl) (by kernel_rfl) (by kernel_rfl) (fun _ _ _ h => h) (Or.inl ⟨by rfl, ?_⟩) hS ?_
    rotate_left
    · (intro W hSw; obtain ⟨hq1, hq2, hq3, hq4⟩ := hSw; go_simp; try with_reducible rfl)
    try simp only [List.getElem_toArray, List.getElem_cons_succ, List.getElem_cons_zero, Act.put, List.setIfInBounds_toArray, List.set_cons_zero, List.set_cons_succ]
    refine wpAnyH_take (i := 1) (v := ?_) rfl (by kernel_rfl) (by kernel_rfl) (by kernel_rfl) (fun _ _ _ h => h) (Or.inl ⟨by rfl, ?_⟩) hS ?_
    rotate_left
    · (intro W hSw; obtain ⟨hq1, hq2, hq3, hq4⟩ := hSw; go_simp; try with_reducible rfl)
    try simp only [List.getElem_toArray, List.getElem_cons_succ, List.getElem_cons_zero, Act.put, List.setIfInBounds_toArray, List.set_cons_zero, List.set_cons_succ]
    refine wpAnyH_take (i := 2) (v := ?_) rfl (by kernel_rfl) (by kernel_rfl) (by kernel_rfl) (fun _ _ _ h => h) (Or.inl ⟨by rfl, ?_⟩) hS ?_
    rotate_left
    · (intro W hSw; obtain ⟨hq1, hq2, hq3, hq4⟩ := hSw; go_simp; try with_reducible rfl)
    try simp only [List.getElem_toArray, List.getElem_cons_succ, List.getElem_cons_zero, Act.put, List.setIfInBounds_toArray, List.set_cons_zero, List.set_cons_succ]
    refine wpAnyH_take (i := 3) (v := ?_) rfl (by kernel_rfl) (by kernel_rfl) (by kernel_rfl) (fun _ _ _ h => h) (Or.inl ⟨by rfl, ?_⟩) hS ?_
    rotate_left
    · (intro W hSw; obtain ⟨hq1, hq2, hq3, hq4⟩ := hSw; go_simp; try with_reducible rfl)
    try simp only [List.getElem_toArray, List.getElem_cons_succ, List.getElem_cons_zero, Act.put, List.setIfInBounds_toArray, List.set_cons_zero, List.set_cons_succ]
    refine wpAnyH_take (i := 4) (v := ?_) rfl (by kernel_rfl) (by kernel_rfl) (by kernel_rfl) (fun _ _ _ h => h) (Or.inl ⟨by rfl, ?_⟩) hS ?_
    rotate_left
    · (intro W hSw; obtain ⟨hq1, hq2, hq3, hq4⟩ := hSw; go_simp; try with_reducible rfl)
    try simp only [List.getElem_toArray, List.getElem_cons_succ, List.getElem_cons_zero, Act.put, List.setIfInBounds_toArray, List.set_cons_zero, List.set_cons_succ]
    refine wpAnyH_take (i := 5) (v := ?_) rfl (by kernel_rfl) (by kernel_rfl) (by kernel_rfl) (fun _ _ _ h => h) (Or.inl ⟨by rfl, ?_⟩) hS ?_
    rotate_left
    · (intro W hSw; obtain ⟨hq1, hq2, hq3, hq4⟩ := hSw; go_simp; try with_reducible rfl)
    try simp only [List.getElem_toArray, List.getElem_cons_succ, List.getElem_cons_zero, Act.put, List.setIfInBounds_toArray, List.set_cons_zero, List.set_cons_succ]
    refine wpAnyH_take (i := 6) (v := ?_) rfl (by kernel_rfl) (by kernel_rfl) (by kernel_rfl) (fun _ _ _ h => h) (Or.inl ⟨by rfl, ?_⟩) hS ?_
    rotate_left
    · (intro W hSw; obtain ⟨hq1, hq2, hq3, hq4⟩ := hSw; go_simp; try with_reducible rfl)
    try simp only [List.getElem_toArray, List.getElem_cons_succ, List.getElem_cons_zero, Act.put, List.setIfInBounds_toArray, List.set_cons_zero, List.set_cons_succ]
    refine wpAnyH_take (i := 7) (v := ?_) rfl (by kernel_rfl) (by kernel_rfl) (by kernel_rfl) (fun _ _ _ h => h) (Or.inl ⟨by rfl, ?_⟩) hS ?_
    rotate_left
    · (intro W hSw; obtain ⟨hq1, hq2, hq3, hq4⟩ := hSw; go_simp; try with_reducible rfl)
    try simp only [List.getElem_toArray, List.getElem_cons_succ, List.getElem_cons_zero, Act.put, List.setIfInBounds_toArray, List.set_cons_zero, List.set_cons_succ]
    refine wpAnyH_take (i := 8) (v := ?_) rfl (by kernel_rfl) (by kernel_rfl) (by kernel_rfl) (fun _ _ _ h => h) (Or.inl ⟨by rfl, ?_⟩) hS ?_
    rotate_left
    · (intro W hSw; obtain ⟨hq1, hq2, hq3, hq4⟩ := hSw; go_simp; try with_reducible rfl)
    try simp only [List.getElem_toArray, List.getElem_cons_succ, List.getElem_cons_zero, Act.put, List.setIfInBounds_toArray, List.set_cons_zero, List.set_cons_succ]
    refine wpAnyH_take (i := 9) (v := ?_) rfl (by kernel_rfl) (by kernel_rfl) (by kernel_rfl) (fun _ _ _ h => h) (Or.inl ⟨by rfl, ?_⟩) hS ?_
    rotate_left
    · (intro W hSw; obtain ⟨hq1, hq2, hq3, hq4⟩ := hSw; go_simp; try with_reducible rfl)
    try simp only [List.getElem_toArray, List.getElem_cons_succ, List.getElem_cons_zero, Act.put, List.setIfInBounds_toArray, List.set_cons_zero, List.set_cons_succ]
    refine wpAnyH_take (i := 10) (v := ?_) rfl (by kernel_rfl) (by kernel_rfl) (by kernel_rfl) (fun _ _ _ h => h) (Or.inl ⟨by rfl, ?_⟩) hS ?_
    rotate_left
    · (intro W hSw; obtain ⟨hq1, hq2, hq3, hq4⟩ := hSw; go_simp; try with_reducible rfl)
    try simp only [List.getElem_toArray, List.getElem_cons_succ, List.getElem_cons_zero, Act.put, List.setIfInBounds_toArray, List.set_cons_zero, List.set_cons_succ]
    refine wpAnyH_take (i := 11) (v := ?_) rfl (by kernel_rfl) (by kernel_rfl) (by kernel_rfl) (fun _ _ _ h => h) (Or.inl ⟨by rfl, ?_⟩) hS ?_
    rotate_left
    · (intro W hSw; obtain ⟨hq1, hq2, hq3, hq4⟩ := hSw; go_simp; try with_reducible rfl)
    try simp only [List.getElem_toArray, List.getElem_cons_succ, List.getElem_cons_zero, Act.put, List.setIfInBounds_toArray, List.set_cons_zero, List.set_cons_succ]
    refine wpAnyH_take (i := 12) (v := ?_) rfl (by kernel_rfl) (by kernel_rfl) (by kernel_rfl) (fun _ _ _ h => h) (Or.inl ⟨by rfl, ?_⟩) hS ?_
    rotate_left
    · (intro W hSw; obtain ⟨hq1, hq2, hq3, hq4⟩ := hSw; go_simp; try with_reducible rfl)
    try simp only [List.getElem_toArray, List.getElem_cons_succ, List.getElem_cons_zero, Act.put, List.setIfInBounds_toArray, List.set_cons_zero, List.set_cons_succ]
    refine wpAnyH_take (i := 13) (v := ?_) rfl (by kernel_rfl) (by kernel_rfl) (by kernel_rfl) (fun _ _ _ h => h) (Or.inl ⟨by rfl, ?_⟩) hS ?_
    rotate_left
    · (intro W hSw; obtain ⟨hq1, hq2, hq3, hq4⟩ := hSw; go_simp; try with_reducible rfl)
    try simp only [List.getElem_toArray, List.getElem_cons_succ, List.getElem_cons_zero, Act.put, List.setIfInBounds_toArray, List.set_cons_zero, List.set_cons_succ]
    refine wpAnyH_take (i := 14) (v := ?_) rfl (by kernel_rfl) (by kernel_rfl) (by kernel_rfl) (fun _ _ _ h => h) (Or.inl ⟨by rfl, ?_⟩) hS ?_
    rotate_left
    · (intro W hSw; obtain ⟨hq1, hq2, hq3, hq4⟩ := hSw; go_simp; try with_reducible rfl)
    try simp only [List.getElem_toArray, List.getElem_cons_succ, List.getElem_cons_zero, Act.put, List.setIfInBounds_toArray, List.set_cons_zero, List.set_cons_succ]
    have hseg := seg_of cur (pre.length * 5) (rdC q.pr.rs[x]) (by rw [H3.out.size]; simp [rdC]; omega)
    obtain ⟨cur2, hcur2⟩ : ∃ c, c = (cur.toList.take (pre.length * 5) ++ rdC q.pr.rs[x] ++ cur.toList.drop (pre.length * 5 + (rdC q.pr.rs[x]).length)).toArray := ⟨_, rfl⟩
    have hcp : (Builtin.copy_ #[25, 25] 3 #[.slice (some ⟨w.heap.size + 3, pre.length * 5, none⟩) (cnt - pre.length) (cnt - pre.length), .slice (some ⟨rb, ro + x * 5, none⟩) 1 (capr - x)]).run Try.prog W3.drew = .ok (.int .i64 1) (W3.drew.setRow (w.heap.size + 3) cur2) := by
      have hmin : Nat.min 1 (cnt - pre.length) = 1 := by rw [show Nat.min 1 (cnt - pre.length) = min 1 (cnt - pre.length) from rfl]; omega
      have hsrc : ∀ (j : Nat) v, (rdC q.pr.rs[x])[j]? = some v → W3.drew.cell? ((⟨rb, ro + x * 5, none⟩ : Addr).add j) = some v := by
        intro j v hj
        have hblk : W3.drew.heap[rb]? = w.heap[rb]? := (HW3.out rb (by omega)).trans ((H4.out.block rb (by omega) (by omega)).trans (HBZ.out.block rb hrbs))
        rw [Addr.add_mid]
        refine (World.cell?_of_block (w := w) (w' := W3.drew) (a := ⟨rb, ro + x * 5 + j, none⟩) hblk).trans ?_
        have hj5 : j < 5 := (List.getElem?_eq_some_iff.1 hj).1
        have he := HE.out
        have hjc : j = 0 ∨ j = 1 ∨ j = 2 ∨ j = 3 ∨ j = 4 := by omega
        rcases hjc with rfl | rfl | rfl | rfl | rfl <;> simp [rdC] at hj <;> subst hj
        · exact he.1
        · exact he.2.1
        · exact he.2.2.1
        · exact he.2.2.2.1
        · exact he.2.2.2.2
      have := run_copy_rows (P := Try.prog) W3.drew 25 25 3 48 5 (w.heap.size + 3) (pre.length * 5) (cnt - pre.length) (cnt - pre.length) ⟨rb, ro + x * 5, none⟩ 1 (capr - x) cur 48 (rdC q.pr.rs[x]) (by kernel_rfl) (by kernel_rfl) ZO.out (by rw [hmin]; rfl) hsrc (by rw [H3.out.size]; simp [rdC]; omega) (fun v hv => by
        simp only [rdC, List.mem_cons, List.not_mem_nil, or_false] at hv
        rcases hv with rfl | rfl | rfl | rfl | rfl <;> rfl)
      rw [this, hmin, hcur2]; rfl
    rw [← hcur2] at hseg
    have hk4 : Keeps (fun k => k = w.heap.size + 3) W3.drew (W3.drew.setRow (w.heap.size + 3) cur2) := keeps_setRow _ _ _
    have ho4 : (W3.drew.setRow (w.heap.size + 3) cur2).heap[w.heap.size + 3]? = some (.cells cur2 48 (0, 0)) := setRow_heap _ _ _ _ _ _ ZO.out
    have hs4 : (W3.drew.setRow (w.heap.size + 3) cur2).heap.size = W3.heap.size := by simp
    have HSEG := Lib.hid hseg
    have HK4 := Lib.hid hk4
    have HO4 := Lib.hid ho4
    clear hseg hcur2 hk4 ho4
    obtain ⟨W4, hW4⟩ : ∃ W4, W4 = W3.drew.setRow (w.heap.size + 3) cur2 := ⟨_, rfl⟩
    rw [← hW4] at hcp HK4 HO4 hs4
    clear hW4
    have hcel : ∀ (k o : Nat), k < w.heap.size + 6 → k ≠ w.heap.size + 3 → W4.cell? ⟨k, o, none⟩ = W3.drew.cell? ⟨k, o, none⟩ := fun k o h1 h2 => World.cell?_of_block (w := W3.drew) (w' := W4) (a := ⟨k, o, none⟩) (HK4.out.block k (by show k < W3.heap.size; omega) h2)
    refine wpAnyH_run (k := 15) (v := .int .i64 1) (w' := W4) (by kernel_rfl) rfl rfl (by simp [execOp, resolve, invoke, builtin, Act.eval, hcp, Result.andThen]) ⟨(hcel _ _ (by omega) (by omega)).trans hS.1, (hcel _ _ (by omega) (by omega)).trans hS.2.1, (hcel _ _ (by omega) (by omega)).trans hS.2.2.1, (hcel _ _ (by omega) (by omega)).trans hS.2.2.2⟩ ?_
    try simp only [List.getElem_toArray, List.getElem_cons_succ, List.getElem_cons_zero, Act.put, List.setIfInBounds_toArray, List.set_cons_zero, List.set_cons_succ]
    have hS4 : W4.cell? ⟨w.heap.size + 3 + 1, 0, none⟩ = some (.int .i64 pre.length) ∧ W4.cell? ⟨w.heap.size + 1 + 1, 5, none⟩ = some (.slice (some ⟨w.heap.size + 3, 0, none⟩) cnt cnt) ∧ W4.cell? ⟨w.heap.size, 0, none⟩ = some (.pointer (some ⟨pp, 0, none⟩)) ∧ W4.cell? ⟨pp, 5, none⟩ = some (.slice (some ⟨rb, ro, none⟩) q.pr.rs.length capr) := ⟨(hcel _ _ (by omega) (by omega)).trans hS.1, (hcel _ _ (by omega) (by omega)).trans hS.2.1, (hcel _ _ (by omega) (by omega)).trans hS.2.2.1, (hcel _ _ (by omega) (by omega)).trans hS.2.2.2⟩
    clear hS hcp hcel
    replace hS := hS4
    clear hS4
    refine wpAnyH_take (i := 16) (v := ?_) rfl (by kernel_rfl) (by kernel_rfl) (by kernel_rfl) (fun _ _ _ h => h) (Or.inl ⟨by rfl, ?_⟩) hS ?_
    rotate_left
    · (intro W hSw; obtain ⟨hq1, hq2, hq3, hq4⟩ := hSw; go_simp; try with_reducible rfl)
    try simp only [List.getElem_toArray, List.getElem_cons_succ, List.getElem_cons_zero, Act.put, List.setIfInBounds_toArray, List.set_cons_zero, List.set_cons_succ]
    refine wpAnyH_done (by kernel_rfl) ?_ _
    unfold TailQ
    simp only [List.drop_succ_cons, List.drop_zero]
    have d1 := hS.1
    have z4 : W4.heap[w.heap.size + 3 + 1]? = some (.cells #[.int .i64 pre.length] 3 (0, 0)) := (HK4.out.block _ (by show _ < W3.heap.size; omega) (by omega)).trans ZA.out
    have f1 : W4.frozen? ⟨w.heap.size + 3 + 1, 0, none⟩ = false := frozen_of_row _ _ 0 _ _ z4
    have Z4 := Lib.hid z4
    clear hS z4
    go_wp2_with fail
    refine ⟨(Keeps.drew _ _).trans ((HK4.out.mono (fun k _ h => .inl h)).trans (Keeps.setCell _ _ _ (.inr rfl))), ⟨cur2, (Below.heap_setCell _ _ _ _ (by simp)).trans HO4.out, ⟨HSEG.out.size.trans H3.out.size, fun i hi => ?_⟩⟩, ?_, ?_⟩
    · have hsl := selL_len q.pr.rs pre HPL2.out
      have e0 := selL_snoc q.pr.rs pre x hxl
      have hi' : i < pre.length + 1 := by rw [e0, List.length_append, hsl] at hi; simpa using hi
      by_cases hip : i < pre.length
      · have h1 := H3.out.at_ i (by rw [hsl]; exact hip)
        have h2 : (selL q.pr.rs (pre ++ [x]))[i] = (selL q.pr.rs pre)[i]'(by rw [hsl]; exact hip) := by
          simp only [e0]; rw [List.getElem_append_left]
        rw [h2]
        exact h1.other HSEG.out (.inl (by omega))
      · obtain rfl : i = pre.length := by omega
        have h2 : (selL q.pr.rs (pre ++ [x]))[pre.length] = q.pr.rs[x] := by
          simp only [e0]; rw [List.getElem_append_right (by omega)]; simp [hsl]
        rw [h2]
        intro q' hq'
        exact HSEG.out.own q' (by simp [rdC]; omega)
    · have := Z4.out
      simp [World.setCell, Array.getElem?_modify, this]
    · exact ((H4.out.transNew HK3.out (fun i hi => by omega)).trans (Keeps.drew _ _)).trans ((HK4.out.mono (fun k _ h => .inl h)).trans (Keeps.setCell _ _ _ (.inr rfl)))
  case hdone =>
    rintro D G W' ⟨⟨cur, h1, h3⟩, h2, h4⟩ hGD hkk hD hDs
    have y5 := (h4.block (w.heap.size + 1 + 1) (by omega) (by omega)).trans Y5.out
    have y4 := (h4.block (w.heap.size + 1) (by omega) (by omega)).trans Y4.out
    have e0 : W'.cell? ⟨w.heap.size + 1 + 1, 0, none⟩ = some bs := by rw [cell_of_row W' _ _ _ _ _ y5]; rfl
    have e1 : W'.cell? ⟨w.heap.size + 1 + 1, 1, none⟩ = some (.int .i64 q.pr.zl) := by rw [cell_of_row W' _ _ _ _ _ y5]; rfl
    have e2 : W'.cell? ⟨w.heap.size + 1 + 1, 2, none⟩ = some (.int .i64 q.pr.zh) := by rw [cell_of_row W' _ _ _ _ _ y5]; rfl
    have e3 : W'.cell? ⟨w.heap.size + 1 + 1, 3, none⟩ = some (.int .i64 q.pr.rl) := by rw [cell_of_row W' _ _ _ _ _ y5]; rfl
    have e4 : W'.cell? ⟨w.heap.size + 1 + 1, 4, none⟩ = some (.int .i64 q.pr.rh) := by rw [cell_of_row W' _ _ _ _ _ y5]; rfl
    have e5 : W'.cell? ⟨w.heap.size + 1 + 1, 5, none⟩ = some (.slice (some ⟨w.heap.size + 3, 0, none⟩) cnt cnt) := by rw [cell_of_row W' _ _ _ _ _ y5]; rfl
    have H1 := Lib.hid h1
    have H3 := Lib.hid h3
    have H4 := Lib.hid h4
    have Y4' := Lib.hid y4
    have HD := Lib.hid hD
    clear h1 h2 h3 h4 hGD hkk hD y4 y5
    go_wp2_with (first | (refine wpList_storeA rfl 27 _ _ rfl (w.heap.size + 1) (pairRow q.pr bs (.slice (some ⟨w.heap.size + 3, 0, none⟩) cnt cnt)) rfl rfl 27 _ Y4'.out rfl rfl (pairRow_one q.pr bs _ hbc rfl) ?_; intro W5 h5 hk5 hs5))
    have H5 := Lib.hid h5
    have HK5 := Lib.hid hk5
    clear h5 hk5
    go_wp2_with fail
    have hD1 := lt_of_block HD.out
    have hd5 : W5.heap[D]? = some (.deferred (some [])) := (HK5.out.block D hD1 (by omega)).trans HD.out
    have o5 : W5.heap[w.heap.size + 3]? = some (.cells cur 48 (0, 0)) := (HK5.out.block _ (lt_of_block H1.out) (by omega)).trans H1.out
    refine ⟨by simp [Act.put], .inl ⟨_, _, rfl, run_takeDeferred hd5, ?_⟩⟩
    have o6 : (W5.putObj D (.deferred none)).heap[w.heap.size + 3]? = some (.cells cur 48 (0, 0)) := (World.putObj_heap_other (by omega)).trans o5
    have hkl := selL_all q.pr.rs s (by rw [← HQ.out.len]; exact HQ.out.m8) (by rw [← HQ.out.len]; exact hs)
    have hl2 : (keptL q.pr.rs s q.pr.rs.length).length = cnt := by
      rw [← hkl, selL_len _ _ (fun y hy => by rw [← HQ.out.len]; exact bit_lt (ofL_mem hy).1 hs), HCL.out]
    refine ⟨.agg (pairRow q.pr bs (.slice (some ⟨w.heap.size + 3, 0, none⟩) cnt cnt)), results_cell_row (fn := Try.f58) (p := 4) rfl _ _ (w.heap.size + 1) 27 _ (0, 0) _ rfl ((World.putObj_heap_other (by omega)).trans H5.out) underPair rfl rfl, _, rfl, ?_, ?_⟩
    · have a1 : Keeps (fun _ => False) w WZ := Keeps.of_below HBZ.out (fun k h1 h2 => by omega)
      exact ((((a1.transNew H4.out (fun i h => by omega)).transNew HK5.out (fun i h => by omega)).transNew (Keeps.putObj (Mut := fun k => k = D) _ _ _ rfl) (fun i h => by omega))).below (Nat.le_refl _) (fun _ _ h => h)
    · refine (readsAt_of_row hl2.symm o6 (by omega) (fun i hi => ?_)).mono (fun k hk => by omega)
      have := H3.out.at_ i (by rw [hkl]; exact hi)
      simpa only [hkl] using this
end Go.Proofs.Ytabbmihakoeegaa

/- How wide each block is by a set of readings: known, told, enough, can. -/
namespace Go.Proofs.Ytabbmihakoeegaa
set_option linter.unusedVariables false
set_option linter.unusedSimpArgs false
open Go.RowKit Go.Shelf
attribute [local go_sem] Oper.semAt_some

theorem subR_only (p : PairD) (s : Nat) : subR p s = onlyP p s := rfl
theorem widB_40 {p : PairD} (hv : validB p = true) (s b : Nat) (ht : truA (onlyP p s) ≠ []) : 0 ≤ widB p s b ∧ widB p s b ≤ 80 := by
  have := hullD_40 (OkP.of _ (onlyP_valid p s hv)) ht b 5
  unfold widB
  split <;> omega
theorem truA_only_mono {p : PairD} (hv : validB p = true) {s t : Nat} (h : ∀ i, i < p.rs.length → s.testBit i = true → t.testBit i = true) (ht : truA (onlyP p t) ≠ []) : truA (onlyP p s) ≠ [] := by
  have h1 := truA_sub hv s
  have h2 := truA_sub hv t
  rw [subR_only] at h1 h2
  intro hs
  have h3 := h1.1 hs
  cases e : someT p t with
  | false => exact ht (h2.2 e)
  | true => rw [someT_mono (OkP.of p hv) h e] at h3; cases h3
theorem truA_every {p : PairD} (hv : validB p = true) : truA (onlyP p (allR p)) = [] ↔ truA p = [] := by
  have h1 := truA_sub hv (allR p)
  rw [subR_only] at h1
  rw [h1, truA_some]
theorem truA_of_every {q : PlanD} (hq : OkQ q) (ht : truA q.pr ≠ []) (s : Nat) : truA (onlyP q.pr s) ≠ [] :=
  truA_only_mono hq.pr (t := allR q.pr) (fun i hi _ => allR_bit q.pr i hi) (fun h => ht ((truA_every hq.pr).1 h))

/-! ### the widest one -/
def maxK (l : List Int) (k : Nat) : Int := maxL (l.take k)
theorem maxL_snoc (l : List Int) (hl : l ≠ []) (x : Int) : maxL (l ++ [x]) = max (maxL l) x := by
  cases l with
  | nil => exact absurd rfl hl
  | cons a l => simp [maxL, List.foldl_append]
theorem maxK_next (l : List Int) (k : Nat) (hk : 0 < k) (h : k < l.length) : maxK l (k + 1) = max (maxK l k) l[k] := by
  unfold maxK
  rw [List.take_succ_eq_append_getElem h, maxL_snoc _ (by intro h0; have := congrArg List.length h0; simp only [List.length_take, List.length_nil] at this; omega)]
set_option maxHeartbeats 1000000 in
theorem max_any (l : List Int) (hl : 0 < l.length) (hl2 : l.length ≤ 1000) (v : Value) (Rd : Nat → Prop) (w : World) (hv : NumsAt w v l Rd) :
    Calls Try.prog 74 #[v] w fun e w' => e = .returned (.int .i64 (maxL l)) ∧ w = w' := by
  obtain ⟨ao, cap, rfl, hc1, hc2, hel⟩ := hv
  obtain ⟨b, off, rfl, _, hbs, he0⟩ := hel 0 hl
  have HE := Lib.hid hel
  have hd : ¬ ((l.length : Int) < 1) := by omega
  have he1 : w.cell? ⟨b, off, none⟩ = some (.int .i64 l[0]) := by simpa using he0
  obtain ⟨x0, hx0⟩ : ∃ x, x = l[0] := ⟨_, rfl⟩
  rw [← hx0] at he1
  have HX0 := Lib.hid hx0
  clear hel he0 hx0
  go_enter Try.func74, Try.ntmps74
  go_wp2
  clear hd he1
  go_loopw [3, 4] (fun mv iv wr => ∃ i : Nat, 0 < i ∧ i ≤ l.length ∧ iv = .int .i64 i ∧ mv = .int .i64 (maxK l i) ∧ w = wr) (fun _ iv _ => l.length - (intOf iv).toNat)
  case atStart =>
    refine ⟨1, by omega, hl, rfl, ?_, rfl⟩
    cases l with
    | nil => simp at hl
    | cons a l => rw [HX0.out]; simp [maxK, maxL]
  case round =>
    obtain ⟨i, hi0, hi, rfl, rfl, rfl⟩ := hrel
    by_cases hlt : i < l.length
    · obtain ⟨b', off', hb', _, _, he⟩ := HE.out i hlt
      cases hb'
      have hn := maxK_next l i hi0 hlt
      obtain ⟨x, hx⟩ : ∃ x, x = l[i] := ⟨_, rfl⟩
      obtain ⟨m, hm⟩ : ∃ x, x = maxK l i := ⟨_, rfl⟩
      rw [← hx] at he hn
      rw [← hm] at hn ⊢
      have HN := Lib.hid hn
      clear hn hx hm
      have hw : IntKind.i64.wrap ((i : Int) + 1) = ((i + 1 : Nat) : Int) := by rw [IntWalk.i64_in _ (by omega)]; omega
      go_wp2
      exact ⟨⟨i + 1, by omega, by omega, rfl, by rw [HN.out], trivial⟩, by simp [intOf]; omega⟩
    · obtain rfl : i = l.length := by omega
      go_wp2
      go_ret
      exact ⟨by unfold maxK; rw [List.take_length]; rfl, rfl⟩
theorem knownC_eq (p : PairD) (s : Nat) : knownC p s = #[.int .i64 (widB p s 0), .int .i64 (widB p s 1), .int .i64 (widB p s 2), .int .i64 (widB p s 3), .int .i64 (widB p s 4)] := rfl
theorem widsV_eq (p : PairD) (s : Nat) : widsV p s = [widB p s 0, widB p s 1, widB p s 2, widB p s 3, widB p s 4] := rfl
theorem nums_known {W : World} {b : Nat} {t : TypeId} (p : PairD) (s : Nat) (h : W.heap[b]? = some (.cells (knownC p s) t (0, 0))) : NumsAt W (.slice (some ⟨b, 0, none⟩) 5 5) (widsV p s) (fun k => k = b) := by
  refine ⟨_, _, rfl, Nat.le_refl _, by unfold maxLen; omega, fun i hi => ⟨b, 0, rfl, rfl, lt_of_block h, ?_⟩⟩
  rw [cell_of_row W b _ _ _ _ h, Nat.zero_add]
  unfold knownC
  rw [List.getElem?_toArray, List.getElem?_map, List.getElem?_eq_getElem hi]; rfl
set_option maxHeartbeats 1000000 in
theorem widest_any (p : PairD) (s : Nat) (w : World) :
    Calls Try.prog 36 #[.agg (knownC p s)] w fun e w' => e = .returned (.int .i64 (widestV p s)) ∧ Below w.heap.size w w' := by
  go_enter Try.func36, Try.ntmps36
  have hr : (w.alloc (.cells (knownC p s) 67 (0, 0))).heap[w.heap.size]? = some (.cells (knownC p s) 67 (0, 0)) := heap_alloc_at _ _ _ rfl
  have hb : Below w.heap.size w (w.alloc (.cells (knownC p s) 67 (0, 0))) := (Below.refl _ _).alloc (Nat.le_refl _) _
  have HB := Lib.hid hb
  clear hb
  go_wp2_with fail
  refine (max_any (widsV p s) (by rw [widsV_eq]; exact Nat.zero_lt_succ _) (by rw [widsV_eq]; simp) _ _ _ (nums_known p s hr)).mono ?_
  rintro e w' ⟨rfl, rfl⟩
  dsimp only
  go_wp2
  go_ret
  exact ⟨rfl, HB.out⟩

/-! ### known -/
/-- The row while it is filled. -/
def kcells (p : PairD) (s i : Nat) : Array Value := ((List.range 5).map fun b => Value.int .i64 (if b < i then widB p s b else 0)).toArray
theorem kcells_zero (p : PairD) (s : Nat) : kcells p s 0 = #[.int .i64 0, .int .i64 0, .int .i64 0, .int .i64 0, .int .i64 0] := by simp [kcells, List.range_succ]
theorem kcells_end (p : PairD) (s : Nat) : kcells p s p.bs.length = knownC p s := by
  unfold kcells knownC widsV
  rw [List.map_map]
  congr 1
  refine List.map_congr_left fun b _ => ?_
  simp only [Function.comp]
  congr 1
  split
  · rfl
  · rename_i h; unfold widB; rw [if_neg h]
theorem kcells_next (p : PairD) (s i : Nat) (hi : i < 5) : (kcells p s i).setIfInBounds i (.int .i64 (widB p s i)) = kcells p s (i + 1) := by
  apply Array.ext_getElem?
  intro k
  by_cases hk : k < 5
  · by_cases e : i = k
    · subst e; simp [kcells, hk]
    · rw [Array.getElem?_setIfInBounds_ne e]
      simp only [kcells, List.getElem?_toArray, List.getElem?_map, List.getElem?_range hk, Option.map_some]
      have : k < i ↔ k < i + 1 := by omega
      simp only [this]
  · rw [Array.getElem?_eq_none (by simp [kcells]; omega), Array.getElem?_eq_none (by simp [kcells]; omega)]
theorem kcells_size (p : PairD) (s i : Nat) : (kcells p s i).size = 5 := by simp [kcells]
theorem kcells_one (p : PairD) (s i : Nat) : (kcells p s i).all (·.oneCell') = true := by simp [kcells, Value.oneCell']
theorem knownC_one (p : PairD) (s : Nat) : (knownC p s).all (·.oneCell') = true := by rw [← kcells_end]; exact kcells_one _ _ _
theorem underKnown : Try.prog.underlying 67 = some (.struct (Try.prog.fieldsOf 67)) := by kernel_rfl
theorem infoKnown : (Try.prog.info? 67).map (·.size) = some 5 := by kernel_rfl
theorem sizeKnown (p : PairD) (s : Nat) : (Try.prog.info? 67).map (·.size) = some (knownC p s).size := infoKnown
/-- What a call of known comes to. -/
def KnownR (q : PlanD) (B pp mp : Nat) (bs rs ps : Value) (s : Nat) (w : World) (e : Ending) (w' : World) : Prop :=
  e = .returned (.agg (knownC q.pr s)) ∧ ∃ L', PlanS q B pp mp bs rs ps L' w' ∧ Keeps (fun k => k = mp) w w'
set_option maxRecDepth 100000 in
set_option maxHeartbeats 4000000 in
theorem known_in {q : PlanD} (hq : OkQ q) {B pp mp : Nat} {bs rs ps : Value} {L : List Nat} (s : Nat) (hs : s < 2 ^ q.prices.length) (hL : s ∈ L) (w : World) (h : PlanS q B pp mp bs rs ps L w) :
    Calls Try.prog 34 #[.pointer (some ⟨pp, 0, none⟩), .int .u64 s] w (KnownR q B pp mp bs rs ps s w) := by
  have H := Lib.hid h
  have c8 := h.c8
  have hpl := lt_of_block h.obj
  have hml := lt_of_block h.map
  have hlk : ∀ o, (Instr.lookup 111 (.map (some mp)) (.int .u64 (s : Int)) true).run Try.prog (w.alloc o) = .ok (.tuple #[.agg (knownC q.pr s), .bool true]) (w.alloc o) := fun o => by
    rw [lookup_kept q.pr mp L s (w.alloc o) ((hget_old _ _ _ (by omega)).trans h.map)]; simp [hL]
  have hz0 : ∀ o, ((w.alloc (.cells #[.int .i64 0, .int .i64 0, .int .i64 0, .int .i64 0, .int .i64 0] 67)).alloc o).heap[w.heap.size]? = some (.cells #[.int .i64 0, .int .i64 0, .int .i64 0, .int .i64 0, .int .i64 0] 67 (0, 0)) := fun o => (hget_old _ _ _ (by simp)).trans (heap_alloc_at _ _ _ rfl)
  clear h
  go_enter Try.func34, Try.ntmps34
  go_wp2_with (first | (refine wpList_storeA rfl 67 _ _ rfl (w.heap.size + 1) (knownC q.pr s) rfl rfl 67 _ (heap_alloc_at _ _ _ (by simp)) (sizeKnown _ _) rfl (knownC_one _ _) ?_; intro W1 hr1 hk1 hs1; have HR1 := Lib.hid hr1; have HK1 := Lib.hid hk1; clear hr1 hk1) | (refine wpList_load_row rfl 67 _ rfl (w.heap.size + 1) rfl 67 (knownC q.pr s) (0, 0) _ HR1.out underKnown rfl (sizeKnown _ _) ?_) | (refine wpList_storeA rfl 67 _ _ rfl w.heap.size (knownC q.pr s) rfl rfl 67 _ ((HK1.out.block w.heap.size (by simp <;> omega) (by omega)).trans (hz0 _)) (sizeKnown _ _) rfl (knownC_one _ _) ?_; intro W2 hr2 hk2 hs2))
  have hk : Keeps (fun _ => False) w W2 := ((((Keeps.alloc _ _ _).trans (Keeps.alloc _ _ _)).transNew HK1.out (fun i h => by omega)).transNew hk2 (fun i h => by omega))
  refine bodyPost_ret (v := .agg (knownC q.pr s)) (results_cell_row (fn := Try.f34) (p := 4) rfl _ _ w.heap.size 67 (knownC q.pr s) (0, 0) _ rfl hr2 underKnown rfl (sizeKnown _ _)) rfl ⟨rfl, L, H.out.keep hk (fun _ h => h.elim), hk.mono (fun _ _ h => h.elim)⟩
set_option maxRecDepth 100000 in
set_option maxHeartbeats 4000000 in
theorem known_out {q : PlanD} (hq : OkQ q) {B pp mp : Nat} {bs rs ps : Value} {L : List Nat} (s : Nat) (hs : s < 2 ^ q.prices.length) (hL : s ∉ L) (w : World) (h : PlanS q B pp mp bs rs ps L w) :
    Calls Try.prog 34 #[.pointer (some ⟨pp, 0, none⟩), .int .u64 s] w fun e w' => (truA (onlyP q.pr s) = [] ∧ e = .panicked [{ v := refV 10, recovered := false }] ∧ Below w.heap.size w w') ∨ (truA (onlyP q.pr s) ≠ [] ∧ KnownR q B pp mp bs rs ps s w e w') := by
  have HQ := Lib.hid hq
  have H := Lib.hid h
  have c8 := h.c8
  have hpl := lt_of_block h.obj
  have hml := lt_of_block h.map
  have hlk : ∀ o, (Instr.lookup 111 (.map (some mp)) (.int .u64 (s : Int)) true).run Try.prog (w.alloc o) = .ok (.tuple #[.agg #[.int .i64 0, .int .i64 0, .int .i64 0, .int .i64 0, .int .i64 0], .bool false]) (w.alloc o) := fun o => by
    rw [lookup_kept q.pr mp L s (w.alloc o) ((hget_old _ _ _ (by omega)).trans h.map)]; simp [hL, zeroK]
  obtain ⟨aob, capb, hbsv, _⟩ := id h.hb
  subst hbsv
  have hbc : (Value.slice aob q.pr.bs.length capb).oneCell' = true := rfl
  clear h hq
  go_enter Try.func34, Try.ntmps34
  go_wp2_with (first | (refine wpList_storeA rfl 67 _ _ rfl (w.heap.size + 1) #[.int .i64 0, .int .i64 0, .int .i64 0, .int .i64 0, .int .i64 0] rfl rfl 67 _ (heap_alloc_at _ _ _ (by simp)) infoKnown rfl rfl ?_; intro W1 hr1 hk1 hs1; have HR1 := Lib.hid hr1; have HK1 := Lib.hid hk1; clear hr1 hk1))
  obtain ⟨W1, hW1⟩ : ∃ W1, W1 = ((w.alloc (.cells #[.int .i64 0, .int .i64 0, .int .i64 0, .int .i64 0, .int .i64 0] 67)).alloc (.cells #[.int .i64 0, .int .i64 0, .int .i64 0, .int .i64 0, .int .i64 0] 67)).alloc (.cells #[.int .i64 0, .int .i64 0, .int .i64 0, .int .i64 0, .int .i64 0] 67) := ⟨_, rfl⟩
  rw [← hW1]
  have hz1 : W1.heap.size = w.heap.size + 3 := by rw [hW1]; simp
  have hb1 : Below w.heap.size w W1 := by rw [hW1]; exact (((Below.refl _ _).alloc (Nat.le_refl _) _).alloc (by simp) _).alloc (by simp <;> omega) _
  have x4 : W1.heap[w.heap.size]? = some (.cells #[.int .i64 0, .int .i64 0, .int .i64 0, .int .i64 0, .int .i64 0] 67 (0, 0)) := by rw [hW1]; exact (by repeat (first | (refine heap_alloc_at _ _ _ ?_; (simp <;> omega); done) | (refine (hget_old _ _ _ ?_).trans ?_; · (simp <;> omega))))
  have x7 : W1.heap[w.heap.size + 1 + 1]? = some (.cells (kcells q.pr s 0) 67 (0, 0)) := by rw [hW1, kcells_zero]; exact (by repeat (first | (refine heap_alloc_at _ _ _ ?_; (simp <;> omega); done) | (refine (hget_old _ _ _ ?_).trans ?_; · (simp <;> omega))))
  have HB1 := Lib.hid hb1
  have X4 := Lib.hid x4
  have X7 := Lib.hid x7
  clear hW1 hb1 x4 x7 hlk c8
  refine (ponly_any HQ.out s hs _ (H.out.below HB1.out)).mono ?_
  rintro e W2 ⟨rs', rfl, hb2, hrs2⟩
  dsimp only
  obtain ⟨ao2, cap2, hrs', _⟩ := id hrs2
  have hrc : rs'.oneCell' = true := by rw [hrs']; rfl
  have hz2 := hb2.size
  have HB2 := Lib.hid hb2
  have HRS2 := Lib.hid hrs2
  have X4' := Lib.hid ((hb2.block _ (by omega)).trans X4.out)
  have X7' := Lib.hid ((hb2.block _ (by omega)).trans X7.out)
  clear hb2 hrs2 hrs'
  obtain ⟨xb, hxb⟩ : ∃ k, k = W2.heap.size := ⟨_, rfl⟩
  have hxb3 : w.heap.size + 3 ≤ xb := by omega
  go_wp2_with (first | (refine wpList_storeA rfl 27 _ _ rfl W2.heap.size (pairRow (onlyP q.pr s) (.slice aob q.pr.bs.length capb) rs') rfl rfl 27 _ (heap_alloc_at _ _ _ rfl) rfl rfl (pairRow_one _ (.slice aob q.pr.bs.length capb) rs' hbc hrc) ?_; intro W3 hr3 hk3 hs3; have c30 : W3.cell? ⟨W2.heap.size, 0, none⟩ = some (.slice aob q.pr.bs.length capb) := (by rw [cell_of_row W3 _ _ _ _ _ hr3]; rfl); have HR3 := Lib.hid hr3; have HK3 := Lib.hid hk3; clear hr3 hk3))
  have hov := onlyP_valid q.pr s HQ.out.pr
  have hn5 := (OkP.of _ HQ.out.pr).n5
  have hn1 := (OkP.of _ HQ.out.pr).n1
  have hz3 : W3.heap.size = W2.heap.size + 1 := by rw [hs3]; simp
  have hbs3 : SpansAt W3 (.slice aob q.pr.bs.length capb) q.pr.bs (fun k => k < w.heap.size) := ((H.out.hb.low.later (W := W2) (by omega) (fun k h1 h2 => (HB2.out.block k (by omega)).trans (HB1.out.block k h1))).later (by omega) (fun k h1 h2 => (HK3.out.block k (by simp; omega) (by omega)).trans (hget_old _ _ _ (by omega))))
  have hrs3 : ReadsAt W3 rs' (onlyP q.pr s).rs (fun k => W1.heap.size ≤ k ∧ k < W2.heap.size) := by
    have h1 : ReadsAt W2 rs' (onlyP q.pr s).rs (fun k => W1.heap.size ≤ k ∧ k < W2.heap.size) := by
      obtain ⟨ao, cap, e1, e2, e3, e4⟩ := HRS2.out
      exact ⟨ao, cap, e1, e2, e3, fun i hi => by obtain ⟨b, off, q1, q2, q3⟩ := e4 i hi; exact ⟨b, off, q1, ⟨q2, q3.1⟩, q3⟩⟩
    exact h1.later (by omega) (fun k h1 h2 => (HK3.out.block k (by simp; omega) (by omega)).trans (hget_old _ _ _ (by omega)))
  have x73 := (HK3.out.block (w.heap.size + 1 + 1) (by simp; omega) (by omega)).trans ((hget_old _ _ _ (by omega)).trans X7'.out)
  have HBS3 := Lib.hid hbs3
  have HRS3 := Lib.hid hrs3
  have X73 := Lib.hid x73
  clear c30 hbs3 hrs3 x73 X7' X7
  go_loopw [29] (fun iv wr => ∃ i : Nat, i ≤ q.pr.bs.length ∧ iv = .int .i64 i ∧ wr.heap[w.heap.size + 1 + 1]? = some (.cells (kcells q.pr s i) 67 (0, 0)) ∧ Keeps (fun k => k = w.heap.size + 1 + 1) W3 wr ∧ (0 < i → truA (onlyP q.pr s) ≠ [])) (fun iv _ => q.pr.bs.length - (intOf iv).toNat)
  case atStart => exact ⟨0, Nat.zero_le _, rfl, X73.out, Keeps.refl _ _, (fun h => by omega)⟩
  case round =>
    obtain ⟨i, hi, rfl, hrow, hk, ht0⟩ := hrel
    have HR := Lib.hid hrow
    have HK := Lib.hid hk
    have hzr := hk.size
    have HXR := Lib.hid ((hk.block W2.heap.size (by omega) (by omega)).trans HR3.out)
    have hkw : Keeps (fun _ => False) w wr := (((((Keeps.of_below HB1.out (fun k h1 h2 => by omega)).trans (Keeps.of_below HB2.out (fun k h1 h2 => by omega))).trans (Keeps.alloc _ _ _)).transNew HK3.out (fun i h => by omega)).transNew hk (fun i h => by omega))
    have HKW := Lib.hid hkw
    clear hrow hk hkw
    by_cases hlt : i < q.pr.bs.length
    · have hpa : PairAt wr (onlyP q.pr s) (.slice aob q.pr.bs.length capb) rs' := PairAt.of (HBS3.out.later (by omega) (fun k h1 h2 => HK.out.block k h1 (by omega))) (HRS3.out.later (by omega) (fun k h1 h2 => HK.out.block k h1 (by omega)))
      have HPA := Lib.hid hpa
      have hlti : (i : Int) < (q.pr.bs.length : Int) := by omega
      clear hpa
      go_wp2_with (first | (refine wpList_load_row rfl 27 _ rfl W2.heap.size rfl 27 (pairRow (onlyP q.pr s) (.slice aob q.pr.bs.length capb) rs') (0, 0) _ HXR.out underPair rfl rfl ?_))
      refine (knownV_any HPA.out (i : Int)).mono ?_
      rintro e w5 ⟨rfl, hb5⟩
      dsimp only
      by_cases ht : truA (onlyP q.pr s) = []
      · rw [knownV_no hov ht i hlt]
        unfold spanV
        have HB5 := Lib.hid hb5
        clear hb5
        go_wp2_with fail
        refine (ask_no 10 _).mono ?_
        rintro e w6 ⟨rfl, rfl⟩
        dsimp only
        go_wp2_with fail
        refine ⟨by simp, .inl ⟨ht, rfl, ?_⟩⟩
        exact ((HKW.out.trans (Keeps.of_below HB5.out (fun k h1 h2 => by omega))).trans (Keeps.alloc _ _ _)).below (Nat.le_refl _) (fun _ _ h => h)
      · rw [knownV_yes hov ht i hlt]
        unfold spanV
        have HB5 := Lib.hid hb5
        clear hb5
        go_wp2_with fail
        refine (ask_ok 0 _).mono ?_
        rintro e w6 ⟨rfl, rfl⟩
        dsimp only
        have h40 := hullD_40 (OkP.of _ hov) ht i 5
        have hwd : widB q.pr s i = (hullD (onlyP q.pr s) i 5).2 - (hullD (onlyP q.pr s) i 5).1 := by unfold widB; rw [if_pos hlt]
        obtain ⟨lo, hlo⟩ : ∃ x, x = (hullD (onlyP q.pr s) i 5).1 := ⟨_, rfl⟩
        obtain ⟨hh, hhh⟩ : ∃ x, x = (hullD (onlyP q.pr s) i 5).2 := ⟨_, rfl⟩
        rw [← hlo, ← hhh] at hwd h40 ⊢
        obtain ⟨wd, hwdd⟩ : ∃ x, x = widB q.pr s i := ⟨_, rfl⟩
        rw [← hwdd] at hwd
        have hwr : IntKind.i64.wrap (hh - lo) = wd := by rw [IntWalk.i64_in _ (by omega)]; exact hwd.symm
        have hwi : IntKind.i64.wrap ((i : Int) + 1) = ((i + 1 : Nat) : Int) := by rw [IntWalk.i64_in _ (by omega)]; omega
        have hi5 : i < 5 := by omega
        have hs5 := HB5.out.size
        obtain ⟨w6, hw6⟩ : ∃ x, x = w5.alloc (.cells #[.int .i64 lo, .int .i64 hh] 24) := ⟨_, rfl⟩
        have x6 : w6.heap[w5.heap.size]? = some (.cells #[.int .i64 lo, .int .i64 hh] 24 (0, 0)) := by rw [hw6]; exact heap_alloc_at _ _ _ rfl
        have r6 : w6.heap[w.heap.size + 1 + 1]? = some (.cells (kcells q.pr s i) 67 (0, 0)) := by rw [hw6]; exact (hget_old _ _ _ (by omega)).trans ((HB5.out.block _ (by omega)).trans HR.out)
        have s0 : w6.cell? ⟨w5.heap.size, 0, none⟩ = some (.int .i64 lo) := by rw [cell_of_row _ _ _ _ _ _ x6]; rfl
        have s1 : w6.cell? ⟨w5.heap.size, 1, none⟩ = some (.int .i64 hh) := by rw [cell_of_row _ _ _ _ _ _ x6]; rfl
        have k1 : w6.cell? ⟨w.heap.size + 1 + 1, i, none⟩ = some (.int .i64 0) := by
          rw [cell_of_row _ _ _ _ _ _ r6]
          simp [kcells, hi5]
        have k2 : w6.frozen? ⟨w.heap.size + 1 + 1, i, none⟩ = false := frozen_of_row _ _ _ _ _ r6
        have R6 := Lib.hid r6
        have HWD := Lib.hid hwdd
        have hk6 : Keeps (fun k => k = w.heap.size + 1 + 1) W3 w6 := by rw [hw6]; exact (HK.out.trans (Keeps.of_below HB5.out (fun k h1 h2 => by omega))).trans (Keeps.alloc _ _ _)
        have HK6 := Lib.hid hk6
        rw [← hw6]
        clear hw6 x6 r6 hwdd hwd hlo hhh h40 hk6
        go_wp2
        have hnx := kcells_next q.pr s i hi5
        rw [← HWD.out] at hnx
        refine ⟨⟨i + 1, by omega, rfl, ?_, HK6.out.trans (Keeps.setCell _ _ _ rfl), fun _ => ht⟩, by simp [intOf]; omega⟩
        rw [← hnx]
        have := R6.out
        simp [World.setCell, Array.getElem?_modify, this]
    · obtain rfl : i = q.pr.bs.length := by omega
      have ht : truA (onlyP q.pr s) ≠ [] := ht0 (by omega)
      rw [kcells_end] at HR
      go_wp2_with fail
      have hmr : wr.heap[mp]? = some (keptM q.pr L) := (HKW.out.block mp hml (fun h => h)).trans H.out.map
      have hpr := (HKW.out.block pp hpl (fun h => h)).trans H.out.obj
      have hc8 : wr.cell? ⟨pp, 8, none⟩ = some (.map (some mp)) := by rw [cell_of_row _ _ _ _ _ _ hpr]; rfl
      have hzw := HKW.out.size
      have hup := update_kept q.pr mp L s wr.drew hmr hL
      obtain ⟨W7, hW7⟩ : ∃ x, x = wr.drew.putObj mp (keptM q.pr (L ++ [s])) := ⟨_, rfl⟩
      rw [← hW7] at hup
      have hmne := H.out.ne
      have hk7 : Keeps (fun k => k = mp) wr W7 := by rw [hW7]; exact (Keeps.drew _ _).trans (Keeps.putObj _ _ _ rfl)
      have hm7 : W7.heap[mp]? = some (keptM q.pr (L ++ [s])) := by rw [hW7]; exact World.putObj_heap_same (by show mp < wr.heap.size; omega)
      have r7 := (hk7.block (w.heap.size + 1 + 1) (lt_of_block HR.out) (by omega)).trans HR.out
      have x47 := (hk7.block w.heap.size (by omega) (by omega)).trans ((HK.out.block w.heap.size (by omega) (by omega)).trans ((HK3.out.block w.heap.size (by simp; omega) (by omega)).trans ((hget_old _ _ _ (by omega)).trans X4'.out)))
      have HK7 := Lib.hid hk7
      have HM7 := Lib.hid hm7
      have R7 := Lib.hid r7
      have X47 := Lib.hid x47
      have c87 : W7.cell? ⟨pp, 8, none⟩ = some (.map (some mp)) := by rw [cell_of_row _ _ _ _ _ _ ((hk7.block pp (by omega) (fun e => hmne e.symm)).trans hpr)]; rfl
      clear hW7 hk7 hm7 r7 x47 hmr hpr
      refine wp_region_held_drew (S := fun W' => W'.cell? ⟨pp, 8, none⟩ = some (.map (some mp)) ∧ W'.heap[w.heap.size + 1 + 1]? = some (.cells (knownC q.pr s) 67 (0, 0))) (by kernel_rfl) ⟨hc8, HR.out⟩ fun hS => ?_
      refine wpAnyH_take (i := 0) (v := ?_) rfl (by kernel_rfl) (by kernel_rfl) (by kernel_rfl) (fun _ _ _ h => h) (Or.inl ⟨by rfl, ?_⟩) hS ?_
      rotate_left
      · (intro W hSw; obtain ⟨hq1, hq2⟩ := hSw; go_simp; try with_reducible rfl)
      try simp only [List.getElem_toArray, List.getElem_cons_succ, List.getElem_cons_zero, Act.put, List.setIfInBounds_toArray, List.set_cons_zero, List.set_cons_succ]
      refine wpAnyH_take (i := 1) (v := ?_) rfl (by kernel_rfl) (by kernel_rfl) (by kernel_rfl) (fun _ _ _ h => h) (Or.inl ⟨by rfl, ?_⟩) hS ?_
      rotate_left
      · (intro W hSw; obtain ⟨hq1, hq2⟩ := hSw; go_simp; try with_reducible rfl)
      try simp only [List.getElem_toArray, List.getElem_cons_succ, List.getElem_cons_zero, Act.put, List.setIfInBounds_toArray, List.set_cons_zero, List.set_cons_succ]
      refine wpAnyH_take (i := 2) (v := ?_) rfl (by kernel_rfl) (by kernel_rfl) (by kernel_rfl) (fun _ _ _ h => h) (Or.inl ⟨by rfl, ?_⟩) hS ?_
      rotate_left
      · (intro W hSw; obtain ⟨hq1, hq2⟩ := hSw; go_simp; try with_reducible rfl)
      try simp only [List.getElem_toArray, List.getElem_cons_succ, List.getElem_cons_zero, Act.put, List.setIfInBounds_toArray, List.set_cons_zero, List.set_cons_succ]
      refine wpAnyH_take (i := 3) (v := ?_) rfl (by kernel_rfl) (by kernel_rfl) (by kernel_rfl) (fun _ _ _ h => h) (Or.inl ⟨by rfl, ?_⟩) hS ?_
      rotate_left
      · (intro W hSw; obtain ⟨hq1, hq2⟩ := hSw; go_simp; try with_reducible rfl)
      try simp only [List.getElem_toArray, List.getElem_cons_succ, List.getElem_cons_zero, Act.put, List.setIfInBounds_toArray, List.set_cons_zero, List.set_cons_succ]
      refine wpAnyH_take (i := 4) (v := ?_) rfl (by kernel_rfl) (by kernel_rfl) (by kernel_rfl) (fun _ _ _ h => h) (Or.inl ⟨by rfl, ?_⟩) hS ?_
      rotate_left
      · (intro W hSw; obtain ⟨hq1, hq2⟩ := hSw; go_simp; try with_reducible rfl)
      try simp only [List.getElem_toArray, List.getElem_cons_succ, List.getElem_cons_zero, Act.put, List.setIfInBounds_toArray, List.set_cons_zero, List.set_cons_succ]
      refine wpAnyH_take (i := 5) (v := .agg (knownC q.pr s)) rfl (by kernel_rfl) (by kernel_rfl) (by kernel_rfl) (fun _ _ _ h => h) (yields_value rfl fun W hSw => run_load_row 67 _ rfl (w.heap.size + 1 + 1) rfl 67 (knownC q.pr s) (0, 0) _ hSw.2 underKnown rfl (sizeKnown _ _)) hS ?_
      try simp only [List.getElem_toArray, List.getElem_cons_succ, List.getElem_cons_zero, Act.put, List.setIfInBounds_toArray, List.set_cons_zero, List.set_cons_succ]
      refine wpAnyH_skip (k := 6) (w' := W7) (by kernel_rfl) rfl rfl (by simp only [execOp, Act.eval]; exact (by simpa [Sem.run_bind] using congrArg (fun r => r.andThen fun _ w' => Result.ok Next.skip w') hup)) ⟨c87, R7.out⟩ ?_
      try simp only [List.getElem_toArray, List.getElem_cons_succ, List.getElem_cons_zero, Act.put, List.setIfInBounds_toArray, List.set_cons_zero, List.set_cons_succ]
      refine wpAnyH_done (by kernel_rfl) ?_ _
      clear hS hup hc8 c87
      go_wp2_with (first | (refine wpList_load_row rfl 67 _ rfl (w.heap.size + 1 + 1) rfl 67 (knownC q.pr s) (0, 0) _ R7.out underKnown rfl (sizeKnown _ _) ?_) | (refine wpList_storeA rfl 67 _ _ rfl w.heap.size (knownC q.pr s) rfl rfl 67 _ X47.out (sizeKnown _ _) rfl (knownC_one _ _) ?_; intro W8 hr8 hk8 hs8))
      have hk78 : Keeps (fun k => k = mp) w W8 := ((HKW.out.mono (fun _ _ h => h.elim)).trans HK7.out).transNew hk8 (fun i h => by omega)
      have hm8 : W8.heap[mp]? = some (keptM q.pr (L ++ [s])) := (hk8.block mp (by have := HK7.out.size; omega) (by omega)).trans HM7.out
      refine bodyPost_ret (v := .agg (knownC q.pr s)) (results_cell_row (fn := Try.f34) (p := 4) rfl _ _ w.heap.size 67 (knownC q.pr s) (0, 0) _ rfl hr8 underKnown rfl (sizeKnown _ _)) rfl (.inr ⟨ht, rfl, L ++ [s], H.out.keeps hk78 hm8 ?_ ?_, hk78⟩)
      · exact List.nodup_append.2 ⟨H.out.nd, by simp, fun a ha b hb => by rw [List.mem_singleton.1 hb]; intro e; exact hL (e ▸ ha)⟩
      · intro x hx
        rcases List.mem_append.1 hx with h | h
        · exact H.out.lt x h
        · rw [List.mem_singleton.1 h]; exact hs
/-- known, where there is a truth. -/
theorem pknown_any {q : PlanD} (hq : OkQ q) (ht : truA q.pr ≠ []) {B pp mp : Nat} {bs rs ps : Value} {L : List Nat} (s : Nat) (hs : s < 2 ^ q.prices.length) (w : World) (h : PlanS q B pp mp bs rs ps L w) :
    Calls Try.prog 34 #[.pointer (some ⟨pp, 0, none⟩), .int .u64 s] w (KnownR q B pp mp bs rs ps s w) := by
  by_cases hL : s ∈ L
  · exact known_in hq s hs hL w h
  · refine (known_out hq s hs hL w h).mono ?_
    rintro e w' (⟨h1, _⟩ | ⟨_, h2⟩)
    · exact absurd h1 (truA_of_every hq ht s)
    · exact h2
end Go.Proofs.Ytabbmihakoeegaa
