/- What the functions of package pair return, by the list of all truths. -/
import Derived.Test.YtlgeggekmdoceaaLd
import Derived.Test.YtlgeggekmdoceaaU
import Derived.Test.YtlgeggekmdoceaaV
import Derived.Test.YtlgeggekmdoceaaAa
namespace Go.Proofs.Ytlgeggekmdoceaa
set_option linter.unusedVariables false
set_option linter.unusedSimpArgs false
open Go.RowKit Go.Shelf

/-- A pair's slices in memory. -/
structure PairAt (w : World) (p : PairD) (bs rs : Value) : Prop where
  b : SpansAt w bs p.bs (fun k => k < w.heap.size)
  r : ReadsAt w rs p.rs (fun k => k < w.heap.size)
theorem SpansAt.low {W : World} {v : Value} {l : List (Int × Int)} {Rd : Nat → Prop} (h : SpansAt W v l Rd) : SpansAt W v l (fun k => k < W.heap.size) := by
  obtain ⟨ao, cap, h1, h2, h3, h4⟩ := h
  exact ⟨ao, cap, h1, h2, h3, fun i hi => by obtain ⟨b, off, e1, e2, e3⟩ := h4 i hi; exact ⟨b, off, e1, e3.1, e3⟩⟩
theorem ReadsAt.low {W : World} {v : Value} {l : List RdD} {Rd : Nat → Prop} (h : ReadsAt W v l Rd) : ReadsAt W v l (fun k => k < W.heap.size) := by
  obtain ⟨ao, cap, h1, h2, h3, h4⟩ := h
  exact ⟨ao, cap, h1, h2, h3, fun i hi => by obtain ⟨b, off, e1, e2, e3⟩ := h4 i hi; exact ⟨b, off, e1, e3.1, e3⟩⟩
theorem PairAt.later {w W : World} {p : PairD} {bs rs : Value} (h : PairAt w p bs rs) (hb : Below w.heap.size w W) : PairAt W p bs rs :=
  ⟨(h.b.later hb.size (fun k hk _ => hb.block k hk)).low, (h.r.later hb.size (fun k hk _ => hb.block k hk)).low⟩
theorem PairAt.of {w : World} {p : PairD} {bs rs : Value} {Rd Rd' : Nat → Prop} (h : SpansAt w bs p.bs Rd) (h' : ReadsAt w rs p.rs Rd') : PairAt w p bs rs := ⟨h.low, h'.low⟩

def okBl (p : PairD) (x : Int) : Bool := inB x 0 ((p.bs.length : Int) - 1)
def knownV (p : PairD) (x : Int) : (Int × Int) × Int := toldV p (okBl p x) (hullD p x.toNat 5)
def differV (p : PairD) (x y : Int) : (Int × Int) × Int := toldV p (okBl p x && okBl p y) (hullD p x.toNat y.toNat)
def showsV (p : PairD) (m : Int) : (Int × Int) × Int := toldV p (inB m 0 60) (hullS p m)
theorem okBl_lt {p : PairD} {x : Int} (h : okBl p x = true) : x.toNat < p.bs.length := by
  unfold okBl inB at h
  rw [decide_eq_true_eq] at h
  omega

section
variable {w : World} {p : PairD} {bs rs : Value} (h : PairAt w p bs rs)
include h
theorem knownV_any (x : Int) : Calls Try.prog 15 #[.agg (pairRow p bs rs), .int .i64 x] w fun e w' => e = .returned (.tuple #[spanV (knownV p x).1, .int .i64 (knownV p x).2]) ∧ Below w.heap.size w w' :=
  (known_any p bs rs x _ w (fun _ h => h) h.b h.r).mono fun e w' ⟨s, er, he, ht, hb⟩ => by
    have := told_eq p _ _ (hullD p x.toNat 5) (fun hv ho S hS => told_dif p (OkP.of p hv) x.toNat 5 (.inl (okBl_lt ho)) (.inr rfl) S hS) s er ht
    refine ⟨?_, hb⟩
    rw [he, show knownV p x = (s, er) from this.symm]
theorem differV_any (x y : Int) : Calls Try.prog 17 #[.agg (pairRow p bs rs), .int .i64 x, .int .i64 y] w fun e w' => e = .returned (.tuple #[spanV (differV p x y).1, .int .i64 (differV p x y).2]) ∧ Below w.heap.size w w' :=
  (differp_any p bs rs x y _ w (fun _ h => h) h.b h.r).mono fun e w' ⟨s, er, he, ht, hb⟩ => by
    have := told_eq p _ _ (hullD p x.toNat y.toNat) (fun hv ho S hS => by
      rw [Bool.and_eq_true] at ho
      exact told_dif p (OkP.of p hv) x.toNat y.toNat (.inl (okBl_lt ho.1)) (.inl (okBl_lt ho.2)) S hS) s er ht
    refine ⟨?_, hb⟩
    rw [he, show differV p x y = (s, er) from this.symm]
theorem showsV_any (m : Int) : Calls Try.prog 19 #[.agg (pairRow p bs rs), .int .i64 m] w fun e w' => e = .returned (.tuple #[spanV (showsV p m).1, .int .i64 (showsV p m).2]) ∧ Below w.heap.size w w' :=
  (showsp_any p bs rs m _ w (fun _ h => h) h.b h.r).mono fun e w' ⟨s, er, he, ht, hb⟩ => by
    have := told_eq p _ _ (hullS p m) (fun hv ho S hS => told_sho p (OkP.of p hv) m S hS) s er ht
    refine ⟨?_, hb⟩
    rw [he, show showsV p m = (s, er) from this.symm]
theorem longestV_any : Calls Try.prog 21 #[.agg (pairRow p bs rs)] w fun e w' => e = .returned (.tuple #[.int .i64 (longV p).1.1, .int .i64 (longV p).1.2, .int .i64 (longV p).2]) ∧ Below w.heap.size w w' := by
  rw [← longF_eq]
  exact longestp_any p bs rs _ w (fun _ h => h) h.b h.r
theorem leastV_any : Calls Try.prog 23 #[.agg (pairRow p bs rs)] w fun e w' => e = .returned (.tuple #[.int .i64 (leastV p).1.1, .int .i64 (leastV p).1.2.1, .int .i64 (leastV p).1.2.2, .int .i64 (leastV p).2]) ∧ Below w.heap.size w w' := by
  rw [← leastF_eq]
  exact leastp_any p bs rs _ w (fun _ h => h) h.b h.r
theorem groupsV_any : Calls Try.prog 25 #[.agg (pairRow p bs rs)] w fun e w' => e = .returned (.tuple #[.int .i64 (groupsV p).1, .int .i64 (groupsV p).2]) ∧ Below w.heap.size w w' :=
  (groupsp_any p bs rs _ w (fun _ h => h) h.b h.r).mono fun e w' ⟨⟨n, er, he, ht⟩, hb⟩ => ⟨by rw [he, ← groups_eq p n er ht], hb⟩
theorem wrongV_any : Calls Try.prog 27 #[.agg (pairRow p bs rs)] w fun e w' => e = .returned (.tuple #[.int .i64 (wrongV p).1.1, .int .i64 (wrongV p).1.2, .int .i64 (wrongV p).2]) ∧ Below w.heap.size w w' :=
  (wrongp_any p bs rs _ w (fun _ h => h) h.b h.r).mono fun e w' ⟨⟨n, s, er, he, ht⟩, hb⟩ => ⟨by rw [he, ← wrong_eq p n s er ht], hb⟩
theorem clashV_any : Calls Try.prog 29 #[.agg (pairRow p bs rs)] w fun e w' => e = .returned (.tuple #[.int .i64 (clashV p).1, .int .i64 (clashV p).2]) ∧ Below w.heap.size w w' :=
  (clashp_any p bs rs _ w (fun _ h => h) h.b h.r).mono fun e w' ⟨⟨s, er, he, ht⟩, hb⟩ => ⟨by rw [he, ← clash_eq p s er ht], hb⟩
end

/-! ### the document's examples -/
def p0 : PairD := sampleD []
def p1 : PairD := sampleD [⟨2, 1, 0, 5, 5⟩]
theorem val_known : knownV p0 1 = ((2, 4), 0) := by decide +kernel
theorem val_differ : differV p0 0 1 = ((-4, -2), 0) := by decide +kernel
theorem val_shows : showsV p0 25 = ((5, 6), 0) := by decide +kernel
theorem val_long : longV p0 = ((2, 2), 0) := by decide +kernel
theorem val_least : leastV p0 = ((0, 1, 2), 0) := by decide +kernel
theorem val_groups : groupsV p0 = (1, 0) := by decide +kernel
theorem val_wrong : wrongV p1 = ((1, 8), 0) := by decide +kernel
theorem val_clash : clashV p1 = (9, 0) := by decide +kernel

end Go.Proofs.Ytlgeggekmdoceaa
