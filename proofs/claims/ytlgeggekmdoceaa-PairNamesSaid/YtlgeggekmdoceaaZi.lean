/- The closures of Wrong and Clash. -/
import Derived.Test.YtlgeggekmdoceaaZh
namespace Go.Proofs.Ytlgeggekmdoceaa
set_option linter.unusedVariables false
set_option linter.unusedSimpArgs false
open Go.RowKit Go.Shelf
attribute [local go_sem] Oper.semAt_some

/-- A pair that is looked at, in memory: its bench and its rows. -/
structure Opened (p : PairD) (bp : Nat) (bs rs mv : Value) (Rd : Nat → Prop) (w : World) : Prop where
  b : w.heap[bp]? = some (benchObj bs rs p.zl p.zh p.rl p.rh mv)
  r : ∀ k, Rd k → k < w.heap.size
  s : SpansAt w bs p.bs Rd
  t : ReadsAt w rs p.rs Rd
theorem Opened.later {p : PairD} {bp : Nat} {bs rs mv : Value} {Rd : Nat → Prop} {w W : World} (h : Opened p bp bs rs mv Rd w) (hb : Below w.heap.size w W) : Opened p bp bs rs mv Rd W :=
  ⟨(hb.block _ (lt_of_block h.b)).trans h.b, fun k hk => Nat.lt_of_lt_of_le (h.r k hk) hb.size, h.s.later hb.size (fun k hk _ => hb.block k hk), h.t.later hb.size (fun k hk _ => hb.block k hk)⟩
theorem andNot_u64 : ∀ m : Fin 9, ∀ s : Fin 256, s.val < 2 ^ m.val → bits BinOp.andNot IntKind.u64 ((2 ^ m.val - 1 : Nat) : Int) (s.val : Int) = ((2 ^ m.val - 1 - s.val : Nat) : Int) := by decide +kernel

set_option maxRecDepth 100000 in
set_option maxHeartbeats 4000000 in
theorem wrong2_any (p : PairD) (hv : validB p = true) (bp : Nat) (bs rs mv : Value) (Rd : Nat → Prop) (s : Nat) (hs : s < 2 ^ p.rs.length) (pb : Nat) (w : World) (ho : Opened p bp bs rs mv Rd w) (hpb : w.heap[pb]? = some (boxPtr bp)) :
    Calls Try.prog 80 (#[.int .u64 s] ++ #[.pointer (some ⟨pb, 0, none⟩)]) w fun e w' => e = .returned (.bool (decide (pairOuts p (allR p - s) ≠ []))) ∧ Below w.heap.size w w' := by
  have hp := OkP.of p hv
  have d0 : w.cell? ⟨pb, 0, none⟩ = some (.pointer (some ⟨bp, 0, none⟩)) := by rw [cell_of_row w _ _ _ _ _ hpb]; rfl
  have hp2 : 2 ^ p.rs.length ≤ 2 ^ 8 := Nat.pow_le_pow_right (by decide) hp.m8
  have han : bits BinOp.andNot IntKind.u64 ((2 ^ p.rs.length - 1 : Nat) : Int) (s : Int) = ((allR p - s : Nat) : Int) := andNot_u64 ⟨p.rs.length, by have := hp.m8; omega⟩ ⟨s, by omega⟩ hs
  obtain ⟨ao, cap, hrse, _⟩ := id ho.t
  subst hrse
  have HO := Lib.hid ho
  go_enter Try.func80, Try.ntmps80
  go_wp2_with fail
  have hS : ∀ W, Below w.heap.size w W → W.cell? ⟨pb, 0, none⟩ = some (.pointer (some ⟨bp, 0, none⟩)) := fun W hb => (hb.cell (p := ⟨pb, 0, none⟩) (lt_of_block hpb)).trans d0
  have HS := Lib.hid hS
  have HV := Lib.hid hv
  clear hS hpb ho
  go_region_held3 (fun w' => w'.cell? ⟨pb, 0, none⟩ = some (.pointer (some ⟨bp, 0, none⟩)))
    (first | exact d0 | exact HS.out _ hb1)
    (first | (go_at_call 69; refine (every_any bp p.rs.length cap ao _ _ _ _ _ _ hp.m8 _ (by exact HO.out.b)).mono ?_; rintro e w1 ⟨rfl, rfl⟩) | (go_at_call 81; refine (fits_any p HV.out bp bs _ mv (allR p - s) (by unfold allR; omega) Rd _ (by exact HO.out.r) (by exact HO.out.b) (by exact HO.out.s) (by exact HO.out.t)).mono ?_; rintro e w1 ⟨rfl, hb1'⟩; have hb1 : Below w.heap.size w w1 := (Below.refl _ _).drew.trans hb1'))
  have HB1 := Lib.hid hb1
  clear hb1 hb1'
  go_wp2
  go_ret
  exact ⟨by simp, HB1.out⟩
set_option maxRecDepth 100000 in
set_option maxHeartbeats 4000000 in
theorem clash2_any (p : PairD) (hv : validB p = true) (bp : Nat) (bs rs mv : Value) (Rd : Nat → Prop) (s : Nat) (hs : s < 2 ^ p.rs.length) (pb : Nat) (w : World) (ho : Opened p bp bs rs mv Rd w) (hpb : w.heap[pb]? = some (boxPtr bp)) :
    Calls Try.prog 86 (#[.int .u64 s] ++ #[.pointer (some ⟨pb, 0, none⟩)]) w fun e w' => e = .returned (.bool (decide (pairOuts p s = []))) ∧ Below w.heap.size w w' := by
  have hp := OkP.of p hv
  have d0 : w.cell? ⟨pb, 0, none⟩ = some (.pointer (some ⟨bp, 0, none⟩)) := by rw [cell_of_row w _ _ _ _ _ hpb]; rfl
  have hp2 : 2 ^ p.rs.length ≤ 2 ^ 8 := Nat.pow_le_pow_right (by decide) hp.m8
  go_enter Try.func86, Try.ntmps86
  go_wp2_with fail
  refine (fits_any p hv bp bs rs mv s (by omega) Rd w ho.r ho.b ho.s ho.t).mono ?_
  rintro e w1 ⟨rfl, hb1⟩
  have HB1 := Lib.hid hb1
  clear hb1
  go_wp2
  go_ret
  exact ⟨by simp, HB1.out⟩

end Go.Proofs.Ytlgeggekmdoceaa
