/- Is there a truth, by the readings of a set? -/
import Derived.Test.YtlgeggekmdoceaaZg
namespace Go.Proofs.Ytlgeggekmdoceaa
set_option linter.unusedVariables false
set_option linter.unusedSimpArgs false
open Go.RowKit Go.Shelf
attribute [local go_sem] Oper.semAt_some

def onlyP (p : PairD) (s : Nat) : PairD := { p with rs := keptL p.rs s p.rs.length }
theorem keptL_mem (l : List RdD) (s j : Nat) (r : RdD) (h : r ∈ keptL l s j) : r ∈ l := by
  unfold keptL at h
  obtain ⟨i, _, hi⟩ := List.mem_filterMap.1 h
  split at hi
  · exact List.mem_of_getElem? hi
  · cases hi
theorem onlyP_valid (p : PairD) (s : Nat) (h : validB p = true) : validB (onlyP p s) = true := by
  have hle := keptL_le p.rs s p.rs.length
  simp only [validB, okHead, okZR, Bool.and_eq_true, List.all_eq_true, decide_eq_true_eq] at h ⊢
  obtain ⟨⟨⟨⟨a1, a2⟩, a3⟩, a4⟩, c⟩ := h
  refine ⟨⟨⟨⟨a1, ?_⟩, a3⟩, a4⟩, fun r hr => c r (keptL_mem _ _ _ _ hr)⟩
  show ((keptL p.rs s p.rs.length).length : Int) ≤ 8
  omega
theorem readsL_all (l : List RdD) : ∀ k, k ≤ l.length → ∀ m, l.length ≤ m → readsL l (2 ^ m - 1) k = (l.take k).map readB := by
  intro k
  induction k with
  | zero => intro _ m _; simp [readsL]
  | succ k ih =>
    intro hk m hm
    have ht : (2 ^ m - 1).testBit k = true := by rw [Nat.testBit_two_pow_sub_one]; simp; omega
    rw [readsL_yes l _ k _ ht (List.getElem?_eq_getElem (by omega)), ih (by omega) m hm, List.take_succ_eq_append_getElem (by omega), List.map_append]
    rfl
theorem readsL_kept (l : List RdD) (s : Nat) : ∀ k, readsL l s k = (keptL l s k).map readB := by
  intro k
  unfold readsL keptL
  rw [List.map_filterMap]
  congr 1
  funext i
  split <;> simp
theorem onlyP_outs (p : PairD) (s : Nat) : pairOuts (onlyP p s) (allR (onlyP p s)) = pairOuts p s := by
  unfold pairOuts
  have : boundsL (onlyP p s) (allR (onlyP p s)) = boundsL p s := by
    unfold boundsL allR onlyP
    simp only
    rw [readsL_all _ _ (Nat.le_refl _) _ (Nat.le_refl _), List.take_length, readsL_kept]
  rw [this]
  rfl

theorem SpansAt.mono {W : World} {v : Value} {l : List (Int × Int)} {Rd Rd' : Nat → Prop} (h : SpansAt W v l Rd) (hr : ∀ k, Rd k → Rd' k) : SpansAt W v l Rd' := by
  obtain ⟨ao, cap, h1, h2, h3, h4⟩ := h
  exact ⟨ao, cap, h1, h2, h3, fun i hi => by obtain ⟨b, off, e1, e2, e3⟩ := h4 i hi; exact ⟨b, off, e1, hr b e2, e3⟩⟩
theorem ReadsAt.mono {W : World} {v : Value} {l : List RdD} {Rd Rd' : Nat → Prop} (h : ReadsAt W v l Rd) (hr : ∀ k, Rd k → Rd' k) : ReadsAt W v l Rd' := by
  obtain ⟨ao, cap, h1, h2, h3, h4⟩ := h
  exact ⟨ao, cap, h1, h2, h3, fun i hi => by obtain ⟨b, off, e1, e2, e3⟩ := h4 i hi; exact ⟨b, off, e1, hr b e2, e3⟩⟩
set_option maxRecDepth 100000 in
set_option maxHeartbeats 4000000 in
theorem fits_any (p : PairD) (hv : validB p = true) (bp : Nat) (bs rs mv : Value) (s : Nat) (hs : s < 256) (Rd : Nat → Prop) (w : World) (hRd : ∀ k, Rd k → k < w.heap.size) (hbp : w.heap[bp]? = some (benchObj bs rs p.zl p.zh p.rl p.rh mv)) (hbs : SpansAt w bs p.bs Rd) (hrs : ReadsAt w rs p.rs Rd) :
    Calls Try.prog 81 #[.pointer (some ⟨bp, 0, none⟩), .int .u64 s] w fun e w' => e = .returned (.bool (decide (pairOuts p s ≠ []))) ∧ Below w.heap.size w w' := by
  have hp := OkP.of p hv
  have hp' := OkP.of _ (onlyP_valid p s hv)
  have c0 : w.cell? ⟨bp, 0, none⟩ = some bs := by rw [cell_of_row w bp _ _ _ _ hbp]; rfl
  have c1 : w.cell? ⟨bp, 1, none⟩ = some (.int .i64 p.zl) := by rw [cell_of_row w bp _ _ _ _ hbp]; rfl
  have c2 : w.cell? ⟨bp, 2, none⟩ = some (.int .i64 p.zh) := by rw [cell_of_row w bp _ _ _ _ hbp]; rfl
  have c3 : w.cell? ⟨bp, 3, none⟩ = some (.int .i64 p.rl) := by rw [cell_of_row w bp _ _ _ _ hbp]; rfl
  have c4 : w.cell? ⟨bp, 4, none⟩ = some (.int .i64 p.rh) := by rw [cell_of_row w bp _ _ _ _ hbp]; rfl
  have c5 : w.cell? ⟨bp, 5, none⟩ = some rs := by rw [cell_of_row w bp _ _ _ _ hbp]; rfl
  have hb1c : bs.oneCell' = true := by obtain ⟨ao, cap, rfl, _⟩ := hbs; rfl
  have HBS := Lib.hid hbs
  have HRS := Lib.hid hrs
  have eg := enters_of Try.func67 (by kernel_rfl) rfl
  clear hbs hrs hbp
  go_enter Try.func81, Try.ntmps81
  go_wp2_with fail
  refine (only_any p bs rs s hs hp.m8 hb1c Rd w HRS.out).mono ?_
  rintro e w1 ⟨rs', rfl, hb1, hrs1⟩
  have hs1 := hb1.size
  have HB1 := Lib.hid hb1
  have HRS1 := Lib.hid hrs1
  clear hb1 hrs1
  go_wp2_with fail
  have hbs1 : SpansAt w1 bs p.bs (fun _ => True) := (HBS.out.later hs1 (fun k hk _ => HB1.out.block k hk)).mono (fun _ _ => trivial)
  have hrs1 : ReadsAt w1 rs' (onlyP p s).rs (fun _ => True) := HRS1.out.mono (fun _ _ => trivial)
  refine (open_yes (onlyP p s) bs rs' (fun _ => True) w1 hbs1 hrs1 67 #[] true eg (fun _ W bp _ _ => always_any _ _) (onlyP_valid p s hv) rfl).mono ?_
  rintro e w2 ⟨bq, rfl, hle2, hbq, hb2⟩
  have hbs2 := hbs1.later hb2.size (fun k hk _ => hb2.block k hk)
  have hrs2 := hrs1.later hb2.size (fun k hk _ => hb2.block k hk)
  obtain ⟨ao2, cap2, hrse, _⟩ := id hrs2
  subst hrse
  have HBQ := Lib.hid hbq
  have HB2 := Lib.hid (HB1.out.trans (hb2.mono hs1))
  have HBS2 := Lib.hid hbs2
  have HRS2 := Lib.hid hrs2
  clear hbq hb2 hbs2 hrs2 hbs1 hrs1 c0 c1 c2 c3 c4 c5
  go_wp2_with fail
  refine (every_any bq (onlyP p s).rs.length cap2 ao2 _ _ _ _ _ _ hp'.m8 w2 (by exact HBQ.out)).mono ?_
  rintro e w3 ⟨rfl, rfl⟩
  go_wp2_with fail
  refine (bounds_any (onlyP p s) bq (allR (onlyP p s)) (allR_lt _ hp'.m8) bs _ _ (fun _ => True) w2 (by exact HBQ.out) hp'.n5 hp'.m8 (by exact HBS2.out) (by exact HRS2.out) (fun r hr => ⟨(hp'.rs r hr).1, (hp'.rs r hr).2.2.1⟩)).mono ?_
  rintro e w4 ⟨lv, rfl, hown, hb4⟩
  have HOWN := Lib.hid hown
  have HBQ4 := Lib.hid ((hb4.block bq (lt_of_block HBQ.out)).trans HBQ.out)
  have HB4 := Lib.hid (HB2.out.trans (hb4.mono HB2.out.size))
  clear hown hb4
  go_wp2_with fail
  have hzz := hp.zz
  have hrr := hp.rr
  refine (can_any (boundsL (onlyP p s) (allR (onlyP p s))) (okB_bounds _ hp' _) (by have := boundsL_length _ hp' (allR (onlyP p s)); omega) bq w2.heap.size bs _ _ lv p.zl p.zh p.rl p.rh (by omega) (by omega) (by omega) (by omega) (by omega) (by omega) w4 (by exact HBQ4.out) (by exact HOWN.out)).mono ?_
  rintro e w5 ⟨rfl, hb5⟩
  have HB5 := Lib.hid (HB4.out.trans (hb5.mono HB4.out.size))
  have ho : outs (boundsL (onlyP p s) (allR (onlyP p s))) (comps p.zl p.zh p.rl p.rh) = pairOuts p s := onlyP_outs p s
  rw [ho]
  clear hb5
  obtain ⟨res, hres⟩ : ∃ res, res = decide (pairOuts p s ≠ []) := ⟨_, rfl⟩
  rw [← hres]
  have HRES := Lib.hid hres
  clear hres
  go_wp2
  go_ret
  exact ⟨congrArg (fun b => Ending.returned (Value.bool b)) HRES.out, HB5.out⟩

end Go.Proofs.Ytlgeggekmdoceaa
