/- The tables of a pair by some bounds: of each comparator that can be, one. -/
import Derived.Test.YtlgeggekmdoceaaB
import Derived.Test.YtlgeggekmdoceaaC
import Derived.Shelf.Abstract
namespace Go.Proofs.Ytlgeggekmdoceaa
set_option linter.unusedVariables false
set_option linter.unusedSimpArgs false
open Go.RowKit Go.Shelf
attribute [local go_sem] Oper.semAt_some

/-- A bound: of two blocks (5: the mark), from a number to a number; if it was shown: at a minute. -/
structure Bnd where
  kn : Bool
  a : Nat
  b : Nat
  lo : Int
  hi : Int
  m : Int
def encB (x : Bnd) : Value :=
  if x.kn then .iface 92 (.agg #[.int .i64 x.a, .int .i64 x.b, .int .i64 x.lo, .int .i64 x.hi])
  else .iface 122 (.agg #[.int .i64 x.a, .int .i64 x.b, .int .i64 x.lo, .int .i64 x.hi, .int .i64 x.m])
def okB (x : Bnd) : Prop := x.a < 6 ∧ x.b < 6 ∧ -1000000 ≤ x.lo ∧ x.lo ≤ 1000000 ∧ -1000000 ≤ x.hi ∧ x.hi ≤ 1048576 ∧ (x.kn = false → x.hi ≤ 1000000) ∧ 0 ≤ x.m ∧ x.m ≤ 60
def putB (c : Int × Int) (t : Tab) (x : Bnd) : Tab :=
  if x.kn then putT t x.a x.b x.lo x.hi else putT t x.a x.b (x.lo - showsC c.1 c.2 x.m) (x.hi - showsC c.1 c.2 x.m)
def T0 : Tab := fun i j => if i = j then 0 else 1048576
def rawT (l : List Bnd) (c : Int × Int) : Tab := l.foldl (putB c) T0
def tabOf (l : List Bnd) (c : Int × Int) : Tab := fwN (rawT l c) 216
def outs (l : List Bnd) (cs : List (Int × Int)) : List ((Int × Int) × Tab) := cs.filterMap fun c => if diagOk (tabOf l c) then some (c, tabOf l c) else none
def encCT (x : (Int × Int) × Tab) : Array Value := #[.agg #[.int .i64 x.1.1, .int .i64 x.1.2], .agg (tcells x.2)]

/-- A slice value whose elements are these, one cell each. -/
def ListAt (W : World) (v : Value) (xs : List Value) (Rd : Nat → Prop) : Prop :=
  ∃ ao cap, v = .slice ao xs.length cap ∧ xs.length ≤ 1000 ∧ ∀ i (h : i < xs.length), ∃ b off, ao = some ⟨b, off, none⟩ ∧ Rd b ∧ b < W.heap.size ∧ W.cell? ⟨b, off + i, none⟩ = some xs[i]

theorem outs_yes (l : List Bnd) (c : Int × Int) (h : diagOk (tabOf l c) = true) : outs l [c] = [(c, tabOf l c)] := by simp [outs, h]
theorem outs_no (l : List Bnd) (c : Int × Int) (h : diagOk (tabOf l c) = false) : outs l [c] = [] := by simp [outs, h]
theorem outs_append (l : List Bnd) (a b : List (Int × Int)) : outs l (a ++ b) = outs l a ++ outs l b := by simp [outs]

/-- The first table, as far as it is made. -/
def partT (i j : Nat) : Tab := fun a b => if a < i ∨ (a = i ∧ b < j) then T0 a b else 0
theorem partT_zero : tcells (partT 0 0) = #[Value.int IntKind.i64 0, Value.int IntKind.i64 0, Value.int IntKind.i64 0, Value.int IntKind.i64 0, Value.int IntKind.i64 0, Value.int IntKind.i64 0, Value.int IntKind.i64 0, Value.int IntKind.i64 0, Value.int IntKind.i64 0, Value.int IntKind.i64 0, Value.int IntKind.i64 0, Value.int IntKind.i64 0, Value.int IntKind.i64 0, Value.int IntKind.i64 0, Value.int IntKind.i64 0, Value.int IntKind.i64 0, Value.int IntKind.i64 0, Value.int IntKind.i64 0, Value.int IntKind.i64 0, Value.int IntKind.i64 0, Value.int IntKind.i64 0, Value.int IntKind.i64 0, Value.int IntKind.i64 0, Value.int IntKind.i64 0, Value.int IntKind.i64 0, Value.int IntKind.i64 0, Value.int IntKind.i64 0, Value.int IntKind.i64 0, Value.int IntKind.i64 0, Value.int IntKind.i64 0, Value.int IntKind.i64 0, Value.int IntKind.i64 0, Value.int IntKind.i64 0, Value.int IntKind.i64 0, Value.int IntKind.i64 0, Value.int IntKind.i64 0] := by rfl
theorem partT_next (i j : Nat) : upd (partT i j) i j (T0 i j) = partT i (j + 1) := by
  funext a b
  unfold upd partT
  by_cases h : a = i ∧ b = j
  · obtain ⟨rfl, rfl⟩ := h
    simp
  · rw [if_neg h]
    by_cases h2 : a < i ∨ (a = i ∧ b < j)
    · rw [if_pos h2, if_pos (by omega)]
    · rw [if_neg h2, if_neg (by omega)]
theorem upd_upd (t : Tab) (i j : Nat) (u v : Int) : upd (upd t i j u) i j v = upd t i j v := by
  funext a b
  unfold upd
  split <;> rfl
theorem partT_row (i : Nat) : tcells (partT i 6) = tcells (partT (i + 1) 0) := by
  unfold tcells
  congr 1
  apply List.map_congr_left
  intro k hk
  have h1 : k % 6 < 6 := Nat.mod_lt _ (by decide)
  unfold partT
  by_cases h : k / 6 < i + 1
  · rw [if_pos (by omega), if_pos (by omega)]
  · rw [if_neg (by omega), if_neg (by omega)]
theorem partT_all : tcells (partT 6 0) = tcells T0 := by rfl

theorem method_known (cs : Array Value) (w : World) : (method 263 92 (.agg cs) "blockworks/pair.put").run Try.prog w = .ok (128, .agg cs) w := by kernel_rfl
theorem method_shown (cs : Array Value) (w : World) : (method 263 122 (.agg cs) "blockworks/pair.put").run Try.prog w = .ok (130, .agg cs) w := by kernel_rfl

set_option maxRecDepth 100000 in
set_option maxHeartbeats 4000000 in
theorem tables_seq (bnds : List Bnd) (hok : ∀ x ∈ bnds, okB x) (b1 b2 bp : Nat) (bs rs mv lv : Value) (zl zh rl rh : Int) (hz : zl ≤ zh) (hr : rl ≤ rh) (hz1 : -1000 ≤ zl) (hz2 : zh ≤ 1000) (hq1 : -1000 ≤ rl) (hq2 : rh ≤ 1000)
    (hFW : ∀ c ∈ comps zl zh rl rh, ∀ k, k ≤ 216 → ∀ i j, i < 6 → j < 6 → -1000000000000 ≤ fwN (rawT bnds c) k i j ∧ fwN (rawT bnds c) k i j ≤ 1000000000000)
    (Rd : Nat → Prop) (W : World) (hr1 : Rd b1) (hr2 : Rd b2) (hr3 : Rd bp)
    (hb1 : W.heap[b1]? = some (boxPtr bp)) (hbp : W.heap[bp]? = some (benchObj bs rs zl zh rl rh mv)) (hb2 : W.heap[b2]? = some (.cells #[lv] 87 (0, 0))) (hlv : ListAt W lv (bnds.map encB) Rd) :
    SeqAt Try.prog 103 #[.pointer (some ⟨b1, 0, none⟩), .pointer (some ⟨b2, 0, none⟩)] encCT (outs bnds (comps zl zh rl rh)) Rd W := by
  intro l Mut J Jx hM hJ hJx hY h0
  have HM := Lib.hid hM
  have HJ := Lib.hid hJ
  have HJx := Lib.hid hJx
  have HY := Lib.hid hY
  have HFW := Lib.hid hFW
  have HOK := Lib.hid hok
  clear hM hJ hJx hY hFW hok
  have hlt1 := lt_of_block hb1
  have hlt2 := lt_of_block hbp
  have hlt3 := lt_of_block hb2
  refine calls_of_wp_marks Try.func103 rfl ?_
  simp only [Try.ntmps103, List.size_toArray, List.length_cons, List.length_nil, Nat.reduceAdd, Nat.reduceSub, Array.replicate_succ, Array.replicate_zero, List.push_toArray, List.append_toArray, List.nil_append, List.cons_append]
  have c0 : W.cell? ⟨b1, 0, none⟩ = some (.pointer (some ⟨bp, 0, none⟩)) := by rw [cell_of_row W b1 _ _ _ _ hb1]; rfl
  go_wp2_with fail
  refine (comparators_any bp _).mono ?_
  rintro e w1 ⟨rfl, rfl⟩
  go_wp2_with fail
  obtain ⟨W1, hW1⟩ : ∃ W1, W1 = (W.alloc (.cells #[.func (.yield l) #[] #[]] 129)).alloc (boxPtr bp) := ⟨_, rfl⟩
  rw [← hW1]
  have hsz : W1.heap.size = W.heap.size + 2 := by rw [hW1]; simp
  have hkw : ∀ M, Keeps M W W1 := fun M => by rw [hW1]; exact (Keeps.alloc _ _ _).trans (Keeps.alloc _ _ _)
  have hbel : Below W.heap.size W W1 := (hkw (fun _ => False)).below (Nat.le_refl _) (fun _ _ h => h)
  have hy0 : W1.heap[W.heap.size]? = some (.cells #[.func (.yield l) #[] #[]] 129 (0, 0)) := by rw [hW1]; exact (hget_old _ _ _ (by simp)).trans (heap_alloc_at _ _ _ rfl)
  have hbx : W1.heap[W.heap.size + 1]? = some (boxPtr bp) := by rw [hW1]; exact heap_alloc_at _ _ _ (by simp)
  have hbp1 : W1.heap[bp]? = some (benchObj bs rs zl zh rl rh mv) := (hbel.block bp hlt2).trans hbp
  have HW1 := Lib.hid hW1
  have HSZ := Lib.hid hsz
  have HKW := Lib.hid hkw
  have HY0 := Lib.hid hy0
  have HBX := Lib.hid hbx
  have HBP1 := Lib.hid hbp1
  have HB1 := Lib.hid hb1
  have HB2 := Lib.hid hb2
  have HBP := Lib.hid hbp
  have HLV := Lib.hid hlv
  clear hW1 hkw hbel hy0 hbx hbp1 hb1 hb2 hbp hlv c0
  refine wp_range (gf := 109) (lb := #[.pointer (some ⟨W.heap.size + 1, 0, none⟩)]) rfl (enters_of Try.func109 (by kernel_rfl) rfl) (encs := fun c : Int × Int => #[.agg #[.int .i64 c.1, .int .i64 c.2]]) (fun _ => rfl)
    (fun k => k = W.heap.size + 1 ∨ k = bp) Mut ?hRd ?hM (comps zl zh rl rh) ?hseq
    (fun pre G' Wr => ∃ G, J (outs bnds pre) G Wr ∧ (∀ k, G k → G' k) ∧ Keeps Mut W1 Wr)
    (fun c pre G' Wr => c = .ret ∧ ∃ G preO y restO, outs bnds (comps zl zh rl rh) = preO ++ y :: restO ∧ Jx (preO ++ [y]) G Wr ∧ (∀ k, G k → G' k) ∧ Keeps Mut W1 Wr)
    ?hI ?hIx ?h0 ?hround ?hdone ?hstop
  case hRd => rintro k (rfl | rfl) <;> omega
  case hM =>
    intro k hk
    have := HM.out k hk
    refine ⟨by omega, ?_⟩
    rintro (rfl | rfl)
    · omega
    · exact this.2 hr3
  case hseq =>
    intro W' hb
    exact comparators_seq (W.heap.size + 1) bp bs rs mv zl zh rl rh hz hr (by omega) (by omega) (by omega) (by omega) W' ((hb.block _ (by omega)).trans HBX.out) ((hb.block _ (by omega)).trans HBP1.out)
  case hI =>
    rintro s G' A B ⟨G, hj, hg, hk⟩ hkk
    exact ⟨G, HJ.out _ _ _ _ hj (hkk.mono fun k _ h => ⟨by omega, fun hg' => h.2 (hg _ hg')⟩), hg, hk.transNew hkk (fun i h => h.1)⟩
  case hIx =>
    rintro c s G' A B ⟨hc, G, preO, y, restO, hx, hj, hg, hk⟩ hkk
    exact ⟨hc, G, preO, y, restO, hx, HJx.out _ _ _ _ hj (hkk.mono fun k _ h => ⟨by omega, fun hg' => h.2 (hg _ hg')⟩), hg, hk.transNew hkk (fun i h => h.1)⟩
  case h0 => exact ⟨fun _ => False, HJ.out _ _ _ _ h0 (HKW.out _), fun _ h => h, Keeps.refl _ _⟩
  case hround =>
    rintro l2 pre x rest G' Wr hxs ⟨G, hj, hg, hk⟩ hl1 hl2 hGl
    obtain ⟨z, r⟩ := x
    have hzr : (-1000000 ≤ z ∧ z ≤ 1000000) ∧ ∀ m : Int, 0 ≤ m → m ≤ 60 → -1000000 ≤ r * m ∧ r * m ≤ 1000000 := by
      have hmem : ((z, r) : Int × Int) ∈ comps zl zh rl rh := by rw [hxs]; simp
      obtain ⟨h1, h2, h3, h4⟩ := comps_mem hmem
      refine ⟨by omega, fun m h0 h60 => ?_⟩
      exact mul_bounds r m (by omega) (by omega) h0 h60
    have ZR := Lib.hid hzr
    clear hzr
    have HXS := Lib.hid hxs
    have HJJ := Lib.hid hj
    have HG := Lib.hid hg
    have HK := Lib.hid hk
    have HGL := Lib.hid hGl
    clear hxs hj hg hk hGl
    gi_wp2
    refine ⟨Keeps.alloc _ _ _, ?_⟩
    intro W2 hk2 hs2
    have hs2' : W2.heap.size = Wr.heap.size + 1 := by rw [hs2]; simp
    have hcb : W2.heap[Wr.heap.size]? = some (.cells #[.int .i64 z, .int .i64 r] 81 (0, 0)) := (hk2.block _ (by simp) (by omega)).trans (heap_alloc_at _ _ _ rfl)
    have hold : ∀ k, k < Wr.heap.size → k ≠ l2 → W2.heap[k]? = Wr.heap[k]? := fun k hk hne => (hk2.block k (by simp; omega) hne).trans (Below.heap_alloc _ _ _ hk)
    have hM1 : ∀ k, k < W1.heap.size → ¬ Mut k → W2.heap[k]? = W1.heap[k]? := fun k hk hm => (hold k (by omega) (by omega)).trans (HK.out.block k hk hm)
    have hyb : W2.heap[W.heap.size]? = some (.cells #[.func (.yield l) #[] #[]] 129 (0, 0)) := (hM1 _ (by omega) (fun h => by have := (HM.out _ h).1; omega)).trans HY0.out
    have hlb : W2.heap[b2]? = some (.cells #[lv] 87 (0, 0)) := (hM1 _ (by omega) (fun h => (HM.out _ h).2 hr2)).trans (((HKW.out (fun _ => False)).block _ hlt3 (fun h => h)).trans HB2.out)
    have HOLD := Lib.hid hold
    have HM1 := Lib.hid hM1
    have HK2 := Lib.hid hk2
    have HCB := Lib.hid hcb
    have HYB := Lib.hid hyb
    have HLB := Lib.hid hlb
    have HS2 := Lib.hid hs2'
    clear hold hM1 hk2 hcb hyb hlb hs2 hs2'
    gi_wp2
    gi_loopw [16] (fun s wr => ∃ i : Nat, i ≤ 6 ∧ s = .int .i64 i ∧ wr.heap[W2.heap.size]? = some (.cells (tcells (partT i 0)) 84 (0, 0)) ∧ Below W2.heap.size W2 wr) (fun s _ => 6 - (intOf s).toNat)
    case atStart => exact ⟨0, by omega, rfl, by rw [partT_zero]; exact heap_alloc_at _ _ _ rfl, (Below.refl _ _).alloc (Nat.le_refl _) _⟩
    case round =>
      obtain ⟨i, hi, rfl, hg, hb⟩ := hrel
      have HG1 := Lib.hid hg
      have HB := Lib.hid hb
      clear hg hb
      by_cases hlt : i < 6
      · gi_wp2
        gi_loopw [19] (fun s wr => ∃ j : Nat, j ≤ 6 ∧ s = .int .i64 j ∧ wr.heap[W2.heap.size]? = some (.cells (tcells (partT i j)) 84 (0, 0)) ∧ Below W2.heap.size W2 wr) (fun s _ => 6 - (intOf s).toNat)
        case atStart => exact ⟨0, by omega, rfl, HG1.out, HB.out⟩
        case round =>
          obtain ⟨j, hj, rfl, hg, hb⟩ := hrel
          have HG2 := Lib.hid hg
          have HB2' := Lib.hid hb
          by_cases hltj : j < 6
          · have c1 := cell_tab hg i j hlt hltj
            have f1 := frozen_of_row wr W2.heap.size (i * 6 + j) _ _ hg
            have li : (i : Int) < 6 := by omega
            have lj : (j : Int) < 6 := by omega
            have HN := Lib.hid (partT_next i j)
            clear hg hb
            by_cases hij : i = j
            · have heq : ((i : Int) == (j : Int)) = true := by simp [hij]
              have HIJ := Lib.hid hij
              clear hij
              gi_wp2
              go_roundw
              case rel =>
                refine ⟨j + 1, by omega, by go_num, ?_, (HB2'.out.setCell (Nat.le_refl _) _).setCell (Nat.le_refl _) _⟩
                rw [← HN.out, ← upd_upd _ i j 1048576]
                have : T0 i j = 0 := by unfold T0; rw [if_pos HIJ.out]
                rw [this]
                exact heap_setCell_tab (heap_setCell_tab HG2.out i j hlt hltj _) i j hlt hltj _
              case measure => simp [intOf]; omega
            · have heq : ((i : Int) == (j : Int)) = false := by simp; omega
              have HIJ := Lib.hid hij
              clear hij
              gi_wp2
              go_roundw
              case rel =>
                refine ⟨j + 1, by omega, by go_num, ?_, HB2'.out.setCell (Nat.le_refl _) _⟩
                rw [← HN.out]
                have : T0 i j = 1048576 := by unfold T0; rw [if_neg HIJ.out]
                rw [this]
                exact heap_setCell_tab HG2.out i j hlt hltj _
              case measure => simp [intOf]; omega
          · obtain rfl : j = 6 := by omega
            clear hg hb
            gi_wp2
            go_roundw
            case rel => exact ⟨i + 1, by omega, by go_num, by rw [← partT_row]; exact HG2.out, HB2'.out⟩
            case measure => simp [intOf]; omega
      · obtain rfl : i = 6 := by omega
        have HT0 := HG1.out
        rw [partT_all] at HT0
        have HT := Lib.hid HT0
        clear HT0 HG1
        obtain ⟨ao, cap, hlvv, hlen, hel⟩ := HLV.out
        rw [List.length_map] at hlvv hlen
        subst hlvv
        have hel' : ∀ wr, Below W2.heap.size W2 wr → ∀ k (h : k < bnds.length), ∃ b off, ao = some ⟨b, off, none⟩ ∧ wr.cell? ⟨b, off + k, none⟩ = some (encB bnds[k]) := by
          intro wr hbl k hk
          obtain ⟨b, off, h1, h2, h3, h4⟩ := hel k (by simpa using hk)
          refine ⟨b, off, h1, ?_⟩
          have e1 : wr.heap[b]? = W.heap[b]? := (hbl.block b (by have := HS2.out; omega)).trans ((HM1.out b (by omega) (fun h => (HM.out _ h).2 h2)).trans ((HKW.out (fun _ => False)).block b h3 (fun h => h)))
          rw [World.cell?_of_block (w := W) (a := ⟨b, off + k, none⟩) e1, h4]
          simp
        have HEL := Lib.hid hel'
        clear hel hel'
        have hl2' : wr.cell? ⟨b2, 0, none⟩ = some (.slice ao bnds.length cap) := by
          have e1 : wr.heap[b2]? = _ := (HB.out.block b2 (by have := HS2.out; omega)).trans HLB.out
          rw [cell_of_row wr b2 _ _ _ _ e1]
          simp
        gi_wp2
        gi_loopw [37] (fun s wr => ∃ k : Nat, k ≤ bnds.length ∧ s = .int .i64 k ∧ wr.heap[W2.heap.size]? = some (.cells (tcells ((bnds.take k).foldl (putB (z, r)) T0)) 84 (0, 0)) ∧ Below W2.heap.size W2 wr) (fun s _ => bnds.length - (intOf s).toNat)
        case atStart => exact ⟨0, by omega, rfl, by simpa using HT.out, HB.out⟩
        case round =>
          clear hl2'
          obtain ⟨k, hk, rfl, hg, hb⟩ := hrel
          have HG2 := Lib.hid hg
          have HB3 := Lib.hid hb
          clear hg hb
          by_cases hlt : k < bnds.length
          · obtain ⟨b, off, rfl, hcell⟩ := HEL.out wr HB3.out k hlt
            have hm : bnds[k] ∈ bnds := List.getElem_mem hlt
            have hokx := HOK.out _ hm
            have hnext : (bnds.take (k + 1)).foldl (putB (z, r)) T0 = putB (z, r) ((bnds.take k).foldl (putB (z, r)) T0) bnds[k] := by rw [take_next bnds k hlt, List.foldl_append]; rfl
            generalize bnds[k] = x at hcell hokx hnext
            obtain ⟨t, ht⟩ : ∃ t, (bnds.take k).foldl (putB (z, r)) T0 = t := ⟨_, rfl⟩
            have HTT := HG2.out
            rw [ht] at HTT hnext
            have HG3 := Lib.hid HTT
            have HNX := Lib.hid hnext
            clear HTT HG2 hnext hm
            obtain ⟨kn, xa, xb, xlo, xhi, xm⟩ := x
            obtain ⟨o1, o2, o3, o4, o5, o6, o7, o8, o9⟩ := hokx
            have hcb2 := (HB3.out.block Wr.heap.size (by have := HS2.out; omega)).trans HCB.out
            have d0 : wr.cell? ⟨Wr.heap.size, 0, none⟩ = some (.int .i64 z) := by rw [cell_of_row wr _ _ _ _ _ hcb2]; rfl
            have d1 : wr.cell? ⟨Wr.heap.size, 1, none⟩ = some (.int .i64 r) := by rw [cell_of_row wr _ _ _ _ _ hcb2]; rfl
            clear hcb2
            cases kn with
            | true =>
              have he : encB ⟨true, xa, xb, xlo, xhi, xm⟩ = .iface 92 (.agg #[.int .i64 xa, .int .i64 xb, .int .i64 xlo, .int .i64 xhi]) := rfl
              rw [he] at hcell
              clear he
              have hmt := method_known
              gi_wp2_with (first | (refine wpListIn_value rfl (by intro c h; cases h) (run_load_row 84 _ rfl W2.heap.size rfl 84 (tcells t) (0, 0) _ HG3.out underTab rfl (sizeTab _)) ?_))
              refine ⟨trivial, rfl, CallsIn.inRound l2 (callsIn_wide.2 ((kput_any xa xb xlo xhi z r t o1 o2 (by omega) _).mono ?_))⟩
              rintro e w2 ⟨rfl, hb2⟩
              have hlw := lt_of_block HG3.out
              have HG4 := Lib.hid ((hb2.block W2.heap.size hlw).trans HG3.out)
              have HB4 := Lib.hid (HB3.out.trans (hb2.mono (by have := HB3.out.size; omega)))
              clear hb2 d0 d1 hmt
              gi_wp2_with (first | (refine wpListIn_done rfl (by intro c h; cases h) (run_store_row 84 _ _ rfl W2.heap.size (tcells (putT t xa xb xlo xhi)) rfl rfl 84 (tcells t) HG4.out (sizeTab _) ((tcells_size _).trans (tcells_size _).symm) (tcells_one _)) ?_))
              go_roundw
              case rel => (repeat apply Exists.intro); exact ⟨⟨k + 1, by omega, by go_num, by rw [HNX.out]; exact setRow_heap _ _ _ _ _ _ HG4.out, below_setRow HB4.out (Nat.le_refl _) _⟩, rfl⟩
              case measure => simp [intOf]; omega
            | false =>
              have he : encB ⟨false, xa, xb, xlo, xhi, xm⟩ = .iface 122 (.agg #[.int .i64 xa, .int .i64 xb, .int .i64 xlo, .int .i64 xhi, .int .i64 xm]) := rfl
              rw [he] at hcell
              clear he
              have hmt := method_shown
              gi_wp2_with (first | (refine wpListIn_value rfl (by intro c h; cases h) (run_load_row 84 _ rfl W2.heap.size rfl 84 (tcells t) (0, 0) _ HG3.out underTab rfl (sizeTab _)) ?_))
              refine ⟨trivial, rfl, CallsIn.inRound l2 (callsIn_wide.2 ((sput_any xa xb xlo xhi xm z r t o1 o2 (by omega) (by have := o7 (by simp); omega) ZR.out.1 (ZR.out.2 xm o8 o9) _).mono ?_))⟩
              rintro e w2 ⟨rfl, hb2⟩
              have hlw := lt_of_block HG3.out
              have HG4 := Lib.hid ((hb2.block W2.heap.size hlw).trans HG3.out)
              have HB4 := Lib.hid (HB3.out.trans (hb2.mono (by have := HB3.out.size; omega)))
              clear hb2 d0 d1 hmt
              gi_wp2_with (first | (refine wpListIn_done rfl (by intro c h; cases h) (run_store_row 84 _ _ rfl W2.heap.size (tcells (putT t xa xb (xlo - showsC z r xm) (xhi - showsC z r xm))) rfl rfl 84 (tcells t) HG4.out (sizeTab _) ((tcells_size _).trans (tcells_size _).symm) (tcells_one _)) ?_))
              go_roundw
              case rel => (repeat apply Exists.intro); exact ⟨⟨k + 1, by omega, by go_num, by rw [HNX.out]; exact setRow_heap _ _ _ _ _ _ HG4.out, below_setRow HB4.out (Nat.le_refl _) _⟩, rfl⟩
              case measure => simp [intOf]; omega
          · obtain rfl : k = bnds.length := by omega
            have hraw : wr.heap[W2.heap.size]? = some (.cells (tcells (rawT bnds (z, r))) 84 (0, 0)) := by have := HG2.out; rwa [List.take_length] at this
            have HR := Lib.hid hraw
            clear hraw HG2
            gi_wp2_with (first | (refine wpListIn_value rfl (by intro c h; cases h) (run_load_row 84 _ rfl W2.heap.size rfl 84 (tcells (rawT bnds (z, r))) (0, 0) _ HR.out underTab rfl (sizeTab _)) ?_))
            have hcm : ((z, r) : Int × Int) ∈ comps zl zh rl rh := by rw [HXS.out]; simp
            refine ⟨trivial, rfl, CallsIn.inRound l2 (callsIn_wide.2 ((closed_any (rawT bnds (z, r)) (HFW.out _ hcm) _).mono ?_))⟩
            rintro e w3 ⟨rfl, hb3⟩
            clear hcm
            have hbl3 := HB3.out.trans (hb3.mono (by have := HB3.out.size; omega))
            have HBL := Lib.hid hbl3
            have HB33 := Lib.hid hb3
            clear hb3 hbl3
            obtain ⟨tab, htab⟩ : ∃ t, fwN (rawT bnds (z, r)) 216 = t := ⟨_, rfl⟩
            have htab' : tabOf bnds (z, r) = tab := htab
            rw [htab]
            have HTAB := Lib.hid htab'
            clear htab htab'
            have hzz : (#[] : Array Value).size = 0 := rfl
            cases hd : diagOk tab with
            | false =>
              have HD := Lib.hid hd
              clear hd hzz
              gi_wp2_with (first | (refine wpListIn_storeA rfl 84 _ _ rfl w3.heap.size (tcells tab) rfl rfl 84 _ (heap_alloc_at _ _ _ rfl) (sizeTab _) (by rw [tcells_size]; rfl) (tcells_one _) ?_; intro wy hyr hyk hys; have hby := Lib.hid (HBL.out.trans ((((Below.refl _ _).alloc (Nat.le_refl _) _).mono (by have := HBL.out.size; omega)).trans (hyk.below (B := W2.heap.size) (by have := HBL.out.size; simp; omega) (fun k h e => by have := HBL.out.size; omega)))); clear hyr hyk hys))
              repeat (refine ⟨fun _ _ => trivial, ?_⟩; gi_wp2)
              have hkr : Keeps (fun k => W.heap.size ≤ k ∧ ¬ G k) Wr W2 := (Keeps.alloc _ _ _).trans (HK2.out.mono fun k _ h => by subst h; exact ⟨by omega, fun hg => by have := HGL.out _ (HG.out _ hg); omega⟩)
              have hkr2 : Keeps (fun k => W.heap.size ≤ k ∧ ¬ G k) W2 wy := Keeps.of_below hby.out (fun k h1 h2 => by omega)
              have hjy := HJ.out _ _ _ _ HJJ.out (hkr.trans hkr2)
              have hon : outs bnds (pre ++ [(z, r)]) = outs bnds pre := by
                rw [outs_append, outs_no bnds (z, r) (by rw [HTAB.out]; exact HD.out), List.append_nil]
              have h1 : Keeps Mut W2 wy := Keeps.of_below hby.out (fun k h1 h2 => by omega)
              have h2 : Keeps Mut W1 W2 := (HK.out.trans (Keeps.alloc _ _ _)).transNew HK2.out (fun i hi => by omega)
              exact ⟨h1, G, by rw [hon]; exact hjy, fun k h => .inl (HG.out k h), h2.trans h1⟩
            | true =>
              have HD := Lib.hid hd
              clear hd hzz
              have hK1 : ∀ wy, Below W2.heap.size W2 wy → wy.cell? ⟨W.heap.size, 0, none⟩ = some (.func (.yield l) #[] #[]) ∧ wy.cell? ⟨Wr.heap.size, 0, none⟩ = some (.int .i64 z) ∧ wy.cell? ⟨Wr.heap.size, 1, none⟩ = some (.int .i64 r) := by
                intro wy hb
                have hs := HS2.out
                have k0 := (hb.block W.heap.size (by omega)).trans HYB.out
                have k1 := (hb.block Wr.heap.size (by omega)).trans HCB.out
                exact ⟨by rw [cell_of_row wy _ _ _ _ _ k0]; rfl, by rw [cell_of_row wy _ _ _ _ _ k1]; rfl, by rw [cell_of_row wy _ _ _ _ _ k1]; rfl⟩
              have HK1 := Lib.hid hK1
              clear hK1
              gi_wp2_with (first | (refine wpListIn_storeA rfl 84 _ _ rfl w3.heap.size (tcells tab) rfl rfl 84 _ (heap_alloc_at _ _ _ rfl) (sizeTab _) (by rw [tcells_size]; rfl) (tcells_one _) ?_; intro wy hyr hyk hys; have HYR := Lib.hid hyr; have hby := Lib.hid (HBL.out.trans ((((Below.refl _ _).alloc (Nat.le_refl _) _).mono (by have := HBL.out.size; omega)).trans (hyk.below (B := W2.heap.size) (by have := HBL.out.size; simp; omega) (fun k h e => by have := HBL.out.size; omega)))); obtain ⟨d0, d1, d2⟩ := HK1.out wy hby.out; clear hyr hyk hys) | (refine wpListIn_valueG (by rfl) (by intro c h; cases h) (run_load_row 84 _ rfl w3.heap.size rfl 84 (tcells tab) (0, 0) _ HYR.out underTab rfl (sizeTab _)) ?_))
              have hkr : Keeps (fun k => W.heap.size ≤ k ∧ ¬ G k) Wr W2 := (Keeps.alloc _ _ _).trans (HK2.out.mono fun k _ h => by subst h; exact ⟨by omega, fun hg => by have := HGL.out _ (HG.out _ hg); omega⟩)
              have hkr2 : Keeps (fun k => W.heap.size ≤ k ∧ ¬ G k) W2 wy := Keeps.of_below hby.out (fun k h1 h2 => by omega)
              have hjy := HJ.out _ _ _ _ HJJ.out (hkr.trans hkr2)
              have hxo : outs bnds (comps zl zh rl rh) = outs bnds pre ++ ((z, r), tab) :: outs bnds rest := by
                rw [HXS.out, show pre ++ (z, r) :: rest = pre ++ ([(z, r)] ++ rest) from rfl, outs_append, outs_append, outs_yes bnds (z, r) (by rw [HTAB.out]; exact HD.out), HTAB.out]
                rfl
              have hon : outs bnds (pre ++ [(z, r)]) = outs bnds pre ++ [((z, r), tab)] := by
                rw [outs_append, outs_yes bnds (z, r) (by rw [HTAB.out]; exact HD.out), HTAB.out]
              obtain ⟨fn, tmps, assign, body, hy, hR⟩ := HY.out (outs bnds pre) ((z, r), tab) (outs bnds rest) G wy hxo hjy (by have := hby.out.size; have := HS2.out; omega)
              have hy' : (Instr.yield l #[.agg #[.int .i64 z, .int .i64 r], .agg (tcells tab)]).run Try.prog wy = .ok (.round l fn tmps assign body) wy := hy
              have HXO := Lib.hid hxo
              have HON := Lib.hid hon
              have HR2 := Lib.hid hR
              clear hkr hkr2 hjy hxo hon hy hR d0 d1 d2
              rw [hy']
              gi_wp2
              refine ⟨rfl, RoundIn.mono (show RoundIn (Fence.wide.inRound l2) 0 Try.prog l fn tmps assign body wy _ from HR2.out) ?_⟩
              have hgrow : ∀ W3, wy.heap.size ≤ W3.heap.size → ∀ k, Grow G wy W3 k → Grow G' Wr W3 k := by
                rintro W3 hs k (h | h)
                · exact .inl (HG.out k h)
                · exact .inr ⟨by have := hby.out.size; have := HS2.out; omega, h.2⟩
              have hkeep : ∀ W3, Keeps Mut wy W3 → Keeps Mut W2 W3 ∧ Keeps Mut W1 W3 := by
                intro W3 hk3
                have h1 : Keeps Mut W2 W3 := (Keeps.of_below hby.out (fun k h1 h2 => by omega)).trans hk3
                have h2 : Keeps Mut W1 W2 := (HK.out.trans (Keeps.alloc _ _ _)).transNew HK2.out (fun i hi => by omega)
                exact ⟨h1, h2.trans h1⟩
              have HGR := Lib.hid hgrow
              have HKP := Lib.hid hkeep
              clear hgrow hkeep
              rintro e W3 ⟨hk3, ⟨rfl, hj3⟩ | ⟨rfl, hj3⟩⟩
              · have HK3 := Lib.hid hk3
                have HJ3 := Lib.hid hj3
                clear hk3 hj3
                gi_wp2
                exact ⟨(HKP.out W3 HK3.out).1, Grow G wy W3, by rw [HON.out]; exact HJ3.out, HGR.out W3 HK3.out.size, (HKP.out W3 HK3.out).2⟩
              · have HK3 := Lib.hid hk3
                have HJ3 := Lib.hid hj3
                clear hk3 hj3
                gi_wp2
                exact ⟨(HKP.out W3 HK3.out).1, rfl, Grow G wy W3, _, _, _, HXO.out, HJ3.out, HGR.out W3 HK3.out.size, (HKP.out W3 HK3.out).2⟩
  case hdone =>
    rintro D G' W' ⟨G, hj, hg, hk⟩ hGD hkk hD hDs
    have HJJ := Lib.hid hj
    have HG := Lib.hid hg
    have HK := Lib.hid hk
    have HGD := Lib.hid hGD
    have HDD := Lib.hid hD
    clear hj hg hk hGD hkk hD
    go_wp2
    refine ⟨by simp, .inl ⟨_, _, rfl, run_takeDeferred HDD.out, ?_⟩⟩
    refine ⟨.tuple #[], results_none rfl _ _ _, ⟨_, rfl⟩, ((HKW.out Mut).trans (HK.out.transNew (Keeps.putObj (Mut := fun k => k = D) _ _ _ rfl) (fun i h => by omega))), G, .inl ?_⟩
    exact HJ.out _ _ _ _ HJJ.out (Keeps.putObj _ _ _ ⟨by omega, fun h => by have := HGD.out _ (HG.out _ h); omega⟩)
  case hstop =>
    rintro D c pre x rest G' W' hxs ⟨rfl, G, preO, y, restO, hx, hj, hg, hk⟩ hGD hkk hD hDs
    have HJJ := Lib.hid hj
    have HG := Lib.hid hg
    have HK := Lib.hid hk
    have HX := Lib.hid hx
    have HGD := Lib.hid hGD
    have HDD := Lib.hid hD
    clear hj hg hk hGD hkk hD hx hxs
    go_wp2
    refine ⟨by simp, .inl ⟨_, _, rfl, run_takeDeferred HDD.out, ?_⟩⟩
    refine ⟨.tuple #[], results_none rfl _ _ _, ⟨_, rfl⟩, ((HKW.out Mut).trans (HK.out.transNew (Keeps.putObj (Mut := fun k => k = D) _ _ _ rfl) (fun i h => by omega))), G, .inr ⟨_, _, _, HX.out, ?_⟩⟩
    exact HJx.out _ _ _ _ HJJ.out (Keeps.putObj _ _ _ ⟨by omega, fun h => by have := HGD.out _ (HG.out _ h); omega⟩)

end Go.Proofs.Ytlgeggekmdoceaa
