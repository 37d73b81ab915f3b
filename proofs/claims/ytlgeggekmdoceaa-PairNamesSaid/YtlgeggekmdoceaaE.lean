/- A pair in memory; its bounds. -/
import Derived.Test.YtlgeggekmdoceaaD
import Derived.Maps.AppendAt
namespace Go.Proofs.Ytlgeggekmdoceaa
set_option linter.unusedVariables false
set_option linter.unusedSimpArgs false
open Go.RowKit Go.Shelf

/-- A reading: of which blocks, at which minute, from a number to a number. -/
structure RdD where
  a : Int
  b : Int
  m : Int
  lo : Int
  hi : Int
/-- A pair. -/
structure PairD where
  bs : List (Int × Int)
  zl : Int
  zh : Int
  rl : Int
  rh : Int
  rs : List RdD

def SpansAt (W : World) (v : Value) (l : List (Int × Int)) (Rd : Nat → Prop) : Prop :=
  ∃ ao cap, v = .slice ao l.length cap ∧ l.length ≤ cap ∧ cap ≤ maxLen ∧ ∀ i (h : i < l.length), ∃ b off, ao = some ⟨b, off, none⟩ ∧ Rd b ∧ b < W.heap.size ∧
    W.cell? ⟨b, off + i * 2, none⟩ = some (.int .i64 l[i].1) ∧ W.cell? ⟨b, off + i * 2 + 1, none⟩ = some (.int .i64 l[i].2)
def ReadsAt (W : World) (v : Value) (l : List RdD) (Rd : Nat → Prop) : Prop :=
  ∃ ao cap, v = .slice ao l.length cap ∧ l.length ≤ cap ∧ cap ≤ maxLen ∧ ∀ i (h : i < l.length), ∃ b off, ao = some ⟨b, off, none⟩ ∧ Rd b ∧ b < W.heap.size ∧
    W.cell? ⟨b, off + i * 5, none⟩ = some (.int .i64 l[i].a) ∧ W.cell? ⟨b, off + i * 5 + 1, none⟩ = some (.int .i64 l[i].b) ∧ W.cell? ⟨b, off + i * 5 + 2, none⟩ = some (.int .i64 l[i].m) ∧
    W.cell? ⟨b, off + i * 5 + 3, none⟩ = some (.int .i64 l[i].lo) ∧ W.cell? ⟨b, off + i * 5 + 4, none⟩ = some (.int .i64 l[i].hi)
def blockB (i : Nat) (s : Int × Int) : Bnd := ⟨true, i, 5, s.1, s.2, 0⟩
def readB (r : RdD) : Bnd := ⟨false, r.a.toNat, r.b.toNat, r.lo, r.hi, r.m⟩
def blocksL (l : List (Int × Int)) (k : Nat) : List Bnd := (l.take k).mapIdx blockB
def readsL (l : List RdD) (s : Nat) (k : Nat) : List Bnd := (List.range k).filterMap fun i => if s.testBit i then (l[i]?).map readB else none
def boundsL (p : PairD) (s : Nat) : List Bnd := blocksL p.bs p.bs.length ++ readsL p.rs s p.rs.length
theorem blocksL_next (l : List (Int × Int)) (k : Nat) (h : k < l.length) : blocksL l (k + 1) = blocksL l k ++ [blockB k l[k]] := by
  unfold blocksL
  rw [take_next l k h, List.mapIdx_append]
  simp [Nat.min_eq_left (Nat.le_of_lt h)]
theorem encB_one (x : Bnd) : (#[encB x]).all (·.oneCell') = true := by
  unfold encB
  split <;> simp [Value.oneCell']
theorem readsL_no (l : List RdD) (s k : Nat) (h : s.testBit k = false) : readsL l s (k + 1) = readsL l s k := by
  unfold readsL
  rw [List.range_succ, List.filterMap_append]
  simp [h]
theorem readsL_yes (l : List RdD) (s k : Nat) (r : RdD) (h : s.testBit k = true) (hr : l[k]? = some r) : readsL l s (k + 1) = readsL l s k ++ [readB r] := by
  unfold readsL
  rw [List.range_succ, List.filterMap_append]
  simp [h, hr]
theorem readsL_le (l : List RdD) (s k : Nat) : (readsL l s k).length ≤ k := by
  unfold readsL
  refine Nat.le_trans (List.length_filterMap_le _ _) ?_
  simp
theorem underBounds : Try.prog.underlying 87 = some (.slice 134) := by kernel_rfl
theorem bit_test (s k : Nat) (hs : s < 256) : (bits BinOp.and IntKind.u64 ((s : Int) / 2 ^ k) 1 == 1) = s.testBit k := by
  have h1 : ((s : Int) / 2 ^ k) = ((s / 2 ^ k : Nat) : Int) := by simp
  have h2 : s / 2 ^ k ≤ s := Nat.div_le_self _ _
  rw [h1, Nat.testBit_eq_decide_div_mod_eq]
  generalize s / 2 ^ k = q at *
  rw [and_one_u64 _ (by omega) (by omega)]
  rw [Bool.eq_iff_iff]
  simp
  omega
theorem infoBound : (Try.prog.info? 134).map (fun i => (i.zero, i.size, i.bytes)) = some (some .nilIface, 1, 16) := by kernel_rfl

set_option maxRecDepth 100000 in
set_option maxHeartbeats 2000000 in
theorem bounds_any (p : PairD) (bp s : Nat) (hs : s < 256) (bs rs mv : Value) (Rd : Nat → Prop) (w : World) (hbp : w.heap[bp]? = some (benchObj bs rs p.zl p.zh p.rl p.rh mv))
    (hn : p.bs.length ≤ 5) (hm : p.rs.length ≤ 8) (hbs : SpansAt w bs p.bs Rd) (hrs : ReadsAt w rs p.rs Rd) (hab : ∀ r ∈ p.rs, 0 ≤ r.a ∧ 0 ≤ r.b) :
    Calls Try.prog 68 #[.pointer (some ⟨bp, 0, none⟩), .int .u64 s] w fun e w' => ∃ v, e = .returned v ∧ w'.ownsRow w.heap.size 134 1 v (boundsL p s).length ((boundsL p s).map encB) ∧ Below w.heap.size w w' := by
  obtain ⟨i0, hi0, hz0, hz1, hz2⟩ := info_parts infoBound
  obtain ⟨ao, cap, rfl, hc1, hc2, hel⟩ := hbs
  obtain ⟨ao2, cap2, rfl, hc3, hc4, hel2⟩ := hrs
  have hlt := lt_of_block hbp
  have c0 : w.cell? ⟨bp, 0, none⟩ = some (.slice ao p.bs.length cap) := by rw [cell_of_row w bp _ _ _ _ hbp]; rfl
  have HBP := Lib.hid hbp
  have HE1 := Lib.hid hel
  have HE2 := Lib.hid hel2
  clear hbp hel hel2
  go_enter Try.func68, Try.ntmps68
  go_wp2
  go_loopw [4, 15] (fun v i wr => ∃ k : Nat, k ≤ p.bs.length ∧ i = .int .i64 k ∧ wr.ownsRow w.heap.size 134 1 v k ((blocksL p.bs k).map encB) ∧ Below w.heap.size w wr) (fun _ i _ => p.bs.length - (intOf i).toNat)
  case atStart => exact ⟨0, by omega, rfl, World.ownsRow_nil _ _ _ _, Below.refl _ _⟩
  case round =>
    obtain ⟨k, hk, rfl, hown, hb⟩ := hrel
    have HO := Lib.hid hown
    have HB := Lib.hid hb
    clear hown hb
    by_cases hlk : k < p.bs.length
    · obtain ⟨b, off, rfl, hr, hbl, e1, e2⟩ := HE1.out k hlk
      have f1 := (HB.out.cell (p := ⟨b, off + k * 2, none⟩) hbl).trans e1
      have f2 := (HB.out.cell (p := ⟨b, off + k * 2 + 1, none⟩) hbl).trans e2
      clear e1 e2
      have HX := Lib.hid (blocksL_next p.bs k hlk)
      generalize p.bs[k] = sp at *
      obtain ⟨slo, shi⟩ := sp
      go_wp2_with (at_builtin; refine wpList_append1 rfl _ _ 87 rfl w.heap.size 134 1 16 .nilIface underBounds infoBound rfl (by decide) _ k _ rfl ((HO.out.alloc _).alloc _) (wr.heap.size + 1) 1 #[encB (blockB k (slo, shi))] 134 (0, 0) rfl (heap_alloc_at _ _ _ (by simp)) rfl (encB_one _) (by omega) (by decide) (by have := HB.out.size; simp; omega) ?_; intro v' w1 hown' hgrow' hbel'; have HO1 := Lib.hid hown'; have HB1 := Lib.hid ((((HB.out).alloc (by have := HB.out.size; omega) _).alloc (by have := HB.out.size; simp; omega) _).trans hbel'); clear hown' hgrow' hbel')
      go_roundw
      case rel => exact ⟨k + 1, by omega, by go_num, by rw [HX.out, List.map_append]; exact HO1.out, HB1.out⟩
      case measure => simp [intOf]; omega
    · obtain rfl : k = p.bs.length := by omega
      have c5 : wr.cell? ⟨bp, 5, none⟩ = some (.slice ao2 p.rs.length cap2) := (HB.out.cell (p := ⟨bp, 5, none⟩) hlt).trans (by rw [cell_of_row w bp _ _ _ _ HBP.out]; rfl)
      have HL := Lib.hid (show (blocksL p.bs p.bs.length).length = p.bs.length by simp [blocksL])
      go_wp2
      go_loopw [4, 34] (fun v i wr => ∃ k : Nat, k ≤ p.rs.length ∧ i = .int .i64 k ∧ wr.ownsRow w.heap.size 134 1 v (p.bs.length + (readsL p.rs s k).length) ((blocksL p.bs p.bs.length ++ readsL p.rs s k).map encB) ∧ Below w.heap.size w wr) (fun _ i _ => p.rs.length - (intOf i).toNat)
      case atStart => exact ⟨0, by omega, rfl, by simpa [readsL] using HO.out, HB.out⟩
      case round =>
        clear c5
        obtain ⟨k, hk, rfl, hown, hb⟩ := hrel
        have HO2 := Lib.hid hown
        have HB2 := Lib.hid hb
        clear hown hb
        by_cases hlk : k < p.rs.length
        · obtain ⟨b, off, rfl, hr, hbl, e1, e2, e3, e4, e5⟩ := HE2.out k hlk
          have f1 := (HB2.out.cell (p := ⟨b, off + k * 5, none⟩) hbl).trans e1
          have f2 := (HB2.out.cell (p := ⟨b, off + k * 5 + 1, none⟩) hbl).trans e2
          have f3 := (HB2.out.cell (p := ⟨b, off + k * 5 + 2, none⟩) hbl).trans e3
          have f4 := (HB2.out.cell (p := ⟨b, off + k * 5 + 3, none⟩) hbl).trans e4
          have f5 := (HB2.out.cell (p := ⟨b, off + k * 5 + 4, none⟩) hbl).trans e5
          clear e1 e2 e3 e4 e5
          have hgk : p.rs[k]? = some p.rs[k] := List.getElem?_eq_getElem hlk
          have hnn := hab p.rs[k] (List.getElem_mem hlk)
          have HGK := Lib.hid hgk
          clear hgk
          generalize p.rs[k] = rd at *
          obtain ⟨ra, rb, rm, rlo, rhi⟩ := rd
          have HBT := Lib.hid (bit_test s k hs)
          cases ht : s.testBit k with
          | false =>
            have hbt := HBT.out
            rw [ht] at hbt
            have HN := Lib.hid (readsL_no p.rs s k ht)
            clear ht HGK
            go_wp2
            go_roundw
            case rel => exact ⟨k + 1, by omega, by go_num, by rw [HN.out]; exact HO2.out.alloc _, HB2.out.alloc (by have := HB2.out.size; omega) _⟩
            case measure => simp [intOf]; omega
          | true =>
            have hbt := HBT.out
            rw [ht] at hbt
            have HN := Lib.hid (readsL_yes p.rs s k _ ht HGK.out)
            have HE : Hid (encB (readB ⟨ra, rb, rm, rlo, rhi⟩) = .iface 122 (.agg #[.int .i64 ra, .int .i64 rb, .int .i64 rlo, .int .i64 rhi, .int .i64 rm])) := by
              show _ = _
              unfold encB readB
              simp [Int.toNat_of_nonneg hnn.1, Int.toNat_of_nonneg hnn.2]
            have HLE := Lib.hid (readsL_le p.rs s k)
            clear ht HGK hnn
            go_wp2_with (at_builtin; refine wpList_append1 rfl _ _ 87 rfl w.heap.size 134 1 16 .nilIface underBounds infoBound rfl (by decide) _ (p.bs.length + (readsL p.rs s k).length) _ rfl ((HO2.out.alloc _).alloc _) (wr.heap.size + 1) 1 #[encB (readB ⟨ra, rb, rm, rlo, rhi⟩)] 134 (0, 0) rfl (by rw [HE.out]; exact heap_alloc_at _ _ _ (by simp)) rfl (encB_one _) (by have := HLE.out; omega) (by decide) (by have := HB2.out.size; simp; omega) ?_; intro v' w1 hown' hgrow' hbel'; have HO1 := Lib.hid hown'; have HB1 := Lib.hid ((((HB2.out).alloc (by have := HB2.out.size; omega) _).alloc (by have := HB2.out.size; simp; omega) _).trans hbel'); clear hown' hgrow' hbel')
            go_roundw
            case rel =>
              refine ⟨k + 1, by omega, by go_num, ?_, HB1.out⟩
              have := HO1.out
              rw [HN.out, List.length_append, ← List.append_assoc, List.map_append]
              exact this
            case measure => simp [intOf]; omega
        · obtain rfl : k = p.rs.length := by omega
          go_wp2
          go_ret
          refine ⟨_, rfl, ?_, HB2.out⟩
          have := HO2.out
          unfold boundsL
          rw [List.length_append, HL.out]
          exact this

end Go.Proofs.Ytlgeggekmdoceaa
