/- A pair is looked at: what is valid. -/
import Derived.Test.YtlgeggekmdoceaaO
namespace Go.Proofs.Ytlgeggekmdoceaa
set_option linter.unusedVariables false
set_option linter.unusedSimpArgs false
open Go.RowKit Go.Shelf
attribute [local go_sem] Oper.semAt_some

def okSp (s : Int × Int) : Bool := okSpan s.1 s.2 20
def okRd (n : Nat) (r : RdD) : Bool := inB r.a 0 ((n : Int) - 1) && inB r.b 0 ((n : Int) - 1) && decide (r.a ≠ r.b) && inB r.m 0 60 && okSpan r.lo r.hi 80
def okZR (p : PairD) : Bool := okSpan p.zl p.zh 10 && okSpan p.rl p.rh 5 && decide (p.zh - p.zl ≤ 4) && decide (p.rh - p.rl ≤ 4)
def okHead (p : PairD) : Bool := inB p.bs.length 1 5 && decide ((p.rs.length : Int) ≤ 8)
/-- Is a pair valid? -/
def validB (p : PairD) : Bool := okHead p && p.bs.all okSp && okZR p && p.rs.all (okRd p.bs.length)
theorem OkP.of (p : PairD) (h : validB p = true) : OkP p := by
  simp only [validB, okHead, okZR, Bool.and_eq_true, List.all_eq_true, okSp, okRd, okSpan, inB, decide_eq_true_eq] at h
  obtain ⟨⟨⟨⟨⟨a1, a2⟩, a3⟩, a4⟩, ⟨⟨⟨b1, b2⟩, b3⟩, b4⟩⟩, c⟩ := h
  refine ⟨by omega, by omega, by omega, fun s hs => ?_, by omega, by omega, fun r hr => ?_⟩
  · have := a4 s hs; omega
  · have := c r hr; omega
def pairRow (p : PairD) (bs rs : Value) : Array Value := #[bs, .int .i64 p.zl, .int .i64 p.zh, .int .i64 p.rl, .int .i64 p.rh, rs]
theorem take_all {α : Type} (l : List α) (f : α → Bool) (k : Nat) (hk : k < l.length) (h : (l.take k).all f = true) : (l.take (k + 1)).all f = f l[k] := by
  rw [List.take_succ_eq_append_getElem hk, List.all_append, h]; simp
theorem all_false {α : Type} (l : List α) (f : α → Bool) (k : Nat) (hk : k < l.length) (h : f l[k] = false) : l.all f = false := by
  rw [List.all_eq_false]; exact ⟨l[k], List.getElem_mem hk, by simp [h]⟩

set_option maxRecDepth 100000 in
set_option maxHeartbeats 2000000 in
theorem open_any (p : PairD) (bs rs : Value) (Rd : Nat → Prop) (w : World) (hbs : SpansAt w bs p.bs Rd) (hrs : ReadsAt w rs p.rs Rd) (f : Nat) (caps : Array Value) (v : Bool)
    (eg : ∀ args w, (callFunc f args).run Try.prog w = .ok (.enter f args) w)
    (hf : validB p = true → ∀ W bp, Below w.heap.size w W → W.heap[bp]? = some (benchObj bs rs p.zl p.zh p.rl p.rh (.map none)) → Calls Try.prog f (#[.pointer (some ⟨bp, 0, none⟩)] ++ caps) W fun e W' => e = .returned (.bool v) ∧ W = W') :
    Calls Try.prog 47 #[.agg (pairRow p bs rs), .func (.func f) #[] caps] w fun e w' => Below w.heap.size w w' ∧
      ((validB p = false ∧ e = .panicked [{ v := stopV 1, recovered := false }]) ∨ (validB p = true ∧ v = false ∧ e = .panicked [{ v := stopV 2, recovered := false }]) ∨
       (validB p = true ∧ v = true ∧ ∃ bp, w.heap.size ≤ bp ∧ e = .returned (.pointer (some ⟨bp, 0, none⟩)) ∧ w'.heap[bp]? = some (benchObj bs rs p.zl p.zh p.rl p.rh (.map none)))) := by
  obtain ⟨ao, cap, rfl, hc1, hc2, hel⟩ := hbs
  obtain ⟨ao2, cap2, rfl, hc3, hc4, hel2⟩ := hrs
  have HE1 := Lib.hid hel
  have HE2 := Lib.hid hel2
  have HF := Lib.hid hf
  clear hel hel2 hf
  unfold pairRow
  go_enter Try.func47, Try.ntmps47
  go_wp2_with fail
  refine (within_any _ _ _ _).mono ?_
  rintro e w' ⟨rfl, rfl⟩
  have hb0 : Below w.heap.size w (w.alloc (.cells #[.slice ao p.bs.length cap, .int .i64 p.zl, .int .i64 p.zh, .int .i64 p.rl, .int .i64 p.rh, .slice ao2 p.rs.length cap2] 27 (0, 0))) := (Below.refl _ _).alloc (Nat.le_refl _) _
  have hr0 : (w.alloc (.cells #[.slice ao p.bs.length cap, .int .i64 p.zl, .int .i64 p.zh, .int .i64 p.rl, .int .i64 p.rh, .slice ao2 p.rs.length cap2] 27 (0, 0))).heap[w.heap.size]? = some (.cells #[.slice ao p.bs.length cap, .int .i64 p.zl, .int .i64 p.zh, .int .i64 p.rl, .int .i64 p.rh, .slice ao2 p.rs.length cap2] 27 (0, 0)) := heap_alloc_at _ _ _ rfl
  generalize w.alloc (.cells #[.slice ao p.bs.length cap, .int .i64 p.zl, .int .i64 p.zh, .int .i64 p.rl, .int .i64 p.rh, .slice ao2 p.rs.length cap2] 27 (0, 0)) = W0 at *
  have c0 : W0.cell? ⟨w.heap.size, 0, none⟩ = some (.slice ao p.bs.length cap) := by rw [cell_of_row W0 _ _ _ _ _ hr0]; rfl
  have c1 : W0.cell? ⟨w.heap.size, 1, none⟩ = some (.int .i64 p.zl) := by rw [cell_of_row W0 _ _ _ _ _ hr0]; rfl
  have c2 : W0.cell? ⟨w.heap.size, 2, none⟩ = some (.int .i64 p.zh) := by rw [cell_of_row W0 _ _ _ _ _ hr0]; rfl
  have c3 : W0.cell? ⟨w.heap.size, 3, none⟩ = some (.int .i64 p.rl) := by rw [cell_of_row W0 _ _ _ _ _ hr0]; rfl
  have c4 : W0.cell? ⟨w.heap.size, 4, none⟩ = some (.int .i64 p.rh) := by rw [cell_of_row W0 _ _ _ _ _ hr0]; rfl
  have c5 : W0.cell? ⟨w.heap.size, 5, none⟩ = some (.slice ao2 p.rs.length cap2) := by rw [cell_of_row W0 _ _ _ _ _ hr0]; rfl
  have HB0 := Lib.hid hb0
  have HR0 := Lib.hid hr0
  clear hb0 hr0
  cases h1 : inB (↑p.bs.length) 1 5 with
  | false =>
    go_wp2_with fail
    refine (must_no 1 _).mono ?_
    rintro e w' ⟨rfl, rfl⟩
    exact ⟨rfl, HB0.out, .inl ⟨by simp [validB, okHead, h1], rfl⟩⟩
  | true =>
  by_cases h2 : (p.rs.length : Int) ≤ 8
  case neg =>
    have hd : decide ((p.rs.length : Int) ≤ 8) = false := by simpa using h2
    go_wp2_with fail
    refine (must_no 1 _).mono ?_
    rintro e w' ⟨rfl, rfl⟩
    exact ⟨rfl, HB0.out, .inl ⟨by simp [validB, okHead, hd], rfl⟩⟩
  have hd2 : decide ((p.rs.length : Int) ≤ 8) = true := by simpa using h2
  go_wp2_with fail
  refine (must_ok 1 _).mono ?_
  rintro e w' ⟨rfl, rfl⟩
  have hn5 : p.bs.length ≤ 5 := by simp [inB] at h1; omega
  have hm8 : p.rs.length ≤ 8 := by omega
  clear hd2
  go_wp2_with fail
  clear c0 c1 c2 c3 c4 c5
  go_loopw [24] (fun i wr => ∃ k : Nat, k ≤ p.bs.length ∧ i = .int .i64 k ∧ (p.bs.take k).all okSp = true ∧ wr.heap[w.heap.size]? = some (.cells #[.slice ao p.bs.length cap, .int .i64 p.zl, .int .i64 p.zh, .int .i64 p.rl, .int .i64 p.rh, .slice ao2 p.rs.length cap2] 27 (0, 0)) ∧ Below w.heap.size w wr) (fun i _ => p.bs.length - (intOf i).toNat)
  case atStart => exact ⟨0, by omega, rfl, by simp, HR0.out, HB0.out⟩
  case round =>
    obtain ⟨k, hk, rfl, hall, hrow, hb⟩ := hrel
    have HRW := Lib.hid hrow
    have HB := Lib.hid hb
    have HALL := Lib.hid hall
    clear hrow hb hall
    by_cases hlk : k < p.bs.length
    · obtain ⟨b, off, rfl, hr, hbl, e1, e2⟩ := HE1.out k hlk
      have f1 := (HB.out.cell (p := ⟨b, off + k * 2, none⟩) hbl).trans e1
      have f2 := (HB.out.cell (p := ⟨b, off + k * 2 + 1, none⟩) hbl).trans e2
      clear e1 e2
      have HTA := Lib.hid (take_all p.bs okSp k hlk HALL.out)
      have HAF := Lib.hid (all_false p.bs okSp k hlk)
      generalize p.bs[k] = sp at *
      obtain ⟨slo, shi⟩ := sp
      go_wp2_with fail
      refine (isSpan_any slo shi 20 (by omega) _).mono ?_
      rintro e w2 ⟨rfl, hb2⟩
      have hbel : Below w.heap.size w w2 := (HB.out.alloc (by have := HB.out.size; omega) _).trans (hb2.mono (by have := HB.out.size; simp; omega))
      have hrw2 := (hb2.block w.heap.size (by have := lt_of_block HRW.out; simp; omega)).trans ((hget_old _ _ _ (by have := lt_of_block HRW.out; omega)).trans HRW.out)
      have HBEL := Lib.hid hbel
      have HRW2 := Lib.hid hrw2
      clear hb2 hbel hrw2
      cases h3 : okSpan slo shi 20 with
      | false =>
        go_wp2_with fail
        refine (must_no 1 _).mono ?_
        rintro e w' ⟨rfl, rfl⟩
        exact ⟨rfl, HBEL.out, .inl ⟨by simp [validB, HAF.out (show okSp (slo, shi) = false from h3)], rfl⟩⟩
      | true =>
        go_wp2_with fail
        refine (must_ok 1 _).mono ?_
        rintro e w' ⟨rfl, rfl⟩
        go_wp2_with fail
        go_roundw
        case rel => exact ⟨k + 1, by omega, by go_num, HTA.out.trans h3, HRW2.out, HBEL.out⟩
        case measure => simp [intOf]; omega
    · obtain rfl : k = p.bs.length := by omega
      have hall := HALL.out
      rw [List.take_length] at hall
      have c0 : wr.cell? ⟨w.heap.size, 0, none⟩ = some (.slice ao p.bs.length cap) := by rw [cell_of_row wr _ _ _ _ _ HRW.out]; rfl
      have c1 : wr.cell? ⟨w.heap.size, 1, none⟩ = some (.int .i64 p.zl) := by rw [cell_of_row wr _ _ _ _ _ HRW.out]; rfl
      have c2 : wr.cell? ⟨w.heap.size, 2, none⟩ = some (.int .i64 p.zh) := by rw [cell_of_row wr _ _ _ _ _ HRW.out]; rfl
      have c3 : wr.cell? ⟨w.heap.size, 3, none⟩ = some (.int .i64 p.rl) := by rw [cell_of_row wr _ _ _ _ _ HRW.out]; rfl
      have c4 : wr.cell? ⟨w.heap.size, 4, none⟩ = some (.int .i64 p.rh) := by rw [cell_of_row wr _ _ _ _ _ HRW.out]; rfl
      have c5 : wr.cell? ⟨w.heap.size, 5, none⟩ = some (.slice ao2 p.rs.length cap2) := by rw [cell_of_row wr _ _ _ _ _ HRW.out]; rfl
      go_wp2_with fail
      refine (isSpan_any p.zl p.zh 10 (by omega) _).mono ?_
      rintro e w2 ⟨rfl, hb2⟩
      have hrw2 := (hb2.block w.heap.size (lt_of_block HRW.out)).trans HRW.out
      have HB2 := Lib.hid (HB.out.trans (hb2.mono (by have := HB.out.size; omega)))
      clear hb2 c0 c1 c2 c3 c4 c5
      have c0 : w2.cell? ⟨w.heap.size, 0, none⟩ = some (.slice ao p.bs.length cap) := by rw [cell_of_row w2 _ _ _ _ _ hrw2]; rfl
      have c1 : w2.cell? ⟨w.heap.size, 1, none⟩ = some (.int .i64 p.zl) := by rw [cell_of_row w2 _ _ _ _ _ hrw2]; rfl
      have c2 : w2.cell? ⟨w.heap.size, 2, none⟩ = some (.int .i64 p.zh) := by rw [cell_of_row w2 _ _ _ _ _ hrw2]; rfl
      have c3 : w2.cell? ⟨w.heap.size, 3, none⟩ = some (.int .i64 p.rl) := by rw [cell_of_row w2 _ _ _ _ _ hrw2]; rfl
      have c4 : w2.cell? ⟨w.heap.size, 4, none⟩ = some (.int .i64 p.rh) := by rw [cell_of_row w2 _ _ _ _ _ hrw2]; rfl
      have c5 : w2.cell? ⟨w.heap.size, 5, none⟩ = some (.slice ao2 p.rs.length cap2) := by rw [cell_of_row w2 _ _ _ _ _ hrw2]; rfl
      have HRW2 := Lib.hid hrw2
      clear hrw2
      cases h3 : okSpan p.zl p.zh 10 with
      | false =>
        go_wp2_with fail
        refine (must_no 1 _).mono ?_
        rintro e w' ⟨rfl, rfl⟩
        exact ⟨rfl, HB2.out, .inl ⟨by simp [validB, okZR, h3], rfl⟩⟩
      | true =>
      go_wp2_with fail
      refine (isSpan_any p.rl p.rh 5 (by omega) _).mono ?_
      rintro e w3 ⟨rfl, hb3⟩
      have hrw3 := (hb3.block w.heap.size (lt_of_block HRW2.out)).trans HRW2.out
      have HB3 := Lib.hid (HB2.out.trans (hb3.mono (by have := HB2.out.size; omega)))
      clear hb3 c0 c1 c2 c3 c4 c5
      have c0 : w3.cell? ⟨w.heap.size, 0, none⟩ = some (.slice ao p.bs.length cap) := by rw [cell_of_row w3 _ _ _ _ _ hrw3]; rfl
      have c1 : w3.cell? ⟨w.heap.size, 1, none⟩ = some (.int .i64 p.zl) := by rw [cell_of_row w3 _ _ _ _ _ hrw3]; rfl
      have c2 : w3.cell? ⟨w.heap.size, 2, none⟩ = some (.int .i64 p.zh) := by rw [cell_of_row w3 _ _ _ _ _ hrw3]; rfl
      have c3 : w3.cell? ⟨w.heap.size, 3, none⟩ = some (.int .i64 p.rl) := by rw [cell_of_row w3 _ _ _ _ _ hrw3]; rfl
      have c4 : w3.cell? ⟨w.heap.size, 4, none⟩ = some (.int .i64 p.rh) := by rw [cell_of_row w3 _ _ _ _ _ hrw3]; rfl
      have c5 : w3.cell? ⟨w.heap.size, 5, none⟩ = some (.slice ao2 p.rs.length cap2) := by rw [cell_of_row w3 _ _ _ _ _ hrw3]; rfl
      have HRW3 := Lib.hid hrw3
      clear hrw3
      cases h4 : okSpan p.rl p.rh 5 with
      | false =>
        go_wp2_with fail
        refine (must_no 1 _).mono ?_
        rintro e w' ⟨rfl, rfl⟩
        exact ⟨rfl, HB3.out, .inl ⟨by simp [validB, okZR, h3, h4], rfl⟩⟩
      | true =>
      have hz := h3
      have hr := h4
      simp only [okSpan, decide_eq_true_eq] at hz hr
      obtain ⟨hz1, hz2, hz3⟩ := hz
      obtain ⟨hr1, hr2, hr3⟩ := hr
      have hwz : IntKind.i64.wrap (p.zh - p.zl) = p.zh - p.zl := IntWalk.i64_in _ (by omega)
      have hwr : IntKind.i64.wrap (p.rh - p.rl) = p.rh - p.rl := IntWalk.i64_in _ (by omega)
      by_cases h5 : p.zh - p.zl ≤ 4
      case neg =>
        have hd : decide (p.zh - p.zl ≤ 4) = false := by simpa using h5
        go_wp2_with fail
        refine (must_no 1 _).mono ?_
        rintro e w' ⟨rfl, rfl⟩
        exact ⟨rfl, HB3.out, .inl ⟨by simp [validB, okZR, hd], rfl⟩⟩
      have hd5 : decide (p.zh - p.zl ≤ 4) = true := by simpa using h5
      by_cases h6 : p.rh - p.rl ≤ 4
      case neg =>
        have hd : decide (p.rh - p.rl ≤ 4) = false := by simpa using h6
        go_wp2_with fail
        refine (must_no 1 _).mono ?_
        rintro e w' ⟨rfl, rfl⟩
        exact ⟨rfl, HB3.out, .inl ⟨by simp [validB, okZR, hd], rfl⟩⟩
      have hd6 : decide (p.rh - p.rl ≤ 4) = true := by simpa using h6
      go_wp2_with fail
      refine (must_ok 1 _).mono ?_
      rintro e w' ⟨rfl, rfl⟩
      have c6 : ∀ o, (w3.alloc o).cell? ⟨w.heap.size, 5, none⟩ = some (.slice ao2 p.rs.length cap2) := fun o => by rw [cell_of_row _ _ _ _ _ _ ((hget_old _ _ _ (by have := lt_of_block HRW3.out; omega)).trans HRW3.out)]; rfl
      have hzr : okZR p = true := by simp [okZR, h3, h4, hd5, hd6]
      have hhd : okHead p = true := by simp [okHead, h1]; omega
      clear h1 h3 h4 hd5 hd6
      go_wp2_with fail
      obtain ⟨W4, hW4⟩ : ∃ W4, W4 = w3.alloc (benchObj (.slice ao p.bs.length cap) (.slice ao2 p.rs.length cap2) p.zl p.zh p.rl p.rh (.map none)) := ⟨_, rfl⟩
      have hbp : W4.heap[w3.heap.size]? = some (benchObj (.slice ao p.bs.length cap) (.slice ao2 p.rs.length cap2) p.zl p.zh p.rl p.rh (.map none)) := by rw [hW4]; exact heap_alloc_at _ _ _ rfl
      have hb4 : Below w.heap.size w W4 := by rw [hW4]; exact HB3.out.alloc (HB3.out.size) _
      unfold benchObj at hW4
      rw [← hW4]
      have hlb : w.heap.size ≤ w3.heap.size := HB3.out.size
      have HBP := Lib.hid hbp
      have HB4 := Lib.hid hb4
      clear hbp hb4 hW4 c6 c0 c1 c2 c3 c4 c5
      go_loopw [67] (fun i wr => ∃ k : Nat, k ≤ p.rs.length ∧ i = .int .i64 k ∧ (p.rs.take k).all (okRd p.bs.length) = true ∧ wr.heap[w3.heap.size]? = some (benchObj (.slice ao p.bs.length cap) (.slice ao2 p.rs.length cap2) p.zl p.zh p.rl p.rh (.map none)) ∧ Below w.heap.size w wr) (fun i _ => p.rs.length - (intOf i).toNat)
      case atStart => exact ⟨0, by omega, rfl, by simp, HBP.out, HB4.out⟩
      case round =>
        obtain ⟨k, hk, rfl, hra, hrow, hb⟩ := hrel
        have HRW := Lib.hid hrow
        have HB := Lib.hid hb
        have HRA := Lib.hid hra
        clear hrow hb hra
        by_cases hlk : k < p.rs.length
        · obtain ⟨b, off, rfl, hr, hbl, e1, e2, e3, e4, e5⟩ := HE2.out k hlk
          have f1 := (HB.out.cell (p := ⟨b, off + k * 5, none⟩) hbl).trans e1
          have f2 := (HB.out.cell (p := ⟨b, off + k * 5 + 1, none⟩) hbl).trans e2
          have f3 := (HB.out.cell (p := ⟨b, off + k * 5 + 2, none⟩) hbl).trans e3
          have f4 := (HB.out.cell (p := ⟨b, off + k * 5 + 3, none⟩) hbl).trans e4
          have f5 := (HB.out.cell (p := ⟨b, off + k * 5 + 4, none⟩) hbl).trans e5
          clear e1 e2 e3 e4 e5
          have HTA := Lib.hid (take_all p.rs (okRd p.bs.length) k hlk HRA.out)
          have HAF := Lib.hid (all_false p.rs (okRd p.bs.length) k hlk)
          generalize p.rs[k] = rd at *
          obtain ⟨ra, rb, rm, rlo, rhi⟩ := rd
          have HNO : Hid (okRd p.bs.length ⟨ra, rb, rm, rlo, rhi⟩ = false → validB p = false) := fun h => (by simp only [validB, HAF.out h, Bool.and_false])
          clear HAF
          go_wp2_with fail
          have hx1 := HB.out.size
          obtain ⟨W5, hW5⟩ : ∃ W5, W5 = wr.alloc (.cells #[.int .i64 ra, .int .i64 rb, .int .i64 rm, .int .i64 rlo, .int .i64 rhi] 44 (0, 0)) := ⟨_, rfl⟩
          have hb5 : Below w.heap.size w W5 := by rw [hW5]; exact HB.out.alloc hx1 _
          have hrw5 : W5.heap[w3.heap.size]? = some (benchObj (.slice ao p.bs.length cap) (.slice (some ⟨b, off, none⟩) p.rs.length cap2) p.zl p.zh p.rl p.rh (.map none)) := by rw [hW5]; exact (hget_old _ _ _ (by have := lt_of_block HRW.out; omega)).trans HRW.out
          have hrd : W5.heap[wr.heap.size]? = some (.cells #[.int .i64 ra, .int .i64 rb, .int .i64 rm, .int .i64 rlo, .int .i64 rhi] 44 (0, 0)) := by rw [hW5]; exact heap_alloc_at _ _ _ rfl
          rw [← hW5]
          have g0 : W5.cell? ⟨wr.heap.size, 0, none⟩ = some (.int .i64 ra) := by rw [cell_of_row W5 _ _ _ _ _ hrd]; rfl
          have g1 : W5.cell? ⟨wr.heap.size, 1, none⟩ = some (.int .i64 rb) := by rw [cell_of_row W5 _ _ _ _ _ hrd]; rfl
          have g2 : W5.cell? ⟨wr.heap.size, 2, none⟩ = some (.int .i64 rm) := by rw [cell_of_row W5 _ _ _ _ _ hrd]; rfl
          have g3 : W5.cell? ⟨wr.heap.size, 3, none⟩ = some (.int .i64 rlo) := by rw [cell_of_row W5 _ _ _ _ _ hrd]; rfl
          have g4 : W5.cell? ⟨wr.heap.size, 4, none⟩ = some (.int .i64 rhi) := by rw [cell_of_row W5 _ _ _ _ _ hrd]; rfl
          have HRW5 := Lib.hid hrw5
          have HB5 := Lib.hid hb5
          clear hb5 hrw5 hrd hW5 f1 f2 f3 f4 f5
          refine (isBlock_any w3.heap.size p.bs.length cap ao _ _ _ _ _ _ ra (by omega) W5 HRW5.out).mono ?_
          rintro e w' ⟨rfl, rfl⟩
          cases k1 : inB ra 0 ((p.bs.length : Int) - 1) with
          | false =>
            go_wp2_with fail
            refine (must_no 1 _).mono ?_
            rintro e w' ⟨rfl, rfl⟩
            exact ⟨rfl, HB5.out, .inl ⟨HNO.out (by simp [okRd, k1]), rfl⟩⟩
          | true =>
          go_wp2_with fail
          refine (isBlock_any w3.heap.size p.bs.length cap ao _ _ _ _ _ _ rb (by omega) W5 HRW5.out).mono ?_
          rintro e w' ⟨rfl, rfl⟩
          cases k2 : inB rb 0 ((p.bs.length : Int) - 1) with
          | false =>
            go_wp2_with fail
            refine (must_no 1 _).mono ?_
            rintro e w' ⟨rfl, rfl⟩
            exact ⟨rfl, HB5.out, .inl ⟨HNO.out (by simp [okRd, k2]), rfl⟩⟩
          | true =>
          by_cases k3 : ra = rb
          case pos =>
            have hd : (ra != rb) = false := by simpa using k3
            go_wp2_with fail
            refine (must_no 1 _).mono ?_
            rintro e w' ⟨rfl, rfl⟩
            exact ⟨rfl, HB5.out, .inl ⟨HNO.out (by simp [okRd, k3]), rfl⟩⟩
          have hd3 : (ra != rb) = true := by simpa using k3
          go_wp2_with fail
          refine (isMinute_any rm W5).mono ?_
          rintro e w' ⟨rfl, rfl⟩
          cases k4 : inB rm 0 60 with
          | false =>
            go_wp2_with fail
            refine (must_no 1 _).mono ?_
            rintro e w' ⟨rfl, rfl⟩
            exact ⟨rfl, HB5.out, .inl ⟨HNO.out (by simp [okRd, k4]), rfl⟩⟩
          | true =>
          go_wp2_with fail
          refine (isSpan_any rlo rhi 80 (by omega) W5).mono ?_
          rintro e w6 ⟨rfl, hb6⟩
          have HB6 := Lib.hid (HB5.out.trans (hb6.mono (by have := HB5.out.size; omega)))
          have HRW6 := Lib.hid ((hb6.block _ (lt_of_block HRW5.out)).trans HRW5.out)
          clear hb6 g0 g1 g2 g3 g4
          cases k5 : okSpan rlo rhi 80 with
          | false =>
            go_wp2_with fail
            refine (must_no 1 _).mono ?_
            rintro e w' ⟨rfl, rfl⟩
            exact ⟨rfl, HB6.out, .inl ⟨HNO.out (by simp [okRd, k5]), rfl⟩⟩
          | true =>
          have hok : okRd p.bs.length ⟨ra, rb, rm, rlo, rhi⟩ = true := by simp [okRd, k1, k2, k3, k4, k5]
          go_wp2_with fail
          refine (must_ok 1 _).mono ?_
          rintro e w' ⟨rfl, rfl⟩
          go_wp2_with fail
          go_roundw
          case rel => exact ⟨k + 1, by omega, by go_num, HTA.out.trans hok, HRW6.out, HB6.out⟩
          case measure => simp [intOf]; omega
        · obtain rfl : k = p.rs.length := by omega
          have hrall := HRA.out
          rw [List.take_length] at hrall
          have hv : validB p = true := by simp only [validB, hhd, hall, hzr, hrall, Bool.and_self]
          have HV := Lib.hid hv
          have HFA := Lib.hid (HF.out hv wr w3.heap.size HB.out HRW.out)
          clear hv hrall HRA hzr hhd hall HALL
          go_wp2_with fail
          refine HFA.out.mono ?_
          rintro e w' ⟨rfl, rfl⟩
          cases v with
          | false =>
            go_wp2_with fail
            refine (must_no 2 _).mono ?_
            rintro e w' ⟨rfl, rfl⟩
            exact ⟨rfl, HB.out, .inr (.inl ⟨HV.out, rfl, rfl⟩)⟩
          | true =>
            go_wp2_with fail
            refine (must_ok 2 _).mono ?_
            rintro e w' ⟨rfl, rfl⟩
            go_wp2
            refine bodyPost_ret (v := .pointer (some ⟨w3.heap.size, 0, none⟩)) (by simp [results, Try.results47, go_sem]) rfl ⟨HB.out, .inr ⟨HV.out, w3.heap.size, hlb, rfl, HRW.out⟩⟩

end Go.Proofs.Ytlgeggekmdoceaa
