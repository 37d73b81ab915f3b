/- join, the closure of Groups. -/
import Derived.Test.YtlgeggekmdoceaaZm
namespace Go.Proofs.Ytlgeggekmdoceaa
set_option linter.unusedVariables false
set_option linter.unusedSimpArgs false
open Go.RowKit Go.Shelf
attribute [local go_sem] Oper.semAt_some

structure JoinAt (p : PairD) (b1 b2 b3 bp mb : Nat) (bs rs mv : Value) (Rd : Nat → Prop) (w : World) : Prop where
  h1 : w.heap[b1]? = some (.cells #[.map (some mb)] 59 (0, 0))
  h2 : w.heap[b2]? = some (boxPtr bp)
  h3 : w.heap[b3]? = some (.cells #[.func (.func 76) #[] #[.pointer (some ⟨b1, 0, none⟩), .pointer (some ⟨b2, 0, none⟩), .pointer (some ⟨b3, 0, none⟩)]] 96 (0, 0))
  hb : w.heap[bp]? = some (benchObj bs rs p.zl p.zh p.rl p.rh mv)
  n1 : b1 ≠ mb
  n2 : b2 ≠ mb
  n3 : b3 ≠ mb
  nb : bp ≠ mb
  nr : ∀ k, Rd k → k ≠ mb
  rd : ReadsAt w rs p.rs Rd
theorem JoinAt.later {p : PairD} {b1 b2 b3 bp mb : Nat} {bs rs mv : Value} {Rd : Nat → Prop} {w W : World} (h : JoinAt p b1 b2 b3 bp mb bs rs mv Rd w) (hk : Keeps (fun k => k = mb) w W) : JoinAt p b1 b2 b3 bp mb bs rs mv Rd W :=
  ⟨(hk.block _ (lt_of_block h.h1) h.n1).trans h.h1, (hk.block _ (lt_of_block h.h2) h.n2).trans h.h2, (hk.block _ (lt_of_block h.h3) h.n3).trans h.h3, (hk.block _ (lt_of_block h.hb) h.nb).trans h.hb,
    h.n1, h.n2, h.n3, h.nb, h.nr, h.rd.later hk.size (fun k hk' hr => hk.block k hk' (h.nr k hr))⟩
/-- As far as join has come. -/
structure JoinK (p : PairD) (x : Int) (L Lk : List Int) (k : Nat) : Prop where
  sub : ∀ y ∈ L, y ∈ Lk
  nodup : Lk.Nodup
  range : ∀ y ∈ Lk, 0 ≤ y ∧ y < p.bs.length
  own : x ∈ Lk
  conn : ∀ y ∈ Lk, y ∈ L ∨ Conn p x y
  adj : ∀ y ∈ Lk, y ∉ L → y ≠ x → ∀ z, Adj p y z → z ∈ Lk
  done : ∀ r ∈ p.rs.take k, (r.a = x → r.b ∈ Lk) ∧ (r.b = x → r.a ∈ Lk)
  len : L.length + 1 ≤ Lk.length
theorem JoinK.start {p : PairD} {x : Int} {L : List Int} (hx : 0 ≤ x ∧ x < p.bs.length) (hn : L.Nodup) (hr : ∀ y ∈ L, 0 ≤ y ∧ y < p.bs.length) (h : x ∉ L) : JoinK p x L (L ++ [x]) 0 := by
  refine ⟨fun y hy => by simp [hy], ?_, fun y hy => ?_, by simp, fun y hy => ?_, fun y hy h1 h2 => ?_, by simp, by simp⟩
  · rw [List.nodup_append]
    exact ⟨hn, by simp, by simp; exact fun a ha hax => h (hax ▸ ha)⟩
  · rcases List.mem_append.1 hy with hy | hy
    · exact hr y hy
    · rw [List.mem_singleton.1 hy]; exact hx
  · rcases List.mem_append.1 hy with hy | hy
    · exact .inl hy
    · rw [List.mem_singleton.1 hy]; exact .inr (.refl _)
  · rcases List.mem_append.1 hy with hy | hy
    · exact absurd hy h1
    · exact absurd (List.mem_singleton.1 hy) h2
theorem JoinK.next {p : PairD} {x : Int} {L Lk : List Int} {k : Nat} (h : JoinK p x L Lk k) (hk : k < p.rs.length) (hne : p.rs[k].a ≠ x) (hne2 : p.rs[k].b ≠ x) : JoinK p x L Lk (k + 1) := by
  refine ⟨h.sub, h.nodup, h.range, h.own, h.conn, h.adj, fun r hr => ?_, h.len⟩
  rw [List.take_succ_eq_append_getElem hk] at hr
  rcases List.mem_append.1 hr with hr | hr
  · exact h.done r hr
  · rw [List.mem_singleton.1 hr]; exact ⟨fun e => absurd e hne, fun e => absurd e hne2⟩
theorem JoinK.go {p : PairD} {x z : Int} {L Lk L' : List Int} {k : Nat} (h : JoinK p x L Lk k) (hk : k < p.rs.length) (hj : JoinRel p z Lk L') (ha : Adj p x z) (hr : (p.rs[k].a = x → p.rs[k].b = z) ∧ (p.rs[k].b = x → p.rs[k].a = z)) : JoinK p x L L' (k + 1) := by
  refine ⟨fun y hy => hj.sub y (h.sub y hy), hj.nodup, hj.range, hj.sub _ h.own, fun y hy => ?_, fun y hy h1 h2 v hv => ?_, fun r hr' => ?_, Nat.le_trans h.len hj.len⟩
  · rcases hj.conn y hy with h1 | h1
    · exact h.conn y h1
    · exact .inr ((Conn.step (.refl _) ha).trans h1)
  · by_cases hin : y ∈ Lk
    · exact hj.sub _ (h.adj y hin h1 h2 v hv)
    · exact hj.adj y hy hin v hv
  · rw [List.take_succ_eq_append_getElem hk] at hr'
    rcases List.mem_append.1 hr' with hr' | hr'
    · exact ⟨fun e => hj.sub _ ((h.done r hr').1 e), fun e => hj.sub _ ((h.done r hr').2 e)⟩
    · rw [List.mem_singleton.1 hr']; exact ⟨fun e => by rw [hr.1 e]; exact hj.own, fun e => by rw [hr.2 e]; exact hj.own⟩
theorem JoinK.end {p : PairD} {x : Int} {L Lk : List Int} (h : JoinK p x L Lk p.rs.length) : JoinRel p x L Lk := by
  refine ⟨h.sub, h.nodup, h.range, h.own, h.conn, fun y hy hn z hz => ?_, by have := h.len; omega⟩
  by_cases hyx : y = x
  · subst hyx
    obtain ⟨r, hr, hz | hz⟩ := hz
    · have := (h.done r (by rw [List.take_length]; exact hr)).1 hz.1; rw [hz.2] at this; exact this
    · have := (h.done r (by rw [List.take_length]; exact hr)).2 hz.1; rw [hz.2] at this; exact this
  · exact h.adj y hy hn hyx z hz
theorem ne_of_valid (p : PairD) (hv : validB p = true) (r : RdD) (hr : r ∈ p.rs) : r.a ≠ r.b := by
  simp only [validB, Bool.and_eq_true, List.all_eq_true, okRd, decide_eq_true_eq] at hv
  exact (hv.2 r hr).1.1.2
theorem JoinRel.same {p : PairD} {x : Int} {L : List Int} (hn : L.Nodup) (hr : ∀ y ∈ L, 0 ≤ y ∧ y < p.bs.length) (h : x ∈ L) : JoinRel p x L L :=
  ⟨fun _ h => h, hn, hr, h, fun _ h => .inl h, fun _ h h' => absurd h h', Nat.le_refl _⟩

set_option maxRecDepth 100000 in
set_option maxHeartbeats 4000000 in
theorem join_any (p : PairD) (hv : validB p = true) (b1 b2 b3 bp mb : Nat) (bs rs mv : Value) (Rd : Nat → Prop) : ∀ (N : Nat) (x : Int) (L : List Int) (w : World), p.bs.length ≤ L.length + N → 0 ≤ x → x < p.bs.length → L.Nodup → (∀ y ∈ L, 0 ≤ y ∧ y < p.bs.length) →
    JoinAt p b1 b2 b3 bp mb bs rs mv Rd w → w.heap[mb]? = some (setM L) →
    Calls Try.prog 76 (#[.int .i64 x] ++ #[.pointer (some ⟨b1, 0, none⟩), .pointer (some ⟨b2, 0, none⟩), .pointer (some ⟨b3, 0, none⟩)]) w fun e w' => e = .returned (.tuple #[]) ∧ (∃ L', w'.heap[mb]? = some (setM L') ∧ JoinRel p x L L') ∧ Keeps (fun k => k = mb) w w' := by
  have hp := OkP.of p hv
  have eg := enters_of Try.func76 (by kernel_rfl) rfl
  intro N
  induction N with
  | zero =>
    intro x L w hN hx0 hxn hnd hrg ha hm
    have hin : x ∈ L := by
      rcases Classical.em (x ∈ L) with h | h
      · exact h
      · have := nodup_len p.bs.length (L ++ [x]) (JoinK.start ⟨hx0, hxn⟩ hnd hrg h).nodup (JoinK.start ⟨hx0, hxn⟩ hnd hrg h).range
        simp at this
        omega
    have hlk := lookup_set mb L x w hm
    have d1 : w.cell? ⟨b1, 0, none⟩ = some (.map (some mb)) := by rw [cell_of_row w _ _ _ _ _ ha.h1]; rfl
    rw [show decide (x ∈ L) = true by simpa using hin] at hlk
    have HR := Lib.hid (JoinRel.same hnd hrg hin)
    have HM := Lib.hid hm
    clear hin hnd hrg ha hm
    go_enter Try.func76, Try.ntmps76
    go_wp2
    exact bodyPost_ret (v := .tuple #[]) (by simp [results, Try.results76, go_sem]) rfl ⟨rfl, ⟨L, HM.out, HR.out⟩, Keeps.refl _ _⟩
  | succ N ih =>
    intro x L w hN hx0 hxn hnd hrg ha hm
    have hlk := lookup_set mb L x w hm
    have d1 : w.cell? ⟨b1, 0, none⟩ = some (.map (some mb)) := by rw [cell_of_row w _ _ _ _ _ ha.h1]; rfl
    by_cases hin : x ∈ L
    · rw [show decide (x ∈ L) = true by simpa using hin] at hlk
      have HR := Lib.hid (JoinRel.same hnd hrg hin)
      have HM := Lib.hid hm
      clear hin hnd hrg ha hm ih
      go_enter Try.func76, Try.ntmps76
      go_wp2
      exact bodyPost_ret (v := .tuple #[]) (by simp [results, Try.results76, go_sem]) rfl ⟨rfl, ⟨L, HM.out, HR.out⟩, Keeps.refl _ _⟩
    · rw [show decide (x ∈ L) = false by simpa using hin] at hlk
      have hup := update_set mb L x w hm hin
      have HST := Lib.hid (JoinK.start ⟨hx0, hxn⟩ hnd hrg hin)
      obtain ⟨W1, hW1⟩ : ∃ W1, W1 = w.putObj mb (setM (L ++ [x])) := ⟨_, rfl⟩
      rw [← hW1] at hup
      have hk1 : Keeps (fun k => k = mb) w W1 := by rw [hW1]; exact Keeps.putObj _ _ _ rfl
      have hm1 : W1.heap[mb]? = some (setM (L ++ [x])) := by rw [hW1]; exact World.putObj_heap_same (lt_of_block hm)
      have ha1 := ha.later hk1
      obtain ⟨aor, capr, hrse, hl1, hl2, hel⟩ := id ha1.rd
      subst hrse
      have d2 : W1.cell? ⟨b2, 0, none⟩ = some (.pointer (some ⟨bp, 0, none⟩)) := by rw [cell_of_row W1 _ _ _ _ _ ha1.h2]; rfl
      have d5 : W1.cell? ⟨bp, 5, none⟩ = some (.slice aor p.rs.length capr) := by rw [cell_of_row W1 _ _ _ _ _ ha1.hb]; rfl
      have IH := Lib.hid ih
      have HA := Lib.hid ha
      have HK1 := Lib.hid hk1
      have HM1 := Lib.hid hm1
      clear ih ha hm hW1 hk1 hm1 ha1 hel hin hnd hrg
      go_enter Try.func76, Try.ntmps76
      go_wp2
      have hm8 := hp.m8
      go_loopw [18] (fun i wr => ∃ k : Nat, k ≤ p.rs.length ∧ i = .int .i64 k ∧ (∃ Lk, wr.heap[mb]? = some (setM Lk) ∧ JoinK p x L Lk k) ∧ Keeps (fun k => k = mb) w wr) (fun i _ => p.rs.length - (intOf i).toNat)
      case atStart => exact ⟨0, by omega, rfl, ⟨_, HM1.out, HST.out⟩, HK1.out⟩
      case round =>
        clear d1 d2 d5 hlk hup
        obtain ⟨k, hk, rfl, ⟨Lk, hmk, hjk⟩, hkk⟩ := hrel
        have HMK := Lib.hid hmk
        have HJ := Lib.hid hjk
        have HKK := Lib.hid hkk
        have HAR := Lib.hid (HA.out.later hkk)
        clear hmk hjk hkk
        by_cases hlk : k < p.rs.length
        · obtain ⟨ao', cap', hrse', _, _, hel⟩ := HAR.out.rd
          cases hrse'
          obtain ⟨b, off, rfl, hr, hbl, f1, f2, f3, f4, f5⟩ := hel k hlk
          have hrd := hp.rs _ (List.getElem_mem hlk)
          have hmem := List.getElem_mem hlk
          have HNE := Lib.hid (ne_of_valid p hv _ hmem)
          have HNX := Lib.hid (HJ.out.next hlk)
          have HGO := Lib.hid (fun z L' => HJ.out.go (z := z) (L' := L') hlk)
          generalize hrg : p.rs[k] = rd at *
          obtain ⟨ra, rb, rm, rlo, rhi⟩ := rd
          clear hel
          have r3 : ∀ o, (wr.alloc o).cell? ⟨b3, 0, none⟩ = some (.func (.func 76) #[] #[.pointer (some ⟨b1, 0, none⟩), .pointer (some ⟨b2, 0, none⟩), .pointer (some ⟨b3, 0, none⟩)]) := fun o => by
            rw [cell_of_row _ _ _ _ _ _ ((Below.heap_alloc wr o _ (lt_of_block HAR.out.h3)).trans HAR.out.h3)]; rfl
          have HW : Hid (∀ o, JoinAt p b1 b2 b3 bp mb bs (.slice (some ⟨b, off, none⟩) p.rs.length capr) mv Rd (wr.alloc o) ∧ (wr.alloc o).heap[mb]? = some (setM Lk) ∧ Keeps (fun k => k = mb) w (wr.alloc o)) := fun o =>
            ⟨HAR.out.later (Keeps.alloc _ _ _), (Below.heap_alloc wr o _ (lt_of_block HMK.out)).trans HMK.out, HKK.out.trans (Keeps.alloc _ _ _)⟩
          by_cases hxa : x = ra
          · have hd : (x == ra) = true := by simpa using hxa
            have HXA := Lib.hid hxa
            clear hxa
            go_wp2_with fail
            refine (IH.out rb Lk _ (by have := HJ.out.len; omega) hrd.2.2.1 hrd.2.2.2.1 HJ.out.nodup HJ.out.range (by exact (HW.out _).1) (by exact (HW.out _).2.1)).mono ?_
            rintro e w8 ⟨rfl, ⟨L', hm', hj'⟩, hk8⟩
            have HM8 := Lib.hid hm'
            have HJ8 := Lib.hid hj'
            have HK8 := Lib.hid ((HW.out _).2.2.trans hk8)
            clear hm' hj' hk8
            go_wp2
            exact ⟨⟨k + 1, by omega, by go_num, ⟨L', HM8.out, HGO.out _ _ HJ8.out ⟨_, hmem, .inl ⟨HXA.out.symm, rfl⟩⟩ ⟨fun _ => rfl, fun e => absurd (HXA.out.symm.trans e.symm) HNE.out⟩⟩, HK8.out⟩, by simp [intOf]; omega⟩
          · have hd : (x == ra) = false := by simpa using hxa
            by_cases hxb : x = rb
            · have hd2 : (x == rb) = true := by simpa using hxb
              have HXA := Lib.hid hxa
              have HXB := Lib.hid hxb
              clear hxa hxb
              go_wp2_with fail
              refine (IH.out ra Lk _ (by have := HJ.out.len; omega) hrd.1 hrd.2.1 HJ.out.nodup HJ.out.range (by exact (HW.out _).1) (by exact (HW.out _).2.1)).mono ?_
              rintro e w8 ⟨rfl, ⟨L', hm', hj'⟩, hk8⟩
              have HM8 := Lib.hid hm'
              have HJ8 := Lib.hid hj'
              have HK8 := Lib.hid ((HW.out _).2.2.trans hk8)
              clear hm' hj' hk8
              go_wp2
              exact ⟨⟨k + 1, by omega, by go_num, ⟨L', HM8.out, HGO.out _ _ HJ8.out ⟨_, hmem, .inr ⟨HXB.out.symm, rfl⟩⟩ ⟨fun e => absurd e.symm HXA.out, fun _ => rfl⟩⟩, HK8.out⟩, by simp [intOf]; omega⟩
            · have hd2 : (x == rb) = false := by simpa using hxb
              have HXA := Lib.hid hxa
              have HXB := Lib.hid hxb
              clear hxa hxb
              go_wp2
              exact ⟨⟨k + 1, by omega, by go_num, ⟨Lk, (HW.out _).2.1, HNX.out (fun e => HXA.out e.symm) (fun e => HXB.out e.symm)⟩, (HW.out _).2.2⟩, by simp [intOf]; omega⟩
        · obtain rfl : k = p.rs.length := by omega
          go_wp2
          go_end0
          exact ⟨rfl, ⟨Lk, HMK.out, HJ.out.end⟩, HKK.out⟩

end Go.Proofs.Ytlgeggekmdoceaa
