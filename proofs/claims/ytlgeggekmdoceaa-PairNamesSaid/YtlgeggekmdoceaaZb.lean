/- slices.IndexFunc, by the closure of only. -/
import Derived.Test.YtlgeggekmdoceaaZa
namespace Go.Proofs.Ytlgeggekmdoceaa
set_option linter.unusedVariables false
set_option linter.unusedSimpArgs false
open Go.RowKit Go.Shelf
attribute [local go_sem] Oper.semAt_some

set_option maxRecDepth 100000 in
set_option maxHeartbeats 2000000 in
theorem index_any (l : List RdD) (hl : l.length ≤ 8) (s : Nat) (hs : s < 256) (pn ps : Nat) (hne : pn ≠ ps) (v : Value) (Rd : Nat → Prop) (hRd : ∀ k, Rd k → k ≠ pn) (w : World) (hv : ReadsAt w v l Rd)
    (hpn : w.heap[pn]? = some (.cells #[.int .i64 (-1)] 3 (0, 0))) (hps : w.heap[ps]? = some (.cells #[.int .u64 s] 89 (0, 0))) :
    Calls Try.prog 110 #[v, .func (.func 107) #[] #[.pointer (some ⟨pn, 0, none⟩), .pointer (some ⟨ps, 0, none⟩)]] w
      fun e w' => Keeps (fun k => k = pn) w w' ∧ ∃ k, k ≤ l.length ∧ (∀ j, j < k → s.testBit j = true) ∧
        ((k < l.length ∧ s.testBit k = false ∧ e = .returned (.int .i64 (k : Nat)) ∧ w'.heap[pn]? = some (.cells #[.int .i64 k] 3 (0, 0))) ∨
         (k = l.length ∧ e = .returned (.int .i64 (-1)) ∧ w'.heap[pn]? = some (.cells #[.int .i64 ((k : Int) - 1)] 3 (0, 0)))) := by
  obtain ⟨ao, cap, rfl, hc1, hc2, hel⟩ := hv
  have hlp := lt_of_block hpn
  have hls := lt_of_block hps
  have HE := Lib.hid hel
  have HP := Lib.hid hpn
  have HS := Lib.hid hps
  clear hel hpn hps
  have eg := enters_of Try.func107 (by kernel_rfl) rfl
  go_enter Try.func110, Try.ntmps110
  go_wp2
  go_loopw [8] (fun i wr => ∃ k : Nat, k ≤ l.length ∧ i = .int .i64 k ∧ (∀ j, j < k → s.testBit j = true) ∧ Keeps (fun q => q = pn) w wr ∧ wr.heap[pn]? = some (.cells #[.int .i64 ((k : Int) - 1)] 3 (0, 0))) (fun i _ => l.length - (intOf i).toNat)
  case atStart => exact ⟨0, by omega, rfl, fun j hj => by omega, Keeps.refl _ _, HP.out⟩
  case round =>
    obtain ⟨k, hk, rfl, hall, hkp, hpk⟩ := hrel
    have HA := Lib.hid hall
    have HK := Lib.hid hkp
    have HPK := Lib.hid hpk
    have hsz := hkp.size
    clear hall hkp hpk
    by_cases hlk : k < l.length
    · obtain ⟨b, off, rfl, hr, hbl, e1, e2, e3, e4, e5⟩ := HE.out k hlk
      have hbk := HK.out.block b hbl (hRd b hr)
      have f1 := (World.cell?_of_block (w := w) (a := ⟨b, off + k * 5, none⟩) hbk).trans e1
      have f2 := (World.cell?_of_block (w := w) (a := ⟨b, off + k * 5 + 1, none⟩) hbk).trans e2
      have f3 := (World.cell?_of_block (w := w) (a := ⟨b, off + k * 5 + 2, none⟩) hbk).trans e3
      have f4 := (World.cell?_of_block (w := w) (a := ⟨b, off + k * 5 + 3, none⟩) hbk).trans e4
      have f5 := (World.cell?_of_block (w := w) (a := ⟨b, off + k * 5 + 4, none⟩) hbk).trans e5
      clear e1 e2 e3 e4 e5 hbk
      generalize l[k] = rd at *
      obtain ⟨ra, rb, rm, rlo, rhi⟩ := rd
      go_wp2_with fail
      have hpsr := (HK.out.block ps hls (by omega)).trans HS.out
      refine (only1_any ⟨ra, rb, rm, rlo, rhi⟩ s hs k (by omega) pn ps hne _ HPK.out hpsr).mono ?_
      rintro e w2 ⟨rfl, hk2, hp2⟩
      have HK2 := Lib.hid (HK.out.trans hk2)
      have HP2 := Lib.hid hp2
      clear hk2 hp2 hpsr f1 f2 f3 f4 f5
      cases ht : s.testBit k with
      | false =>
        go_wp2
        go_ret
        exact ⟨HK2.out, k, by omega, HA.out, .inl ⟨hlk, ht, rfl, HP2.out⟩⟩
      | true =>
        go_wp2
        refine ⟨⟨k + 1, by omega, by go_num, fun j hj => ?_, HK2.out, ?_⟩, by simp [intOf]; omega⟩
        · by_cases hjk : j < k
          · exact HA.out j hjk
          · obtain rfl : j = k := by omega
            exact ht
        · have := HP2.out
          rw [show (((k + 1 : Nat) : Int) - 1) = (k : Int) by omega]
          exact this
    · obtain rfl : k = l.length := by omega
      go_wp2
      go_ret
      exact ⟨HK.out, l.length, Nat.le_refl _, HA.out, .inr ⟨rfl, rfl, HPK.out⟩⟩

end Go.Proofs.Ytlgeggekmdoceaa
