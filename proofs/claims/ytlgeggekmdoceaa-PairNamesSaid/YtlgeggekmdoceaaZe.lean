/- slices.DeleteFunc, by the closure of only: the walk. -/
import Derived.Test.YtlgeggekmdoceaaZd
namespace Go.Proofs.Ytlgeggekmdoceaa
set_option linter.unusedVariables false
set_option linter.unusedSimpArgs false
open Go.RowKit Go.Shelf
attribute [local go_sem] Oper.semAt_some

theorem readsAt_of_row {w : World} {ob n : Nat} {t : TypeId} {cur : Array Value} {l : List RdD} (hn : n = l.length) (h : w.heap[ob]? = some (.cells cur t (0, 0))) (hl : l.length ≤ 8) (hr : ∀ i (hi : i < l.length), RdIn cur i l[i]) : ReadsAt w (.slice (some ⟨ob, 0, none⟩) n n) l (fun k => k = ob) := by
  subst hn
  refine ⟨_, _, rfl, Nat.le_refl _, by unfold maxLen; omega, fun i hi => ⟨ob, 0, rfl, rfl, lt_of_block h, ?_⟩⟩
  have := hr i hi
  refine ⟨?_, ?_, ?_, ?_, ?_⟩
  · rw [Nat.zero_add, cell_of_row w _ _ _ _ _ h]; exact this 0 (by omega)
  · rw [Nat.zero_add, cell_of_row w _ _ _ _ _ h]; exact this 1 (by omega)
  · rw [Nat.zero_add, cell_of_row w _ _ _ _ _ h]; exact this 2 (by omega)
  · rw [Nat.zero_add, cell_of_row w _ _ _ _ _ h]; exact this 3 (by omega)
  · rw [Nat.zero_add, cell_of_row w _ _ _ _ _ h]; exact this 4 (by omega)

theorem zero_cells (n : Nat) : ∀ v ∈ (Builtin.zeroCells #[.int .i64 0, .int .i64 0, .int .i64 0, .int .i64 0, .int .i64 0] n).toList, v.oneCell' = true := by
  intro v hv
  simp only [Builtin.zeroCells, Array.toList_map, List.mem_map] at hv
  obtain ⟨i, _, rfl⟩ := hv
  have : i % 5 < 5 := Nat.mod_lt _ (by omega)
  have h5 : (#[Value.int .i64 0, .int .i64 0, .int .i64 0, .int .i64 0, .int .i64 0] : Array Value).size = 5 := rfl
  rw [h5]
  generalize i % 5 = j at *
  match j, this with
  | 0, _ | 1, _ | 2, _ | 3, _ | 4, _ => rfl
set_option maxRecDepth 100000 in
set_option maxHeartbeats 4000000 in
theorem delete_any (l : List RdD) (hl : l.length ≤ 8) (s : Nat) (hs : s < 256) (pn ps ob : Nat) (hne : pn ≠ ps) (ho1 : ob ≠ pn) (ho2 : ob ≠ ps) (cur : Array Value) (w : World)
    (hob : w.heap[ob]? = some (.cells cur 44 (0, 0))) (hcs : cur.size = 5 * l.length) (hrow : ∀ i (hi : i < l.length), RdIn cur i l[i])
    (hpn : w.heap[pn]? = some (.cells #[.int .i64 (-1)] 3 (0, 0))) (hps : w.heap[ps]? = some (.cells #[.int .u64 s] 89 (0, 0))) :
    Calls Try.prog 106 #[.slice (some ⟨ob, 0, none⟩) l.length l.length, .func (.func 107) #[] #[.pointer (some ⟨pn, 0, none⟩), .pointer (some ⟨ps, 0, none⟩)]] w
      fun e w' => Keeps (fun k => k = ob ∨ k = pn) w w' ∧ e = .returned (.slice (some ⟨ob, 0, none⟩) (keptL l s l.length).length l.length) ∧
        ∃ cur', w'.heap[ob]? = some (.cells cur' 44 (0, 0)) ∧ cur'.size = 5 * l.length ∧ ∀ i (hi : i < (keptL l s l.length).length), RdIn cur' i (keptL l s l.length)[i] := by
  have hlo := lt_of_block hob
  have hlp := lt_of_block hpn
  have hls := lt_of_block hps
  have HO := Lib.hid hob
  have HP := Lib.hid hpn
  have HS := Lib.hid hps
  have HR := Lib.hid hrow
  clear hob hpn hps hrow
  have eg := enters_of Try.func107 (by kernel_rfl) rfl
  go_enter Try.func106, Try.ntmps106
  go_wp2_with fail
  refine (index_any l hl s hs pn ps hne _ (fun k => k = ob) (fun k hk => by omega) w (readsAt_of_row rfl HO.out hl HR.out) HP.out HS.out).mono ?_
  rintro e w1 ⟨hk1, k, hk, hall, (⟨hlk, htk, rfl, hpk⟩ | ⟨rfl, rfl, hpk⟩)⟩
  · have HK1 := Lib.hid hk1
    have HPK := Lib.hid hpk
    have HA := Lib.hid hall
    have hs1 := hk1.size
    clear hk1 hpk hall
    have hd : ((k : Int) == -1) = false := by simp
    go_wp2_with fail
    have hk1l : keptL l s (k + 1) = l.take k := by rw [keptL_no l s k htk, keptL_all l s k (by omega) HA.out]
    go_loopw [5, 6] (fun i jv wr => ∃ (j : Nat) (cur' : Array Value), j ≤ l.length ∧ jv = .int .i64 j ∧ i = .int .i64 (keptL l s j).length ∧ (keptL l s j).length < j ∧ wr.heap[ob]? = some (.cells cur' 44 (0, 0)) ∧ cur'.size = 5 * l.length ∧
        (∀ q (hq : q < (keptL l s j).length), RdIn cur' q (keptL l s j)[q]) ∧ (∀ q (hq : q < l.length), j ≤ q → RdIn cur' q l[q]) ∧ wr.heap[pn]? = some (.cells #[.int .i64 ((j : Int) - 1)] 3 (0, 0)) ∧ Keeps (fun q => q = ob ∨ q = pn) w wr) (fun _ j _ => l.length - (intOf j).toNat)
    case atStart =>
      refine ⟨k + 1, cur, by omega, by go_num, ?_, ?_, (HK1.out.block _ hlo ho1).trans HO.out, hcs, ?_, fun q hq _ => HR.out q hq, ?_, HK1.out.mono (fun k _ h => .inr h)⟩
      · rw [hk1l, List.length_take, show min k l.length = k by omega]
      · rw [hk1l, List.length_take]; omega
      · rw [hk1l]
        intro q hq
        rw [List.getElem_take]
        exact HR.out q _
      · rw [show (((k + 1 : Nat) : Int) - 1) = (k : Int) by omega]; exact HPK.out
    case round =>
      obtain ⟨j, cur', hj, rfl, rfl, hkj, hob', hcs', hkept, hrest, hpj, hkp⟩ := hrel
      have hsr := hkp.size
      have HOB := Lib.hid hob'
      have HKE := Lib.hid hkept
      have HRE := Lib.hid hrest
      have HPJ := Lib.hid hpj
      have HKP := Lib.hid hkp
      have HKJ := Lib.hid hkj
      clear hob' hkept hrest hpj hkp
      by_cases hlj : j < l.length
      · have hrj := HRE.out j hlj (Nat.le_refl _)
        have HKY := Lib.hid (keptL_yes l s j hlj)
        have HKN := Lib.hid (keptL_no l s j)
        have HRJ := Lib.hid hrj
        clear hrj
        obtain ⟨kl, hkl⟩ : ∃ kl, kl = keptL l s j := ⟨_, rfl⟩
        rw [← hkl] at HKE HKY HKN HKJ
        rw [← hkl]
        have HKL := Lib.hid hkl
        clear hkl
        have f1 : wr.cell? ⟨ob, j * 5, none⟩ = some (.int .i64 l[j].a) := by rw [cell_of_row wr _ _ _ _ _ HOB.out]; exact HRJ.out 0 (by omega)
        have f2 : wr.cell? ⟨ob, j * 5 + 1, none⟩ = some (.int .i64 l[j].b) := by rw [cell_of_row wr _ _ _ _ _ HOB.out]; exact HRJ.out 1 (by omega)
        have f3 : wr.cell? ⟨ob, j * 5 + 2, none⟩ = some (.int .i64 l[j].m) := by rw [cell_of_row wr _ _ _ _ _ HOB.out]; exact HRJ.out 2 (by omega)
        have f4 : wr.cell? ⟨ob, j * 5 + 3, none⟩ = some (.int .i64 l[j].lo) := by rw [cell_of_row wr _ _ _ _ _ HOB.out]; exact HRJ.out 3 (by omega)
        have f5 : wr.cell? ⟨ob, j * 5 + 4, none⟩ = some (.int .i64 l[j].hi) := by rw [cell_of_row wr _ _ _ _ _ HOB.out]; exact HRJ.out 4 (by omega)
        go_wp2_with fail
        have a1 := (hget_old wr (.cells #[.int .i64 l[j].a, .int .i64 l[j].b, .int .i64 l[j].m, .int .i64 l[j].lo, .int .i64 l[j].hi] 44 (0, 0)) pn (by omega)).trans HPJ.out
        have a2 := (hget_old wr (.cells #[.int .i64 l[j].a, .int .i64 l[j].b, .int .i64 l[j].m, .int .i64 l[j].lo, .int .i64 l[j].hi] 44 (0, 0)) ps (by omega)).trans ((HKP.out.block ps hls (by omega)).trans HS.out)
        have a3 := (hget_old wr (.cells #[.int .i64 l[j].a, .int .i64 l[j].b, .int .i64 l[j].m, .int .i64 l[j].lo, .int .i64 l[j].hi] 44 (0, 0)) ob (by omega)).trans HOB.out
        refine (only1_any l[j] s hs j (by omega) pn ps hne _ a1 a2).mono ?_
        rintro e w2 ⟨rfl, hk2, hp2⟩
        have b3 := (hk2.block ob (by simp; omega) (by omega)).trans a3
        have b4 := (hk2.block wr.heap.size (by simp) (by omega)).trans (heap_alloc_at wr (.cells #[.int .i64 l[j].a, .int .i64 l[j].b, .int .i64 l[j].m, .int .i64 l[j].lo, .int .i64 l[j].hi] 44 (0, 0)) _ rfl)
        have b5 : Keeps (fun q => q = ob ∨ q = pn) w w2 := (HKP.out.trans (Keeps.alloc _ _ _)).trans (hk2.mono (fun k _ h => .inr h))
        have hs2 := b5.size
        have hs3 := hk2.size
        have g0 : w2.cell? ⟨wr.heap.size, 0, none⟩ = some (.int .i64 l[j].a) := by rw [cell_of_row w2 _ _ _ _ _ b4]; rfl
        have g1 : w2.cell? ⟨wr.heap.size, 1, none⟩ = some (.int .i64 l[j].b) := by rw [cell_of_row w2 _ _ _ _ _ b4]; rfl
        have g2 : w2.cell? ⟨wr.heap.size, 2, none⟩ = some (.int .i64 l[j].m) := by rw [cell_of_row w2 _ _ _ _ _ b4]; rfl
        have g3 : w2.cell? ⟨wr.heap.size, 3, none⟩ = some (.int .i64 l[j].lo) := by rw [cell_of_row w2 _ _ _ _ _ b4]; rfl
        have g4 : w2.cell? ⟨wr.heap.size, 4, none⟩ = some (.int .i64 l[j].hi) := by rw [cell_of_row w2 _ _ _ _ _ b4]; rfl
        have B3 := Lib.hid b3
        have B5 := Lib.hid b5
        have HP2 := Lib.hid hp2
        clear a1 a2 a3 b3 b4 b5 hk2 hp2 f1 f2 f3 f4 f5
        have hpj : ((j + 1 : Nat) : Int) - 1 = (j : Int) := by omega
        cases ht : s.testBit j with
        | false =>
          have hkn := HKN.out ht
          go_wp2
          refine ⟨⟨j + 1, cur', by omega, by go_num, by rw [hkn], ?_, B3.out, hcs', ?_, ?_, ?_, B5.out⟩, by simp [intOf]; omega⟩
          · rw [hkn]; have := HKJ.out; omega
          · rw [hkn]; exact HKE.out
          · exact fun q hq hjq => HRE.out q hq (by omega)
          · rw [hpj]; exact HP2.out
        | true =>
          have hky := HKY.out ht
          have hki : (kl.length : Int) < l.length := by have := HKJ.out; omega
          go_wp2_with (first | (refine wpList_store_at rfl 44 _ _ rfl ob (kl.length * 5) #[.int .i64 l[j].a, .int .i64 l[j].b, .int .i64 l[j].m, .int .i64 l[j].lo, .int .i64 l[j].hi] rfl rfl 44 cur' B3.out rfl (by have := HKJ.out; simp; omega) (by simp [Value.oneCell']) ?_))
          intro w3 cur3 hseg hob3 hk3 hs3
          have hlen : (rdC l[j]).length = 5 := rfl
          have HSEG : Hid (Seg cur' cur3 (kl.length * 5) (rdC l[j])) := hseg
          have HOB3 := Lib.hid hob3
          have HK3 := Lib.hid hk3
          have HP3 := Lib.hid ((hk3.block pn (lt_of_block HP2.out) (by omega)).trans HP2.out)
          clear hseg hob3 hk3
          have hkj' := HKJ.out
          go_wp2
          refine ⟨⟨j + 1, cur3, by omega, by go_num, ?_, ?_, HOB3.out, HSEG.out.size.trans hcs', ?_, ?_, ?_, B5.out.trans (HK3.out.mono (fun k _ h => .inl h))⟩, by simp [intOf]; omega⟩
          · rw [hky]; simp
          · rw [hky]; simp; omega
          · rw [hky]
            intro q hq
            by_cases hqk : q < kl.length
            · rw [List.getElem_append_left hqk]
              exact (HKE.out q hqk).other HSEG.out (.inl (by omega))
            · obtain rfl : q = kl.length := by simp at hq; omega
              rw [List.getElem_append_right (Nat.le_refl _)]
              simp only [Nat.sub_self, List.getElem_cons_zero]
              exact RdIn.own HSEG.out
          · intro q hq hjq
            exact (HRE.out q hq (by omega)).other HSEG.out (.inr (by rw [hlen]; omega))
          · rw [hpj]; exact HP3.out
      · obtain rfl : j = l.length := by omega
        have hle := keptL_le l s l.length
        obtain ⟨w4, cur4, hrun, hob4, hsz4, hlow, hk4, hs4⟩ := run_clear_at (P := Try.prog) (w := wr) 25 0 44 (by kernel_rfl) ob ((keptL l s l.length).length * 5) (l.length - (keptL l s l.length).length) (l.length - (keptL l s l.length).length) 44 cur' HOB.out #[.int .i64 0, .int .i64 0, .int .i64 0, .int .i64 0, .int .i64 0] (by kernel_rfl) (by simp [Builtin.zeroCells]; omega) (zero_cells _)
        have HO4 := Lib.hid hob4
        have HK4 := Lib.hid hk4
        have HL4 := Lib.hid hlow
        clear hob4 hk4 hlow
        go_wp2
        go_ret
        refine ⟨HKP.out.trans (HK4.out.mono (fun k _ h => .inl h)), rfl, cur4, HO4.out, hsz4.trans hcs', fun q hq d hd => ?_⟩
        rw [HL4.out _ (by omega)]
        exact HKE.out q hq d hd
  · have hkl := keptL_all l s l.length (Nat.le_refl _) hall
    rw [List.take_length] at hkl
    go_wp2
    go_ret
    rw [hkl]
    exact ⟨hk1.mono (fun k _ h => .inr h), rfl, cur, (hk1.block _ hlo ho1).trans HO.out, hcs, HR.out⟩

end Go.Proofs.Ytlgeggekmdoceaa
