/- PairNames: the walk. -/
import Derived.Test.YtlgeggekmdoceaaAc
namespace Go.Proofs.Ytlgeggekmdoceaa
set_option linter.unusedVariables false
set_option linter.unusedSimpArgs false
open Go.RowKit Go.Shelf
attribute [local go_sem] Oper.semAt_some

set_option maxRecDepth 100000 in
set_option maxHeartbeats 8000000 in
theorem names_any (w : World) : Calls Try.prog 5 #[] w fun e w' => e = .returned (.bool true) ∧ Below w.heap.size w w' := by
  have HB := Lib.hid (BoxL.nil w)
  go_enter Try.func5, Try.ntmps5
  go_wp2_with fail
  refine (sample0_any _).mono ?_
  rintro e w1 ⟨⟨bs, rs, rfl, hbs, hrs⟩, hb⟩
  have HP := Lib.hid (PairAt.of hbs hrs)
  replace HB := Lib.hid (HB.out.later hb)
  clear hbs hrs hb
  go_wp2_with fail
  refine (nm1 HP.out).mono ?_
  rintro e w2 ⟨rfl, hb⟩
  replace HB := Lib.hid (HB.out.later hb)
  clear hb HP
  replace HB := Lib.hid (HB.out.alloc (0) (0))
  obtain ⟨A1, hA⟩ : ∃ A, A = w2.alloc (.cells #[.int .i64 (0), .int .i64 (0)] 24) := ⟨_, rfl⟩
  rw [← hA] at HB
  go_wp2_with fail
  rw [← hA]
  clear hA
  refine (sample0_any _).mono ?_
  rintro e w3 ⟨⟨bs, rs, rfl, hbs, hrs⟩, hb⟩
  have HP := Lib.hid (PairAt.of hbs hrs)
  replace HB := Lib.hid (HB.out.later hb)
  clear hbs hrs hb
  go_wp2_with fail
  refine (nm2 HP.out).mono ?_
  rintro e w4 ⟨rfl, hb⟩
  replace HB := Lib.hid (HB.out.later hb)
  clear hb HP
  replace HB := Lib.hid (HB.out.alloc (0) (1))
  obtain ⟨A2, hA⟩ : ∃ A, A = w4.alloc (.cells #[.int .i64 (0), .int .i64 (1)] 24) := ⟨_, rfl⟩
  rw [← hA] at HB
  go_wp2_with fail
  rw [← hA]
  clear hA
  refine (sample0_any _).mono ?_
  rintro e w5 ⟨⟨bs, rs, rfl, hbs, hrs⟩, hb⟩
  have HP := Lib.hid (PairAt.of hbs hrs)
  replace HB := Lib.hid (HB.out.later hb)
  clear hbs hrs hb
  go_wp2_with fail
  refine (nm3 HP.out).mono ?_
  rintro e w6 ⟨rfl, hb⟩
  replace HB := Lib.hid (HB.out.later hb)
  clear hb HP
  replace HB := Lib.hid (HB.out.alloc (2) (3))
  obtain ⟨A3, hA⟩ : ∃ A, A = w6.alloc (.cells #[.int .i64 (2), .int .i64 (3)] 24) := ⟨_, rfl⟩
  rw [← hA] at HB
  go_wp2_with fail
  rw [← hA]
  clear hA
  refine (sample0_any _).mono ?_
  rintro e w7 ⟨⟨bs, rs, rfl, hbs, hrs⟩, hb⟩
  have HP := Lib.hid (PairAt.of hbs hrs)
  replace HB := Lib.hid (HB.out.later hb)
  clear hbs hrs hb
  go_wp2_with fail
  refine (nm4 HP.out).mono ?_
  rintro e w8 ⟨rfl, hb⟩
  replace HB := Lib.hid (HB.out.later hb)
  clear hb HP
  replace HB := Lib.hid (HB.out.alloc (0) (0))
  obtain ⟨A4, hA⟩ : ∃ A, A = w8.alloc (.cells #[.int .i64 (0), .int .i64 (0)] 24) := ⟨_, rfl⟩
  rw [← hA] at HB
  go_wp2_with fail
  rw [← hA]
  clear hA
  refine (sample0_any _).mono ?_
  rintro e w9 ⟨⟨bs, rs, rfl, hbs, hrs⟩, hb⟩
  have HP := Lib.hid (PairAt.of hbs hrs)
  replace HB := Lib.hid (HB.out.later hb)
  clear hbs hrs hb
  go_wp2_with fail
  refine (nm5 HP.out).mono ?_
  rintro e w10 ⟨rfl, hb⟩
  replace HB := Lib.hid (HB.out.later hb)
  clear hb HP
  replace HB := Lib.hid (HB.out.alloc (0) (1))
  obtain ⟨A5, hA⟩ : ∃ A, A = w10.alloc (.cells #[.int .i64 (0), .int .i64 (1)] 24) := ⟨_, rfl⟩
  rw [← hA] at HB
  go_wp2_with fail
  rw [← hA]
  clear hA
  refine (sample0_any _).mono ?_
  rintro e w11 ⟨⟨bs, rs, rfl, hbs, hrs⟩, hb⟩
  have HP := Lib.hid (PairAt.of hbs hrs)
  replace HB := Lib.hid (HB.out.later hb)
  clear hbs hrs hb
  go_wp2_with fail
  refine (nm6 HP.out).mono ?_
  rintro e w12 ⟨rfl, hb⟩
  replace HB := Lib.hid (HB.out.later hb)
  clear hb HP
  replace HB := Lib.hid (HB.out.alloc (11) (12))
  obtain ⟨A6, hA⟩ : ∃ A, A = w12.alloc (.cells #[.int .i64 (11), .int .i64 (12)] 24) := ⟨_, rfl⟩
  rw [← hA] at HB
  go_wp2_with fail
  rw [← hA]
  clear hA
  refine (sample0_any _).mono ?_
  rintro e w13 ⟨⟨bs, rs, rfl, hbs, hrs⟩, hb⟩
  have hpa := PairAt.of (p := p0) hbs hrs
  obtain ⟨b, off, cap, rfl, hc3, hcm, hp2⟩ := hpa.first
  have HP := Lib.hid hp2
  replace HB := Lib.hid (HB.out.later hb)
  clear hbs hrs hb hpa hp2
  unfold pairRow
  have hb13 := HB.out.2.size
  go_wp2_with (first | (refine wpList_storeA rfl 27 _ _ rfl w13.heap.size #[bs, .int .i64 0, .int .i64 1, .int .i64 2, .int .i64 2, .slice (some ⟨b, off, none⟩) 3 cap] rfl rfl 27 _ (heap_alloc_at _ _ _ rfl) rfl rfl (by obtain ⟨_, _, rfl, _⟩ := HP.out.b; simp [Value.oneCell']) ?_; intro wy hyr hyk hys; have HYR := Lib.hid hyr; have HYK := Lib.hid hyk; clear hyr hyk; have y0 := cell_of_row _ _ 0 _ _ _ HYR.out; have y1 := cell_of_row _ _ 1 _ _ _ HYR.out; have y2 := cell_of_row _ _ 2 _ _ _ HYR.out; have y3 := cell_of_row _ _ 3 _ _ _ HYR.out; have y4 := cell_of_row _ _ 4 _ _ _ HYR.out; have y5 := cell_of_row _ _ 5 _ _ _ HYR.out; have y6 : ∀ k, wy.frozen? ⟨w13.heap.size, k, none⟩ = false := fun k => frozen_of_row _ _ _ _ _ HYR.out))
  have hsy := HYK.out.size
  simp at hsy
  have HBy := Lib.hid (show BoxL _ w (wy.setCell ⟨w13.heap.size, 5, none⟩ (.slice (some ⟨b, off, none⟩) 1 cap)) from
    ⟨fun x hx => (Below.heap_setCell _ _ _ _ (by have := lt_of_block (HB.out.1 x hx); simp; omega)).trans ((HYK.out.block _ (by have := lt_of_block (HB.out.1 x hx); simp; omega) (by have := lt_of_block (HB.out.1 x hx); omega)).trans ((Below.heap_alloc _ _ _ (lt_of_block (HB.out.1 x hx))).trans (HB.out.1 x hx))),
     (((HB.out.2.alloc hb13 _).trans (HYK.out.below (by simp; omega) (fun k h => by omega))).setCell (by simp; omega) _)⟩)
  have HP' := Lib.hid (HP.out.later (W := wy.setCell ⟨w13.heap.size, 5, none⟩ (.slice (some ⟨b, off, none⟩) 1 cap)) ((((Below.refl _ _).alloc (Nat.le_refl _) _).trans (HYK.out.below (by simp) (fun k h => by omega))).setCell (by simp) _))
  clear HB y0 y1 y2 y3 y4 y5 y6
  refine (nm7 HP'.out).mono ?_
  rintro e w14 ⟨rfl, hb⟩
  have HB := Lib.hid (HBy.out.later hb)
  clear hb HP' HP HBy HYR HYK hsy hb13
  go_wp2_with fail
  refine (sample0_any _).mono ?_
  rintro e w15 ⟨⟨bs, rs, rfl, hbs, hrs⟩, hb⟩
  have HP := Lib.hid (PairAt.of hbs hrs)
  replace HB := Lib.hid (HB.out.later hb)
  clear hbs hrs hb
  go_wp2_with fail
  refine (nm8 HP.out).mono ?_
  rintro e w16 ⟨rfl, hb⟩
  replace HB := Lib.hid (HB.out.later hb)
  clear hb HP
  go_wp2_with fail
  refine (sample0_any _).mono ?_
  rintro e w17 ⟨⟨bs, rs, rfl, hbs, hrs⟩, hb⟩
  have HP := Lib.hid (PairAt.of hbs hrs)
  replace HB := Lib.hid (HB.out.later hb)
  clear hbs hrs hb
  go_wp2_with fail
  refine (nm9 HP.out).mono ?_
  rintro e w18 ⟨rfl, hb⟩
  replace HB := Lib.hid (HB.out.later hb)
  clear hb HP
  go_wp2_with fail
  refine (lread_any ⟨2, 1, 0, 5, 5⟩ _).mono ?_
  rintro e w19 ⟨rfl, hb⟩
  replace HB := Lib.hid (HB.out.later hb)
  clear hb
  unfold readV
  go_wp2_with fail
  refine (sample1_any ⟨2, 1, 0, 5, 5⟩ w19.heap.size 1 _ (heap_alloc_at _ _ _ rfl)).mono ?_
  rintro e w20 ⟨⟨bs, rs, rfl, hbs, hrs⟩, hb⟩
  have HP := Lib.hid (PairAt.of hbs hrs)
  replace HB := Lib.hid (HB.out.later (((Below.refl _ _).alloc (Nat.le_refl _) _).trans (hb.mono (by simp))))
  clear hbs hrs hb
  go_wp2_with fail
  refine (nm10 HP.out).mono ?_
  rintro e w21 ⟨rfl, hb⟩
  replace HB := Lib.hid (HB.out.later hb)
  clear hb HP
  replace HB := Lib.hid (HB.out.alloc (0) (0))
  obtain ⟨A7, hA⟩ : ∃ A, A = w21.alloc (.cells #[.int .i64 (0), .int .i64 (0)] 24) := ⟨_, rfl⟩
  rw [← hA] at HB
  go_wp2_with fail
  rw [← hA]
  clear hA
  have s0 : BoxL [(w2.heap.size, (0 : Int), (0 : Int)), (w4.heap.size, (0 : Int), (1 : Int)), (w6.heap.size, (2 : Int), (3 : Int)), (w8.heap.size, (0 : Int), (0 : Int)), (w10.heap.size, (0 : Int), (1 : Int)), (w12.heap.size, (11 : Int), (12 : Int))] w A7.drew := (HB.out.later (Below.refl _ _).drew).mono (by simp)
  clear HB
  simp only [List.append_eq, List.cons_append, List.nil_append]
  go_region_held3 (fun w' => (w'.cell? ⟨w2.heap.size, 0, none⟩ = some (.int .i64 0) ∧ w'.cell? ⟨w2.heap.size, 1, none⟩ = some (.int .i64 0)) ∧ (w'.cell? ⟨w4.heap.size, 0, none⟩ = some (.int .i64 0) ∧ w'.cell? ⟨w4.heap.size, 1, none⟩ = some (.int .i64 1)) ∧ (w'.cell? ⟨w6.heap.size, 0, none⟩ = some (.int .i64 2) ∧ w'.cell? ⟨w6.heap.size, 1, none⟩ = some (.int .i64 3)) ∧ (w'.cell? ⟨w8.heap.size, 0, none⟩ = some (.int .i64 0) ∧ w'.cell? ⟨w8.heap.size, 1, none⟩ = some (.int .i64 0)) ∧ (w'.cell? ⟨w10.heap.size, 0, none⟩ = some (.int .i64 0) ∧ w'.cell? ⟨w10.heap.size, 1, none⟩ = some (.int .i64 1)) ∧ (w'.cell? ⟨w12.heap.size, 0, none⟩ = some (.int .i64 11) ∧ w'.cell? ⟨w12.heap.size, 1, none⟩ = some (.int .i64 12)))
    (first | exact ⟨s1.cell (by simp), s1.cell (by simp), s1.cell (by simp), s1.cell (by simp), s1.cell (by simp), s1.cell (by simp)⟩ | exact ⟨s0.cell (by simp), s0.cell (by simp), s0.cell (by simp), s0.cell (by simp), s0.cell (by simp), s0.cell (by simp)⟩)
    (first | (go_at_call 14; refine (alive_any _).mono ?_; rintro e w30 ⟨rfl, hb30⟩; have s1 := s0.later hb30) | (go_at_call 33; refine (lspan_any _ _ _).mono ?_; rintro e w31 ⟨rfl, hb31⟩; have s1 := s1.later hb31; unfold spanV))
  go_wp2
  exact bodyPost_ret (v := .bool true) (by simp [results, Try.results5, go_sem]) rfl ⟨rfl, s1.2⟩

end Go.Proofs.Ytlgeggekmdoceaa
