/- The first set that is so. -/
import Derived.Test.YtlgeggekmdoceaaY
namespace Go.Proofs.Ytlgeggekmdoceaa
set_option linter.unusedVariables false
set_option linter.unusedSimpArgs false
open Go.RowKit Go.Shelf
attribute [local go_sem] Oper.semAt_some

theorem ones_all : ∀ m : Fin 9, ∀ t : Fin 256, t.val < 2 ^ m.val → ones t.val ≤ m.val := by decide +kernel
theorem ones_le (m t : Nat) (hm : m ≤ 8) (ht : t < 2 ^ m) : ones t ≤ m := by
  have : 2 ^ m ≤ 2 ^ 8 := Nat.pow_le_pow_right (by decide) hm
  exact ones_all ⟨m, by omega⟩ ⟨t, by omega⟩ ht
/-- The first set that is so, the smaller ones first, of the same size the lesser ones. -/
def FirstRes (m : Nat) (isF : Nat → Bool) (s : Nat) (b : Bool) : Prop :=
  (b = true ∧ s < 2 ^ m ∧ isF s = true ∧ ∀ t, t < 2 ^ m → isF t = true → ones s < ones t ∨ (ones s = ones t ∧ s ≤ t)) ∨ (b = false ∧ s = 0 ∧ ∀ t, t < 2 ^ m → isF t = false)

set_option maxRecDepth 100000 in
set_option maxHeartbeats 4000000 in
theorem first_any (p : PairD) (hm8 : p.rs.length ≤ 8) (bp : Nat) (bs mv : Value) (aor : Option Addr) (capr : Nat) (w : World) (hbp : w.heap[bp]? = some (benchObj bs (.slice aor p.rs.length capr) p.zl p.zh p.rl p.rh mv)) (f : Nat) (caps : Array Value) (isF : Nat → Bool)
    (eg : ∀ args w, (callFunc f args).run Try.prog w = .ok (.enter f args) w)
    (hf : ∀ s, s < 2 ^ p.rs.length → ∀ W, Below w.heap.size w W → Calls Try.prog f (#[.int .u64 s] ++ caps) W fun e W' => e = .returned (.bool (isF s)) ∧ Below W.heap.size W W') :
    Calls Try.prog 79 #[.pointer (some ⟨bp, 0, none⟩), .func (.func f) #[] caps] w fun e w' => (∃ s b, e = .returned (.tuple #[.int .u64 (s : Nat), .bool b]) ∧ FirstRes p.rs.length isF s b) ∧ Below w.heap.size w w' := by
  have hlt := lt_of_block hbp
  have c5 : w.cell? ⟨bp, 5, none⟩ = some (.slice aor p.rs.length capr) := by rw [cell_of_row w bp _ _ _ _ hbp]; rfl
  have hp2 : 2 ^ p.rs.length ≤ 2 ^ 8 := Nat.pow_le_pow_right (by decide) hm8
  have hp1 : 1 ≤ 2 ^ p.rs.length := Nat.one_le_two_pow
  have HBP := Lib.hid hbp
  have HF := Lib.hid hf
  clear hbp hf
  go_enter Try.func79, Try.ntmps79
  go_wp2
  go_loopw [15] (fun i wr => ∃ k : Nat, k ≤ p.rs.length + 1 ∧ i = .int .i64 k ∧ (∀ t, t < 2 ^ p.rs.length → isF t = true → k ≤ ones t) ∧ Below w.heap.size w wr) (fun i _ => p.rs.length + 1 - (intOf i).toNat)
  case atStart => exact ⟨0, by omega, rfl, fun t _ _ => by omega, Below.refl _ _⟩
  case round =>
    obtain ⟨k, hk, rfl, hno, hb⟩ := hrel
    have HB := Lib.hid hb
    have HN := Lib.hid hno
    clear hb hno c5
    by_cases hlk : k < p.rs.length + 1
    · have hbpr := (HB.out.block bp hlt).trans HBP.out
      have HBPR := Lib.hid hbpr
      clear hbpr
      go_wp2_with fail
      refine (every_any bp p.rs.length capr aor _ _ _ _ _ _ hm8 _ (by exact HBPR.out)).mono ?_
      rintro e w' ⟨rfl, rfl⟩
      have hwr : IntKind.u64.wrap (((2 ^ p.rs.length - 1 : Nat) : Int) + 1) = ((2 ^ p.rs.length : Nat) : Int) := by
        rw [IntWalk.u64_in _ (by omega)]; omega
      generalize hM : 2 ^ p.rs.length = M at *
      go_wp2_with fail
      clear hwr
      go_loopw [21] (fun i wr => ∃ j : Nat, j ≤ M ∧ i = .int .u64 j ∧ (∀ t, t < j → isF t = true → ones t ≠ k) ∧ Below w.heap.size w wr) (fun i _ => M - (intOf i).toNat)
      case atStart => exact ⟨0, by omega, rfl, fun t _ _ => by omega, HB.out⟩
      case round =>
        obtain ⟨j, hj, rfl, hnj, hb⟩ := hrel
        have HBj := Lib.hid hb
        have HNJ := Lib.hid hnj
        clear hb hnj
        by_cases hlj : j < M
        · go_wp2_with fail
          refine (ones_any j (by omega) _).mono ?_
          rintro e w' ⟨rfl, rfl⟩
          by_cases heq : ones j = k
          · have hd : decide ((ones j : Int) = k) = true := by simpa using congrArg Int.ofNat heq
            go_wp2_with fail
            refine (HF.out j hlj _ (by exact HBj.out)).mono ?_
            rintro e w7 ⟨rfl, hb7⟩
            have HB7 := Lib.hid (HBj.out.trans (hb7.mono HBj.out.size))
            clear hb7
            cases hif : isF j with
            | true =>
              go_wp2
              refine bodyPost_ret (v := .tuple #[.int .u64 (j : Int), .bool true]) (by simp [results, Try.results79, go_sem]) rfl ⟨⟨j, true, rfl, .inl ⟨rfl, by omega, hif, fun t ht hit => ?_⟩⟩, HB7.out⟩
              have h1 := HN.out t (by omega) hit
              by_cases htj : t < j
              · have h2 := HNJ.out t htj hit
                omega
              · omega
            | false =>
              go_wp2
              refine ⟨⟨j + 1, by omega, by go_num, fun t ht hit => ?_, HB7.out⟩, by simp [intOf]; omega⟩
              by_cases htj : t < j
              · exact HNJ.out t htj hit
              · obtain rfl : t = j := by omega
                rw [hif] at hit; cases hit
          · have hd : decide ((ones j : Int) = k) = false := by rw [decide_eq_false_iff_not]; omega
            go_wp2
            refine ⟨⟨j + 1, by omega, by go_num, fun t ht hit => ?_, HBj.out⟩, by simp [intOf]; omega⟩
            by_cases htj : t < j
            · exact HNJ.out t htj hit
            · obtain rfl : t = j := by omega
              exact heq
        · have hjM : j = M := by omega
          go_wp2
          refine ⟨⟨k + 1, by omega, by go_num, fun t ht hit => ?_, HBj.out⟩, by simp [intOf]; omega⟩
          have h1 := HN.out t (by omega) hit
          have h2 := HNJ.out t (by omega) hit
          omega
    · obtain rfl : k = p.rs.length + 1 := by omega
      go_wp2
      refine bodyPost_ret (v := .tuple #[.int .u64 ((0 : Nat) : Int), .bool false]) (by simp [results, Try.results79, go_sem]) rfl ⟨⟨0, false, rfl, .inr ⟨rfl, rfl, fun t ht => ?_⟩⟩, HB.out⟩
      cases hi : isF t with
      | false => rfl
      | true =>
        have h1 := HN.out t ht hi
        have h2 := ones_le p.rs.length t hm8 ht
        omega

end Go.Proofs.Ytlgeggekmdoceaa
