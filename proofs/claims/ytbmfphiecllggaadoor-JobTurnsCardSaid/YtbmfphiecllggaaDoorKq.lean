/- Texts Hs, Ht, Hu, Hv in one file; each begins with a word on what it proves. -/
import Derived.Test.YtbmfphiecllggaaDoorTie
import Derived.Test.YtbmfphiecllggaaDoorCards
import Derived.SevenTiedAt
import Derived.Test.YtbmfphiecllggaaDoorKo
import Derived.Test.YtbmfphiecllggaaDoorKn
import Derived.Test.YtbmfphiecllggaaDoorKg
import Derived.Test.YtbmfphiecllggaaDoorKj

/- Rounds: the list that is told is the first, in order, of those with the fewest rounds. -/
namespace Go.Proofs.YtbmfphiecllggaaDoor
set_option linter.unusedVariables false
set_option linter.unusedSimpArgs false

/-- Numbers that first come in order. -/
def GrowJ : Nat → List Nat → Prop
  | _, [] => True
  | n, x :: l => x ≤ n ∧ GrowJ (max n (x + 1)) l
/-- Not behind in order. -/
def LexJ : List Nat → List Nat → Prop
  | [], [] => True
  | a :: s, b :: t => a < b ∨ (a = b ∧ LexJ s t)
  | _, _ => False
theorem find_least9 {α : Type} (f : Nat → Option α) (b : α) : ∀ n, (List.range n).findSome? f = some b → ∃ i, i < n ∧ f i = some b ∧ ∀ k, k < i → f k = none
  | 0, h => by simp at h
  | n + 1, h => by
    rw [List.range_succ, List.findSome?_append] at h
    cases hn : (List.range n).findSome? f with
    | some c =>
      rw [hn, Option.some_or] at h
      obtain rfl : c = b := Option.some.inj h
      obtain ⟨i, h1, h2, h3⟩ := find_least9 f c n hn
      exact ⟨i, by omega, h2, h3⟩
    | none =>
      rw [hn, Option.none_or] at h
      refine ⟨n, by omega, ?_, fun k hk => ?_⟩
      · simpa using h
      · rw [List.findSome?_eq_none_iff] at hn
        exact hn k (List.mem_range.2 hk)
theorem with_bit : ∀ (l : List Nat) (n q : Nat), (withJ l 0 n).testBit q = decide (l[q]? = some n)
  | [], n, q => by simp [withJ]
  | x :: l, n, 0 => by
    rw [withJ, with_upJ, Nat.testBit_zero]
    split
    · rename_i h; subst h; simp
    · rename_i h; simp [h]
  | x :: l, n, q + 1 => by
    rw [withJ, with_upJ, Nat.testBit_succ, List.getElem?_cons_succ, ← with_bit l n q]
    congr 1
    split <;> omega
theorem on_more (can : Nat → Bool) (most : Nat) : ∀ (k : Nat) (rs l l' : List Nat), onJ can most k rs l = some l' → ∃ t, l' = l ++ t ∧ t.length = k ∧ GrowJ rs.length t ∧ ∀ x ∈ t, x < most
  | 0, rs, l, l', e => by
    have : l = l' := Option.some.inj e
    subst this; exact ⟨[], by simp, rfl, trivial, by simp⟩
  | k + 1, rs, l, l', e => by
    rw [onJ] at e
    obtain ⟨i, hi, h1⟩ := List.exists_of_findSome?_eq_some e
    rw [List.mem_range] at hi
    split at h1
    · obtain ⟨t, h2, h3, h4, h5⟩ := on_more can most k _ _ l' h1
      refine ⟨i :: t, by rw [h2]; simp, by simp [h3], ⟨by omega, ?_⟩, fun x hx => ?_⟩
      · rw [put_lenJ] at h4
        have : max rs.length (i + 1) = if i = rs.length then rs.length + 1 else rs.length := by split <;> omega
        rw [this]; exact h4
      · rcases List.mem_cons.1 hx with rfl | hx
        · omega
        · exact h5 x hx
    · cases h1
theorem GoodJ.get {can : Nat → Bool} {rs l : List Nat} (h : GoodJ can rs l) (i : Nat) (hi : i < rs.length) : rs.getD i 0 = withJ l 0 i := by
  have := congrArg (fun r => r[i]?) h.eq
  try dsimp only at this
  rw [List.getD_eq_getElem?_getD, this]
  simp [hi]
theorem put_get (can : Nat → Bool) {rs l : List Nat} (h : GoodJ can rs l) (i : Nat) (hi : i ≤ rs.length) : (putJ rs i l.length).getD i 0 = withJ (l ++ [i]) 0 i := by
  have hw : GoodJ (fun _ => true) rs l := ⟨fun _ _ => rfl, h.eq, h.lt⟩
  exact (hw.put hi rfl).get i (by rw [put_lenJ]; split <;> omega)
/-- Of all rounds that are right what is found is the first. -/
theorem on_first (can : Nat → Bool) (hsub : ∀ s t, can t = true → (∀ i, s.testBit i = true → t.testBit i = true) → can s = true) (most : Nat) : ∀ (t rs l : List Nat), GoodJ can rs l → GrowJ rs.length t → (∀ x ∈ t, x < most) → (∀ n, can (withJ (l ++ t) 0 n) = true) → ∃ t', onJ can most t.length rs l = some (l ++ t') ∧ LexJ t' t
  | [], rs, l, _, _, _, _ => ⟨[], by simp [onJ], trivial⟩
  | i :: t, rs, l, hg, hgr, hm, hc => by
    obtain ⟨hi, hgr⟩ := hgr
    have hci : can ((putJ rs i l.length).getD i 0) = true := by
      rw [put_get can hg i hi]
      refine hsub _ _ (hc i) fun q hq => ?_
      rw [with_bit] at hq ⊢
      rw [decide_eq_true_eq] at hq ⊢
      rw [show l ++ i :: t = (l ++ [i]) ++ t by simp, List.getElem?_append_left]
      · exact hq
      · exact (List.getElem?_eq_some_iff.1 hq).1
    have hgr2 : GrowJ (putJ rs i l.length).length t := by
      rw [put_lenJ]
      have : max rs.length (i + 1) = if i = rs.length then rs.length + 1 else rs.length := by split <;> omega
      rw [← this]; exact hgr
    obtain ⟨t', h1, h2⟩ := on_first can hsub most t _ _ (hg.put hi hci) hgr2 (fun x hx => hm x (List.mem_cons_of_mem _ hx)) (by simpa using hc)
    have hi2 := hm i List.mem_cons_self
    rw [List.length_cons, onJ]
    have hsome : ((List.range (min most (rs.length + 1))).findSome? fun i => if can ((putJ rs i l.length).getD i 0) then onJ can most t.length (putJ rs i l.length) (l ++ [i]) else none).isSome = true := by
      rw [List.isSome_findSome?, List.any_eq_true]
      refine ⟨i, List.mem_range.2 (by omega), ?_⟩
      rw [if_pos hci, h1]; rfl
    obtain ⟨l', hl'⟩ := Option.isSome_iff_exists.1 hsome
    obtain ⟨i0, hi0, h3, h4⟩ := find_least9 _ _ _ hl'
    rw [hl']
    try dsimp only at h3
    split at h3
    · obtain ⟨u, hu, _⟩ := on_more can most _ _ _ _ h3
      refine ⟨i0 :: u, by rw [hu]; simp, ?_⟩
      rcases Nat.lt_trichotomy i0 i with h | h | h
      · exact .inl h
      · subst h
        rw [h1] at h3
        rw [hu] at h3
        refine .inr ⟨rfl, ?_⟩
        have := List.append_cancel_left (Option.some.inj h3)
        rw [← this]; exact h2
      · have := h4 i h
        rw [if_pos hci, h1] at this
        cases this
    · cases h3
theorem grow_get : ∀ (l : List Nat) (n i : Nat) (h : i < l.length), GrowJ n l → l[i] ≤ (l.take i).foldl (fun n x => max n (x + 1)) n
  | [], _, _, h, _ => by simp at h
  | x :: l, n, 0, _, hg => by simpa using hg.1
  | x :: l, n, i + 1, h, hg => by
    have := grow_get l (max n (x + 1)) i (by simpa using h) hg.2
    simpa using this
theorem grow_of : ∀ (l : List Nat) (n : Nat), (∀ i (h : i < l.length), l[i] ≤ (l.take i).foldl (fun n x => max n (x + 1)) n) → GrowJ n l
  | [], _, _ => trivial
  | x :: l, n, h => by
    exact ⟨h 0 (Nat.zero_lt_succ _), grow_of l _ fun i hi => h (i + 1) (Nat.succ_lt_succ hi)⟩
theorem grow_numbers : ∀ (l : List Nat) (n : Nat), GrowJ n l → l.foldl (fun n x => max n (x + 1)) n ≤ n + l.length
  | [], _, _ => by simp
  | x :: l, n, h => by
    have := grow_numbers l _ h.2
    have := h.1
    simp only [List.foldl_cons, List.length_cons]
    omega
theorem lex_at : ∀ (s t : List Nat), LexJ s t → ∀ i (h : i < s.length) (h' : i < t.length), (∀ q (hq : q < s.length) (hq' : q < t.length), q < i → t[q] = s[q]) → s[i] ≤ t[i]
  | [], _, _, _, h, _, _ => by simp at h
  | _ :: _, [], _, _, _, h', _ => by simp at h'
  | a :: s, b :: t, hl, 0, _, _, _ => by
    rcases hl with h | ⟨h, _⟩
    · exact Nat.le_of_lt h
    · exact Nat.le_of_eq h
  | a :: s, b :: t, hl, i + 1, h, h', hq => by
    rcases hl with h1 | ⟨_, h1⟩
    · have := hq 0 (by simp) (by simp) (by omega)
      simp at this
      omega
    · exact lex_at s t h1 i (by simpa using h) (by simpa using h') fun q h2 h3 h4 => hq (q + 1) (Nat.succ_lt_succ h2) (Nat.succ_lt_succ h3) (by omega)
/-- What is told of rounds. -/
theorem rounds_told {j : JobD} (hv : validJb j = true) (h : aloneN j = everyD j) : ∃ l, roundsD j = (l, 0) ∧ l.length = j.ws.length ∧ (∀ i (h : i < l.length), l[i] ≤ numbersJ (l.take i)) ∧ numbersJ l ≤ j.ws.length ∧ (∀ k, canD j (withJ l 0 k) = true) ∧
    ∀ own : List Nat, own.length = j.ws.length → GrowJ 0 own → (∀ k, k < numbersJ own → canD j (withJ own 0 k) = true) → numbersJ l ≤ numbersJ own ∧ (numbersJ own = numbersJ l → LexJ l own) := by
  obtain ⟨l, rs, h1, h2, h3⟩ := rounds_some j h
  have hM := h1
  unfold roundsN at hM
  obtain ⟨M, hM1, hM2, hM3⟩ := find_least9 _ _ _ hM
  obtain ⟨t, ht, ht1, ht2, ht3⟩ := on_more (canD j) M j.ws.length [] [] l hM2
  rw [List.nil_append] at ht
  subst ht
  have hnM : numbersJ l ≤ M := numbers_le l 0 M (Nat.zero_le _) ht3
  have hn2 : numbersJ l ≤ j.ws.length := by omega
  have hall : ∀ (own : List Nat), (∀ k, k < numbersJ own → canD j (withJ own 0 k) = true) → ∀ k, canD j (withJ own 0 k) = true := fun own ho k => by
    by_cases hk : k < numbersJ own
    · exact ho k hk
    · rw [with_noneJ own 0 k fun x hx => Nat.lt_of_lt_of_le ((numbers_ge own 0).2 x hx) (by unfold numbersJ at hk; omega)]
      exact can_zero j
  refine ⟨l, ?_, h2, fun i hi => grow_get l 0 i hi ht2, hn2, hall l fun k hk => rounds_can h3 k hk, fun own ho1 ho2 ho3 => ?_⟩
  · unfold roundsD
    rw [errD_ok hv, if_neg (by decide), if_pos h, h1]; rfl
  obtain ⟨t', h5, h6⟩ := on_first (canD j) (fun s t => can_sub) (numbersJ own) own [] [] (GoodJ.nil _) ho2 (numbers_ge own 0).2 (by simpa using hall own ho3)
  rw [List.nil_append, ho1] at h5
  have hMN : M ≤ numbersJ own := by
    apply Classical.byContradiction
    intro hn
    have := hM3 (numbersJ own) (by omega)
    rw [h5] at this
    cases this
  refine ⟨by omega, fun he => ?_⟩
  have : M = numbersJ own := by omega
  rw [this, h5] at hM2
  rw [← Option.some.inj hM2]
  exact h6
/-- There is one round just if all can be met at once. -/
theorem rounds_one {j : JobD} (hv : validJb j = true) {l : List Nat} (hl : l.length = j.ws.length) (hn : 0 < j.ws.length) (hg : ∀ k, canD j (withJ l 0 k) = true)
    (hm : ∀ own : List Nat, own.length = j.ws.length → GrowJ 0 own → (∀ k, k < numbersJ own → canD j (withJ own 0 k) = true) → numbersJ l ≤ numbersJ own) : decide (numbersJ l = 1) = canD j (everyD j) := by
  cases hc : canD j (everyD j) with
  | true =>
    rw [decide_eq_true_eq]
    have h1 : numbersJ (List.replicate j.ws.length 0) ≤ 1 := numbers_le _ 0 1 (by omega) fun x hx => by rw [(List.mem_replicate.1 hx).2]; omega
    have h2 := hm (List.replicate j.ws.length 0) (by simp) (grow_of _ 0 fun i hi => by simp) fun k hk => can_all hc (by have := with_ltJ (List.replicate j.ws.length 0) k; rwa [List.length_replicate] at this)
    have h3 := (numbers_ge l 0).2 (l[0]'(by omega)) (List.getElem_mem _)
    unfold numbersJ at *
    omega
  | false =>
    rw [decide_eq_false_iff_not]
    intro h1
    have h2 : withJ l 0 0 = everyD j := by
      apply Nat.eq_of_testBit_eq
      intro q
      rw [with_bit]
      unfold everyD
      rw [Nat.testBit_two_pow_sub_one]
      by_cases hq : q < j.ws.length
      · have h3 := (numbers_ge l 0).2 (l[q]'(by omega)) (List.getElem_mem _)
        rw [decide_eq_true hq, decide_eq_true_eq, List.getElem?_eq_getElem (by omega)]
        unfold numbersJ at h1
        congr 1
        omega
      · rw [decide_eq_false hq, decide_eq_false_iff_not, List.getElem?_eq_none (by omega)]
        simp
    have := hg 0
    rw [h2, hc] at this
    cases this
end Go.Proofs.YtbmfphiecllggaaDoor

/- JobTurns$1: can the wants of each round be met at once? And a map that numbers what it has seen. -/
namespace Go.Proofs.YtbmfphiecllggaaDoor
set_option linter.unusedVariables false
set_option linter.unusedSimpArgs false
open Go.RowKit Go.Shelf
attribute [local go_sem] Oper.semAt_some

def goodD (j : JobD) (l : List Nat) : Bool := (List.range (numbersJ l)).all fun k => canD j (withJ l 0 k)
theorem goodD_iff (j : JobD) (l : List Nat) : goodD j l = true ↔ ∀ k, k < numbersJ l → canD j (withJ l 0 k) = true := by
  unfold goodD
  rw [List.all_eq_true]
  exact ⟨fun h k hk => h k (List.mem_range.2 hk), fun h k hk => h k (List.mem_range.1 hk)⟩
def SM1 (x : Nat) (v0 v3 : Value) (f1 f2 : Int) (Y : World) : Prop :=
  Y.cell? ⟨x, 0, none⟩ = some v0 ∧ Y.cell? ⟨x, 1, none⟩ = some (.int .i64 f1) ∧ Y.cell? ⟨x, 2, none⟩ = some (.int .i64 f2) ∧ Y.cell? ⟨x, 3, none⟩ = some v3
theorem SM1.below {x : Nat} {v0 v3 : Value} {f1 f2 : Int} {Y Y' : World} (h : SM1 x v0 v3 f1 f2 Y) (hb : Below Y.heap.size Y Y') : SM1 x v0 v3 f1 f2 Y' :=
  ⟨cell_below h.1 hb, cell_below h.2.1 hb, cell_below h.2.2.1 hb, cell_below h.2.2.2 hb⟩
set_option maxRecDepth 100000 in
set_option maxHeartbeats 4000000 in
theorem lturn1_any (j : JobD) (hv : validJb j = true) (l : List Nat) (hl : l.length ≤ 4) (hx : ∀ x ∈ l, x ≤ 1000) (jb : Nat) (bs ws : Value) (v : Value) (w : World) (hbs : SpansAt w bs j.st.bs (fun k => k < w.heap.size)) (hws : SpansAt w ws j.ws (fun k => k < w.heap.size)) (htz : TabZ w)
    (hjb : w.heap[jb]? = some (.cells #[bs, .int .i64 j.st.film.1, .int .i64 j.st.film.2, ws] 28 (0, 0))) (hlv : NumsAt w v (l.map fun s : Nat => (s : Int)) (fun k => k < w.heap.size)) :
    Calls Tryd.prog 38 #[v, .pointer (some ⟨jb, 0, none⟩)] w fun e w' => e = .returned (.bool (goodD j l)) ∧ Below w.heap.size w w' := by
  have HV := Lib.hid hv
  have HBS := Lib.hid hbs
  have HWS := Lib.hid hws
  have HTZ := Lib.hid htz
  have h1z := htz.lt
  have HX := Lib.hid hx
  have HLV := Lib.hid hlv
  have HJB := Lib.hid hjb
  obtain ⟨ao, cap, hv1, _⟩ := id hbs
  obtain ⟨ao2, cap2, hv2, _⟩ := id hws
  obtain ⟨ao3, cap3, hv3, _⟩ := id hlv
  subst hv1 hv2 hv3
  rw [List.length_map] at HLV ⊢
  obtain ⟨nb, hnb⟩ : ∃ n, n = j.st.bs.length := ⟨_, rfl⟩
  obtain ⟨nw, hnw⟩ : ∃ n, n = j.ws.length := ⟨_, rfl⟩
  obtain ⟨nl, hnl⟩ : ∃ n, n = l.length := ⟨_, rfl⟩
  obtain ⟨fl, hfl⟩ : ∃ x, x = j.st.film.1 := ⟨_, rfl⟩
  obtain ⟨fh, hfh⟩ : ∃ x, x = j.st.film.2 := ⟨_, rfl⟩
  rw [← hnb, ← hnw, ← hfl, ← hfh] at HJB
  rw [← hnb] at HBS
  rw [← hnw] at HWS
  rw [← hnl] at HLV hl ⊢
  have HNL := Lib.hid hnl
  have HJV := Lib.hid (show jobV j (.slice ao nb cap) (.slice ao2 nw cap2) = .agg #[.slice ao nb cap, .int .i64 fl, .int .i64 fh, .slice ao2 nw cap2] by unfold jobV; rw [← hfl, ← hfh])
  have hnb2 := numbers_bound l hx
  have hnb3 := (goodD_iff j l)
  obtain ⟨m, hm⟩ : ∃ m, m = numbersJ l := ⟨_, rfl⟩
  rw [← hm] at hnb2 hnb3
  have HM := Lib.hid hm
  have HG := Lib.hid hnb3
  obtain ⟨gd, hgd⟩ : ∃ b, b = goodD j l := ⟨_, rfl⟩
  rw [← hgd] at HG ⊢
  clear hnb3 hbs hws htz hjb hlv hnb hnw hnl hfl hfh hx hm hgd hv
  go_enter Tryd.func38, Tryd.ntmps38
  go_wp2_with fail
  refine (r12numbers_any l (.slice ao3 nl cap3) _ (by rw [← HNL.out]; omega) HX.out w HLV.out).mono ?_
  rintro e w' ⟨rfl, rfl⟩
  dsimp only
  rw [← HM.out]
  go_wp2_with fail
  go_loopw [7] (fun kv wr => ∃ k : Nat, k ≤ m ∧ kv = .int .i64 k ∧ Below w.heap.size w wr ∧ ∀ q, q < k → canD j (withJ l 0 q) = true) (fun kv _ => m - (intOf kv).toNat)
  case atStart => exact ⟨0, Nat.zero_le _, rfl, Below.refl _ _, fun q h => absurd h (by omega)⟩
  case round =>
    obtain ⟨k, hk, rfl, hb, hall⟩ := hrel
    have HB := Lib.hid hb
    have HALL := Lib.hid hall
    have HXwr := Lib.hid ((hb.block _ (lt_of_block HJB.out)).trans HJB.out)
    clear hb hall
    by_cases hlt : k < m
    · have hw : IntKind.i64.wrap ((k : Int) + 1) = ((k + 1 : Nat) : Int) := by rw [IntWalk.i64_in _ (by omega)]; omega
      have hlti : (k : Int) < (m : Int) := by omega
      go_upto_region 4 with fail
      have hS0 : SM1 jb (.slice ao nb cap) (.slice ao2 nw cap2) fl fh wr := ⟨by rw [cell_of_row _ _ _ _ _ _ HXwr.out]; rfl, by rw [cell_of_row _ _ _ _ _ _ HXwr.out]; rfl, by rw [cell_of_row _ _ _ _ _ _ HXwr.out]; rfl, by rw [cell_of_row _ _ _ _ _ _ HXwr.out]; rfl⟩
      refine wp_region_held_drew (S := SM1 jb (.slice ao nb cap) (.slice ao2 nw cap2) fl fh) (by kernel_rfl) (hS0.below (Below.refl _ _).drew) fun hS => ?_
      obtain ⟨D, hD⟩ : ∃ D, D = wr.drew := ⟨_, rfl⟩
      have hAD : Below wr.heap.size wr D := by rw [hD]; exact (Below.refl _ _).drew
      rw [← hD] at hS ⊢
      have HBD := Lib.hid (HB.out.trans (hAD.mono HB.out.size))
      clear hD hAD hS0
      refine wpAnyH_take (i := 0) (v := ?_) rfl (by kernel_rfl) (by kernel_rfl) (by kernel_rfl) (fun _ _ _ h => h) (Or.inl ⟨by rfl, ?_⟩) hS ?_
      rotate_left
      · (intro W hSw; obtain ⟨q0, q1, q2, q3⟩ := hSw; go_simp; try with_reducible rfl)
      try simp only [List.getElem_toArray, List.getElem_cons_succ, List.getElem_cons_zero, Act.put, List.setIfInBounds_toArray, List.set_cons_zero, List.set_cons_succ]
      refine wpAnyH_take (i := 1) (v := ?_) rfl (by kernel_rfl) (by kernel_rfl) (by kernel_rfl) (fun _ _ _ h => h) (Or.inl ⟨by rfl, ?_⟩) hS ?_
      rotate_left
      · (intro W hSw; obtain ⟨q0, q1, q2, q3⟩ := hSw; go_simp; try with_reducible rfl)
      try simp only [List.getElem_toArray, List.getElem_cons_succ, List.getElem_cons_zero, Act.put, List.setIfInBounds_toArray, List.set_cons_zero, List.set_cons_succ]
      refine wpAnyH_take (i := 2) (v := ?_) rfl (by kernel_rfl) (by kernel_rfl) (by kernel_rfl) (fun _ _ _ h => h) (Or.inl ⟨by rfl, ?_⟩) hS ?_
      rotate_left
      · (intro W hSw; obtain ⟨q0, q1, q2, q3⟩ := hSw; go_simp; try with_reducible rfl)
      try simp only [List.getElem_toArray, List.getElem_cons_succ, List.getElem_cons_zero, Act.put, List.setIfInBounds_toArray, List.set_cons_zero, List.set_cons_succ]
      have hwl := with_ltJ l k
      rw [← HNL.out] at hwl
      have hwl2 : 2 ^ nl ≤ 16 := (Nat.pow_le_pow_right (by decide) hl : _ ≤ 2 ^ 4)
      refine wpAnyH_call (k := 3) (by kernel_rfl) rfl rfl (f := 18) (args := #[.slice ao3 nl cap3, .int .i64 k]) (by simp [execOp, go_sem, Act.eval, Act.put]) ?_
      refine (r12with_any l (.slice ao3 nl cap3) (fun k => k < w.heap.size) (by rw [← HNL.out]; omega) k D (HLV.out.later HBD.out.size (fun k h1 _ => HBD.out.block k h1))).mono ?_
      rintro e w' ⟨rfl, rfl⟩
      dsimp only
      obtain ⟨ww, hww⟩ : ∃ y, y = withJ l 0 k := ⟨_, rfl⟩
      rw [← hww] at hwl ⊢
      have HWW := Lib.hid hww
      clear hww
      refine ⟨hS, ?_⟩
      try simp only [List.getElem_toArray, List.getElem_cons_succ, List.getElem_cons_zero, Act.put, List.setIfInBounds_toArray, List.set_cons_zero, List.set_cons_succ]
      have hc := lcan_any j HV.out ww (by omega) (.slice ao nb cap) (.slice ao2 nw cap2) D (HBS.out.later HBD.out.size (fun k h1 _ => HBD.out.block k h1)).low9 (HWS.out.later HBD.out.size (fun k h1 _ => HBD.out.block k h1)).low9 (HTZ.out.below HBD.out h1z)
      rw [HJV.out] at hc
      refine wpAnyH_call (k := 4) (by kernel_rfl) rfl rfl (f := 37) (args := #[.agg #[.slice ao nb cap, .int .i64 fl, .int .i64 fh, .slice ao2 nw cap2], .int .i64 ww]) (by simp [execOp, go_sem, Act.eval, Act.put]) ?_
      refine hc.mono ?_
      rintro e w9 ⟨rfl, hb⟩
      dsimp only
      have HB9 := Lib.hid (HBD.out.trans (hb.mono HBD.out.size))
      have hS9 := hS.below hb
      clear hc hb hS
      refine ⟨hS9, ?_⟩
      have hS := hS9
      clear hS9
      try simp only [List.getElem_toArray, List.getElem_cons_succ, List.getElem_cons_zero, Act.put, List.setIfInBounds_toArray, List.set_cons_zero, List.set_cons_succ]
      cases hcn : canD j ww with
      | true =>
        rw [HWW.out] at hcn
        have HCN := Lib.hid hcn
        clear hcn
        refine wpAnyH_take (i := 5) (v := ?_) rfl (by kernel_rfl) (by kernel_rfl) (by kernel_rfl) (fun _ _ _ h => h) (Or.inl ⟨by rfl, ?_⟩) hS ?_
        rotate_left
        · (intro W hSw; obtain ⟨q0, q1, q2, q3⟩ := hSw; go_simp; try with_reducible rfl)
        try simp only [List.getElem_toArray, List.getElem_cons_succ, List.getElem_cons_zero, Act.put, List.setIfInBounds_toArray, List.set_cons_zero, List.set_cons_succ]
        refine wpAnyH_done (by kernel_rfl) ?_ _
        try simp only [List.getElem_toArray, List.getElem_cons_succ, List.getElem_cons_zero, Act.put, List.setIfInBounds_toArray, List.set_cons_zero, List.set_cons_succ]
        clear hS
        go_wp2_with fail
        refine ⟨⟨k + 1, hlt, by push_cast; rfl, HB9.out, fun q hq => ?_⟩, by simp [intOf]; omega⟩
        by_cases hqk : q < k
        · exact HALL.out q hqk
        · rw [show q = k by omega]; exact HCN.out
      | false =>
        rw [HWW.out] at hcn
        have hgf : gd = false := by
          cases hg : gd with
          | false => rfl
          | true => have := HG.out.1 hg k hlt; rw [hcn] at this; cases this
        subst hgf
        clear hcn HG
        refine wpAnyH_take (i := 5) (v := ?_) rfl (by kernel_rfl) (by kernel_rfl) (by kernel_rfl) (fun _ _ _ h => h) (Or.inl ⟨by rfl, ?_⟩) hS ?_
        rotate_left
        · (intro W hSw; obtain ⟨q0, q1, q2, q3⟩ := hSw; go_simp; try with_reducible rfl)
        try simp only [List.getElem_toArray, List.getElem_cons_succ, List.getElem_cons_zero, Act.put, List.setIfInBounds_toArray, List.set_cons_zero, List.set_cons_succ]
        refine wpAnyH_done (by kernel_rfl) ?_ _
        try simp only [List.getElem_toArray, List.getElem_cons_succ, List.getElem_cons_zero, Act.put, List.setIfInBounds_toArray, List.set_cons_zero, List.set_cons_succ]
        clear hS
        go_wp2_with fail
        go_ret
        exact ⟨rfl, HB9.out⟩
    · have hkn : m = k := by omega
      subst hkn
      have hlti : ¬ (m : Int) < (m : Int) := by omega
      have hgt : gd = true := HG.out.2 HALL.out
      subst hgt
      clear hlt HG
      go_wp2_with fail
      go_ret
      exact ⟨rfl, HB.out⟩

/-! ### a map that numbers what it has seen -/
def entS (o i x : Nat) : MapEntry := { key := .int .i64 (x : Nat), val := .int .i64 ((o + i : Nat)), born := o + i }
def seenM (D : List Nat) : Obj := .map (D.mapIdx (entS 0)).toArray D.length
theorem under_mii : Tryd.prog.underlying 61 = some (.map 3 3) := by kernel_rfl
theorem under_intT : Tryd.prog.underlying 3 = some (.int .i64) := by kernel_rfl
theorem find_seen (x : Nat) : ∀ (D : List Nat) (o : Nat), Instr.findNow (.int .i64) (.int .i64 (x : Nat)) (D.mapIdx (entS o)) o = some (if x ∈ D then some (o + D.idxOf x, .int .i64 ((o + D.idxOf x : Nat))) else none)
  | [], o => rfl
  | y :: D, o => by
    have he : (fun i => entS o (i + 1)) = entS (o + 1) := by
      funext i x
      unfold entS
      rw [show o + (i + 1) = o + 1 + i by omega]
    rw [List.mapIdx_cons, he]
    unfold Instr.findNow
    by_cases hxy : x = y
    · subst hxy
      simp [entS, Instr.sameNow]
    · have hs : Instr.sameNow (.int .i64) (.int .i64 (x : Nat)) (entS o 0 y).key = some false := by simp [entS, Instr.sameNow]; omega
      rw [hs]
      dsimp only
      rw [find_seen x D (o + 1)]
      have hne : (y == x) = false := by rw [beq_eq_false_iff_ne]; exact fun h => hxy h.symm
      rw [List.idxOf_cons, hne]
      by_cases hm : x ∈ D
      · rw [if_pos hm, if_pos (List.mem_cons_of_mem _ hm)]
        simp [Nat.add_assoc, Nat.add_comm 1]
      · rw [if_neg hm, if_neg (by rw [List.mem_cons]; exact fun h => h.elim hxy hm)]
theorem find_in9 (D : List Nat) (x : Nat) (w : World) (h : x ∈ D) : (Instr.findKey 3 (.int .i64 (x : Nat)) (D.mapIdx (entS 0)).toArray.toList).run Tryd.prog w = .ok (some (D.idxOf x, .int .i64 (D.idxOf x : Nat))) w := by
  have hf := find_seen x D 0
  rw [if_pos h] at hf
  simp only [Nat.zero_add] at hf
  unfold Instr.findKey
  simp only [Sem.run_bind, run_underlying under_intT, Result.andThen_ok, hf]
  rfl
theorem find_out9 (D : List Nat) (x : Nat) (w : World) (h : x ∉ D) : (Instr.findKey 3 (.int .i64 (x : Nat)) (D.mapIdx (entS 0)).toArray.toList).run Tryd.prog w = .ok none w := by
  have hf := find_seen x D 0
  rw [if_neg h] at hf
  unfold Instr.findKey
  simp only [Sem.run_bind, run_underlying under_intT, Result.andThen_ok, hf]
  rfl
theorem check_intT (e : Bool) (x : Int) (w : World) : (Instr.checkKey e 10000 3 (.int .i64 x)).run Tryd.prog w = .ok () w := by kernel_rfl
theorem zero_intT (w : World) : (zeroValue 3).run Tryd.prog w = .ok (.int .i64 0) w := by kernel_rfl
theorem look_seen (mb : Nat) (D : List Nat) (x : Nat) (w : World) (hm : w.heap[mb]? = some (seenM D)) (h : x ∈ D) : (Instr.lookup 61 (.map (some mb)) (.int .i64 (x : Nat)) true).run Tryd.prog w = .ok (.tuple #[.int .i64 (D.idxOf x : Nat), .bool true]) w := by
  have hg : (getObj mb).run Tryd.prog w = .ok (seenM D) w := by simp [getObj, Sem.run, hm, seenM]
  unfold Instr.lookup
  simp only [Sem.run_bind, run_underlying under_mii, Result.andThen_ok, hg, seenM, Sem.run_pure, check_intT, find_in9 D x w h]
  rfl
theorem look_new (mb : Nat) (D : List Nat) (x : Nat) (w : World) (hm : w.heap[mb]? = some (seenM D)) (h : x ∉ D) : (Instr.lookup 61 (.map (some mb)) (.int .i64 (x : Nat)) true).run Tryd.prog w = .ok (.tuple #[.int .i64 0, .bool false]) w := by
  have hg : (getObj mb).run Tryd.prog w = .ok (seenM D) w := by simp [getObj, Sem.run, hm, seenM]
  unfold Instr.lookup
  simp only [Sem.run_bind, run_underlying under_mii, Result.andThen_ok, hg, seenM, Sem.run_pure, check_intT, find_out9 D x w h, zero_intT]
  rfl
theorem look_seen1 (mb : Nat) (D : List Nat) (x : Nat) (w : World) (hm : w.heap[mb]? = some (seenM D)) (h : x ∈ D) : (Instr.lookup 61 (.map (some mb)) (.int .i64 (x : Nat)) false).run Tryd.prog w = .ok (.int .i64 (D.idxOf x : Nat)) w := by
  have hg : (getObj mb).run Tryd.prog w = .ok (seenM D) w := by simp [getObj, Sem.run, hm, seenM]
  unfold Instr.lookup
  simp only [Sem.run_bind, run_underlying under_mii, Result.andThen_ok, hg, seenM, Sem.run_pure, check_intT, find_in9 D x w h]
  rfl
theorem put_seen (mb : Nat) (D : List Nat) (x : Nat) (w : World) (hm : w.heap[mb]? = some (seenM D)) (h : x ∉ D) : (Instr.mapUpdate 61 (.map (some mb)) (.int .i64 (x : Nat)) (.int .i64 (D.length : Nat))).run Tryd.prog w = .ok () (w.putObj mb (seenM (D ++ [x]))) := by
  have hg : (getObj mb).run Tryd.prog w = .ok (seenM D) w := by simp [getObj, Sem.run, hm, seenM]
  have he : seenM (D ++ [x]) = .map ((D.mapIdx (entS 0)).toArray.push { key := .int .i64 (x : Nat), val := .int .i64 (D.length : Nat), born := D.length }) (D.length + 1) := by
    simp [seenM, List.mapIdx_append, entS]
  rw [he]
  unfold Instr.mapUpdate
  simp only [Sem.run_bind, run_underlying under_mii, Result.andThen_ok, hg, seenM, check_intT, find_out9 D x w h]
  simp [setObj, Sem.run, hm, seenM, World.putObj]
/-- What a list is numbered as, as its items come. -/
def numsJ : List Nat → List Nat → List Nat
  | _, [] => []
  | D, x :: l => D.idxOf x :: numsJ (if x ∈ D then D else D ++ [x]) l
theorem len_seen (mb : Nat) (D : List Nat) (w : World) (hm : w.heap[mb]? = some (seenM D)) : (Builtin.len_ #[61] 3 #[.map (some mb)]).run Tryd.prog w = .ok (.int .i64 (D.length : Nat)) w := by
  have hg : (getObj mb).run Tryd.prog w = .ok (seenM D) w := by simp [getObj, Sem.run, hm, seenM]
  unfold Builtin.len_
  simp only [List.getElem?_toArray, List.getElem?_cons_zero, Sem.run_bind, run_underlying under_mii, Result.andThen_ok, hg, seenM]
  simp [goInt]
end Go.Proofs.YtbmfphiecllggaaDoor

/- JobTurns, walked. -/
namespace Go.Proofs.YtbmfphiecllggaaDoor
set_option linter.unusedVariables false
set_option linter.unusedSimpArgs false
open Go.RowKit Go.Shelf
attribute [local go_sem] Oper.semAt_some

theorem alonet_ok {j : JobD} (hv : validJb j = true) : aloneD j = (((aloneN j : Nat) : Int), 0) := by unfold aloneD; rw [errD_ok hv]; rfl
theorem roundst_not {j : JobD} (hv : validJb j = true) (h : aloneN j ≠ everyD j) : roundsD j = ([], 4) := by unfold roundsD; rw [errD_ok hv, if_neg (by decide), if_neg h]
theorem numbers_snoc (l : List Nat) (x : Nat) : numbersJ (l ++ [x]) = max (numbersJ l) (x + 1) := by unfold numbersJ; rw [List.foldl_append]; rfl
theorem grow_snoc : ∀ (l : List Nat) (n x : Nat), GrowJ n l → x ≤ l.foldl (fun n x => max n (x + 1)) n → GrowJ n (l ++ [x])
  | [], n, x, _, h => ⟨h, trivial⟩
  | y :: l, n, x, h, hx => ⟨h.1, grow_snoc l _ x h.2 hx⟩
/-- What is numbered so far. -/
structure NumR (D own : List Nat) : Prop where
  grow : GrowJ 0 own
  many : numbersJ own = D.length
theorem NumR.nil : NumR [] [] := ⟨trivial, rfl⟩
theorem NumR.old {D own : List Nat} (h : NumR D own) {k : Nat} (hk : k ∈ D) : NumR D (own ++ [D.idxOf k]) := by
  have hi := List.idxOf_lt_length_of_mem hk
  have hm := h.many
  exact ⟨grow_snoc own 0 _ h.grow (by unfold numbersJ at hm; omega), by rw [numbers_snoc]; omega⟩
theorem NumR.new {D own : List Nat} (h : NumR D own) {k : Nat} (hk : k ∉ D) : NumR (D ++ [k]) (own ++ [(D ++ [k]).idxOf k]) := by
  have hi : (D ++ [k]).idxOf k = D.length := by rw [List.idxOf_append, if_neg hk]; simp
  have hm := h.many
  rw [hi]
  exact ⟨grow_snoc own 0 _ h.grow (by unfold numbersJ at hm; omega), by rw [numbers_snoc, List.length_append]; simp; omega⟩
/-- What the comparison of two lists of rounds reads. -/
def SQ (ob oo qb qo i mb : Nat) (x2 x1 : Nat) (sd : List Nat) (Y : World) : Prop :=
  Y.cell? ⟨ob, oo + i, none⟩ = some (.int .i64 x2) ∧ Y.cell? ⟨qb, qo + i, none⟩ = some (.int .i64 x1) ∧ Y.heap[mb]? = some (seenM sd)
theorem SQ.below {ob oo qb qo i mb : Nat} {x2 x1 : Nat} {sd : List Nat} {Y Y' : World} (h : SQ ob oo qb qo i mb x2 x1 sd Y) (hb : Below Y.heap.size Y Y') : SQ ob oo qb qo i mb x2 x1 sd Y' :=
  ⟨cell_below h.1 hb, cell_below h.2.1 hb, (hb.block _ (lt_of_block h.2.2)).trans h.2.2⟩
set_option maxRecDepth 100000 in
set_option maxHeartbeats 8000000 in
theorem lturns_any (j : JobD) (bs ws : Value) (l : List Int) (v : Value) (w : World) (hbs : SpansAt w bs j.st.bs (fun k => k < w.heap.size)) (hws : SpansAt w ws j.ws (fun k => k < w.heap.size)) (hus : SmallAt .u8 w v l (fun k => k < w.heap.size)) (htz : TabZ w) :
    Calls Tryd.prog 8 #[jobV j bs ws, v] w fun e w' => e = .returned (.bool true) ∧ Below w.heap.size w w' := by
  have HBS := Lib.hid hbs
  have HWS := Lib.hid hws
  have HUS := Lib.hid hus
  have HTZ := Lib.hid htz
  have h1z := htz.lt
  obtain ⟨ao, cap, hv1, _⟩ := id hbs
  obtain ⟨ao2, cap2, hv2, _⟩ := id hws
  obtain ⟨ao3, cap3, hv3, _⟩ := id hus
  subst hv1 hv2 hv3
  obtain ⟨nb, hnb⟩ : ∃ n, n = j.st.bs.length := ⟨_, rfl⟩
  obtain ⟨nw, hnw⟩ : ∃ n, n = j.ws.length := ⟨_, rfl⟩
  obtain ⟨nu, hnu⟩ : ∃ n, n = l.length := ⟨_, rfl⟩
  rw [← hnb] at HBS
  rw [← hnw] at HWS
  rw [← hnu] at HUS
  unfold jobV
  rw [← hnb, ← hnw, ← hnu]
  have HNB := Lib.hid hnb
  have HNW := Lib.hid hnw
  have HNU := Lib.hid hnu
  clear hbs hws hus htz hnb hnw hnu
  obtain ⟨fl, hfl⟩ : ∃ x, x = j.st.film.1 := ⟨_, rfl⟩
  obtain ⟨fh, hfh⟩ : ∃ x, x = j.st.film.2 := ⟨_, rfl⟩
  rw [← hfl, ← hfh]
  have HFL := Lib.hid (And.intro hfl hfh)
  clear hfl hfh
  have HJV := Lib.hid (show jobV j (.slice ao nb cap) (.slice ao2 nw cap2) = .agg #[.slice ao nb cap, .int .i64 fl, .int .i64 fh, .slice ao2 nw cap2] by unfold jobV; rw [← HFL.out.1, ← HFL.out.2])
  have HBw0 := Lib.hid (Below.alloc' w (.cells #[.slice ao nb cap, .int .i64 fl, .int .i64 fh, .slice ao2 nw cap2] 28))
  have HXw0 := Lib.hid (show (w.alloc (.cells #[.slice ao nb cap, .int .i64 fl, .int .i64 fh, .slice ao2 nw cap2] 28)).heap[w.heap.size]? = some (.cells #[.slice ao nb cap, .int .i64 fl, .int .i64 fh, .slice ao2 nw cap2] 28 (0, 0)) from heap_alloc_at _ _ _ rfl)
  go_enter Tryd.func8, Tryd.ntmps8
  go_wp2_with fail
  have hc := fine_any j (.slice ao nb cap) (.slice ao2 nw cap2) _ (HBS.out.later HBw0.out.size (fun k h1 _ => HBw0.out.block k h1)).low9 (HWS.out.later HBw0.out.size (fun k h1 _ => HBw0.out.block k h1)).low9
  rw [HJV.out] at hc
  refine hc.mono ?_
  rintro e w1 ⟨rfl, hb⟩
  clear hc
  dsimp only
  have HXw1 := Lib.hid ((hb.block _ (lt_of_block HXw0.out)).trans HXw0.out)
  have HBw1 := Lib.hid (HBw0.out.trans (hb.mono HBw0.out.size))
  clear hb
  cases hv : validJb j with
  | false =>
    clear hv
    go_wp2_with fail
    refine (lawake_any _ (HTZ.out.below HBw1.out h1z)).mono ?_
    rintro e w9 ⟨rfl, hb9⟩
    dsimp only
    have HB9 := Lib.hid (HBw1.out.trans (hb9.mono HBw1.out.size))
    clear hb9
    go_wp2_with fail
    go_ret
    exact ⟨rfl, HB9.out⟩
  | true =>
    have HV := Lib.hid hv
    have hnw4 : nw ≤ 4 := by rw [HNW.out]; exact (validJb_parts hv).2.1
    have hnb8 : nb ≤ 8 := by rw [HNB.out]; exact (validSt_parts (validJb_parts hv).1).1
    clear hv
    have c0 : w1.cell? ⟨w.heap.size, 0, none⟩ = some (.slice ao nb cap) := by rw [cell_of_row _ _ _ _ _ _ HXw1.out]; rfl
    have c1 : w1.cell? ⟨w.heap.size, 1, none⟩ = some (.int .i64 fl) := by rw [cell_of_row _ _ _ _ _ _ HXw1.out]; rfl
    have c2 : w1.cell? ⟨w.heap.size, 2, none⟩ = some (.int .i64 fh) := by rw [cell_of_row _ _ _ _ _ _ HXw1.out]; rfl
    have c3 : w1.cell? ⟨w.heap.size, 3, none⟩ = some (.slice ao2 nw cap2) := by rw [cell_of_row _ _ _ _ _ _ HXw1.out]; rfl
    go_wp2_with fail
    have hc := Rounds_any j (.slice ao nb cap) (.slice ao2 nw cap2) w1 (HBS.out.later HBw1.out.size (fun k h1 _ => HBw1.out.block k h1)).low9 (HWS.out.later HBw1.out.size (fun k h1 _ => HBw1.out.block k h1)).low9 (HTZ.out.below HBw1.out h1z)
    rw [HJV.out] at hc
    refine hc.mono ?_
    rintro e w2 ⟨pv, rfl, hpv, hb⟩
    clear hc c0 c1 c2 c3
    dsimp only
    have HXw2 := Lib.hid ((hb.block _ (lt_of_block HXw1.out)).trans HXw1.out)
    have HBw2 := Lib.hid (HBw1.out.trans (hb.mono HBw1.out.size))
    clear hb
    have c0 : w2.cell? ⟨w.heap.size, 0, none⟩ = some (.slice ao nb cap) := by rw [cell_of_row _ _ _ _ _ _ HXw2.out]; rfl
    have c1 : w2.cell? ⟨w.heap.size, 1, none⟩ = some (.int .i64 fl) := by rw [cell_of_row _ _ _ _ _ _ HXw2.out]; rfl
    have c2 : w2.cell? ⟨w.heap.size, 2, none⟩ = some (.int .i64 fh) := by rw [cell_of_row _ _ _ _ _ _ HXw2.out]; rfl
    have c3 : w2.cell? ⟨w.heap.size, 3, none⟩ = some (.slice ao2 nw cap2) := by rw [cell_of_row _ _ _ _ _ _ HXw2.out]; rfl
    obtain ⟨a6, c6, hpve, _⟩ := id hpv
    subst hpve
    rw [List.length_map] at hpv ⊢
    go_wp2_with fail
    have hc := Alone_any j (.slice ao nb cap) (.slice ao2 nw cap2) w2 (HBS.out.later HBw2.out.size (fun k h1 _ => HBw2.out.block k h1)).low9 (HWS.out.later HBw2.out.size (fun k h1 _ => HBw2.out.block k h1)).low9
    rw [HJV.out] at hc
    refine hc.mono ?_
    rw [alonet_ok HV.out]
    rintro e w3 ⟨rfl, hb⟩
    clear hc c0 c1 c2 c3
    dsimp only
    have HPV3 := Lib.hid (hpv.low9.later hb.size (fun k h _ => hb.block k h)).low9
    have HXw3 := Lib.hid ((hb.block _ (lt_of_block HXw2.out)).trans HXw2.out)
    have HBw3 := Lib.hid (HBw2.out.trans (hb.mono HBw2.out.size))
    clear hb
    clear hpv
    have c0 : w3.cell? ⟨w.heap.size, 0, none⟩ = some (.slice ao nb cap) := by rw [cell_of_row _ _ _ _ _ _ HXw3.out]; rfl
    have c1 : w3.cell? ⟨w.heap.size, 1, none⟩ = some (.int .i64 fl) := by rw [cell_of_row _ _ _ _ _ _ HXw3.out]; rfl
    have c2 : w3.cell? ⟨w.heap.size, 2, none⟩ = some (.int .i64 fh) := by rw [cell_of_row _ _ _ _ _ _ HXw3.out]; rfl
    have c3 : w3.cell? ⟨w.heap.size, 3, none⟩ = some (.slice ao2 nw cap2) := by rw [cell_of_row _ _ _ _ _ _ HXw3.out]; rfl
    go_upto_region 5 with fail
    clear c0 c1 c2 c3
    have hS0 : SM1 w.heap.size (.slice ao nb cap) (.slice ao2 nw cap2) fl fh w3 := ⟨by rw [cell_of_row _ _ _ _ _ _ HXw3.out]; rfl, by rw [cell_of_row _ _ _ _ _ _ HXw3.out]; rfl, by rw [cell_of_row _ _ _ _ _ _ HXw3.out]; rfl, by rw [cell_of_row _ _ _ _ _ _ HXw3.out]; rfl⟩
    refine wp_region_held_drew (S := SM1 w.heap.size (.slice ao nb cap) (.slice ao2 nw cap2) fl fh) (by kernel_rfl) (hS0.below (Below.refl _ _).drew) fun hS => ?_
    obtain ⟨D, hD⟩ : ∃ D, D = w3.drew := ⟨_, rfl⟩
    have hAD : Below w3.heap.size w3 D := by rw [hD]; exact (Below.refl _ _).drew
    rw [← hD] at hS ⊢
    have HPVD := Lib.hid (HPV3.out.later hAD.size (fun k h _ => hAD.block k h)).low9
    have HXD := Lib.hid ((hAD.block _ (lt_of_block HXw3.out)).trans HXw3.out)
    have HBD := Lib.hid (HBw3.out.trans (hAD.mono HBw3.out.size))
    clear hAD
    clear hD hS0
    refine wpAnyH_take (i := 0) (v := ?_) rfl (by kernel_rfl) (by kernel_rfl) (by kernel_rfl) (fun _ _ _ h => h) (Or.inl ⟨by rfl, ?_⟩) hS ?_
    rotate_left
    · (intro W hSw; obtain ⟨q0, q1, q2, q3⟩ := hSw; go_simp; try with_reducible rfl)
    try simp only [List.getElem_toArray, List.getElem_cons_succ, List.getElem_cons_zero, Act.put, List.setIfInBounds_toArray, List.set_cons_zero, List.set_cons_succ]
    refine wpAnyH_take (i := 1) (v := ?_) rfl (by kernel_rfl) (by kernel_rfl) (by kernel_rfl) (fun _ _ _ h => h) (Or.inl ⟨by rfl, ?_⟩) hS ?_
    rotate_left
    · (intro W hSw; obtain ⟨q0, q1, q2, q3⟩ := hSw; go_simp; try with_reducible rfl)
    try simp only [List.getElem_toArray, List.getElem_cons_succ, List.getElem_cons_zero, Act.put, List.setIfInBounds_toArray, List.set_cons_zero, List.set_cons_succ]
    refine wpAnyH_take (i := 2) (v := ?_) rfl (by kernel_rfl) (by kernel_rfl) (by kernel_rfl) (fun _ _ _ h => h) (Or.inl ⟨by rfl, ?_⟩) hS ?_
    rotate_left
    · (intro W hSw; obtain ⟨q0, q1, q2, q3⟩ := hSw; go_simp; try with_reducible rfl)
    try simp only [List.getElem_toArray, List.getElem_cons_succ, List.getElem_cons_zero, Act.put, List.setIfInBounds_toArray, List.set_cons_zero, List.set_cons_succ]
    refine wpAnyH_take (i := 3) (v := ?_) rfl (by kernel_rfl) (by kernel_rfl) (by kernel_rfl) (fun _ _ _ h => h) (Or.inl ⟨by rfl, ?_⟩) hS ?_
    rotate_left
    · (intro W hSw; obtain ⟨q0, q1, q2, q3⟩ := hSw; go_simp; try with_reducible rfl)
    try simp only [List.getElem_toArray, List.getElem_cons_succ, List.getElem_cons_zero, Act.put, List.setIfInBounds_toArray, List.set_cons_zero, List.set_cons_succ]
    have hc := r12every_any j (by rw [← HNW.out]; omega) (.slice ao nb cap) (.slice ao2 nw cap2) D (HWS.out.later HBD.out.size (fun k h1 _ => HBD.out.block k h1)).low9
    rw [HJV.out] at hc
    refine wpAnyH_call (k := 4) (by kernel_rfl) rfl rfl (f := 15) (args := #[.agg #[.slice ao nb cap, .int .i64 fl, .int .i64 fh, .slice ao2 nw cap2]]) (by simp [execOp, go_sem, Act.eval, Act.put]) ?_
    refine hc.mono ?_
    rintro e w4 ⟨rfl, hb⟩
    dsimp only
    have HPV4 := Lib.hid (HPVD.out.later hb.size (fun k h _ => hb.block k h)).low9
    have hS4 := hS.below hb
    have HXw4 := Lib.hid ((hb.block _ (lt_of_block HXD.out)).trans HXD.out)
    have HBw4 := Lib.hid (HBD.out.trans (hb.mono HBD.out.size))
    clear hb
    clear hc hS
    refine ⟨hS4, ?_⟩
    have hS := hS4
    clear hS4
    try simp only [List.getElem_toArray, List.getElem_cons_succ, List.getElem_cons_zero, Act.put, List.setIfInBounds_toArray, List.set_cons_zero, List.set_cons_succ]
    refine wpAnyH_take (i := 5) (v := ?_) rfl (by kernel_rfl) (by kernel_rfl) (by kernel_rfl) (fun _ _ _ h => h) (Or.inl ⟨by rfl, ?_⟩) hS ?_
    rotate_left
    · (intro W hSw; obtain ⟨q0, q1, q2, q3⟩ := hSw; go_simp; try with_reducible rfl)
    try simp only [List.getElem_toArray, List.getElem_cons_succ, List.getElem_cons_zero, Act.put, List.setIfInBounds_toArray, List.set_cons_zero, List.set_cons_succ]
    refine wpAnyH_take (i := 6) (v := ?_) rfl (by kernel_rfl) (by kernel_rfl) (by kernel_rfl) (fun _ _ _ h => h) (Or.inl ⟨by rfl, ?_⟩) hS ?_
    rotate_left
    · (intro W hSw; obtain ⟨q0, q1, q2, q3⟩ := hSw; go_simp; try with_reducible rfl)
    try simp only [List.getElem_toArray, List.getElem_cons_succ, List.getElem_cons_zero, Act.put, List.setIfInBounds_toArray, List.set_cons_zero, List.set_cons_succ]
    refine wpAnyH_done (by kernel_rfl) ?_ _
    try simp only [List.getElem_toArray, List.getElem_cons_succ, List.getElem_cons_zero, Act.put, List.setIfInBounds_toArray, List.set_cons_zero, List.set_cons_succ]
    clear hS
    have hro := roundst_not (j := j) HV.out
    have hrt := rounds_told (j := j) HV.out
    have hev2 : everyD j < 2 ^ nw := by have := Nat.two_pow_pos nw; unfold everyD; rw [← HNW.out]; omega
    obtain ⟨al, hal⟩ : ∃ y, y = aloneN j := ⟨_, rfl⟩
    obtain ⟨ev, hev⟩ : ∃ y, y = everyD j := ⟨_, rfl⟩
    rw [← hal, ← hev] at hro hrt
    rw [← hev] at hev2
    rw [← hal, ← hev]
    by_cases hae : al = ev
    · obtain ⟨l2, hl2, hlen, hgr, hnl, hgd, hmin⟩ := hrt hae
      have hone := rounds_one HV.out hlen
      subst hae
      rw [hl2] at HPV4 ⊢
      dsimp only at HPV4 ⊢
      rw [hlen, ← HNW.out] at HPV4 ⊢
      have HL2 := Lib.hid (And.intro hlen (And.intro hgr (And.intro hnl (And.intro hgd hmin))))
      have HEV := Lib.hid hev
      clear hl2 hlen hgr hnl hgd hmin hro hrt hev hal HPV3 HPVD hone
      go_wp2_with fail
      obtain ⟨a9, c9, e9, _, _, hel⟩ := HPV4.out
      rw [List.length_map, HL2.out.1, ← HNW.out] at e9
      injection e9 with e1 e2 e3
      subst e1 e3
      have HEL := Lib.hid hel
      clear e2 hel
      go_loopw [11, 73] (fun mv iv wr => ∃ i : Nat, i ≤ nw ∧ iv = .int .i64 i ∧ mv = .int .i64 (numbersJ (l2.take i) : Nat) ∧ w4 = wr) (fun _ iv _ => nw - (intOf iv).toNat)
      case atStart => exact ⟨0, Nat.zero_le _, rfl, rfl, rfl⟩
      case round =>
        obtain ⟨i, hi, rfl, rfl, hwr⟩ := hrel
        subst hwr
        obtain ⟨m, hm⟩ : ∃ m, m = numbersJ (l2.take i) := ⟨_, rfl⟩
        rw [← hm]
        by_cases hlt : i < nw
        · have hw : IntKind.i64.wrap ((i : Int) + 1) = ((i + 1 : Nat) : Int) := by rw [IntWalk.i64_in _ (by omega)]; omega
          have hlti : (i : Int) < (nw : Int) := by omega
          have hil : i < l2.length := by rw [HL2.out.1, ← HNW.out]; exact hlt
          obtain ⟨b, off, rfl, _, _, e1⟩ := HEL.out i (by rw [List.length_map]; exact hil)
          rw [List.getElem_map] at e1
          have hgx := HL2.out.2.1 i hil
          rw [← hm] at hgx
          have hnx := numbers_take l2 i hil
          rw [← hm] at hnx
          obtain ⟨x, hxx⟩ : ∃ x, x = l2[i] := ⟨_, rfl⟩
          rw [← hxx] at e1 hgx hnx
          have hm9 : m ≤ 1001 := by rw [hm]; exact Nat.le_trans (numbers_le _ 0 nw (Nat.zero_le _) (fun y hy => Nat.lt_of_lt_of_le ((numbers_ge l2 0).2 y (List.mem_of_mem_take hy)) (by have := HL2.out.2.2.1; rw [← HNW.out] at this; exact this))) (by omega)
          have hmm : max (m : Int) ((x : Int) + 1) = ((max m (x + 1) : Nat) : Int) := by omega
          have hwx : IntKind.i64.wrap ((x : Int) + 1) = (x : Int) + 1 := IntWalk.i64_in _ (by omega)
          have hx0 : ¬ (x : Int) < 0 := by omega
          have hxm : ¬ (m : Int) < (x : Int) := by omega
          have HM := Lib.hid hnx
          clear hm hxx hgx hnx
          go_wp2_with (first | (refine wpList_maxJ rfl (.tmp 84) (.tmp 86) rfl rfl (m : Int) ((x : Int) + 1) _ rfl rfl hmm ?_))
          exact ⟨⟨i + 1, hlt, by push_cast; rfl, by rw [HM.out], by first | rfl | trivial⟩, by simp [intOf]; omega⟩
        · have hin : nw = i := by omega
          subst hin
          have hlti : ¬ (nw : Int) < (nw : Int) := by omega
          have HM := Lib.hid (show m = numbersJ l2 by rw [hm, show l2.take nw = l2 from List.take_of_length_le (by rw [HL2.out.1, ← HNW.out]; exact Nat.le_refl _)])
          clear hm hlt
          have eg := enters_of (P := Tryd.prog) Tryd.func38 (by kernel_rfl) rfl
          go_wp2_with fail
          have hx9 : ∀ x ∈ l2, x ≤ 1000 := fun x hx => by
            have h1 := (numbers_ge l2 0).2 x hx
            have h2 := HL2.out.2.2.1
            rw [← HNW.out] at h2
            unfold numbersJ at h2
            omega
          have hmn : m ≤ nw := by rw [HM.out, HNW.out]; exact HL2.out.2.2.1
          refine (lturn1_any j HV.out l2 (by rw [HL2.out.1, ← HNW.out]; exact hnw4) hx9 w.heap.size (.slice ao nb cap) (.slice ao2 nw cap2) _ w4 (HBS.out.later HBw4.out.size (fun k h1 _ => HBw4.out.block k h1)).low9 (HWS.out.later HBw4.out.size (fun k h1 _ => HBw4.out.block k h1)).low9 (HTZ.out.below HBw4.out h1z) (by rw [← HFL.out.1, ← HFL.out.2]; exact HXw4.out) HPV4.out).mono ?_
          rintro e w5 ⟨rfl, hb⟩
          rw [(goodD_iff j l2).2 fun k _ => HL2.out.2.2.2.1 k]
          dsimp only
          have HPV5 := Lib.hid (HPV4.out.later hb.size (fun k h _ => hb.block k h)).low9
          have HXw5 := Lib.hid ((hb.block _ (lt_of_block HXw4.out)).trans HXw4.out)
          have HBw5 := Lib.hid (HBw4.out.trans (hb.mono HBw4.out.size))
          clear hb
          have hmn2 : ¬ (nw : Int) < (m : Int) := by omega
          clear hx9
          have c0 : w5.cell? ⟨w.heap.size, 0, none⟩ = some (.slice ao nb cap) := by rw [cell_of_row _ _ _ _ _ _ HXw5.out]; rfl
          have c1 : w5.cell? ⟨w.heap.size, 1, none⟩ = some (.int .i64 fl) := by rw [cell_of_row _ _ _ _ _ _ HXw5.out]; rfl
          have c2 : w5.cell? ⟨w.heap.size, 2, none⟩ = some (.int .i64 fh) := by rw [cell_of_row _ _ _ _ _ _ HXw5.out]; rfl
          have c3 : w5.cell? ⟨w.heap.size, 3, none⟩ = some (.slice ao2 nw cap2) := by rw [cell_of_row _ _ _ _ _ _ HXw5.out]; rfl
          by_cases hn0 : nw = 0
          · have hn0i : ¬ 0 < nw := by omega
            have HN0 := Lib.hid hn0
            clear hn0
            go_upto_region 23 with fail
            clear hn0i HN0
            go_upto_region 25 with fail
            rw [run_makeMap]
            go_upto_region 25 with fail
            obtain ⟨mb, hmb⟩ : ∃ y, y = w5.heap.size := ⟨_, rfl⟩
            refine wp_name (fun X => X.heap[mb]? = some (.map #[] 0) ∧ Below w5.heap.size w5 X) ⟨heap_alloc_at _ _ _ hmb, Below.alloc' _ _⟩ ?_
            rintro wm ⟨hmp, hbm⟩
            rw [← hmb]
            have HMP0 := Lib.hid (show wm.heap[mb]? = some (seenM []) from hmp)
            have HMB := Lib.hid hmb
            have HBM := Lib.hid hbm
            have HPVm := Lib.hid (HPV5.out.later hbm.size (fun k h _ => hbm.block k h)).low9
            have HXwm := Lib.hid ((hbm.block _ (lt_of_block HXw5.out)).trans HXw5.out)
            have HBwm := Lib.hid (HBw5.out.trans (hbm.mono HBw5.out.size))
            clear hbm
            clear hmp hmb c0 c1 c2 c3
            go_wp2_with fail
            go_loopw [15, 113] (fun ov iv wr => ∃ (i : Nat) (sd own : List Nat), i ≤ nw ∧ iv = .int .i64 i ∧ own.length = i ∧ NumR sd own ∧ sd.length ≤ i ∧ wr.ownsRow (mb + 1) 3 1 ov i ((own.map fun s : Nat => (s : Int)).map (Value.int .i64)) ∧ wr.heap[mb]? = some (seenM sd) ∧ Below w5.heap.size w5 wr) (fun _ iv _ => nw - (intOf iv).toNat)
            case atStart => exact ⟨0, [], [], Nat.zero_le _, rfl, rfl, NumR.nil, Nat.le_refl _, World.ownsRow_nil _ _ _ _, HMP0.out, HBM.out⟩
            case round =>
              obtain ⟨i, sd, own, hi, rfl, hol, hnr, hsl, hown, hmp, hb⟩ := hrel
              have HOL := Lib.hid hol
              have HNR := Lib.hid hnr
              have HOWN := Lib.hid hown
              have HMP := Lib.hid hmp
              have HBr := Lib.hid hb
              have HXwr := Lib.hid ((hb.block _ (lt_of_block HXw5.out)).trans HXw5.out)
              have HBwr := Lib.hid (HBw5.out.trans (hb.mono HBw5.out.size))
              have HPVr := Lib.hid (HPV5.out.later hb.size (fun k h _ => hb.block k h)).low9
              have hmbl := lt_of_block hmp
              clear hol hnr hown hmp hb
              by_cases hlt : i < nw
              · have hw : IntKind.i64.wrap ((i : Int) + 1) = ((i + 1 : Nat) : Int) := by rw [IntWalk.i64_in _ (by omega)]; omega
                have hlti : (i : Int) < (nw : Int) := by omega
                by_cases hu : nu = 0
                · have hui : ¬ 0 < (nu : Int) := by omega
                  have HU := Lib.hid hu
                  clear hu
                  go_upto_region 31 with fail
                  by_cases hmem : 0 ∈ sd
                  · have hlk : (Instr.lookup 61 (.map (some mb)) (.int .i64 0) true).run Tryd.prog wr = .ok (.tuple #[.int .i64 (sd.idxOf 0 : Nat), .bool true]) wr := look_seen mb sd 0 wr HMP.out hmem
                    have hlk1 : (Instr.lookup 61 (.map (some mb)) (.int .i64 0) false).run Tryd.prog wr = .ok (.int .i64 (sd.idxOf 0 : Nat)) wr := look_seen1 mb sd 0 wr HMP.out hmem
                    have hix := List.idxOf_lt_length_of_mem hmem
                    have HNR2 := Lib.hid (HNR.out.old hmem)
                    obtain ⟨ix, hixe⟩ : ∃ y, y = sd.idxOf 0 := ⟨_, rfl⟩
                    rw [← hixe] at hlk hlk1 hix HNR2
                    clear hixe hmem
                    go_wp2_with (first | (refine wpList_append_here rfl (.tmp 140) (.tmp 144) 32 rfl (mb + 1) 3 1 8 _ underInts infoInt rfl (by decide) u15 i _ rfl (own_block HOWN.out (fun k e => Below.heap_alloc _ _ _ (HOWN.out.lt k e).2)) wr.heap.size 1 #[.int .i64 ix] 3 (0, 0) rfl (heap_alloc_at _ _ _ rfl) rfl (by simp [Value.oneCell']) (by omega) (by decide) (by simp <;> omega) ?_))
                    intro v7 W7 hown7 hg7 hat7
                    have hk7 := keeps_grown hg7
                    have hob : ∀ k, u15.ownBlock = some k → mb + 1 ≤ k := fun k e => (HOWN.out.lt k e).1
                    have hk57 : Keeps (fun k => u15.ownBlock = some k) wr W7 := (Keeps.alloc (fun k => u15.ownBlock = some k) _ _).trans hk7
                    have hm7 := (hk57.block mb (lt_of_block HMP.out) (fun e => by have := hob _ e; omega)).trans HMP.out
                    have hb7 := HBr.out.trans (hk57.below HBr.out.size (fun k h e => by have := hob _ e; have := HMB.out; omega))
                    have H7 := Lib.hid (And.intro hown7 (And.intro hm7 hb7))
                    clear hown7 hg7 hat7 hk7 hob hk57 hm7 hb7
                    go_wp2_with fail
                    refine ⟨⟨i + 1, sd, own ++ [ix], hlt, by push_cast; rfl, by rw [List.length_append, HOL.out]; rfl, HNR2.out, (by omega), by have h7 := H7.out.1; simpa using h7, H7.out.2.1, H7.out.2.2⟩, by simp [intOf]; omega⟩
                  · have hlk : (Instr.lookup 61 (.map (some mb)) (.int .i64 0) true).run Tryd.prog wr = .ok (.tuple #[.int .i64 0, .bool false]) wr := look_new mb sd 0 wr HMP.out hmem
                    have hput : (Instr.mapUpdate 61 (.map (some mb)) (.int .i64 0) (.int .i64 (sd.length : Nat))).run Tryd.prog wr = .ok () (wr.putObj mb (seenM (sd ++ [0]))) := put_seen mb sd 0 wr HMP.out hmem
                    have hlen := len_seen mb sd wr HMP.out
                    have HNR2 := Lib.hid (HNR.out.new hmem)
                    obtain ⟨W2, hW2⟩ : ∃ W, W = wr.putObj mb (seenM (sd ++ [0])) := ⟨_, rfl⟩
                    rw [← hW2] at hput
                    have hk2 : Keeps (fun k => k = mb) wr W2 := by rw [hW2]; exact Keeps.putObj _ _ _ rfl
                    have hm2 : W2.heap[mb]? = some (seenM (sd ++ [0])) := by rw [hW2]; exact World.putObj_heap_same (lt_of_block HMP.out)
                    have hlk1 : (Instr.lookup 61 (.map (some mb)) (.int .i64 0) false).run Tryd.prog W2 = .ok (.int .i64 ((sd ++ [0]).idxOf 0 : Nat)) W2 := look_seen1 mb (sd ++ [0]) 0 W2 hm2 (by simp)
                    have hix : (sd ++ [0]).idxOf 0 = sd.length := by rw [List.idxOf_append, if_neg hmem]; simp
                    rw [hix] at hlk1 HNR2
                    have HM2 := Lib.hid hm2
                    have HOWN2 := Lib.hid (own_block HOWN.out (fun k e => hk2.block k (HOWN.out.lt k e).2 (by have := (HOWN.out.lt k e).1; omega)))
                    have HB2 := Lib.hid (HBr.out.trans (hk2.below HBr.out.size (fun k h e => by have := HMB.out; omega)))
                    have hmbl2 := lt_of_block hm2
                    have HSL := Lib.hid (show (sd ++ [0]).length ≤ i + 1 by rw [List.length_append]; simp; omega)
                    obtain ⟨sn, hsn⟩ : ∃ n, n = sd.length := ⟨_, rfl⟩
                    rw [← hsn] at hput hlk1 hlen HNR2
                    clear hW2 hk2 hm2 hix hmem hsn
                    go_wp2_with (first | (refine wpList_append_here rfl (.tmp 140) (.tmp 144) 32 rfl (mb + 1) 3 1 8 _ underInts infoInt rfl (by decide) u15 i _ rfl (own_block HOWN2.out (fun k e => Below.heap_alloc _ _ _ (HOWN2.out.lt k e).2)) W2.heap.size 1 #[.int .i64 sn] 3 (0, 0) rfl (heap_alloc_at _ _ _ rfl) rfl (by simp [Value.oneCell']) (by omega) (by decide) (by simp <;> omega) ?_))
                    intro v7 W7 hown7 hg7 hat7
                    have hk7 := keeps_grown hg7
                    have hob : ∀ k, u15.ownBlock = some k → mb + 1 ≤ k := fun k e => (HOWN.out.lt k e).1
                    have hk57 : Keeps (fun k => u15.ownBlock = some k) W2 W7 := (Keeps.alloc (fun k => u15.ownBlock = some k) _ _).trans hk7
                    have hm7 := (hk57.block mb (lt_of_block HM2.out) (fun e => by have := hob _ e; omega)).trans HM2.out
                    have hb7 := HB2.out.trans (hk57.below HB2.out.size (fun k h e => by have := hob _ e; have := HMB.out; omega))
                    have H7 := Lib.hid (And.intro hown7 (And.intro hm7 hb7))
                    clear hown7 hg7 hat7 hk7 hob hk57 hm7 hb7
                    go_wp2_with fail
                    refine ⟨⟨i + 1, (sd ++ [0]), own ++ [sn], hlt, by push_cast; rfl, by rw [List.length_append, HOL.out]; rfl, HNR2.out, HSL.out, by have h7 := H7.out.1; simpa using h7, H7.out.2.1, H7.out.2.2⟩, by simp [intOf]; omega⟩
                · have hui : 0 < (nu : Int) := by omega
                  have hzu : ((nu : Int) == 0) = false := by rw [beq_eq_false_iff_ne]; omega
                  have hi0 : 0 ≤ (i : Int) := by omega
                  obtain ⟨r, hr⟩ : ∃ r : Nat, (i : Int) % (nu : Int) = r := ⟨((i : Int) % (nu : Int)).toNat, by have := Int.emod_nonneg (i : Int) (b := (nu : Int)) (by omega); omega⟩
                  have hrl : r < l.length := by have := Int.emod_lt_of_pos (i : Int) (b := (nu : Int)) (by omega); rw [← HNU.out]; omega
                  have hrn : (r : Int) < (nu : Int) := by rw [HNU.out]; omega
                  obtain ⟨a9, c9, e9, _, _, hel⟩ := HUS.out
                  injection e9 with e1 e2 e3
                  subst e1 e3
                  clear e2
                  obtain ⟨⟨u1, u2⟩, b, off, rfl, hbw, _, ec⟩ := hel r hrl
                  have ec := (World.cell?_of_block (w := w) (w' := wr) (a := ⟨b, off + r, none⟩) (HBwr.out.block b hbw)).trans ec
                  obtain ⟨u, hue⟩ : ∃ u, u = l[r] := ⟨_, rfl⟩
                  rw [← hue] at ec u1 u2
                  have hcu : IntKind.i64.wrap u = u := IntWalk.i64_in _ (by omega)
                  clear hu hue hel
                  obtain ⟨k, hk⟩ : ∃ k : Nat, u % 4 = k := ⟨(u % 4).toNat, by have := Int.emod_nonneg u (b := 4) (by omega); omega⟩
                  have hu0 : 0 ≤ u := u1
                  go_upto_region 31 with fail
                  rw [hk]
                  clear hr ec hk
                  by_cases hmem : k ∈ sd
                  · have hlk : (Instr.lookup 61 (.map (some mb)) (.int .i64 (k : Nat)) true).run Tryd.prog wr = .ok (.tuple #[.int .i64 (sd.idxOf k : Nat), .bool true]) wr := look_seen mb sd k wr HMP.out hmem
                    have hlk1 : (Instr.lookup 61 (.map (some mb)) (.int .i64 (k : Nat)) false).run Tryd.prog wr = .ok (.int .i64 (sd.idxOf k : Nat)) wr := look_seen1 mb sd k wr HMP.out hmem
                    have hix := List.idxOf_lt_length_of_mem hmem
                    have HNR2 := Lib.hid (HNR.out.old hmem)
                    obtain ⟨ix, hixe⟩ : ∃ y, y = sd.idxOf k := ⟨_, rfl⟩
                    rw [← hixe] at hlk hlk1 hix HNR2
                    clear hixe hmem
                    go_wp2_with (first | (refine wpList_append_here rfl (.tmp 140) (.tmp 144) 32 rfl (mb + 1) 3 1 8 _ underInts infoInt rfl (by decide) u15 i _ rfl (own_block HOWN.out (fun k e => Below.heap_alloc _ _ _ (HOWN.out.lt k e).2)) wr.heap.size 1 #[.int .i64 ix] 3 (0, 0) rfl (heap_alloc_at _ _ _ rfl) rfl (by simp [Value.oneCell']) (by omega) (by decide) (by simp <;> omega) ?_))
                    intro v7 W7 hown7 hg7 hat7
                    have hk7 := keeps_grown hg7
                    have hob : ∀ k, u15.ownBlock = some k → mb + 1 ≤ k := fun k e => (HOWN.out.lt k e).1
                    have hk57 : Keeps (fun k => u15.ownBlock = some k) wr W7 := (Keeps.alloc (fun k => u15.ownBlock = some k) _ _).trans hk7
                    have hm7 := (hk57.block mb (lt_of_block HMP.out) (fun e => by have := hob _ e; omega)).trans HMP.out
                    have hb7 := HBr.out.trans (hk57.below HBr.out.size (fun k h e => by have := hob _ e; have := HMB.out; omega))
                    have H7 := Lib.hid (And.intro hown7 (And.intro hm7 hb7))
                    clear hown7 hg7 hat7 hk7 hob hk57 hm7 hb7
                    go_wp2_with fail
                    refine ⟨⟨i + 1, sd, own ++ [ix], hlt, by push_cast; rfl, by rw [List.length_append, HOL.out]; rfl, HNR2.out, (by omega), by have h7 := H7.out.1; simpa using h7, H7.out.2.1, H7.out.2.2⟩, by simp [intOf]; omega⟩
                  · have hlk : (Instr.lookup 61 (.map (some mb)) (.int .i64 (k : Nat)) true).run Tryd.prog wr = .ok (.tuple #[.int .i64 0, .bool false]) wr := look_new mb sd k wr HMP.out hmem
                    have hput : (Instr.mapUpdate 61 (.map (some mb)) (.int .i64 (k : Nat)) (.int .i64 (sd.length : Nat))).run Tryd.prog wr = .ok () (wr.putObj mb (seenM (sd ++ [k]))) := put_seen mb sd k wr HMP.out hmem
                    have hlen := len_seen mb sd wr HMP.out
                    have HNR2 := Lib.hid (HNR.out.new hmem)
                    obtain ⟨W2, hW2⟩ : ∃ W, W = wr.putObj mb (seenM (sd ++ [k])) := ⟨_, rfl⟩
                    rw [← hW2] at hput
                    have hk2 : Keeps (fun k => k = mb) wr W2 := by rw [hW2]; exact Keeps.putObj _ _ _ rfl
                    have hm2 : W2.heap[mb]? = some (seenM (sd ++ [k])) := by rw [hW2]; exact World.putObj_heap_same (lt_of_block HMP.out)
                    have hlk1 : (Instr.lookup 61 (.map (some mb)) (.int .i64 (k : Nat)) false).run Tryd.prog W2 = .ok (.int .i64 ((sd ++ [k]).idxOf k : Nat)) W2 := look_seen1 mb (sd ++ [k]) k W2 hm2 (by simp)
                    have hix : (sd ++ [k]).idxOf k = sd.length := by rw [List.idxOf_append, if_neg hmem]; simp
                    rw [hix] at hlk1 HNR2
                    have HM2 := Lib.hid hm2
                    have HOWN2 := Lib.hid (own_block HOWN.out (fun k e => hk2.block k (HOWN.out.lt k e).2 (by have := (HOWN.out.lt k e).1; omega)))
                    have HB2 := Lib.hid (HBr.out.trans (hk2.below HBr.out.size (fun k h e => by have := HMB.out; omega)))
                    have hmbl2 := lt_of_block hm2
                    have HSL := Lib.hid (show (sd ++ [k]).length ≤ i + 1 by rw [List.length_append]; simp; omega)
                    obtain ⟨sn, hsn⟩ : ∃ n, n = sd.length := ⟨_, rfl⟩
                    rw [← hsn] at hput hlk1 hlen HNR2
                    clear hW2 hk2 hm2 hix hmem hsn
                    go_wp2_with (first | (refine wpList_append_here rfl (.tmp 140) (.tmp 144) 32 rfl (mb + 1) 3 1 8 _ underInts infoInt rfl (by decide) u15 i _ rfl (own_block HOWN2.out (fun k e => Below.heap_alloc _ _ _ (HOWN2.out.lt k e).2)) W2.heap.size 1 #[.int .i64 sn] 3 (0, 0) rfl (heap_alloc_at _ _ _ rfl) rfl (by simp [Value.oneCell']) (by omega) (by decide) (by simp <;> omega) ?_))
                    intro v7 W7 hown7 hg7 hat7
                    have hk7 := keeps_grown hg7
                    have hob : ∀ k, u15.ownBlock = some k → mb + 1 ≤ k := fun k e => (HOWN.out.lt k e).1
                    have hk57 : Keeps (fun k => u15.ownBlock = some k) W2 W7 := (Keeps.alloc (fun k => u15.ownBlock = some k) _ _).trans hk7
                    have hm7 := (hk57.block mb (lt_of_block HM2.out) (fun e => by have := hob _ e; omega)).trans HM2.out
                    have hb7 := HB2.out.trans (hk57.below HB2.out.size (fun k h e => by have := hob _ e; have := HMB.out; omega))
                    have H7 := Lib.hid (And.intro hown7 (And.intro hm7 hb7))
                    clear hown7 hg7 hat7 hk7 hob hk57 hm7 hb7
                    go_wp2_with fail
                    refine ⟨⟨i + 1, (sd ++ [k]), own ++ [sn], hlt, by push_cast; rfl, by rw [List.length_append, HOL.out]; rfl, HNR2.out, HSL.out, by have h7 := H7.out.1; simpa using h7, H7.out.2.1, H7.out.2.2⟩, by simp [intOf]; omega⟩
              · have hin : nw = i := by omega
                subst hin
                have hlti : ¬ (nw : Int) < (nw : Int) := by omega
                have hnum := nums_of_own (show nw = (own.map fun s : Nat => (s : Int)).length by rw [List.length_map, HOL.out]) HOWN.out
                obtain ⟨av, cv, hve, _⟩ := id hnum
                subst hve
                rw [List.length_map, HOL.out] at hnum ⊢
                have HNUM := Lib.hid hnum.low9
                have HSL := Lib.hid hsl
                clear hnum hlt hsl hmbl
                go_wp2_with fail
                have hox : ∀ x ∈ own, x ≤ 1000 := fun x hx => by
                  have h1 := (numbers_ge own 0).2 x hx
                  have h2 := HNR.out.many
                  unfold numbersJ at h2
                  have := HSL.out
                  omega
                refine (lturn1_any j HV.out own (by rw [HOL.out]; exact hnw4) hox w.heap.size (.slice ao nb cap) (.slice ao2 nw cap2) _ wr (HBS.out.later HBwr.out.size (fun k h1 _ => HBwr.out.block k h1)).low9 (HWS.out.later HBwr.out.size (fun k h1 _ => HBwr.out.block k h1)).low9 (HTZ.out.below HBwr.out h1z) (by rw [← HFL.out.1, ← HFL.out.2]; exact HXwr.out) HNUM.out).mono ?_
                rintro e w8 ⟨rfl, hb⟩
                dsimp only
                have HNUM8 := Lib.hid (HNUM.out.later hb.size (fun k h _ => hb.block k h)).low9
                have HPV8 := Lib.hid (HPVr.out.later hb.size (fun k h _ => hb.block k h)).low9
                have HMP8 := Lib.hid ((hb.block _ (lt_of_block HMP.out)).trans HMP.out)
                have HXw8 := Lib.hid ((hb.block _ (lt_of_block HXwr.out)).trans HXwr.out)
                have HBw8 := Lib.hid (HBwr.out.trans (hb.mono HBwr.out.size))
                clear hb
                clear hox
                cases hgo : goodD j own with
                | false =>
                  clear hgo
                  go_wp2_with fail
                  refine (lawake_any _ (HTZ.out.below HBw8.out h1z)).mono ?_
                  rintro e w9 ⟨rfl, hb9⟩
                  dsimp only
                  have HB9 := Lib.hid (HBw8.out.trans (hb9.mono HBw8.out.size))
                  clear hb9
                  go_wp2_with fail
                  go_ret
                  exact ⟨rfl, HB9.out⟩
                | true =>
                  have hmi := HL2.out.2.2.2.2 own (by rw [HOL.out, HNW.out]) HNR.out.grow ((goodD_iff j own).1 hgo)
                  rw [HNR.out.many, ← HM.out] at hmi
                  have HMI := Lib.hid hmi
                  have hsm : ¬ (sd.length : Int) < (m : Int) := by omega
                  have hsm2 : ¬ sd.length < m := by omega
                  have hlen := len_seen mb sd w8 HMP8.out
                  clear hmi hgo
                  go_wp2_with fail
                  clear hlen hsm hsm2
                  go_loopw [158] (fun iv wr => ∃ i : Nat, i ≤ nw ∧ iv = .int .i64 i ∧ Below w8.heap.size w8 wr ∧ (sd.length = m → ∀ q (h : q < own.length) (h' : q < l2.length), q < i → own[q] = l2[q])) (fun iv _ => nw - (intOf iv).toNat)
                  case atStart => exact ⟨0, Nat.zero_le _, rfl, Below.refl _ _, fun _ q _ _ h => absurd h (by omega)⟩
                  case round =>
                    obtain ⟨i, hi, rfl, hb, heq⟩ := hrel
                    have HEQ := Lib.hid heq
                    have HB8z := Lib.hid hb
                    have HBwr := Lib.hid (HBw8.out.trans (hb.mono HBw8.out.size))
                    have HPVz := Lib.hid (HPV8.out.later hb.size (fun k h _ => hb.block k h)).low9
                    have HNUMz := Lib.hid (HNUM8.out.later hb.size (fun k h _ => hb.block k h)).low9
                    have HMPz := Lib.hid ((hb.block _ (lt_of_block HMP8.out)).trans HMP8.out)
                    clear heq hb
                    by_cases hlt : i < nw
                    · have hw : IntKind.i64.wrap ((i : Int) + 1) = ((i + 1 : Nat) : Int) := by rw [IntWalk.i64_in _ (by omega)]; omega
                      have hlti : (i : Int) < (nw : Int) := by omega
                      have hi0 : 0 ≤ (i : Int) := by omega
                      have hl2 : i < own.length := by rw [HOL.out]; exact hlt
                      have hl1 : i < l2.length := by rw [HL2.out.1, ← HNW.out]; exact hlt
                      obtain ⟨a9, c9, e9, _, _, hel⟩ := HNUMz.out
                      injection e9 with e1 e2 e3
                      obtain ⟨ob, oo, hqe, _, _, e6⟩ := hel i (by rw [List.length_map]; exact hl2)
                      rw [List.getElem_map] at e6
                      rw [hqe] at e1
                      subst e1
                      clear hel e2 e3 hqe
                      obtain ⟨a10, c10, e10, _, _, hel⟩ := HPVz.out
                      injection e10 with e1 e2 e3
                      obtain ⟨qb, qo, hoe, _, _, e7⟩ := hel i (by rw [List.length_map]; exact hl1)
                      rw [List.getElem_map] at e7
                      rw [hoe] at e1
                      subst e1
                      clear hel e2 e3 hoe
                      obtain ⟨x2, hx2⟩ : ∃ y, y = own[i] := ⟨_, rfl⟩
                      obtain ⟨x1, hx1⟩ : ∃ y, y = l2[i] := ⟨_, rfl⟩
                      rw [← hx2] at e6
                      rw [← hx1] at e7
                      have HX21 := Lib.hid (And.intro hx2 hx1)
                      clear hx2 hx1
                      go_upto_region 43 with fail
                      have hS0 : SQ ob oo qb qo i mb x2 x1 sd wr := ⟨e6, e7, HMPz.out⟩
                      have HSQ := Lib.hid hS0
                      clear hS0 e6 e7
                      refine wp_region_held_drew (S := SQ ob oo qb qo i mb x2 x1 sd) (by kernel_rfl) (HSQ.out.below (Below.refl _ _).drew) fun hS => ?_
                      obtain ⟨D, hD⟩ : ∃ D, D = World.drew wr := ⟨_, rfl⟩
                      have hAD : Below wr.heap.size wr D := by rw [hD]; exact (Below.refl _ _).drew
                      rw [← hD] at hS ⊢
                      have HB8D := Lib.hid (HB8z.out.trans (hAD.mono HB8z.out.size))
                      have HBD := Lib.hid (HBwr.out.trans (hAD.mono HBwr.out.size))
                      clear hD hAD
                      refine wpAnyH_take (i := 0) (v := ?_) rfl (by kernel_rfl) (by kernel_rfl) (by kernel_rfl) (fun _ _ _ h => h) (Or.inl ⟨by rfl, ?_⟩) hS ?_
                      rotate_left
                      · (intro W hSw; obtain ⟨q0, q1, q2⟩ := hSw; have q3 := len_seen mb sd W q2; go_simp; try with_reducible rfl)
                      try simp only [List.getElem_toArray, List.getElem_cons_succ, List.getElem_cons_zero, Act.put, List.setIfInBounds_toArray, List.set_cons_zero, List.set_cons_succ]
                      refine wpAnyH_take (i := 1) (v := ?_) rfl (by kernel_rfl) (by kernel_rfl) (by kernel_rfl) (fun _ _ _ h => h) (Or.inl ⟨by rfl, ?_⟩) hS ?_
                      rotate_left
                      · (intro W hSw; obtain ⟨q0, q1, q2⟩ := hSw; have q3 := len_seen mb sd W q2; go_simp; try with_reducible rfl)
                      try simp only [List.getElem_toArray, List.getElem_cons_succ, List.getElem_cons_zero, Act.put, List.setIfInBounds_toArray, List.set_cons_zero, List.set_cons_succ]
                      refine wpAnyH_take (i := 2) (v := ?_) rfl (by kernel_rfl) (by kernel_rfl) (by kernel_rfl) (fun _ _ _ h => h) (Or.inl ⟨by rfl, ?_⟩) hS ?_
                      rotate_left
                      · (intro W hSw; obtain ⟨q0, q1, q2⟩ := hSw; have q3 := len_seen mb sd W q2; go_simp; try with_reducible rfl)
                      try simp only [List.getElem_toArray, List.getElem_cons_succ, List.getElem_cons_zero, Act.put, List.setIfInBounds_toArray, List.set_cons_zero, List.set_cons_succ]
                      by_cases hk : sd.length = m
                      · have hkb2 : ((sd.length : Int) == (m : Int)) = true := by rw [beq_iff_eq]; omega
                        refine wpAnyH_take (i := 3) (v := ?_) rfl (by kernel_rfl) (by kernel_rfl) (by kernel_rfl) (fun _ _ _ h => h) (Or.inl ⟨by rfl, ?_⟩) hS ?_
                        rotate_left
                        · (intro W hSw; obtain ⟨q0, q1, q2⟩ := hSw; have q3 := len_seen mb sd W q2; go_simp; try with_reducible rfl)
                        try simp only [List.getElem_toArray, List.getElem_cons_succ, List.getElem_cons_zero, Act.put, List.setIfInBounds_toArray, List.set_cons_zero, List.set_cons_succ]
                        refine wpAnyH_take (i := 4) (v := ?_) rfl (by kernel_rfl) (by kernel_rfl) (by kernel_rfl) (fun _ _ _ h => h) (Or.inl ⟨by rfl, ?_⟩) hS ?_
                        rotate_left
                        · (intro W hSw; obtain ⟨q0, q1, q2⟩ := hSw; have q3 := len_seen mb sd W q2; go_simp; try with_reducible rfl)
                        try simp only [List.getElem_toArray, List.getElem_cons_succ, List.getElem_cons_zero, Act.put, List.setIfInBounds_toArray, List.set_cons_zero, List.set_cons_succ]
                        refine wpAnyH_take (i := 5) (v := ?_) rfl (by kernel_rfl) (by kernel_rfl) (by kernel_rfl) (fun _ _ _ h => h) (Or.inl ⟨by rfl, ?_⟩) hS ?_
                        rotate_left
                        · (intro W hSw; obtain ⟨q0, q1, q2⟩ := hSw; have q3 := len_seen mb sd W q2; go_simp; try with_reducible rfl)
                        try simp only [List.getElem_toArray, List.getElem_cons_succ, List.getElem_cons_zero, Act.put, List.setIfInBounds_toArray, List.set_cons_zero, List.set_cons_succ]
                        refine wpAnyH_take (i := 6) (v := ?_) rfl (by kernel_rfl) (by kernel_rfl) (by kernel_rfl) (fun _ _ _ h => h) (Or.inl ⟨by rfl, ?_⟩) hS ?_
                        rotate_left
                        · (intro W hSw; obtain ⟨q0, q1, q2⟩ := hSw; have q3 := len_seen mb sd W q2; go_simp; try with_reducible rfl)
                        try simp only [List.getElem_toArray, List.getElem_cons_succ, List.getElem_cons_zero, Act.put, List.setIfInBounds_toArray, List.set_cons_zero, List.set_cons_succ]
                        refine wpAnyH_take (i := 7) (v := ?_) rfl (by kernel_rfl) (by kernel_rfl) (by kernel_rfl) (fun _ _ _ h => h) (Or.inl ⟨by rfl, ?_⟩) hS ?_
                        rotate_left
                        · (intro W hSw; obtain ⟨q0, q1, q2⟩ := hSw; have q3 := len_seen mb sd W q2; go_simp; try with_reducible rfl)
                        try simp only [List.getElem_toArray, List.getElem_cons_succ, List.getElem_cons_zero, Act.put, List.setIfInBounds_toArray, List.set_cons_zero, List.set_cons_succ]
                        refine wpAnyH_take (i := 8) (v := ?_) rfl (by kernel_rfl) (by kernel_rfl) (by kernel_rfl) (fun _ _ _ h => h) (Or.inl ⟨by rfl, ?_⟩) hS ?_
                        rotate_left
                        · (intro W hSw; obtain ⟨q0, q1, q2⟩ := hSw; have q3 := len_seen mb sd W q2; go_simp; try with_reducible rfl)
                        try simp only [List.getElem_toArray, List.getElem_cons_succ, List.getElem_cons_zero, Act.put, List.setIfInBounds_toArray, List.set_cons_zero, List.set_cons_succ]
                        refine wpAnyH_take (i := 9) (v := ?_) rfl (by kernel_rfl) (by kernel_rfl) (by kernel_rfl) (fun _ _ _ h => h) (Or.inl ⟨by rfl, ?_⟩) hS ?_
                        rotate_left
                        · (intro W hSw; obtain ⟨q0, q1, q2⟩ := hSw; have q3 := len_seen mb sd W q2; go_simp; try with_reducible rfl)
                        try simp only [List.getElem_toArray, List.getElem_cons_succ, List.getElem_cons_zero, Act.put, List.setIfInBounds_toArray, List.set_cons_zero, List.set_cons_succ]
                        refine wpAnyH_take (i := 10) (v := ?_) rfl (by kernel_rfl) (by kernel_rfl) (by kernel_rfl) (fun _ _ _ h => h) (Or.inl ⟨by rfl, ?_⟩) hS ?_
                        rotate_left
                        · (intro W hSw; obtain ⟨q0, q1, q2⟩ := hSw; have q3 := len_seen mb sd W q2; go_simp; try with_reducible rfl)
                        try simp only [List.getElem_toArray, List.getElem_cons_succ, List.getElem_cons_zero, Act.put, List.setIfInBounds_toArray, List.set_cons_zero, List.set_cons_succ]
                        refine wpAnyH_take (i := 11) (v := ?_) rfl (by kernel_rfl) (by kernel_rfl) (by kernel_rfl) (fun _ _ _ h => h) (Or.inl ⟨by rfl, ?_⟩) hS ?_
                        rotate_left
                        · (intro W hSw; obtain ⟨q0, q1, q2⟩ := hSw; have q3 := len_seen mb sd W q2; go_simp; try with_reducible rfl)
                        try simp only [List.getElem_toArray, List.getElem_cons_succ, List.getElem_cons_zero, Act.put, List.setIfInBounds_toArray, List.set_cons_zero, List.set_cons_succ]
                        refine wpAnyH_take (i := 12) (v := ?_) rfl (by kernel_rfl) (by kernel_rfl) (by kernel_rfl) (fun _ _ _ h => h) (Or.inl ⟨by rfl, ?_⟩) hS ?_
                        rotate_left
                        · (intro W hSw; obtain ⟨q0, q1, q2⟩ := hSw; have q3 := len_seen mb sd W q2; go_simp; try with_reducible rfl)
                        try simp only [List.getElem_toArray, List.getElem_cons_succ, List.getElem_cons_zero, Act.put, List.setIfInBounds_toArray, List.set_cons_zero, List.set_cons_succ]
                        by_cases hne : x2 = x1
                        · have hne2 : ((x2 : Int) != (x1 : Int)) = false := by rw [bne_eq_false_iff_eq]; omega
                          refine wpAnyH_take (i := 13) (v := ?_) rfl (by kernel_rfl) (by kernel_rfl) (by kernel_rfl) (fun _ _ _ h => h) (Or.inl ⟨by rfl, ?_⟩) hS ?_
                          rotate_left
                          · (intro W hSw; obtain ⟨q0, q1, q2⟩ := hSw; have q3 := len_seen mb sd W q2; go_simp; try with_reducible rfl)
                          try simp only [List.getElem_toArray, List.getElem_cons_succ, List.getElem_cons_zero, Act.put, List.setIfInBounds_toArray, List.set_cons_zero, List.set_cons_succ]
                          refine wpAnyH_take (i := 14) (v := ?_) rfl (by kernel_rfl) (by kernel_rfl) (by kernel_rfl) (fun _ _ _ h => h) (Or.inl ⟨by rfl, ?_⟩) hS ?_
                          rotate_left
                          · (intro W hSw; obtain ⟨q0, q1, q2⟩ := hSw; have q3 := len_seen mb sd W q2; go_simp; try with_reducible rfl)
                          try simp only [List.getElem_toArray, List.getElem_cons_succ, List.getElem_cons_zero, Act.put, List.setIfInBounds_toArray, List.set_cons_zero, List.set_cons_succ]
                          refine wpAnyH_done (by kernel_rfl) ?_ _
                          try simp only [List.getElem_toArray, List.getElem_cons_succ, List.getElem_cons_zero, Act.put, List.setIfInBounds_toArray, List.set_cons_zero, List.set_cons_succ]
                          clear hS
                          go_wp2_with fail
                          refine ⟨⟨i + 1, hlt, by push_cast; rfl, HB8D.out, fun hk9 q h h' hq => ?_⟩, by simp [intOf]; omega⟩
                          by_cases hqi : q < i
                          · exact HEQ.out hk9 q h h' hqi
                          · obtain rfl : q = i := by omega
                            rw [← HX21.out.1, ← HX21.out.2]; exact hne
                        · have hne2 : ((x2 : Int) != (x1 : Int)) = true := by rw [bne_iff_ne]; omega
                          refine wpAnyH_take (i := 13) (v := ?_) rfl (by kernel_rfl) (by kernel_rfl) (by kernel_rfl) (fun _ _ _ h => h) (Or.inl ⟨by rfl, ?_⟩) hS ?_
                          rotate_left
                          · (intro W hSw; obtain ⟨q0, q1, q2⟩ := hSw; have q3 := len_seen mb sd W q2; go_simp; try with_reducible rfl)
                          try simp only [List.getElem_toArray, List.getElem_cons_succ, List.getElem_cons_zero, Act.put, List.setIfInBounds_toArray, List.set_cons_zero, List.set_cons_succ]
                          refine wpAnyH_take (i := 14) (v := ?_) rfl (by kernel_rfl) (by kernel_rfl) (by kernel_rfl) (fun _ _ _ h => h) (Or.inl ⟨by rfl, ?_⟩) hS ?_
                          rotate_left
                          · (intro W hSw; obtain ⟨q0, q1, q2⟩ := hSw; have q3 := len_seen mb sd W q2; go_simp; try with_reducible rfl)
                          try simp only [List.getElem_toArray, List.getElem_cons_succ, List.getElem_cons_zero, Act.put, List.setIfInBounds_toArray, List.set_cons_zero, List.set_cons_succ]
                          refine wpAnyH_done (by kernel_rfl) ?_ _
                          try simp only [List.getElem_toArray, List.getElem_cons_succ, List.getElem_cons_zero, Act.put, List.setIfInBounds_toArray, List.set_cons_zero, List.set_cons_succ]
                          have hle := lex_at l2 own (HMI.out.2 hk) i hl1 hl2 (fun q h h' hq => HEQ.out hk q h' h hq)
                          rw [← HX21.out.1, ← HX21.out.2] at hle
                          have hgt : (x1 : Int) < (x2 : Int) := by omega
                          have hgt2 : x1 < x2 := by omega
                          have HSD := Lib.hid hS
                          clear hS hle
                          go_upto_region 44 with fail
                          refine wp_region_held_drew (S := SQ ob oo qb qo i mb x2 x1 sd) (by kernel_rfl) (HSD.out.below (Below.refl _ _).drew) fun hS => ?_
                          obtain ⟨E, hE⟩ : ∃ E, E = World.drew D := ⟨_, rfl⟩
                          have hAE : Below D.heap.size D E := by rw [hE]; exact (Below.refl _ _).drew
                          rw [← hE] at hS ⊢
                          have HBE := Lib.hid (HBD.out.trans (hAE.mono HBD.out.size))
                          clear hE hAE
                          refine wpAnyH_take (i := 0) (v := ?_) rfl (by kernel_rfl) (by kernel_rfl) (by kernel_rfl) (fun _ _ _ h => h) (Or.inl ⟨by rfl, ?_⟩) hS ?_
                          rotate_left
                          · (intro W hSw; obtain ⟨q0, q1, q2⟩ := hSw; have q3 := len_seen mb sd W q2; go_simp; try with_reducible rfl)
                          try simp only [List.getElem_toArray, List.getElem_cons_succ, List.getElem_cons_zero, Act.put, List.setIfInBounds_toArray, List.set_cons_zero, List.set_cons_succ]
                          refine wpAnyH_take (i := 1) (v := ?_) rfl (by kernel_rfl) (by kernel_rfl) (by kernel_rfl) (fun _ _ _ h => h) (Or.inl ⟨by rfl, ?_⟩) hS ?_
                          rotate_left
                          · (intro W hSw; obtain ⟨q0, q1, q2⟩ := hSw; have q3 := len_seen mb sd W q2; go_simp; try with_reducible rfl)
                          try simp only [List.getElem_toArray, List.getElem_cons_succ, List.getElem_cons_zero, Act.put, List.setIfInBounds_toArray, List.set_cons_zero, List.set_cons_succ]
                          refine wpAnyH_take (i := 2) (v := ?_) rfl (by kernel_rfl) (by kernel_rfl) (by kernel_rfl) (fun _ _ _ h => h) (Or.inl ⟨by rfl, ?_⟩) hS ?_
                          rotate_left
                          · (intro W hSw; obtain ⟨q0, q1, q2⟩ := hSw; have q3 := len_seen mb sd W q2; go_simp; try with_reducible rfl)
                          try simp only [List.getElem_toArray, List.getElem_cons_succ, List.getElem_cons_zero, Act.put, List.setIfInBounds_toArray, List.set_cons_zero, List.set_cons_succ]
                          refine wpAnyH_take (i := 3) (v := ?_) rfl (by kernel_rfl) (by kernel_rfl) (by kernel_rfl) (fun _ _ _ h => h) (Or.inl ⟨by rfl, ?_⟩) hS ?_
                          rotate_left
                          · (intro W hSw; obtain ⟨q0, q1, q2⟩ := hSw; have q3 := len_seen mb sd W q2; go_simp; try with_reducible rfl)
                          try simp only [List.getElem_toArray, List.getElem_cons_succ, List.getElem_cons_zero, Act.put, List.setIfInBounds_toArray, List.set_cons_zero, List.set_cons_succ]
                          refine wpAnyH_take (i := 4) (v := ?_) rfl (by kernel_rfl) (by kernel_rfl) (by kernel_rfl) (fun _ _ _ h => h) (Or.inl ⟨by rfl, ?_⟩) hS ?_
                          rotate_left
                          · (intro W hSw; obtain ⟨q0, q1, q2⟩ := hSw; have q3 := len_seen mb sd W q2; go_simp; try with_reducible rfl)
                          try simp only [List.getElem_toArray, List.getElem_cons_succ, List.getElem_cons_zero, Act.put, List.setIfInBounds_toArray, List.set_cons_zero, List.set_cons_succ]
                          refine wpAnyH_take (i := 5) (v := ?_) rfl (by kernel_rfl) (by kernel_rfl) (by kernel_rfl) (fun _ _ _ h => h) (Or.inl ⟨by rfl, ?_⟩) hS ?_
                          rotate_left
                          · (intro W hSw; obtain ⟨q0, q1, q2⟩ := hSw; have q3 := len_seen mb sd W q2; go_simp; try with_reducible rfl)
                          try simp only [List.getElem_toArray, List.getElem_cons_succ, List.getElem_cons_zero, Act.put, List.setIfInBounds_toArray, List.set_cons_zero, List.set_cons_succ]
                          refine wpAnyH_take (i := 6) (v := ?_) rfl (by kernel_rfl) (by kernel_rfl) (by kernel_rfl) (fun _ _ _ h => h) (Or.inl ⟨by rfl, ?_⟩) hS ?_
                          rotate_left
                          · (intro W hSw; obtain ⟨q0, q1, q2⟩ := hSw; have q3 := len_seen mb sd W q2; go_simp; try with_reducible rfl)
                          try simp only [List.getElem_toArray, List.getElem_cons_succ, List.getElem_cons_zero, Act.put, List.setIfInBounds_toArray, List.set_cons_zero, List.set_cons_succ]
                          refine wpAnyH_take (i := 7) (v := ?_) rfl (by kernel_rfl) (by kernel_rfl) (by kernel_rfl) (fun _ _ _ h => h) (Or.inl ⟨by rfl, ?_⟩) hS ?_
                          rotate_left
                          · (intro W hSw; obtain ⟨q0, q1, q2⟩ := hSw; have q3 := len_seen mb sd W q2; go_simp; try with_reducible rfl)
                          try simp only [List.getElem_toArray, List.getElem_cons_succ, List.getElem_cons_zero, Act.put, List.setIfInBounds_toArray, List.set_cons_zero, List.set_cons_succ]
                          refine wpAnyH_take (i := 8) (v := ?_) rfl (by kernel_rfl) (by kernel_rfl) (by kernel_rfl) (fun _ _ _ h => h) (Or.inl ⟨by rfl, ?_⟩) hS ?_
                          rotate_left
                          · (intro W hSw; obtain ⟨q0, q1, q2⟩ := hSw; have q3 := len_seen mb sd W q2; go_simp; try with_reducible rfl)
                          try simp only [List.getElem_toArray, List.getElem_cons_succ, List.getElem_cons_zero, Act.put, List.setIfInBounds_toArray, List.set_cons_zero, List.set_cons_succ]
                          refine wpAnyH_take (i := 9) (v := ?_) rfl (by kernel_rfl) (by kernel_rfl) (by kernel_rfl) (fun _ _ _ h => h) (Or.inl ⟨by rfl, ?_⟩) hS ?_
                          rotate_left
                          · (intro W hSw; obtain ⟨q0, q1, q2⟩ := hSw; have q3 := len_seen mb sd W q2; go_simp; try with_reducible rfl)
                          try simp only [List.getElem_toArray, List.getElem_cons_succ, List.getElem_cons_zero, Act.put, List.setIfInBounds_toArray, List.set_cons_zero, List.set_cons_succ]
                          refine wpAnyH_call (k := 10) (by kernel_rfl) rfl rfl (f := 27) (args := #[]) (by simp [execOp, go_sem, Act.eval, Act.put]) ?_
                          refine (lawake_any _ (HTZ.out.below HBE.out h1z)).mono ?_
                          rintro e w9 ⟨rfl, hb9⟩
                          dsimp only
                          have HB9 := Lib.hid (HBE.out.trans (hb9.mono HBE.out.size))
                          have hS9 := hS.below hb9
                          clear hb9 hS
                          refine ⟨hS9, ?_⟩
                          have hS := hS9
                          clear hS9
                          try simp only [List.getElem_toArray, List.getElem_cons_succ, List.getElem_cons_zero, Act.put, List.setIfInBounds_toArray, List.set_cons_zero, List.set_cons_succ]
                          refine wpAnyH_take (i := 11) (v := ?_) rfl (by kernel_rfl) (by kernel_rfl) (by kernel_rfl) (fun _ _ _ h => h) (Or.inl ⟨by rfl, ?_⟩) hS ?_
                          rotate_left
                          · (intro W hSw; obtain ⟨q0, q1, q2⟩ := hSw; have q3 := len_seen mb sd W q2; go_simp; try with_reducible rfl)
                          try simp only [List.getElem_toArray, List.getElem_cons_succ, List.getElem_cons_zero, Act.put, List.setIfInBounds_toArray, List.set_cons_zero, List.set_cons_succ]
                          refine wpAnyH_take (i := 12) (v := ?_) rfl (by kernel_rfl) (by kernel_rfl) (by kernel_rfl) (fun _ _ _ h => h) (Or.inl ⟨by rfl, ?_⟩) hS ?_
                          rotate_left
                          · (intro W hSw; obtain ⟨q0, q1, q2⟩ := hSw; have q3 := len_seen mb sd W q2; go_simp; try with_reducible rfl)
                          try simp only [List.getElem_toArray, List.getElem_cons_succ, List.getElem_cons_zero, Act.put, List.setIfInBounds_toArray, List.set_cons_zero, List.set_cons_succ]
                          refine wpAnyH_done (by kernel_rfl) ?_ _
                          try simp only [List.getElem_toArray, List.getElem_cons_succ, List.getElem_cons_zero, Act.put, List.setIfInBounds_toArray, List.set_cons_zero, List.set_cons_succ]
                          clear hS
                          go_wp2_with fail
                          go_ret
                          exact ⟨rfl, HB9.out⟩
                      · have hkb2 : ((sd.length : Int) == (m : Int)) = false := by rw [beq_eq_false_iff_ne]; omega
                        refine wpAnyH_take (i := 3) (v := ?_) rfl (by kernel_rfl) (by kernel_rfl) (by kernel_rfl) (fun _ _ _ h => h) (Or.inl ⟨by rfl, ?_⟩) hS ?_
                        rotate_left
                        · (intro W hSw; obtain ⟨q0, q1, q2⟩ := hSw; have q3 := len_seen mb sd W q2; go_simp; try with_reducible rfl)
                        try simp only [List.getElem_toArray, List.getElem_cons_succ, List.getElem_cons_zero, Act.put, List.setIfInBounds_toArray, List.set_cons_zero, List.set_cons_succ]
                        refine wpAnyH_take (i := 4) (v := ?_) rfl (by kernel_rfl) (by kernel_rfl) (by kernel_rfl) (fun _ _ _ h => h) (Or.inl ⟨by rfl, ?_⟩) hS ?_
                        rotate_left
                        · (intro W hSw; obtain ⟨q0, q1, q2⟩ := hSw; have q3 := len_seen mb sd W q2; go_simp; try with_reducible rfl)
                        try simp only [List.getElem_toArray, List.getElem_cons_succ, List.getElem_cons_zero, Act.put, List.setIfInBounds_toArray, List.set_cons_zero, List.set_cons_succ]
                        refine wpAnyH_take (i := 5) (v := undef) rfl (by kernel_rfl) (by kernel_rfl) (by kernel_rfl) (fun _ _ _ h => h) (Or.inr ⟨by rfl, rfl⟩) hS ?_
                        try simp only [List.getElem_toArray, List.getElem_cons_succ, List.getElem_cons_zero, Act.put, List.setIfInBounds_toArray, List.set_cons_zero, List.set_cons_succ]
                        refine wpAnyH_take (i := 6) (v := undef) rfl (by kernel_rfl) (by kernel_rfl) (by kernel_rfl) (fun _ _ _ h => h) (Or.inr ⟨by rfl, rfl⟩) hS ?_
                        try simp only [List.getElem_toArray, List.getElem_cons_succ, List.getElem_cons_zero, Act.put, List.setIfInBounds_toArray, List.set_cons_zero, List.set_cons_succ]
                        refine wpAnyH_take (i := 7) (v := undef) rfl (by kernel_rfl) (by kernel_rfl) (by kernel_rfl) (fun _ _ _ h => h) (Or.inr ⟨by rfl, rfl⟩) hS ?_
                        try simp only [List.getElem_toArray, List.getElem_cons_succ, List.getElem_cons_zero, Act.put, List.setIfInBounds_toArray, List.set_cons_zero, List.set_cons_succ]
                        refine wpAnyH_take (i := 8) (v := undef) rfl (by kernel_rfl) (by kernel_rfl) (by kernel_rfl) (fun _ _ _ h => h) (Or.inr ⟨by rfl, rfl⟩) hS ?_
                        try simp only [List.getElem_toArray, List.getElem_cons_succ, List.getElem_cons_zero, Act.put, List.setIfInBounds_toArray, List.set_cons_zero, List.set_cons_succ]
                        refine wpAnyH_take (i := 9) (v := undef) rfl (by kernel_rfl) (by kernel_rfl) (by kernel_rfl) (fun _ _ _ h => h) (Or.inr ⟨by rfl, rfl⟩) hS ?_
                        try simp only [List.getElem_toArray, List.getElem_cons_succ, List.getElem_cons_zero, Act.put, List.setIfInBounds_toArray, List.set_cons_zero, List.set_cons_succ]
                        refine wpAnyH_take (i := 10) (v := undef) rfl (by kernel_rfl) (by kernel_rfl) (by kernel_rfl) (fun _ _ _ h => h) (Or.inr ⟨by rfl, rfl⟩) hS ?_
                        try simp only [List.getElem_toArray, List.getElem_cons_succ, List.getElem_cons_zero, Act.put, List.setIfInBounds_toArray, List.set_cons_zero, List.set_cons_succ]
                        refine wpAnyH_take (i := 11) (v := undef) rfl (by kernel_rfl) (by kernel_rfl) (by kernel_rfl) (fun _ _ _ h => h) (Or.inr ⟨by rfl, rfl⟩) hS ?_
                        try simp only [List.getElem_toArray, List.getElem_cons_succ, List.getElem_cons_zero, Act.put, List.setIfInBounds_toArray, List.set_cons_zero, List.set_cons_succ]
                        refine wpAnyH_take (i := 12) (v := undef) rfl (by kernel_rfl) (by kernel_rfl) (by kernel_rfl) (fun _ _ _ h => h) (Or.inr ⟨by rfl, rfl⟩) hS ?_
                        try simp only [List.getElem_toArray, List.getElem_cons_succ, List.getElem_cons_zero, Act.put, List.setIfInBounds_toArray, List.set_cons_zero, List.set_cons_succ]
                        refine wpAnyH_take (i := 13) (v := undef) rfl (by kernel_rfl) (by kernel_rfl) (by kernel_rfl) (fun _ _ _ h => h) (Or.inr ⟨by rfl, rfl⟩) hS ?_
                        try simp only [List.getElem_toArray, List.getElem_cons_succ, List.getElem_cons_zero, Act.put, List.setIfInBounds_toArray, List.set_cons_zero, List.set_cons_succ]
                        refine wpAnyH_take (i := 14) (v := ?_) rfl (by kernel_rfl) (by kernel_rfl) (by kernel_rfl) (fun _ _ _ h => h) (Or.inl ⟨by rfl, ?_⟩) hS ?_
                        rotate_left
                        · (intro W hSw; obtain ⟨q0, q1, q2⟩ := hSw; have q3 := len_seen mb sd W q2; go_simp; try with_reducible rfl)
                        try simp only [List.getElem_toArray, List.getElem_cons_succ, List.getElem_cons_zero, Act.put, List.setIfInBounds_toArray, List.set_cons_zero, List.set_cons_succ]
                        refine wpAnyH_done (by kernel_rfl) ?_ _
                        try simp only [List.getElem_toArray, List.getElem_cons_succ, List.getElem_cons_zero, Act.put, List.setIfInBounds_toArray, List.set_cons_zero, List.set_cons_succ]
                        clear hS
                        go_wp2_with fail
                        exact ⟨⟨i + 1, hlt, by push_cast; rfl, HB8D.out, fun hk9 => absurd hk9 hk⟩, by simp [intOf]; omega⟩
                    · have hin : nw = i := by omega
                      subst hin
                      have hlti : ¬ (nw : Int) < (nw : Int) := by omega
                      clear hlt
                      go_wp2_with fail
                      refine (lawake_any _ (HTZ.out.below HBwr.out h1z)).mono ?_
                      rintro e w9 ⟨rfl, hb9⟩
                      dsimp only
                      have HB9 := Lib.hid (HBwr.out.trans (hb9.mono HBwr.out.size))
                      clear hb9
                      go_wp2_with fail
                      go_ret
                      exact ⟨rfl, HB9.out⟩
          · have hn0i : 0 < nw := by omega
            have hone := rounds_one HV.out HL2.out.1 (by rw [← HNW.out]; omega) HL2.out.2.2.2.1 (fun own h1 h2 h3 => (HL2.out.2.2.2.2 own h1 h2 h3).1)
            rw [← HM.out, ← HEV.out] at hone
            have hone2 : ((m : Int) == 1) = canD j al := by
              rw [← hone, Bool.eq_iff_iff, beq_iff_eq, decide_eq_true_eq]
              omega
            obtain ⟨cb, hcb⟩ : ∃ y, y = canD j al := ⟨_, rfl⟩
            rw [← hcb] at hone hone2
            have hone3 : (m == 1) = cb := by rw [← hone]; rfl
            clear hn0
            go_wp2_with fail
            have hc := lcan_any j HV.out al (by have : 2 ^ nw ≤ 16 := (Nat.pow_le_pow_right (by decide) hnw4 : _ ≤ 2 ^ 4); omega) (.slice ao nb cap) (.slice ao2 nw cap2) w5 (HBS.out.later HBw5.out.size (fun k h1 _ => HBw5.out.block k h1)).low9 (HWS.out.later HBw5.out.size (fun k h1 _ => HBw5.out.block k h1)).low9 (HTZ.out.below HBw5.out h1z)
            rw [HJV.out, ← hcb] at hc
            refine hc.mono ?_
            rintro e w6 ⟨rfl, hb⟩
            have hcq : canD j al = cb := hcb.symm
            clear hc hcb c0 c1 c2 c3
            dsimp only
            have HPV5 := Lib.hid (HPV5.out.later hb.size (fun k h _ => hb.block k h)).low9
            have HXw6 := Lib.hid ((hb.block _ (lt_of_block HXw5.out)).trans HXw5.out)
            have HBw6 := Lib.hid (HBw5.out.trans (hb.mono HBw5.out.size))
            clear hb
            have c0 : w6.cell? ⟨w.heap.size, 0, none⟩ = some (.slice ao nb cap) := by rw [cell_of_row _ _ _ _ _ _ HXw6.out]; rfl
            have c1 : w6.cell? ⟨w.heap.size, 1, none⟩ = some (.int .i64 fl) := by rw [cell_of_row _ _ _ _ _ _ HXw6.out]; rfl
            have c2 : w6.cell? ⟨w.heap.size, 2, none⟩ = some (.int .i64 fh) := by rw [cell_of_row _ _ _ _ _ _ HXw6.out]; rfl
            have c3 : w6.cell? ⟨w.heap.size, 3, none⟩ = some (.slice ao2 nw cap2) := by rw [cell_of_row _ _ _ _ _ _ HXw6.out]; rfl
            go_upto_region 23 with fail
            clear hn0i hone hone2 hone3 hcq
            go_upto_region 25 with fail
            rw [run_makeMap]
            go_upto_region 25 with fail
            obtain ⟨mb, hmb⟩ : ∃ y, y = w6.heap.size := ⟨_, rfl⟩
            refine wp_name (fun X => X.heap[mb]? = some (.map #[] 0) ∧ Below w6.heap.size w6 X) ⟨heap_alloc_at _ _ _ hmb, Below.alloc' _ _⟩ ?_
            rintro wm ⟨hmp, hbm⟩
            rw [← hmb]
            have HMP0 := Lib.hid (show wm.heap[mb]? = some (seenM []) from hmp)
            have HMB := Lib.hid hmb
            have HBM := Lib.hid hbm
            have HPVm := Lib.hid (HPV5.out.later hbm.size (fun k h _ => hbm.block k h)).low9
            have HXwm := Lib.hid ((hbm.block _ (lt_of_block HXw6.out)).trans HXw6.out)
            have HBwm := Lib.hid (HBw6.out.trans (hbm.mono HBw6.out.size))
            clear hbm
            clear hmp hmb c0 c1 c2 c3
            go_wp2_with fail
            go_loopw [15, 113] (fun ov iv wr => ∃ (i : Nat) (sd own : List Nat), i ≤ nw ∧ iv = .int .i64 i ∧ own.length = i ∧ NumR sd own ∧ sd.length ≤ i ∧ wr.ownsRow (mb + 1) 3 1 ov i ((own.map fun s : Nat => (s : Int)).map (Value.int .i64)) ∧ wr.heap[mb]? = some (seenM sd) ∧ Below w6.heap.size w6 wr) (fun _ iv _ => nw - (intOf iv).toNat)
            case atStart => exact ⟨0, [], [], Nat.zero_le _, rfl, rfl, NumR.nil, Nat.le_refl _, World.ownsRow_nil _ _ _ _, HMP0.out, HBM.out⟩
            case round =>
              obtain ⟨i, sd, own, hi, rfl, hol, hnr, hsl, hown, hmp, hb⟩ := hrel
              have HOL := Lib.hid hol
              have HNR := Lib.hid hnr
              have HOWN := Lib.hid hown
              have HMP := Lib.hid hmp
              have HBr := Lib.hid hb
              have HXwr := Lib.hid ((hb.block _ (lt_of_block HXw6.out)).trans HXw6.out)
              have HBwr := Lib.hid (HBw6.out.trans (hb.mono HBw6.out.size))
              have HPVr := Lib.hid (HPV5.out.later hb.size (fun k h _ => hb.block k h)).low9
              have hmbl := lt_of_block hmp
              clear hol hnr hown hmp hb
              by_cases hlt : i < nw
              · have hw : IntKind.i64.wrap ((i : Int) + 1) = ((i + 1 : Nat) : Int) := by rw [IntWalk.i64_in _ (by omega)]; omega
                have hlti : (i : Int) < (nw : Int) := by omega
                by_cases hu : nu = 0
                · have hui : ¬ 0 < (nu : Int) := by omega
                  have HU := Lib.hid hu
                  clear hu
                  go_upto_region 31 with fail
                  by_cases hmem : 0 ∈ sd
                  · have hlk : (Instr.lookup 61 (.map (some mb)) (.int .i64 0) true).run Tryd.prog wr = .ok (.tuple #[.int .i64 (sd.idxOf 0 : Nat), .bool true]) wr := look_seen mb sd 0 wr HMP.out hmem
                    have hlk1 : (Instr.lookup 61 (.map (some mb)) (.int .i64 0) false).run Tryd.prog wr = .ok (.int .i64 (sd.idxOf 0 : Nat)) wr := look_seen1 mb sd 0 wr HMP.out hmem
                    have hix := List.idxOf_lt_length_of_mem hmem
                    have HNR2 := Lib.hid (HNR.out.old hmem)
                    obtain ⟨ix, hixe⟩ : ∃ y, y = sd.idxOf 0 := ⟨_, rfl⟩
                    rw [← hixe] at hlk hlk1 hix HNR2
                    clear hixe hmem
                    go_wp2_with (first | (refine wpList_append_here rfl (.tmp 140) (.tmp 144) 32 rfl (mb + 1) 3 1 8 _ underInts infoInt rfl (by decide) u15 i _ rfl (own_block HOWN.out (fun k e => Below.heap_alloc _ _ _ (HOWN.out.lt k e).2)) wr.heap.size 1 #[.int .i64 ix] 3 (0, 0) rfl (heap_alloc_at _ _ _ rfl) rfl (by simp [Value.oneCell']) (by omega) (by decide) (by simp <;> omega) ?_))
                    intro v7 W7 hown7 hg7 hat7
                    have hk7 := keeps_grown hg7
                    have hob : ∀ k, u15.ownBlock = some k → mb + 1 ≤ k := fun k e => (HOWN.out.lt k e).1
                    have hk57 : Keeps (fun k => u15.ownBlock = some k) wr W7 := (Keeps.alloc (fun k => u15.ownBlock = some k) _ _).trans hk7
                    have hm7 := (hk57.block mb (lt_of_block HMP.out) (fun e => by have := hob _ e; omega)).trans HMP.out
                    have hb7 := HBr.out.trans (hk57.below HBr.out.size (fun k h e => by have := hob _ e; have := HMB.out; omega))
                    have H7 := Lib.hid (And.intro hown7 (And.intro hm7 hb7))
                    clear hown7 hg7 hat7 hk7 hob hk57 hm7 hb7
                    go_wp2_with fail
                    refine ⟨⟨i + 1, sd, own ++ [ix], hlt, by push_cast; rfl, by rw [List.length_append, HOL.out]; rfl, HNR2.out, (by omega), by have h7 := H7.out.1; simpa using h7, H7.out.2.1, H7.out.2.2⟩, by simp [intOf]; omega⟩
                  · have hlk : (Instr.lookup 61 (.map (some mb)) (.int .i64 0) true).run Tryd.prog wr = .ok (.tuple #[.int .i64 0, .bool false]) wr := look_new mb sd 0 wr HMP.out hmem
                    have hput : (Instr.mapUpdate 61 (.map (some mb)) (.int .i64 0) (.int .i64 (sd.length : Nat))).run Tryd.prog wr = .ok () (wr.putObj mb (seenM (sd ++ [0]))) := put_seen mb sd 0 wr HMP.out hmem
                    have hlen := len_seen mb sd wr HMP.out
                    have HNR2 := Lib.hid (HNR.out.new hmem)
                    obtain ⟨W2, hW2⟩ : ∃ W, W = wr.putObj mb (seenM (sd ++ [0])) := ⟨_, rfl⟩
                    rw [← hW2] at hput
                    have hk2 : Keeps (fun k => k = mb) wr W2 := by rw [hW2]; exact Keeps.putObj _ _ _ rfl
                    have hm2 : W2.heap[mb]? = some (seenM (sd ++ [0])) := by rw [hW2]; exact World.putObj_heap_same (lt_of_block HMP.out)
                    have hlk1 : (Instr.lookup 61 (.map (some mb)) (.int .i64 0) false).run Tryd.prog W2 = .ok (.int .i64 ((sd ++ [0]).idxOf 0 : Nat)) W2 := look_seen1 mb (sd ++ [0]) 0 W2 hm2 (by simp)
                    have hix : (sd ++ [0]).idxOf 0 = sd.length := by rw [List.idxOf_append, if_neg hmem]; simp
                    rw [hix] at hlk1 HNR2
                    have HM2 := Lib.hid hm2
                    have HOWN2 := Lib.hid (own_block HOWN.out (fun k e => hk2.block k (HOWN.out.lt k e).2 (by have := (HOWN.out.lt k e).1; omega)))
                    have HB2 := Lib.hid (HBr.out.trans (hk2.below HBr.out.size (fun k h e => by have := HMB.out; omega)))
                    have hmbl2 := lt_of_block hm2
                    have HSL := Lib.hid (show (sd ++ [0]).length ≤ i + 1 by rw [List.length_append]; simp; omega)
                    obtain ⟨sn, hsn⟩ : ∃ n, n = sd.length := ⟨_, rfl⟩
                    rw [← hsn] at hput hlk1 hlen HNR2
                    clear hW2 hk2 hm2 hix hmem hsn
                    go_wp2_with (first | (refine wpList_append_here rfl (.tmp 140) (.tmp 144) 32 rfl (mb + 1) 3 1 8 _ underInts infoInt rfl (by decide) u15 i _ rfl (own_block HOWN2.out (fun k e => Below.heap_alloc _ _ _ (HOWN2.out.lt k e).2)) W2.heap.size 1 #[.int .i64 sn] 3 (0, 0) rfl (heap_alloc_at _ _ _ rfl) rfl (by simp [Value.oneCell']) (by omega) (by decide) (by simp <;> omega) ?_))
                    intro v7 W7 hown7 hg7 hat7
                    have hk7 := keeps_grown hg7
                    have hob : ∀ k, u15.ownBlock = some k → mb + 1 ≤ k := fun k e => (HOWN.out.lt k e).1
                    have hk57 : Keeps (fun k => u15.ownBlock = some k) W2 W7 := (Keeps.alloc (fun k => u15.ownBlock = some k) _ _).trans hk7
                    have hm7 := (hk57.block mb (lt_of_block HM2.out) (fun e => by have := hob _ e; omega)).trans HM2.out
                    have hb7 := HB2.out.trans (hk57.below HB2.out.size (fun k h e => by have := hob _ e; have := HMB.out; omega))
                    have H7 := Lib.hid (And.intro hown7 (And.intro hm7 hb7))
                    clear hown7 hg7 hat7 hk7 hob hk57 hm7 hb7
                    go_wp2_with fail
                    refine ⟨⟨i + 1, (sd ++ [0]), own ++ [sn], hlt, by push_cast; rfl, by rw [List.length_append, HOL.out]; rfl, HNR2.out, HSL.out, by have h7 := H7.out.1; simpa using h7, H7.out.2.1, H7.out.2.2⟩, by simp [intOf]; omega⟩
                · have hui : 0 < (nu : Int) := by omega
                  have hzu : ((nu : Int) == 0) = false := by rw [beq_eq_false_iff_ne]; omega
                  have hi0 : 0 ≤ (i : Int) := by omega
                  obtain ⟨r, hr⟩ : ∃ r : Nat, (i : Int) % (nu : Int) = r := ⟨((i : Int) % (nu : Int)).toNat, by have := Int.emod_nonneg (i : Int) (b := (nu : Int)) (by omega); omega⟩
                  have hrl : r < l.length := by have := Int.emod_lt_of_pos (i : Int) (b := (nu : Int)) (by omega); rw [← HNU.out]; omega
                  have hrn : (r : Int) < (nu : Int) := by rw [HNU.out]; omega
                  obtain ⟨a9, c9, e9, _, _, hel⟩ := HUS.out
                  injection e9 with e1 e2 e3
                  subst e1 e3
                  clear e2
                  obtain ⟨⟨u1, u2⟩, b, off, rfl, hbw, _, ec⟩ := hel r hrl
                  have ec := (World.cell?_of_block (w := w) (w' := wr) (a := ⟨b, off + r, none⟩) (HBwr.out.block b hbw)).trans ec
                  obtain ⟨u, hue⟩ : ∃ u, u = l[r] := ⟨_, rfl⟩
                  rw [← hue] at ec u1 u2
                  have hcu : IntKind.i64.wrap u = u := IntWalk.i64_in _ (by omega)
                  clear hu hue hel
                  obtain ⟨k, hk⟩ : ∃ k : Nat, u % 4 = k := ⟨(u % 4).toNat, by have := Int.emod_nonneg u (b := 4) (by omega); omega⟩
                  have hu0 : 0 ≤ u := u1
                  go_upto_region 31 with fail
                  rw [hk]
                  clear hr ec hk
                  by_cases hmem : k ∈ sd
                  · have hlk : (Instr.lookup 61 (.map (some mb)) (.int .i64 (k : Nat)) true).run Tryd.prog wr = .ok (.tuple #[.int .i64 (sd.idxOf k : Nat), .bool true]) wr := look_seen mb sd k wr HMP.out hmem
                    have hlk1 : (Instr.lookup 61 (.map (some mb)) (.int .i64 (k : Nat)) false).run Tryd.prog wr = .ok (.int .i64 (sd.idxOf k : Nat)) wr := look_seen1 mb sd k wr HMP.out hmem
                    have hix := List.idxOf_lt_length_of_mem hmem
                    have HNR2 := Lib.hid (HNR.out.old hmem)
                    obtain ⟨ix, hixe⟩ : ∃ y, y = sd.idxOf k := ⟨_, rfl⟩
                    rw [← hixe] at hlk hlk1 hix HNR2
                    clear hixe hmem
                    go_wp2_with (first | (refine wpList_append_here rfl (.tmp 140) (.tmp 144) 32 rfl (mb + 1) 3 1 8 _ underInts infoInt rfl (by decide) u15 i _ rfl (own_block HOWN.out (fun k e => Below.heap_alloc _ _ _ (HOWN.out.lt k e).2)) wr.heap.size 1 #[.int .i64 ix] 3 (0, 0) rfl (heap_alloc_at _ _ _ rfl) rfl (by simp [Value.oneCell']) (by omega) (by decide) (by simp <;> omega) ?_))
                    intro v7 W7 hown7 hg7 hat7
                    have hk7 := keeps_grown hg7
                    have hob : ∀ k, u15.ownBlock = some k → mb + 1 ≤ k := fun k e => (HOWN.out.lt k e).1
                    have hk57 : Keeps (fun k => u15.ownBlock = some k) wr W7 := (Keeps.alloc (fun k => u15.ownBlock = some k) _ _).trans hk7
                    have hm7 := (hk57.block mb (lt_of_block HMP.out) (fun e => by have := hob _ e; omega)).trans HMP.out
                    have hb7 := HBr.out.trans (hk57.below HBr.out.size (fun k h e => by have := hob _ e; have := HMB.out; omega))
                    have H7 := Lib.hid (And.intro hown7 (And.intro hm7 hb7))
                    clear hown7 hg7 hat7 hk7 hob hk57 hm7 hb7
                    go_wp2_with fail
                    refine ⟨⟨i + 1, sd, own ++ [ix], hlt, by push_cast; rfl, by rw [List.length_append, HOL.out]; rfl, HNR2.out, (by omega), by have h7 := H7.out.1; simpa using h7, H7.out.2.1, H7.out.2.2⟩, by simp [intOf]; omega⟩
                  · have hlk : (Instr.lookup 61 (.map (some mb)) (.int .i64 (k : Nat)) true).run Tryd.prog wr = .ok (.tuple #[.int .i64 0, .bool false]) wr := look_new mb sd k wr HMP.out hmem
                    have hput : (Instr.mapUpdate 61 (.map (some mb)) (.int .i64 (k : Nat)) (.int .i64 (sd.length : Nat))).run Tryd.prog wr = .ok () (wr.putObj mb (seenM (sd ++ [k]))) := put_seen mb sd k wr HMP.out hmem
                    have hlen := len_seen mb sd wr HMP.out
                    have HNR2 := Lib.hid (HNR.out.new hmem)
                    obtain ⟨W2, hW2⟩ : ∃ W, W = wr.putObj mb (seenM (sd ++ [k])) := ⟨_, rfl⟩
                    rw [← hW2] at hput
                    have hk2 : Keeps (fun k => k = mb) wr W2 := by rw [hW2]; exact Keeps.putObj _ _ _ rfl
                    have hm2 : W2.heap[mb]? = some (seenM (sd ++ [k])) := by rw [hW2]; exact World.putObj_heap_same (lt_of_block HMP.out)
                    have hlk1 : (Instr.lookup 61 (.map (some mb)) (.int .i64 (k : Nat)) false).run Tryd.prog W2 = .ok (.int .i64 ((sd ++ [k]).idxOf k : Nat)) W2 := look_seen1 mb (sd ++ [k]) k W2 hm2 (by simp)
                    have hix : (sd ++ [k]).idxOf k = sd.length := by rw [List.idxOf_append, if_neg hmem]; simp
                    rw [hix] at hlk1 HNR2
                    have HM2 := Lib.hid hm2
                    have HOWN2 := Lib.hid (own_block HOWN.out (fun k e => hk2.block k (HOWN.out.lt k e).2 (by have := (HOWN.out.lt k e).1; omega)))
                    have HB2 := Lib.hid (HBr.out.trans (hk2.below HBr.out.size (fun k h e => by have := HMB.out; omega)))
                    have hmbl2 := lt_of_block hm2
                    have HSL := Lib.hid (show (sd ++ [k]).length ≤ i + 1 by rw [List.length_append]; simp; omega)
                    obtain ⟨sn, hsn⟩ : ∃ n, n = sd.length := ⟨_, rfl⟩
                    rw [← hsn] at hput hlk1 hlen HNR2
                    clear hW2 hk2 hm2 hix hmem hsn
                    go_wp2_with (first | (refine wpList_append_here rfl (.tmp 140) (.tmp 144) 32 rfl (mb + 1) 3 1 8 _ underInts infoInt rfl (by decide) u15 i _ rfl (own_block HOWN2.out (fun k e => Below.heap_alloc _ _ _ (HOWN2.out.lt k e).2)) W2.heap.size 1 #[.int .i64 sn] 3 (0, 0) rfl (heap_alloc_at _ _ _ rfl) rfl (by simp [Value.oneCell']) (by omega) (by decide) (by simp <;> omega) ?_))
                    intro v7 W7 hown7 hg7 hat7
                    have hk7 := keeps_grown hg7
                    have hob : ∀ k, u15.ownBlock = some k → mb + 1 ≤ k := fun k e => (HOWN.out.lt k e).1
                    have hk57 : Keeps (fun k => u15.ownBlock = some k) W2 W7 := (Keeps.alloc (fun k => u15.ownBlock = some k) _ _).trans hk7
                    have hm7 := (hk57.block mb (lt_of_block HM2.out) (fun e => by have := hob _ e; omega)).trans HM2.out
                    have hb7 := HB2.out.trans (hk57.below HB2.out.size (fun k h e => by have := hob _ e; have := HMB.out; omega))
                    have H7 := Lib.hid (And.intro hown7 (And.intro hm7 hb7))
                    clear hown7 hg7 hat7 hk7 hob hk57 hm7 hb7
                    go_wp2_with fail
                    refine ⟨⟨i + 1, (sd ++ [k]), own ++ [sn], hlt, by push_cast; rfl, by rw [List.length_append, HOL.out]; rfl, HNR2.out, HSL.out, by have h7 := H7.out.1; simpa using h7, H7.out.2.1, H7.out.2.2⟩, by simp [intOf]; omega⟩
              · have hin : nw = i := by omega
                subst hin
                have hlti : ¬ (nw : Int) < (nw : Int) := by omega
                have hnum := nums_of_own (show nw = (own.map fun s : Nat => (s : Int)).length by rw [List.length_map, HOL.out]) HOWN.out
                obtain ⟨av, cv, hve, _⟩ := id hnum
                subst hve
                rw [List.length_map, HOL.out] at hnum ⊢
                have HNUM := Lib.hid hnum.low9
                have HSL := Lib.hid hsl
                clear hnum hlt hsl hmbl
                go_wp2_with fail
                have hox : ∀ x ∈ own, x ≤ 1000 := fun x hx => by
                  have h1 := (numbers_ge own 0).2 x hx
                  have h2 := HNR.out.many
                  unfold numbersJ at h2
                  have := HSL.out
                  omega
                refine (lturn1_any j HV.out own (by rw [HOL.out]; exact hnw4) hox w.heap.size (.slice ao nb cap) (.slice ao2 nw cap2) _ wr (HBS.out.later HBwr.out.size (fun k h1 _ => HBwr.out.block k h1)).low9 (HWS.out.later HBwr.out.size (fun k h1 _ => HBwr.out.block k h1)).low9 (HTZ.out.below HBwr.out h1z) (by rw [← HFL.out.1, ← HFL.out.2]; exact HXwr.out) HNUM.out).mono ?_
                rintro e w8 ⟨rfl, hb⟩
                dsimp only
                have HNUM8 := Lib.hid (HNUM.out.later hb.size (fun k h _ => hb.block k h)).low9
                have HPV8 := Lib.hid (HPVr.out.later hb.size (fun k h _ => hb.block k h)).low9
                have HMP8 := Lib.hid ((hb.block _ (lt_of_block HMP.out)).trans HMP.out)
                have HXw8 := Lib.hid ((hb.block _ (lt_of_block HXwr.out)).trans HXwr.out)
                have HBw8 := Lib.hid (HBwr.out.trans (hb.mono HBwr.out.size))
                clear hb
                clear hox
                cases hgo : goodD j own with
                | false =>
                  clear hgo
                  go_wp2_with fail
                  refine (lawake_any _ (HTZ.out.below HBw8.out h1z)).mono ?_
                  rintro e w9 ⟨rfl, hb9⟩
                  dsimp only
                  have HB9 := Lib.hid (HBw8.out.trans (hb9.mono HBw8.out.size))
                  clear hb9
                  go_wp2_with fail
                  go_ret
                  exact ⟨rfl, HB9.out⟩
                | true =>
                  have hmi := HL2.out.2.2.2.2 own (by rw [HOL.out, HNW.out]) HNR.out.grow ((goodD_iff j own).1 hgo)
                  rw [HNR.out.many, ← HM.out] at hmi
                  have HMI := Lib.hid hmi
                  have hsm : ¬ (sd.length : Int) < (m : Int) := by omega
                  have hsm2 : ¬ sd.length < m := by omega
                  have hlen := len_seen mb sd w8 HMP8.out
                  clear hmi hgo
                  go_wp2_with fail
                  clear hlen hsm hsm2
                  go_loopw [158] (fun iv wr => ∃ i : Nat, i ≤ nw ∧ iv = .int .i64 i ∧ Below w8.heap.size w8 wr ∧ (sd.length = m → ∀ q (h : q < own.length) (h' : q < l2.length), q < i → own[q] = l2[q])) (fun iv _ => nw - (intOf iv).toNat)
                  case atStart => exact ⟨0, Nat.zero_le _, rfl, Below.refl _ _, fun _ q _ _ h => absurd h (by omega)⟩
                  case round =>
                    obtain ⟨i, hi, rfl, hb, heq⟩ := hrel
                    have HEQ := Lib.hid heq
                    have HB8z := Lib.hid hb
                    have HBwr := Lib.hid (HBw8.out.trans (hb.mono HBw8.out.size))
                    have HPVz := Lib.hid (HPV8.out.later hb.size (fun k h _ => hb.block k h)).low9
                    have HNUMz := Lib.hid (HNUM8.out.later hb.size (fun k h _ => hb.block k h)).low9
                    have HMPz := Lib.hid ((hb.block _ (lt_of_block HMP8.out)).trans HMP8.out)
                    clear heq hb
                    by_cases hlt : i < nw
                    · have hw : IntKind.i64.wrap ((i : Int) + 1) = ((i + 1 : Nat) : Int) := by rw [IntWalk.i64_in _ (by omega)]; omega
                      have hlti : (i : Int) < (nw : Int) := by omega
                      have hi0 : 0 ≤ (i : Int) := by omega
                      have hl2 : i < own.length := by rw [HOL.out]; exact hlt
                      have hl1 : i < l2.length := by rw [HL2.out.1, ← HNW.out]; exact hlt
                      obtain ⟨a9, c9, e9, _, _, hel⟩ := HNUMz.out
                      injection e9 with e1 e2 e3
                      obtain ⟨ob, oo, hqe, _, _, e6⟩ := hel i (by rw [List.length_map]; exact hl2)
                      rw [List.getElem_map] at e6
                      rw [hqe] at e1
                      subst e1
                      clear hel e2 e3 hqe
                      obtain ⟨a10, c10, e10, _, _, hel⟩ := HPVz.out
                      injection e10 with e1 e2 e3
                      obtain ⟨qb, qo, hoe, _, _, e7⟩ := hel i (by rw [List.length_map]; exact hl1)
                      rw [List.getElem_map] at e7
                      rw [hoe] at e1
                      subst e1
                      clear hel e2 e3 hoe
                      obtain ⟨x2, hx2⟩ : ∃ y, y = own[i] := ⟨_, rfl⟩
                      obtain ⟨x1, hx1⟩ : ∃ y, y = l2[i] := ⟨_, rfl⟩
                      rw [← hx2] at e6
                      rw [← hx1] at e7
                      have HX21 := Lib.hid (And.intro hx2 hx1)
                      clear hx2 hx1
                      go_upto_region 43 with fail
                      have hS0 : SQ ob oo qb qo i mb x2 x1 sd wr := ⟨e6, e7, HMPz.out⟩
                      have HSQ := Lib.hid hS0
                      clear hS0 e6 e7
                      refine wp_region_held_drew (S := SQ ob oo qb qo i mb x2 x1 sd) (by kernel_rfl) (HSQ.out.below (Below.refl _ _).drew) fun hS => ?_
                      obtain ⟨D, hD⟩ : ∃ D, D = World.drew wr := ⟨_, rfl⟩
                      have hAD : Below wr.heap.size wr D := by rw [hD]; exact (Below.refl _ _).drew
                      rw [← hD] at hS ⊢
                      have HB8D := Lib.hid (HB8z.out.trans (hAD.mono HB8z.out.size))
                      have HBD := Lib.hid (HBwr.out.trans (hAD.mono HBwr.out.size))
                      clear hD hAD
                      refine wpAnyH_take (i := 0) (v := ?_) rfl (by kernel_rfl) (by kernel_rfl) (by kernel_rfl) (fun _ _ _ h => h) (Or.inl ⟨by rfl, ?_⟩) hS ?_
                      rotate_left
                      · (intro W hSw; obtain ⟨q0, q1, q2⟩ := hSw; have q3 := len_seen mb sd W q2; go_simp; try with_reducible rfl)
                      try simp only [List.getElem_toArray, List.getElem_cons_succ, List.getElem_cons_zero, Act.put, List.setIfInBounds_toArray, List.set_cons_zero, List.set_cons_succ]
                      refine wpAnyH_take (i := 1) (v := ?_) rfl (by kernel_rfl) (by kernel_rfl) (by kernel_rfl) (fun _ _ _ h => h) (Or.inl ⟨by rfl, ?_⟩) hS ?_
                      rotate_left
                      · (intro W hSw; obtain ⟨q0, q1, q2⟩ := hSw; have q3 := len_seen mb sd W q2; go_simp; try with_reducible rfl)
                      try simp only [List.getElem_toArray, List.getElem_cons_succ, List.getElem_cons_zero, Act.put, List.setIfInBounds_toArray, List.set_cons_zero, List.set_cons_succ]
                      refine wpAnyH_take (i := 2) (v := ?_) rfl (by kernel_rfl) (by kernel_rfl) (by kernel_rfl) (fun _ _ _ h => h) (Or.inl ⟨by rfl, ?_⟩) hS ?_
                      rotate_left
                      · (intro W hSw; obtain ⟨q0, q1, q2⟩ := hSw; have q3 := len_seen mb sd W q2; go_simp; try with_reducible rfl)
                      try simp only [List.getElem_toArray, List.getElem_cons_succ, List.getElem_cons_zero, Act.put, List.setIfInBounds_toArray, List.set_cons_zero, List.set_cons_succ]
                      by_cases hk : sd.length = m
                      · have hkb2 : ((sd.length : Int) == (m : Int)) = true := by rw [beq_iff_eq]; omega
                        refine wpAnyH_take (i := 3) (v := ?_) rfl (by kernel_rfl) (by kernel_rfl) (by kernel_rfl) (fun _ _ _ h => h) (Or.inl ⟨by rfl, ?_⟩) hS ?_
                        rotate_left
                        · (intro W hSw; obtain ⟨q0, q1, q2⟩ := hSw; have q3 := len_seen mb sd W q2; go_simp; try with_reducible rfl)
                        try simp only [List.getElem_toArray, List.getElem_cons_succ, List.getElem_cons_zero, Act.put, List.setIfInBounds_toArray, List.set_cons_zero, List.set_cons_succ]
                        refine wpAnyH_take (i := 4) (v := ?_) rfl (by kernel_rfl) (by kernel_rfl) (by kernel_rfl) (fun _ _ _ h => h) (Or.inl ⟨by rfl, ?_⟩) hS ?_
                        rotate_left
                        · (intro W hSw; obtain ⟨q0, q1, q2⟩ := hSw; have q3 := len_seen mb sd W q2; go_simp; try with_reducible rfl)
                        try simp only [List.getElem_toArray, List.getElem_cons_succ, List.getElem_cons_zero, Act.put, List.setIfInBounds_toArray, List.set_cons_zero, List.set_cons_succ]
                        refine wpAnyH_take (i := 5) (v := ?_) rfl (by kernel_rfl) (by kernel_rfl) (by kernel_rfl) (fun _ _ _ h => h) (Or.inl ⟨by rfl, ?_⟩) hS ?_
                        rotate_left
                        · (intro W hSw; obtain ⟨q0, q1, q2⟩ := hSw; have q3 := len_seen mb sd W q2; go_simp; try with_reducible rfl)
                        try simp only [List.getElem_toArray, List.getElem_cons_succ, List.getElem_cons_zero, Act.put, List.setIfInBounds_toArray, List.set_cons_zero, List.set_cons_succ]
                        refine wpAnyH_take (i := 6) (v := ?_) rfl (by kernel_rfl) (by kernel_rfl) (by kernel_rfl) (fun _ _ _ h => h) (Or.inl ⟨by rfl, ?_⟩) hS ?_
                        rotate_left
                        · (intro W hSw; obtain ⟨q0, q1, q2⟩ := hSw; have q3 := len_seen mb sd W q2; go_simp; try with_reducible rfl)
                        try simp only [List.getElem_toArray, List.getElem_cons_succ, List.getElem_cons_zero, Act.put, List.setIfInBounds_toArray, List.set_cons_zero, List.set_cons_succ]
                        refine wpAnyH_take (i := 7) (v := ?_) rfl (by kernel_rfl) (by kernel_rfl) (by kernel_rfl) (fun _ _ _ h => h) (Or.inl ⟨by rfl, ?_⟩) hS ?_
                        rotate_left
                        · (intro W hSw; obtain ⟨q0, q1, q2⟩ := hSw; have q3 := len_seen mb sd W q2; go_simp; try with_reducible rfl)
                        try simp only [List.getElem_toArray, List.getElem_cons_succ, List.getElem_cons_zero, Act.put, List.setIfInBounds_toArray, List.set_cons_zero, List.set_cons_succ]
                        refine wpAnyH_take (i := 8) (v := ?_) rfl (by kernel_rfl) (by kernel_rfl) (by kernel_rfl) (fun _ _ _ h => h) (Or.inl ⟨by rfl, ?_⟩) hS ?_
                        rotate_left
                        · (intro W hSw; obtain ⟨q0, q1, q2⟩ := hSw; have q3 := len_seen mb sd W q2; go_simp; try with_reducible rfl)
                        try simp only [List.getElem_toArray, List.getElem_cons_succ, List.getElem_cons_zero, Act.put, List.setIfInBounds_toArray, List.set_cons_zero, List.set_cons_succ]
                        refine wpAnyH_take (i := 9) (v := ?_) rfl (by kernel_rfl) (by kernel_rfl) (by kernel_rfl) (fun _ _ _ h => h) (Or.inl ⟨by rfl, ?_⟩) hS ?_
                        rotate_left
                        · (intro W hSw; obtain ⟨q0, q1, q2⟩ := hSw; have q3 := len_seen mb sd W q2; go_simp; try with_reducible rfl)
                        try simp only [List.getElem_toArray, List.getElem_cons_succ, List.getElem_cons_zero, Act.put, List.setIfInBounds_toArray, List.set_cons_zero, List.set_cons_succ]
                        refine wpAnyH_take (i := 10) (v := ?_) rfl (by kernel_rfl) (by kernel_rfl) (by kernel_rfl) (fun _ _ _ h => h) (Or.inl ⟨by rfl, ?_⟩) hS ?_
                        rotate_left
                        · (intro W hSw; obtain ⟨q0, q1, q2⟩ := hSw; have q3 := len_seen mb sd W q2; go_simp; try with_reducible rfl)
                        try simp only [List.getElem_toArray, List.getElem_cons_succ, List.getElem_cons_zero, Act.put, List.setIfInBounds_toArray, List.set_cons_zero, List.set_cons_succ]
                        refine wpAnyH_take (i := 11) (v := ?_) rfl (by kernel_rfl) (by kernel_rfl) (by kernel_rfl) (fun _ _ _ h => h) (Or.inl ⟨by rfl, ?_⟩) hS ?_
                        rotate_left
                        · (intro W hSw; obtain ⟨q0, q1, q2⟩ := hSw; have q3 := len_seen mb sd W q2; go_simp; try with_reducible rfl)
                        try simp only [List.getElem_toArray, List.getElem_cons_succ, List.getElem_cons_zero, Act.put, List.setIfInBounds_toArray, List.set_cons_zero, List.set_cons_succ]
                        refine wpAnyH_take (i := 12) (v := ?_) rfl (by kernel_rfl) (by kernel_rfl) (by kernel_rfl) (fun _ _ _ h => h) (Or.inl ⟨by rfl, ?_⟩) hS ?_
                        rotate_left
                        · (intro W hSw; obtain ⟨q0, q1, q2⟩ := hSw; have q3 := len_seen mb sd W q2; go_simp; try with_reducible rfl)
                        try simp only [List.getElem_toArray, List.getElem_cons_succ, List.getElem_cons_zero, Act.put, List.setIfInBounds_toArray, List.set_cons_zero, List.set_cons_succ]
                        by_cases hne : x2 = x1
                        · have hne2 : ((x2 : Int) != (x1 : Int)) = false := by rw [bne_eq_false_iff_eq]; omega
                          refine wpAnyH_take (i := 13) (v := ?_) rfl (by kernel_rfl) (by kernel_rfl) (by kernel_rfl) (fun _ _ _ h => h) (Or.inl ⟨by rfl, ?_⟩) hS ?_
                          rotate_left
                          · (intro W hSw; obtain ⟨q0, q1, q2⟩ := hSw; have q3 := len_seen mb sd W q2; go_simp; try with_reducible rfl)
                          try simp only [List.getElem_toArray, List.getElem_cons_succ, List.getElem_cons_zero, Act.put, List.setIfInBounds_toArray, List.set_cons_zero, List.set_cons_succ]
                          refine wpAnyH_take (i := 14) (v := ?_) rfl (by kernel_rfl) (by kernel_rfl) (by kernel_rfl) (fun _ _ _ h => h) (Or.inl ⟨by rfl, ?_⟩) hS ?_
                          rotate_left
                          · (intro W hSw; obtain ⟨q0, q1, q2⟩ := hSw; have q3 := len_seen mb sd W q2; go_simp; try with_reducible rfl)
                          try simp only [List.getElem_toArray, List.getElem_cons_succ, List.getElem_cons_zero, Act.put, List.setIfInBounds_toArray, List.set_cons_zero, List.set_cons_succ]
                          refine wpAnyH_done (by kernel_rfl) ?_ _
                          try simp only [List.getElem_toArray, List.getElem_cons_succ, List.getElem_cons_zero, Act.put, List.setIfInBounds_toArray, List.set_cons_zero, List.set_cons_succ]
                          clear hS
                          go_wp2_with fail
                          refine ⟨⟨i + 1, hlt, by push_cast; rfl, HB8D.out, fun hk9 q h h' hq => ?_⟩, by simp [intOf]; omega⟩
                          by_cases hqi : q < i
                          · exact HEQ.out hk9 q h h' hqi
                          · obtain rfl : q = i := by omega
                            rw [← HX21.out.1, ← HX21.out.2]; exact hne
                        · have hne2 : ((x2 : Int) != (x1 : Int)) = true := by rw [bne_iff_ne]; omega
                          refine wpAnyH_take (i := 13) (v := ?_) rfl (by kernel_rfl) (by kernel_rfl) (by kernel_rfl) (fun _ _ _ h => h) (Or.inl ⟨by rfl, ?_⟩) hS ?_
                          rotate_left
                          · (intro W hSw; obtain ⟨q0, q1, q2⟩ := hSw; have q3 := len_seen mb sd W q2; go_simp; try with_reducible rfl)
                          try simp only [List.getElem_toArray, List.getElem_cons_succ, List.getElem_cons_zero, Act.put, List.setIfInBounds_toArray, List.set_cons_zero, List.set_cons_succ]
                          refine wpAnyH_take (i := 14) (v := ?_) rfl (by kernel_rfl) (by kernel_rfl) (by kernel_rfl) (fun _ _ _ h => h) (Or.inl ⟨by rfl, ?_⟩) hS ?_
                          rotate_left
                          · (intro W hSw; obtain ⟨q0, q1, q2⟩ := hSw; have q3 := len_seen mb sd W q2; go_simp; try with_reducible rfl)
                          try simp only [List.getElem_toArray, List.getElem_cons_succ, List.getElem_cons_zero, Act.put, List.setIfInBounds_toArray, List.set_cons_zero, List.set_cons_succ]
                          refine wpAnyH_done (by kernel_rfl) ?_ _
                          try simp only [List.getElem_toArray, List.getElem_cons_succ, List.getElem_cons_zero, Act.put, List.setIfInBounds_toArray, List.set_cons_zero, List.set_cons_succ]
                          have hle := lex_at l2 own (HMI.out.2 hk) i hl1 hl2 (fun q h h' hq => HEQ.out hk q h' h hq)
                          rw [← HX21.out.1, ← HX21.out.2] at hle
                          have hgt : (x1 : Int) < (x2 : Int) := by omega
                          have hgt2 : x1 < x2 := by omega
                          have HSD := Lib.hid hS
                          clear hS hle
                          go_upto_region 44 with fail
                          refine wp_region_held_drew (S := SQ ob oo qb qo i mb x2 x1 sd) (by kernel_rfl) (HSD.out.below (Below.refl _ _).drew) fun hS => ?_
                          obtain ⟨E, hE⟩ : ∃ E, E = World.drew D := ⟨_, rfl⟩
                          have hAE : Below D.heap.size D E := by rw [hE]; exact (Below.refl _ _).drew
                          rw [← hE] at hS ⊢
                          have HBE := Lib.hid (HBD.out.trans (hAE.mono HBD.out.size))
                          clear hE hAE
                          refine wpAnyH_take (i := 0) (v := ?_) rfl (by kernel_rfl) (by kernel_rfl) (by kernel_rfl) (fun _ _ _ h => h) (Or.inl ⟨by rfl, ?_⟩) hS ?_
                          rotate_left
                          · (intro W hSw; obtain ⟨q0, q1, q2⟩ := hSw; have q3 := len_seen mb sd W q2; go_simp; try with_reducible rfl)
                          try simp only [List.getElem_toArray, List.getElem_cons_succ, List.getElem_cons_zero, Act.put, List.setIfInBounds_toArray, List.set_cons_zero, List.set_cons_succ]
                          refine wpAnyH_take (i := 1) (v := ?_) rfl (by kernel_rfl) (by kernel_rfl) (by kernel_rfl) (fun _ _ _ h => h) (Or.inl ⟨by rfl, ?_⟩) hS ?_
                          rotate_left
                          · (intro W hSw; obtain ⟨q0, q1, q2⟩ := hSw; have q3 := len_seen mb sd W q2; go_simp; try with_reducible rfl)
                          try simp only [List.getElem_toArray, List.getElem_cons_succ, List.getElem_cons_zero, Act.put, List.setIfInBounds_toArray, List.set_cons_zero, List.set_cons_succ]
                          refine wpAnyH_take (i := 2) (v := ?_) rfl (by kernel_rfl) (by kernel_rfl) (by kernel_rfl) (fun _ _ _ h => h) (Or.inl ⟨by rfl, ?_⟩) hS ?_
                          rotate_left
                          · (intro W hSw; obtain ⟨q0, q1, q2⟩ := hSw; have q3 := len_seen mb sd W q2; go_simp; try with_reducible rfl)
                          try simp only [List.getElem_toArray, List.getElem_cons_succ, List.getElem_cons_zero, Act.put, List.setIfInBounds_toArray, List.set_cons_zero, List.set_cons_succ]
                          refine wpAnyH_take (i := 3) (v := ?_) rfl (by kernel_rfl) (by kernel_rfl) (by kernel_rfl) (fun _ _ _ h => h) (Or.inl ⟨by rfl, ?_⟩) hS ?_
                          rotate_left
                          · (intro W hSw; obtain ⟨q0, q1, q2⟩ := hSw; have q3 := len_seen mb sd W q2; go_simp; try with_reducible rfl)
                          try simp only [List.getElem_toArray, List.getElem_cons_succ, List.getElem_cons_zero, Act.put, List.setIfInBounds_toArray, List.set_cons_zero, List.set_cons_succ]
                          refine wpAnyH_take (i := 4) (v := ?_) rfl (by kernel_rfl) (by kernel_rfl) (by kernel_rfl) (fun _ _ _ h => h) (Or.inl ⟨by rfl, ?_⟩) hS ?_
                          rotate_left
                          · (intro W hSw; obtain ⟨q0, q1, q2⟩ := hSw; have q3 := len_seen mb sd W q2; go_simp; try with_reducible rfl)
                          try simp only [List.getElem_toArray, List.getElem_cons_succ, List.getElem_cons_zero, Act.put, List.setIfInBounds_toArray, List.set_cons_zero, List.set_cons_succ]
                          refine wpAnyH_take (i := 5) (v := ?_) rfl (by kernel_rfl) (by kernel_rfl) (by kernel_rfl) (fun _ _ _ h => h) (Or.inl ⟨by rfl, ?_⟩) hS ?_
                          rotate_left
                          · (intro W hSw; obtain ⟨q0, q1, q2⟩ := hSw; have q3 := len_seen mb sd W q2; go_simp; try with_reducible rfl)
                          try simp only [List.getElem_toArray, List.getElem_cons_succ, List.getElem_cons_zero, Act.put, List.setIfInBounds_toArray, List.set_cons_zero, List.set_cons_succ]
                          refine wpAnyH_take (i := 6) (v := ?_) rfl (by kernel_rfl) (by kernel_rfl) (by kernel_rfl) (fun _ _ _ h => h) (Or.inl ⟨by rfl, ?_⟩) hS ?_
                          rotate_left
                          · (intro W hSw; obtain ⟨q0, q1, q2⟩ := hSw; have q3 := len_seen mb sd W q2; go_simp; try with_reducible rfl)
                          try simp only [List.getElem_toArray, List.getElem_cons_succ, List.getElem_cons_zero, Act.put, List.setIfInBounds_toArray, List.set_cons_zero, List.set_cons_succ]
                          refine wpAnyH_take (i := 7) (v := ?_) rfl (by kernel_rfl) (by kernel_rfl) (by kernel_rfl) (fun _ _ _ h => h) (Or.inl ⟨by rfl, ?_⟩) hS ?_
                          rotate_left
                          · (intro W hSw; obtain ⟨q0, q1, q2⟩ := hSw; have q3 := len_seen mb sd W q2; go_simp; try with_reducible rfl)
                          try simp only [List.getElem_toArray, List.getElem_cons_succ, List.getElem_cons_zero, Act.put, List.setIfInBounds_toArray, List.set_cons_zero, List.set_cons_succ]
                          refine wpAnyH_take (i := 8) (v := ?_) rfl (by kernel_rfl) (by kernel_rfl) (by kernel_rfl) (fun _ _ _ h => h) (Or.inl ⟨by rfl, ?_⟩) hS ?_
                          rotate_left
                          · (intro W hSw; obtain ⟨q0, q1, q2⟩ := hSw; have q3 := len_seen mb sd W q2; go_simp; try with_reducible rfl)
                          try simp only [List.getElem_toArray, List.getElem_cons_succ, List.getElem_cons_zero, Act.put, List.setIfInBounds_toArray, List.set_cons_zero, List.set_cons_succ]
                          refine wpAnyH_take (i := 9) (v := ?_) rfl (by kernel_rfl) (by kernel_rfl) (by kernel_rfl) (fun _ _ _ h => h) (Or.inl ⟨by rfl, ?_⟩) hS ?_
                          rotate_left
                          · (intro W hSw; obtain ⟨q0, q1, q2⟩ := hSw; have q3 := len_seen mb sd W q2; go_simp; try with_reducible rfl)
                          try simp only [List.getElem_toArray, List.getElem_cons_succ, List.getElem_cons_zero, Act.put, List.setIfInBounds_toArray, List.set_cons_zero, List.set_cons_succ]
                          refine wpAnyH_call (k := 10) (by kernel_rfl) rfl rfl (f := 27) (args := #[]) (by simp [execOp, go_sem, Act.eval, Act.put]) ?_
                          refine (lawake_any _ (HTZ.out.below HBE.out h1z)).mono ?_
                          rintro e w9 ⟨rfl, hb9⟩
                          dsimp only
                          have HB9 := Lib.hid (HBE.out.trans (hb9.mono HBE.out.size))
                          have hS9 := hS.below hb9
                          clear hb9 hS
                          refine ⟨hS9, ?_⟩
                          have hS := hS9
                          clear hS9
                          try simp only [List.getElem_toArray, List.getElem_cons_succ, List.getElem_cons_zero, Act.put, List.setIfInBounds_toArray, List.set_cons_zero, List.set_cons_succ]
                          refine wpAnyH_take (i := 11) (v := ?_) rfl (by kernel_rfl) (by kernel_rfl) (by kernel_rfl) (fun _ _ _ h => h) (Or.inl ⟨by rfl, ?_⟩) hS ?_
                          rotate_left
                          · (intro W hSw; obtain ⟨q0, q1, q2⟩ := hSw; have q3 := len_seen mb sd W q2; go_simp; try with_reducible rfl)
                          try simp only [List.getElem_toArray, List.getElem_cons_succ, List.getElem_cons_zero, Act.put, List.setIfInBounds_toArray, List.set_cons_zero, List.set_cons_succ]
                          refine wpAnyH_take (i := 12) (v := ?_) rfl (by kernel_rfl) (by kernel_rfl) (by kernel_rfl) (fun _ _ _ h => h) (Or.inl ⟨by rfl, ?_⟩) hS ?_
                          rotate_left
                          · (intro W hSw; obtain ⟨q0, q1, q2⟩ := hSw; have q3 := len_seen mb sd W q2; go_simp; try with_reducible rfl)
                          try simp only [List.getElem_toArray, List.getElem_cons_succ, List.getElem_cons_zero, Act.put, List.setIfInBounds_toArray, List.set_cons_zero, List.set_cons_succ]
                          refine wpAnyH_done (by kernel_rfl) ?_ _
                          try simp only [List.getElem_toArray, List.getElem_cons_succ, List.getElem_cons_zero, Act.put, List.setIfInBounds_toArray, List.set_cons_zero, List.set_cons_succ]
                          clear hS
                          go_wp2_with fail
                          go_ret
                          exact ⟨rfl, HB9.out⟩
                      · have hkb2 : ((sd.length : Int) == (m : Int)) = false := by rw [beq_eq_false_iff_ne]; omega
                        refine wpAnyH_take (i := 3) (v := ?_) rfl (by kernel_rfl) (by kernel_rfl) (by kernel_rfl) (fun _ _ _ h => h) (Or.inl ⟨by rfl, ?_⟩) hS ?_
                        rotate_left
                        · (intro W hSw; obtain ⟨q0, q1, q2⟩ := hSw; have q3 := len_seen mb sd W q2; go_simp; try with_reducible rfl)
                        try simp only [List.getElem_toArray, List.getElem_cons_succ, List.getElem_cons_zero, Act.put, List.setIfInBounds_toArray, List.set_cons_zero, List.set_cons_succ]
                        refine wpAnyH_take (i := 4) (v := ?_) rfl (by kernel_rfl) (by kernel_rfl) (by kernel_rfl) (fun _ _ _ h => h) (Or.inl ⟨by rfl, ?_⟩) hS ?_
                        rotate_left
                        · (intro W hSw; obtain ⟨q0, q1, q2⟩ := hSw; have q3 := len_seen mb sd W q2; go_simp; try with_reducible rfl)
                        try simp only [List.getElem_toArray, List.getElem_cons_succ, List.getElem_cons_zero, Act.put, List.setIfInBounds_toArray, List.set_cons_zero, List.set_cons_succ]
                        refine wpAnyH_take (i := 5) (v := undef) rfl (by kernel_rfl) (by kernel_rfl) (by kernel_rfl) (fun _ _ _ h => h) (Or.inr ⟨by rfl, rfl⟩) hS ?_
                        try simp only [List.getElem_toArray, List.getElem_cons_succ, List.getElem_cons_zero, Act.put, List.setIfInBounds_toArray, List.set_cons_zero, List.set_cons_succ]
                        refine wpAnyH_take (i := 6) (v := undef) rfl (by kernel_rfl) (by kernel_rfl) (by kernel_rfl) (fun _ _ _ h => h) (Or.inr ⟨by rfl, rfl⟩) hS ?_
                        try simp only [List.getElem_toArray, List.getElem_cons_succ, List.getElem_cons_zero, Act.put, List.setIfInBounds_toArray, List.set_cons_zero, List.set_cons_succ]
                        refine wpAnyH_take (i := 7) (v := undef) rfl (by kernel_rfl) (by kernel_rfl) (by kernel_rfl) (fun _ _ _ h => h) (Or.inr ⟨by rfl, rfl⟩) hS ?_
                        try simp only [List.getElem_toArray, List.getElem_cons_succ, List.getElem_cons_zero, Act.put, List.setIfInBounds_toArray, List.set_cons_zero, List.set_cons_succ]
                        refine wpAnyH_take (i := 8) (v := undef) rfl (by kernel_rfl) (by kernel_rfl) (by kernel_rfl) (fun _ _ _ h => h) (Or.inr ⟨by rfl, rfl⟩) hS ?_
                        try simp only [List.getElem_toArray, List.getElem_cons_succ, List.getElem_cons_zero, Act.put, List.setIfInBounds_toArray, List.set_cons_zero, List.set_cons_succ]
                        refine wpAnyH_take (i := 9) (v := undef) rfl (by kernel_rfl) (by kernel_rfl) (by kernel_rfl) (fun _ _ _ h => h) (Or.inr ⟨by rfl, rfl⟩) hS ?_
                        try simp only [List.getElem_toArray, List.getElem_cons_succ, List.getElem_cons_zero, Act.put, List.setIfInBounds_toArray, List.set_cons_zero, List.set_cons_succ]
                        refine wpAnyH_take (i := 10) (v := undef) rfl (by kernel_rfl) (by kernel_rfl) (by kernel_rfl) (fun _ _ _ h => h) (Or.inr ⟨by rfl, rfl⟩) hS ?_
                        try simp only [List.getElem_toArray, List.getElem_cons_succ, List.getElem_cons_zero, Act.put, List.setIfInBounds_toArray, List.set_cons_zero, List.set_cons_succ]
                        refine wpAnyH_take (i := 11) (v := undef) rfl (by kernel_rfl) (by kernel_rfl) (by kernel_rfl) (fun _ _ _ h => h) (Or.inr ⟨by rfl, rfl⟩) hS ?_
                        try simp only [List.getElem_toArray, List.getElem_cons_succ, List.getElem_cons_zero, Act.put, List.setIfInBounds_toArray, List.set_cons_zero, List.set_cons_succ]
                        refine wpAnyH_take (i := 12) (v := undef) rfl (by kernel_rfl) (by kernel_rfl) (by kernel_rfl) (fun _ _ _ h => h) (Or.inr ⟨by rfl, rfl⟩) hS ?_
                        try simp only [List.getElem_toArray, List.getElem_cons_succ, List.getElem_cons_zero, Act.put, List.setIfInBounds_toArray, List.set_cons_zero, List.set_cons_succ]
                        refine wpAnyH_take (i := 13) (v := undef) rfl (by kernel_rfl) (by kernel_rfl) (by kernel_rfl) (fun _ _ _ h => h) (Or.inr ⟨by rfl, rfl⟩) hS ?_
                        try simp only [List.getElem_toArray, List.getElem_cons_succ, List.getElem_cons_zero, Act.put, List.setIfInBounds_toArray, List.set_cons_zero, List.set_cons_succ]
                        refine wpAnyH_take (i := 14) (v := ?_) rfl (by kernel_rfl) (by kernel_rfl) (by kernel_rfl) (fun _ _ _ h => h) (Or.inl ⟨by rfl, ?_⟩) hS ?_
                        rotate_left
                        · (intro W hSw; obtain ⟨q0, q1, q2⟩ := hSw; have q3 := len_seen mb sd W q2; go_simp; try with_reducible rfl)
                        try simp only [List.getElem_toArray, List.getElem_cons_succ, List.getElem_cons_zero, Act.put, List.setIfInBounds_toArray, List.set_cons_zero, List.set_cons_succ]
                        refine wpAnyH_done (by kernel_rfl) ?_ _
                        try simp only [List.getElem_toArray, List.getElem_cons_succ, List.getElem_cons_zero, Act.put, List.setIfInBounds_toArray, List.set_cons_zero, List.set_cons_succ]
                        clear hS
                        go_wp2_with fail
                        exact ⟨⟨i + 1, hlt, by push_cast; rfl, HB8D.out, fun hk9 => absurd hk9 hk⟩, by simp [intOf]; omega⟩
                    · have hin : nw = i := by omega
                      subst hin
                      have hlti : ¬ (nw : Int) < (nw : Int) := by omega
                      clear hlt
                      go_wp2_with fail
                      refine (lawake_any _ (HTZ.out.below HBwr.out h1z)).mono ?_
                      rintro e w9 ⟨rfl, hb9⟩
                      dsimp only
                      have HB9 := Lib.hid (HBwr.out.trans (hb9.mono HBwr.out.size))
                      clear hb9
                      go_wp2_with fail
                      go_ret
                      exact ⟨rfl, HB9.out⟩
    · have hae2 : ((al : Int) == (ev : Int)) = false := by rw [beq_eq_false_iff_ne]; omega
      rw [hro hae] at HPV4 ⊢
      clear hro hrt hae hal hev HPV3 HPVD HPV4
      go_wp2_with fail
      refine (lawake_any _ (HTZ.out.below HBw4.out h1z)).mono ?_
      rintro e w9 ⟨rfl, hb9⟩
      dsimp only
      have HB9 := Lib.hid (HBw4.out.trans (hb9.mono HBw4.out.size))
      clear hb9
      go_wp2_with fail
      go_ret
      exact ⟨rfl, HB9.out⟩
end Go.Proofs.YtbmfphiecllggaaDoor

/- JobTurns: the law returns true, and its arguments read as they did. -/
namespace Go.Proofs.YtbmfphiecllggaaDoor
set_option linter.unusedVariables false
set_option linter.unusedSimpArgs false
open Go.ChangeShapes Go.WideShapes Go.ChangeAt Go.RowKit Go.Deep
set_option maxRecDepth 100000 in
theorem jobTurns_lifted (os : Os) (started : os.Started) (H : Type) (enc : TypeId × Value → H) :
    ReturnsInHanded {} Tryd.checked os 8 .any (fun w args => (Rows.jobTurnsSpec.pre enc Tryd.prog Tryd.f8 [] false w args ∧ laidMetH Tryd.prog laidB w) ∧ sizedMet enc Tryd.prog Tryd.f8 (OpenSpec.ofChange Rows.jobTurnsSpec) false w args)
      (Rows.jobTurnsSpec.post enc Tryd.prog Tryd.f8 false true false false) := by
  refine returnsInHanded_of_change_and (C := Tryd.checked) (X := fun w _ => laidMetH Tryd.prog laidB w) (fun _ _ _ hh h => h.of_heap hh) own_knob started (by kernel_rfl) Tryd.func8
    (ChangeSpec.witness_shaped (enc := enc) (C := Tryd.checked) (os := os) (X := fun w _ => laidMetH Tryd.prog laidB w) false (World.doorLaid Tryd.prog 400 os) #[.agg #[.slice none 0 0, .int .i64 0, .int .i64 0, .slice none 0 0], .slice none 0 0] 8 rfl (World.shaped_of_RefB (by kernel_rfl) (by kernel_rfl)) (by kernel_rfl) (by kernel_rfl) (by kernel_rfl) (door_met os _)) ?_
  intro W base args ds gs before hval0 hW _ _ hL _
  have hval : ∀ (j : Nat) t v, Tryd.f8.params[j]? = some t → args[j]? = some v → Value.okWide Tryd.prog W .any base t v := hval0
  have hW' := hW
  obtain ⟨p, q, hA0, hV, rfl, hfz, hnd⟩ := hW
  have hA : DataW.TrodAll enc Tryd.prog W 0 (fun _ => true) true Tryd.f8.params.toList args.toList ds p := hA0
  rw [Tryd.params8] at hA hval
  obtain ⟨rfl, rfl⟩ := trodVars_none hV
  clear hA0 hval0
  simp only [List.append_nil] at hW'
  have hst := hA
  have htz := of_laid hL
  obtain ⟨v0, v1, d0, d1, p0, p1, rfl, rfl, rfl, h0, h1⟩ := trodAll_two hA
  obtain ⟨j, bs, ws, rfl, hbs, hws⟩ := open_jobV (hval 0 _ _ rfl rfl) h0
  obtain ⟨fuel, hf⟩ := h1
  obtain ⟨ao, len, cap, rfl⟩ := okWide_slice Tryd.underlying49 (hval 1 _ _ rfl rfl)
  obtain ⟨l, hus⟩ := open_smallV (v := .slice ao len cap) Tryd.underlying49 (by kernel_rfl) (by kernel_rfl) (fun _ h => by have := u8_range h; omega) hf
  refine (lturns_any j bs ws l _ W hbs hws hus htz).mono fun e W' ⟨he, hb⟩ => ?_
  subst he
  exact ⟨_, rfl, lawEnd hW' rfl hst rfl (by decide +kernel) rfl rfl hb⟩
theorem jobTurns_over : Rows.jobTurnsRow.holds Tryd.pinned (OpenSpec.ofChange Rows.jobTurnsSpec) :=
  OpenClaim.holds_of_wide 8 Tryd.f8 rfl rfl rfl rfl rfl rfl rfl ⟨rfl, rfl, rfl, rfl, rfl⟩ rfl rfl rfl rfl rfl (by kernel_rfl) Tryd.func8 (by kernel_rfl)
    (of_decide_eq_true (by kernel_rfl)) (by unfold Func.isWrapper; first | (rw [if_pos (by decide +kernel)]; kernel_rfl) | (rw [if_neg (by decide +kernel)]; exact ⟨rfl, rfl⟩))
    (fun os started H enc _ => jobTurns_lifted os started H enc)
theorem job_turns : Rows.JobTurnsCardSaid :=
  Claim7.holds_tied_plain_at .later [] [.data, .data] true (true, "0142e81380ab833cdd0b1d3ff1be0aee862e67f2dcc1be2b06267f938ad4868f") true
    jobTurns_over (fun _ h => by cases h) (by kernel_rfl) (fun _ h => by cases h) jobTurns_row_tie rfl ⟨rfl, rfl⟩ (by kernel_rfl) rfl
    (fun f fn hf hfn => by
      obtain rfl : f = 8 := Option.some.inj ((show Tryd.prog.funcNamed "blockworks/blockworkslaw12.JobTurns" = some 8 by kernel_rfl).symm.trans hf) |>.symm
      obtain rfl : fn = Tryd.f8 := (Option.some.inj (Tryd.func8.symm.trans hfn)).symm
      exact ⟨by kernel_rfl, fun j t ht => by
        rw [Tryd.params8] at ht
        have hm : t ∈ [28, 49] := by simpa using Array.mem_of_getElem? ht
        have hall : ([28, 49].all fun u => !Tryd.prog.wantsStandIn u) = true := by kernel_rfl
        exact (show Tryd.prog.wantsStandIn t = false by simpa using List.all_eq_true.1 hall t hm)⟩)
    (by kernel_rfl)
#print axioms job_turns
end Go.Proofs.YtbmfphiecllggaaDoor
