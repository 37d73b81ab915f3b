/- Texts Fp, Fq, Fs, Ft, Ka, Kb in one file; each begins with a word on what it proves. -/
import Derived.Test.YtagjepclobobjaaVa
import Derived.Test.YtagjepclobobjaaVl
import Derived.Test.YtagjepclobobjaaVb
import Derived.Test.YtagjepclobobjaaVc
import Derived.Test.YtagjepclobobjaaVg

/- Deliveries in plain words: which ones are right, which one is told, and what an order more brings. -/
namespace Go.Proofs.Ytagjepclobobjaa
set_option linter.unusedVariables false
set_option linter.unusedSimpArgs false

def manyL (l : LotD) (o : Int) : Int := (l.orders.getD o.toNat (0, 0)).2
/-- May a block go to an order, or stay, behind those before it? -/
def stepL (l : LotD) (d : List Int) (o : Int) : Bool := decide (o = -1) || (decide (0 ≤ o ∧ o < (l.orders.length : Int)) && takesL l o.toNat d.length && decide ((goneL d o : Int) < manyL l o))
def RightL (l : LotD) (d : List Int) : Prop := ∀ i (h : i < d.length), stepL l (d.take i) d[i] = true
theorem step_none (l : LotD) (d : List Int) : stepL l d (-1) = true := by simp [stepL]
theorem step_nat (l : LotD) (d : List Int) (o : Nat) (ho : o < l.orders.length) : stepL l d (o : Int) = (takesL l o d.length && decide ((goneL d o : Int) < (l.orders.getD o (0, 0)).2)) := by
  have h1 : ¬ (o : Int) = -1 := by omega
  simp [stepL, h1, manyL, ho]
theorem mem_deliverL (l : LotD) : ∀ (m : Nat) (d e : List Int), e ∈ deliverL l m d ↔ ∃ t, e = d ++ t ∧ t.length = m ∧ ∀ i (h : i < t.length), stepL l (d ++ t.take i) t[i] = true
  | 0, d, e => by
    constructor
    · intro h
      have : e = d := by simpa [deliverL] using h
      exact ⟨[], by simp [this], rfl, fun i h => by simp at h⟩
    · rintro ⟨t, rfl, h, _⟩
      have : t = [] := List.length_eq_zero_iff.1 h
      simp [deliverL, this]
  | m + 1, d, e => by
    rw [deliverL, List.mem_append, List.mem_flatMap]
    constructor
    · intro h
      obtain ⟨o, hs, hm⟩ : ∃ o : Int, stepL l d o = true ∧ e ∈ deliverL l m (d ++ [o]) := by
        rcases h with h | ⟨o, ho, h⟩
        · exact ⟨-1, step_none l d, h⟩
        · rw [List.mem_range] at ho
          split at h
          · rename_i hc
            exact ⟨o, by rw [step_nat l d o ho]; exact hc, h⟩
          · simp at h
      obtain ⟨t, rfl, h1, h2⟩ := (mem_deliverL l m _ _).1 hm
      refine ⟨o :: t, by simp, by simp [h1], fun i hi => ?_⟩
      cases i with
      | zero => simpa using hs
      | succ i => simpa using h2 i (by simpa using hi)
    · rintro ⟨t, rfl, h1, h2⟩
      cases t with
      | nil => simp at h1
      | cons o t =>
        have h0 := h2 0 (by simp)
        have hm : d ++ o :: t ∈ deliverL l m (d ++ [o]) := (mem_deliverL l m _ _).2 ⟨t, by simp, by simpa using h1, fun i hi => by
          have := h2 (i + 1) (by simpa using hi)
          rw [List.getElem_cons_succ] at this
          simpa using this⟩
        have hs : stepL l d o = true := by simpa using h0
        by_cases ho : o = -1
        · subst ho; exact .inl hm
        · have hr : 0 ≤ o ∧ o < (l.orders.length : Int) := by
            simp [stepL, ho] at hs
            omega
          obtain ⟨k, rfl⟩ : ∃ k : Nat, o = (k : Int) := ⟨o.toNat, by omega⟩
          refine .inr ⟨k, List.mem_range.2 (by omega), ?_⟩
          rw [step_nat l d k (by omega)] at hs
          rw [if_pos hs]
          exact hm
theorem mem_delivery {l : LotD} {m : Nat} {d : List Int} : d ∈ deliverL l m [] ↔ d.length = m ∧ RightL l d := by
  rw [mem_deliverL]
  constructor
  · rintro ⟨t, rfl, h1, h2⟩
    refine ⟨by simpa using h1, fun i hi => ?_⟩
    simpa using h2 i (by simpa using hi)
  · rintro ⟨h1, h2⟩
    exact ⟨d, by simp, h1, fun i hi => by simpa using h2 i hi⟩
/-- The order of deliveries. -/
def LexL (a b : List Int) : Prop := ∃ i, a.take i = b.take i ∧ a.getD i 0 < b.getD i 0
theorem deliver_lex (l : LotD) : ∀ (m : Nat) (d : List Int), (deliverL l m d).Pairwise LexL
  | 0, d => by simp [deliverL]
  | m + 1, d => by
    have hh : ∀ (o p : Int) (a b : List Int), o < p → a ∈ deliverL l m (d ++ [o]) → b ∈ deliverL l m (d ++ [p]) → LexL a b := by
      intro o p a b hop ha hb
      obtain ⟨t, rfl, _⟩ := (mem_deliverL l m _ _).1 ha
      obtain ⟨s, rfl, _⟩ := (mem_deliverL l m _ _).1 hb
      refine ⟨d.length, by simp, ?_⟩
      simpa using hop
    rw [deliverL, List.pairwise_append]
    refine ⟨deliver_lex l m _, ?_, ?_⟩
    · rw [List.pairwise_flatMap]
      refine ⟨fun o _ => ?_, ?_⟩
      · split
        · exact deliver_lex l m _
        · exact List.Pairwise.nil
      · refine List.pairwise_lt_range.imp fun {o p} hop a ha b hb => ?_
        split at ha
        · split at hb
          · exact hh _ _ _ _ (by omega) ha hb
          · simp at hb
        · simp at ha
    · intro a ha b hb
      obtain ⟨o, _, hb⟩ := List.mem_flatMap.1 hb
      split at hb
      · exact hh _ _ _ _ (by omega) ha hb
      · simp at hb
theorem firstMost_mem : ∀ (es : List (List Int)) (o : List Int), firstMost o es = o ∨ firstMost o es ∈ es
  | [], o => .inl rfl
  | e :: es, o => by
    unfold firstMost
    rw [List.foldl_cons]
    rcases firstMost_mem es (if sentL o < sentL e then e else o) with h | h
    · unfold firstMost at h
      rw [h]
      split
      · exact .inr (by simp)
      · exact .inl rfl
    · exact .inr (List.mem_cons_of_mem _ h)
/-- What is found is the first of the greatest. -/
theorem firstMost_first (R : List Int → List Int → Prop) : ∀ (es : List (List Int)) (o : List Int), (o :: es).Pairwise R →
    (sentL o = sentL (firstMost o es) → firstMost o es = o) ∧ (∀ e ∈ o :: es, sentL e ≤ sentL (firstMost o es) ∧ (sentL e = sentL (firstMost o es) → e = firstMost o es ∨ R (firstMost o es) e))
  | [], o, _ => ⟨fun _ => rfl, fun e he => by
    have : e = o := by simpa using he
    subst this
    exact ⟨Nat.le_refl _, fun _ => .inl rfl⟩⟩
  | x :: es, o, hp => by
    obtain ⟨hp1, hp2⟩ := List.pairwise_cons.1 hp
    have hst : firstMost o (x :: es) = firstMost (if sentL o < sentL x then x else o) es := by
      unfold firstMost
      rw [List.foldl_cons]
    rw [hst]
    by_cases hlt : sentL o < sentL x
    · rw [if_pos hlt]
      obtain ⟨h1, h2⟩ := firstMost_first R es x hp2
      have h3 := (h2 x (by simp)).1
      refine ⟨fun h => by omega, fun e he => ?_⟩
      rcases List.mem_cons.1 he with rfl | he
      · exact ⟨by omega, fun h => by omega⟩
      · exact h2 e he
    · rw [if_neg hlt]
      have hp3 : (o :: es).Pairwise R := List.pairwise_cons.2 ⟨fun e he => hp1 e (by simp [he]), (List.pairwise_cons.1 hp2).2⟩
      obtain ⟨h1, h2⟩ := firstMost_first R es o hp3
      have h3 := (h2 o (by simp)).1
      refine ⟨h1, fun e he => ?_⟩
      rcases List.mem_cons.1 he with rfl | he
      · exact h2 e (by simp)
      · rcases List.mem_cons.1 he with rfl | he
        · refine ⟨by omega, fun h => ?_⟩
          rw [h1 (by omega)]
          exact .inr (hp1 e (by simp))
        · exact h2 e (by simp [he])
theorem delivery_right (l : LotD) : (deliveryN l).length = l.blocks.length ∧ RightL l (deliveryN l) := by
  rw [← mem_delivery]
  unfold deliveryN
  dsimp only
  cases h : deliverL l l.blocks.length [] with
  | nil => exact absurd h (deliver_ne l _ _)
  | cons a es =>
    rw [List.headD_cons]
    rcases firstMost_mem (a :: es) a with h | h
    · rw [h]; simp
    · exact h
theorem delivery_first (l : LotD) (d : List Int) (h : d.length = l.blocks.length) (hr : RightL l d) : sentL d ≤ sentL (deliveryN l) ∧ (sentL d = sentL (deliveryN l) → d = deliveryN l ∨ LexL (deliveryN l) d) := by
  have hm := mem_delivery.2 ⟨h, hr⟩
  have hp := deliver_lex l l.blocks.length []
  unfold deliveryN
  dsimp only
  cases h : deliverL l l.blocks.length [] with
  | nil => exact absurd h (deliver_ne l _ _)
  | cons a es =>
    rw [List.headD_cons]
    have : firstMost a (a :: es) = firstMost a es := by
      unfold firstMost
      rw [List.foldl_cons, if_neg (Nat.lt_irrefl _)]
    rw [this]
    rw [h] at hm hp
    exact (firstMost_first LexL es a hp).2 d hm
/-- What is right, without the order of blocks. -/
theorem right_iff (l : LotD) (h0 : ∀ o, o < l.orders.length → 0 ≤ (l.orders.getD o (0, 0)).2) (d : List Int) : RightL l d ↔
    (∀ i (h : i < d.length), d[i] = -1 ∨ 0 ≤ d[i] ∧ d[i] < (l.orders.length : Int) ∧ takesL l d[i].toNat i = true) ∧ ∀ o, o < l.orders.length → (goneL d (o : Int) : Int) ≤ (l.orders.getD o (0, 0)).2 := by
  constructor
  · intro h
    refine ⟨fun i hi => ?_, fun o ho => ?_⟩
    · have := h i hi
      unfold stepL at this
      rw [List.length_take, Nat.min_eq_left (by omega)] at this
      simp at this
      rcases this with h | ⟨⟨h1, h2⟩, _⟩
      · exact .inl h
      · exact .inr ⟨h1.1, h1.2, h2⟩
    · have hall : ∀ n, n ≤ d.length → (goneL (d.take n) (o : Int) : Int) ≤ (l.orders.getD o (0, 0)).2 := by
        intro n
        induction n with
        | zero => intro _; simpa [goneL] using h0 o ho
        | succ n ih =>
          intro hn
          have ih := ih (by omega)
          have hs := h n (by omega)
          rw [List.take_succ_eq_append_getElem (by omega)]
          unfold goneL at *
          rw [List.count_append]
          by_cases he : d[n] = (o : Int)
          · rw [he, step_nat l _ o ho] at hs
            rw [he]
            simp [goneL] at hs ⊢
            omega
          · have : List.count (o : Int) [d[n]] = 0 := by
              rw [List.count_eq_zero]
              simpa using fun h => he h.symm
            omega
      have := hall d.length (Nat.le_refl _)
      rwa [List.take_length] at this
  · rintro ⟨h1, h2⟩ i hi
    rcases h1 i hi with h | ⟨h3, h4, h5⟩
    · rw [h]; exact step_none _ _
    · obtain ⟨k, hk⟩ : ∃ k : Nat, d[i] = (k : Int) := ⟨d[i].toNat, by omega⟩
      rw [hk] at h4 h5 ⊢
      rw [step_nat l _ k (by omega), List.length_take, Nat.min_eq_left (by omega)]
      simp only [Int.toNat_natCast] at h5
      rw [h5, Bool.true_and, decide_eq_true_eq]
      have hc := h2 k (by omega)
      have h6 : goneL (d.take i) (k : Int) + 1 ≤ goneL d (k : Int) := by
        unfold goneL
        have : List.count (k : Int) (d.take (i + 1)) ≤ List.count (k : Int) d := (List.take_sublist _ _).count_le _
        rw [List.take_succ_eq_append_getElem hi, List.count_append, hk] at this
        simpa using this
      omega
end Go.Proofs.Ytagjepclobobjaa

/- Deliveries in plain words: what an order more brings. -/
namespace Go.Proofs.Ytagjepclobobjaa
set_option linter.unusedVariables false
set_option linter.unusedSimpArgs false

def withO (l : LotD) (os : List (Int × Int)) : LotD := { l with orders := os }
theorem takes_withO (l : LotD) (os : List (Int × Int)) (o b : Nat) (h : (os.getD o (0, 0)).1 = (l.orders.getD o (0, 0)).1) : takesL (withO l os) o b = takesL l o b := by
  unfold takesL
  show sureG (gradeL l b) (os.getD o (0, 0)).1.toNat = _
  rw [h]
  rfl
theorem many_pos {l : LotD} (hv : validL l = true) : ∀ o, o < l.orders.length → 0 ≤ (l.orders.getD o (0, 0)).2 := by
  intro o ho
  unfold validL at hv
  simp only [Bool.and_eq_true, List.all_eq_true, decide_eq_true_eq] at hv
  have := hv.2 l.orders[o] (List.getElem_mem ho)
  rw [List.getD_eq_getElem?_getD, List.getElem?_eq_getElem ho]
  simp only [Option.getD_some]
  omega
theorem gone_set (d : List Int) (i : Nat) (hi : i < d.length) (o : Int) (ho : o ≠ -1) : goneL (d.set i (-1)) o = goneL d o - (if d[i] = o then 1 else 0) := by
  unfold goneL
  rw [List.count_set hi]
  have : ((-1 : Int) == o) = false := by simpa using fun h => ho h.symm
  simp [this]
theorem sent_set (d : List Int) (i : Nat) (hi : i < d.length) (h : d[i] ≠ -1) : sentL d ≤ sentL (d.set i (-1)) + 1 := by
  unfold sentL goneL
  have h1 : (d[i] == (-1 : Int)) = false := by simpa using h
  rw [List.count_set hi, List.length_set]
  simp [h1]
  omega
/-- An order takes one block more, or not. -/
theorem bump_both (l : LotD) (hv : validL l = true) (k : Nat) (hk : k < l.orders.length) (m : Int) (x : LotD) (hx : x = withO l (l.orders.set k ((l.orders.getD k (0, 0)).1, m)))
    (h1 : (l.orders.getD k (0, 0)).2 ≤ m) (h2 : m ≤ (l.orders.getD k (0, 0)).2 + 1) :
    sentL (deliveryN l) ≤ sentL (deliveryN x) ∧ sentL (deliveryN x) ≤ sentL (deliveryN l) + 1 := by
  have hm0 := many_pos hv
  have hbl : x.blocks = l.blocks := by rw [hx]; rfl
  have hol : x.orders.length = l.orders.length := by rw [hx]; simp [withO]
  have hg : ∀ o, (x.orders.getD o (0, 0)) = if o = k then ((l.orders.getD k (0, 0)).1, m) else l.orders.getD o (0, 0) := by
    intro o
    rw [hx]
    show (l.orders.set k _).getD o (0, 0) = _
    rw [List.getD_eq_getElem?_getD, List.getElem?_set]
    by_cases h : k = o
    · subst h
      simp [hk]
    · have h' : ¬ o = k := fun e => h e.symm
      simp [h, h']
  have htk : ∀ o b, takesL x o b = takesL l o b := by
    intro o b
    rw [hx]
    refine takes_withO _ _ _ _ ?_
    have := hg o
    rw [hx] at this
    show (List.getD (withO l _).orders o (0, 0)).1 = _
    rw [this]
    split
    · rename_i h; subst h; rfl
    · rfl
  have hmx : ∀ o, o < x.orders.length → 0 ≤ (x.orders.getD o (0, 0)).2 := by
    intro o ho
    rw [hg]
    split
    · have := hm0 k hk; dsimp only; omega
    · exact hm0 o (by omega)
  have hR := fun d => right_iff l hm0 d
  have hRx := fun d => right_iff x hmx d
  constructor
  · obtain ⟨h3, h4⟩ := delivery_right l
    refine (delivery_first x _ (by rw [hbl]; exact h3) ?_).1
    rw [hRx]
    obtain ⟨h5, h6⟩ := (hR _).1 h4
    refine ⟨fun i hi => ?_, fun o ho => ?_⟩
    · rw [hol, htk]; exact h5 i hi
    · rw [hg]
      have := h6 o (by omega)
      split
      · rename_i h; subst h; dsimp only; omega
      · exact this
  · obtain ⟨h3, h4⟩ := delivery_right x
    obtain ⟨h5, h6⟩ := (hRx _).1 h4
    rw [hbl] at h3
    generalize deliveryN x = d at *
    by_cases hc : (goneL d (k : Int) : Int) ≤ (l.orders.getD k (0, 0)).2
    · have : RightL l d := by
        rw [hR]
        refine ⟨fun i hi => ?_, fun o ho => ?_⟩
        · rw [← hol, ← htk]; exact h5 i hi
        · by_cases h : o = k
          · subst h; exact hc
          · have := h6 o (by omega)
            rw [hg, if_neg h] at this
            exact this
      have := (delivery_first l d h3 this).1
      omega
    · have hpos : 0 < goneL d (k : Int) := by have := hm0 k hk; omega
      obtain ⟨i, hi, hdi⟩ := List.getElem_of_mem (List.count_pos_iff.1 hpos)
      have : RightL l (d.set i (-1)) := by
        rw [hR]
        refine ⟨fun j hj => ?_, fun o ho => ?_⟩
        · rw [List.length_set] at hj
          rw [List.getElem_set]
          split
          · exact .inl rfl
          · rw [← hol, ← htk]; exact h5 j hj
        · rw [gone_set d i hi _ (by omega), hdi]
          have h7 := h6 o (by omega)
          rw [hg] at h7
          by_cases h : o = k
          · subst h
            rw [if_pos rfl] at h7 ⊢
            dsimp only at h7
            omega
          · rw [if_neg h] at h7
            rw [if_neg (by omega)]
            omega
      have h8 := (delivery_first l _ (by simpa using h3) this).1
      have h9 := sent_set d i hi (by omega)
      omega
def dropO (n : Int) (d : List Int) : List Int := d.map fun o => if o = n then -1 else o
theorem gone_drop (n o : Int) (hn : 0 ≤ n) : ∀ d, goneL (dropO n d) o = if o = -1 then goneL d (-1) + goneL d n else if o = n then 0 else goneL d o
  | [] => by simp [goneL, dropO]
  | a :: d => by
    have ih := gone_drop n o hn d
    unfold goneL dropO at *
    rw [List.map_cons, List.count_cons, ih]
    simp only [List.count_cons, beq_iff_eq]
    by_cases h1 : a = n
    · rw [if_pos h1]
      repeat' split
      all_goals omega
    · rw [if_neg h1]
      repeat' split
      all_goals omega
/-- One order more. -/
theorem add_both (l : LotD) (hv : validL l = true) (g : Int) (m : Nat) (x : LotD) (hx : x = withO l (l.orders ++ [(g, (m : Int))])) :
    sentL (deliveryN l) ≤ sentL (deliveryN x) ∧ sentL (deliveryN x) ≤ sentL (deliveryN l) + m := by
  have hm0 := many_pos hv
  have hbl : x.blocks = l.blocks := by rw [hx]; rfl
  have hol : x.orders.length = l.orders.length + 1 := by rw [hx]; simp [withO]
  have hg : ∀ o, o < l.orders.length → (x.orders.getD o (0, 0)) = l.orders.getD o (0, 0) := by
    intro o ho
    rw [hx]
    show (l.orders ++ _).getD o (0, 0) = _
    rw [List.getD_eq_getElem?_getD, List.getElem?_append_left ho, List.getD_eq_getElem?_getD]
  have hgl : x.orders.getD l.orders.length (0, 0) = (g, (m : Int)) := by
    rw [hx]
    show (l.orders ++ _).getD _ (0, 0) = _
    simp [List.getD_eq_getElem?_getD]
  have htk : ∀ o b, o < l.orders.length → takesL x o b = takesL l o b := by
    intro o b ho
    have := hg o ho
    rw [hx] at this ⊢
    exact takes_withO _ _ _ _ (by rw [show (l.orders ++ [(g, (m : Int))]).getD o (0, 0) = _ from this])
  have hmx : ∀ o, o < x.orders.length → 0 ≤ (x.orders.getD o (0, 0)).2 := by
    intro o ho
    by_cases h : o < l.orders.length
    · rw [hg o h]; exact hm0 o h
    · have : o = l.orders.length := by omega
      rw [this, hgl]
      dsimp only; omega
  have hR := fun d => right_iff l hm0 d
  have hRx := fun d => right_iff x hmx d
  constructor
  · obtain ⟨h3, h4⟩ := delivery_right l
    refine (delivery_first x _ (by rw [hbl]; exact h3) ?_).1
    rw [hRx]
    obtain ⟨h5, h6⟩ := (hR _).1 h4
    refine ⟨fun i hi => ?_, fun o ho => ?_⟩
    · rcases h5 i hi with h | ⟨h, h', h''⟩
      · exact .inl h
      · exact .inr ⟨h, by omega, by rw [htk _ _ (by omega)]; exact h''⟩
    · by_cases h : o < l.orders.length
      · rw [hg o h]; exact h6 o h
      · have ho2 : o = l.orders.length := by omega
        have : goneL (deliveryN l) (o : Int) = 0 := by
          unfold goneL
          rw [List.count_eq_zero]
          intro hm
          obtain ⟨i, hi, he⟩ := List.getElem_of_mem hm
          have := h5 i hi
          rw [he] at this
          omega
        have := hmx o ho
        omega
  · obtain ⟨h3, h4⟩ := delivery_right x
    obtain ⟨h5, h6⟩ := (hRx _).1 h4
    rw [hbl] at h3
    generalize deliveryN x = d at *
    have h7 := h6 l.orders.length (by omega)
    rw [hgl] at h7
    dsimp only at h7
    have : RightL l (dropO (l.orders.length : Int) d) := by
      rw [hR]
      refine ⟨fun j hj => ?_, fun o ho => ?_⟩
      · have hj' : j < d.length := by simpa [dropO] using hj
        have he : (dropO (l.orders.length : Int) d)[j] = if d[j] = (l.orders.length : Int) then -1 else d[j] := by simp [dropO]
        rw [he]
        split
        · exact .inl rfl
        · rename_i hne
          rcases h5 j hj' with h | ⟨h, h', h''⟩
          · exact .inl h
          · have hlt : d[j] < (l.orders.length : Int) := by omega
            exact .inr ⟨h, hlt, by rw [← htk _ _ (by omega)]; exact h''⟩
      · rw [gone_drop _ _ (by omega), if_neg (by omega), if_neg (by omega)]
        have := h6 o (by omega)
        rwa [hg o ho] at this
    have h8 := (delivery_first l _ (by simpa [dropO] using h3) this).1
    have h9 : sentL d ≤ sentL (dropO (l.orders.length : Int) d) + m := by
      unfold sentL
      rw [gone_drop _ _ (by omega), if_pos rfl]
      have : (dropO (l.orders.length : Int) d).length = d.length := by simp [dropO]
      omega
    omega
theorem valid_with {l : LotD} (hv : validL l = true) (os : List (Int × Int)) (h4 : os.length ≤ 4) (ho : ∀ o ∈ os, 0 ≤ o.1 ∧ o.1 < (l.lim.length : Int) ∧ 1 ≤ o.2 ∧ o.2 ≤ 6) : validL (withO l os) = true := by
  unfold validL withO at *
  simp only [Bool.and_eq_true, List.all_eq_true, decide_eq_true_eq] at hv ⊢
  exact ⟨⟨⟨⟨⟨⟨⟨⟨hv.1.1.1.1.1.1.1.1, h4⟩, hv.1.1.1.1.1.1.2⟩, hv.1.1.1.1.1.2⟩, hv.1.1.1.1.2⟩, hv.1.1.1.2⟩, hv.1.1.2⟩, hv.1.2⟩, ho⟩
theorem clash_with (l : LotD) (os : List (Int × Int)) : clashL (withO l os) = clashL l := rfl
theorem sent_nil (l : LotD) (h : l.blocks.length = 0) : sentL (deliveryN l) = 0 := by
  have := (delivery_right l).1
  rw [h] at this
  have : deliveryN l = [] := List.length_eq_zero_iff.1 this
  rw [this]; rfl
/-- As what a block can be sold is what an order takes. -/
theorem sells_le {l : LotD} (b n : Nat) (hn : n < l.lim.length) : sellsN l b ≤ n ↔ sureL l b n = true := by
  unfold sellsN
  cases h : (List.range l.lim.length).find? fun n => sureL l b n with
  | none =>
    rw [List.find?_eq_none] at h
    have := h n (List.mem_range.2 hn)
    simp only [Option.getD_none]
    simp only [Bool.not_eq_true] at this
    rw [this]
    simp; omega
  | some k =>
    rw [List.find?_range_eq_some] at h
    simp only [Option.getD_some]
    constructor
    · intro hk
      exact sure_mono _ hk h.1
    · intro hs
      apply Nat.le_of_not_lt
      intro hlt
      have := h.2.2 n hlt
      simp [hs] at this
end Go.Proofs.Ytagjepclobobjaa

/- The best way to sell a block, in plain words. -/
namespace Go.Proofs.Ytagjepclobobjaa
set_option linter.unusedVariables false
set_option linter.unusedSimpArgs false

/-- What a way to sell a block brings; below 0: it is none, or brings a loss. -/
def bringsL (l : LotD) (b n : Nat) (lap : Bool) : Int :=
  if lap then (if (List.range (n + 1)).any fun k => lapsL l b k then paidL l n - l.lap else -1) else (if sureL l b n then paidL l n else -1)
def WayLt (a b : Nat × Bool × Int) : Prop := (a.2.1 = b.2.1 ∧ a.1 < b.1) ∨ (a.2.1 = false ∧ b.2.1 = true)
theorem ways_lex (l : LotD) (b : Nat) : (waysN l b).Pairwise WayLt := by
  unfold waysN
  rw [List.pairwise_append]
  refine ⟨?_, ?_, ?_⟩
  · rw [List.pairwise_map]
    exact (List.pairwise_lt_range.filter _).imp fun {x y} h => .inl ⟨rfl, h⟩
  · rw [List.pairwise_map]
    exact (List.pairwise_lt_range.filter _).imp fun {x y} h => .inl ⟨rfl, h⟩
  · intro x hx y hy
    obtain ⟨n, _, rfl⟩ := List.mem_map.1 hx
    obtain ⟨m, _, rfl⟩ := List.mem_map.1 hy
    exact .inr ⟨rfl, rfl⟩
theorem mem_ways (l : LotD) (b : Nat) (w : Nat × Bool × Int) : w ∈ waysN l b ↔ w.1 < l.lim.length ∧ (if w.2.1 then (List.range (w.1 + 1)).any (fun k => lapsL l b k) = true ∧ w.2.2 = paidL l w.1 - l.lap else sureL l b w.1 = true ∧ w.2.2 = paidL l w.1) := by
  unfold waysN
  obtain ⟨n, lap, p⟩ := w
  simp only [List.mem_append, List.mem_map, List.mem_filter, List.mem_range, Prod.mk.injEq]
  constructor
  · rintro (⟨m, ⟨h1, h2⟩, rfl, rfl, rfl⟩ | ⟨m, ⟨h1, h2⟩, rfl, rfl, rfl⟩)
    · exact ⟨h1, by simpa using h2⟩
    · exact ⟨h1, h2, rfl⟩
  · rintro ⟨h1, h2⟩
    cases lap with
    | false => exact .inl ⟨n, ⟨h1, h2.1⟩, rfl, rfl, h2.2.symm⟩
    | true => exact .inr ⟨n, ⟨h1, h2.1⟩, rfl, rfl, h2.2.symm⟩
theorem way_brings {l : LotD} {b : Nat} {w : Nat × Bool × Int} (h : w ∈ waysN l b) : bringsL l b w.1 w.2.1 = w.2.2 := by
  obtain ⟨h1, h2⟩ := (mem_ways l b w).1 h
  unfold bringsL
  split at h2
  · rename_i hl
    rw [if_pos hl, if_pos h2.1, h2.2]
  · rename_i hl
    rw [if_neg hl, if_pos h2.1, h2.2]
theorem brings_way {l : LotD} {b n : Nat} {lap : Bool} (hn : n < l.lim.length) (h : bringsL l b n lap ≠ -1) : (n, lap, bringsL l b n lap) ∈ waysN l b := by
  rw [mem_ways]
  refine ⟨hn, ?_⟩
  unfold bringsL at *
  cases lap with
  | false =>
    simp only [Bool.false_eq_true, if_false] at h ⊢
    split at h
    · rename_i hs; rw [if_pos hs]; exact ⟨hs, rfl⟩
    · exact absurd rfl h
  | true =>
    simp only [if_true] at h ⊢
    split at h
    · rename_i hs; rw [if_pos hs]; exact ⟨hs, rfl⟩
    · exact absurd rfl h
theorem bestOf_first (R : Nat × Bool × Int → Nat × Bool × Int → Prop) : ∀ (ws : List (Nat × Bool × Int)) (o : Nat × Bool × Int), (∀ x ∈ ws, x.2.2 = o.2.2 → R o x) → ws.Pairwise R →
    (bestOf o ws = o ∨ (bestOf o ws ∈ ws ∧ o.2.2 < (bestOf o ws).2.2)) ∧ (∀ x ∈ ws, x.2.2 ≤ (bestOf o ws).2.2 ∧ (x.2.2 = (bestOf o ws).2.2 → x = bestOf o ws ∨ R (bestOf o ws) x))
  | [], o, _, _ => ⟨.inl rfl, fun x h => by simp at h⟩
  | x :: ws, o, ho, hp => by
    obtain ⟨hp1, hp2⟩ := List.pairwise_cons.1 hp
    have hst : bestOf o (x :: ws) = bestOf (if o.2.2 < x.2.2 then x else o) ws := by
      unfold bestOf
      rw [List.foldl_cons]
    rw [hst]
    by_cases hlt : o.2.2 < x.2.2
    · rw [if_pos hlt]
      obtain ⟨h1, h2⟩ := bestOf_first R ws x (fun y hy _ => hp1 y hy) hp2
      refine ⟨?_, fun y hy => ?_⟩
      · rcases h1 with h1 | ⟨h1, h3⟩
        · rw [h1]; exact .inr ⟨by simp, hlt⟩
        · exact .inr ⟨by simp [h1], by omega⟩
      · rcases List.mem_cons.1 hy with rfl | hy
        · rcases h1 with h1 | ⟨h1, h3⟩
          · rw [h1]; exact ⟨Int.le_refl _, fun _ => .inl rfl⟩
          · exact ⟨by omega, fun h => by omega⟩
        · exact h2 y hy
    · rw [if_neg hlt]
      obtain ⟨h1, h2⟩ := bestOf_first R ws o (fun y hy h => ho y (by simp [hy]) h) hp2
      refine ⟨?_, fun y hy => ?_⟩
      · rcases h1 with h1 | ⟨h1, h3⟩
        · exact .inl h1
        · exact .inr ⟨by simp [h1], h3⟩
      · rcases List.mem_cons.1 hy with rfl | hy
        · rcases h1 with h1 | ⟨h1, h3⟩
          · rw [h1]; exact ⟨by omega, fun h => .inr (ho y (by simp) h)⟩
          · exact ⟨by omega, fun h => by omega⟩
        · exact h2 y hy
/-- The best way is one, and no other one is better. -/
theorem best_facts {l : LotD} (hp : ∀ n, 0 ≤ paidL l n) (b m : Nat) (lap : Bool) (hm : m < l.lim.length) :
    ((bestN l b).1 = l.lim.length ∧ (bestN l b).2.1 = false ∧ max 0 (bestN l b).2.2 = 0 ∧ bringsL l b m lap < 0) ∨
    ((bestN l b).1 < l.lim.length ∧ bringsL l b (bestN l b).1 (bestN l b).2.1 = max 0 (bestN l b).2.2 ∧ bringsL l b m lap ≤ max 0 (bestN l b).2.2 ∧
      (bringsL l b m lap < max 0 (bestN l b).2.2 ∨ ((bestN l b).2.1 = lap ∧ (bestN l b).1 ≤ m) ∨ (lap = true ∧ (bestN l b).2.1 = false))) := by
  obtain ⟨h1, h2⟩ := bestOf_first (fun x y => x = (l.lim.length, false, -1) ∨ WayLt x y) (waysN l b) (l.lim.length, false, -1) (fun _ _ _ => .inl rfl) ((ways_lex l b).imp fun h => .inr h)
  change (bestN l b = _ ∨ (bestN l b ∈ _ ∧ -1 < (bestN l b).2.2)) at h1
  change ∀ x ∈ waysN l b, x.2.2 ≤ (bestN l b).2.2 ∧ (x.2.2 = (bestN l b).2.2 → x = bestN l b ∨ (bestN l b = _ ∨ WayLt (bestN l b) x)) at h2
  rcases h1 with h1 | ⟨h1, h3⟩
  · left
    rw [h1] at h2 ⊢
    refine ⟨rfl, rfl, rfl, ?_⟩
    by_cases hb : bringsL l b m lap = -1
    · omega
    · have := (h2 _ (brings_way hm hb)).1
      dsimp only at this
      omega
  · right
    have hb := way_brings h1
    have hn := ((mem_ways l b _).1 h1).1
    have hmax : max 0 (bestN l b).2.2 = (bestN l b).2.2 := by omega
    rw [hmax]
    refine ⟨hn, hb, ?_⟩
    by_cases hb2 : bringsL l b m lap = -1
    · exact ⟨by omega, .inl (by omega)⟩
    · obtain ⟨h4, h5⟩ := h2 _ (brings_way hm hb2)
      dsimp only at h4 h5
      refine ⟨h4, ?_⟩
      by_cases he : bringsL l b m lap = (bestN l b).2.2
      · right
        rcases h5 he with h | h | h
        · left
          rw [← h]
          exact ⟨rfl, Nat.le_refl _⟩
        · rw [h] at hn
          exact absurd hn (Nat.lt_irrefl _)
        · rcases h with ⟨h6, h7⟩ | ⟨h6, h7⟩
          · exact .inl ⟨h6, Nat.le_of_lt h7⟩
          · exact .inr ⟨h7, h6⟩
      · exact .inl (by omega)
end Go.Proofs.Ytagjepclobobjaa

/- Entries in plain words: which one breaks a rule. -/
namespace Go.Proofs.Ytagjepclobobjaa
set_option linter.unusedVariables false
set_option linter.unusedSimpArgs false

theorem brokenL_none (l : LotD) : ∀ (es before : List EntD) (i : Nat), brokenL l before es i = none ↔ ∀ j (h : j < es.length), ruleL l (before ++ es.take j) es[j] = 0
  | [], before, i => by simp [brokenL]
  | x :: es, before, i => by
    unfold brokenL
    constructor
    · intro h j hj
      split at h
      · rename_i h0
        cases j with
        | zero => simpa using h0
        | succ j =>
          have := (brokenL_none l es _ _).1 h j (by simpa using hj)
          simpa using this
      · simp at h
    · intro h
      rw [if_pos (by have := h 0 (by simp); rw [List.getElem_cons_zero] at this; simpa using this), brokenL_none l es]
      intro j hj
      have := h (j + 1) (by simpa using hj)
      rw [List.getElem_cons_succ] at this
      simpa using this
theorem brokenL_some (l : LotD) (r : Int) (n : Nat) : ∀ (es before : List EntD) (i : Nat), brokenL l before es i = some (n, r) ↔
    i ≤ n ∧ ∃ h : n - i < es.length, ruleL l (before ++ es.take (n - i)) es[n - i] = r ∧ r ≠ 0 ∧ ∀ j (h2 : j < n - i), ruleL l (before ++ es.take j) (es[j]'(by omega)) = 0
  | [], before, i => by simp [brokenL]
  | x :: es, before, i => by
    unfold brokenL
    split
    · rename_i h0
      rw [brokenL_some l r n es]
      constructor
      · rintro ⟨h1, h2, h3, h4, h5⟩
        have hs : n - i = (n - (i + 1)) + 1 := by omega
        refine ⟨by omega, by simp; omega, ?_, h4, ?_⟩
        · simp only [hs, List.getElem_cons_succ, List.take_succ_cons]
          simpa using h3
        · intro j hj
          cases j with
          | zero => simpa using h0
          | succ j =>
            have := h5 j (by omega)
            simpa using this
      · rintro ⟨h1, h2, h3, h4, h5⟩
        by_cases hin : n = i
        · subst hin
          simp only [Nat.sub_self, List.take_zero, List.append_nil, List.getElem_cons_zero] at h3
          exact absurd (h3.symm.trans h0) h4
        · have hs : n - i = (n - (i + 1)) + 1 := by omega
          simp only [hs, List.getElem_cons_succ, List.take_succ_cons] at h3
          refine ⟨by omega, by simp at h2; omega, by simpa using h3, h4, fun j hj => ?_⟩
          have := h5 (j + 1) (by omega)
          rw [List.getElem_cons_succ] at this
          simpa using this
    · rename_i h0
      simp only [Option.some.injEq, Prod.mk.injEq]
      constructor
      · rintro ⟨rfl, rfl⟩
        exact ⟨Nat.le_refl _, by simp, by simp, h0, fun j hj => by omega⟩
      · rintro ⟨h1, h2, h3, h4, h5⟩
        by_cases hin : n = i
        · subst hin
          simp only [Nat.sub_self, List.take_zero, List.append_nil, List.getElem_cons_zero] at h3
          exact ⟨rfl, h3⟩
        · have := h5 0 (by omega)
          exact absurd (by simpa using this) h0
def OkE (l : LotD) (es : List EntD) : Prop := es.length ≤ 8 ∧ es.all (fun x => isBlockL l x.1 && isGradeL l x.2.1) = true
/-- A lot that is fine. -/
structure FineL (l : LotD) : Prop where
  v : validL l = true
  c : clashL l = false
theorem err_of {l : LotD} (hf : FineL l) (es : List EntD) (valid : Bool) : errL l es valid = if es.length ≤ 8 then (if valid && es.all (fun x => isBlockL l x.1 && isGradeL l x.2.1) then 0 else 2) else 3 := by
  unfold errL
  rw [if_pos hf.v, hf.c]
  simp
theorem check_of {l : LotD} (hf : FineL l) (es : List EntD) :
    (∃ e : Int, (e = 3 ∨ e = 2) ∧ checkL l es = (0, 0, e) ∧ sumD l es = (0, e)) ∨
    (OkE l es ∧ ∃ (n : Nat) (h : n < es.length) (r : Int), checkL l es = ((n : Int), r, 0) ∧ sumD l es = (0, 11) ∧ ruleL l (es.take n) es[n] = r ∧ r ≠ 0 ∧ ∀ j (h2 : j < n), ruleL l (es.take j) (es[j]'(by omega)) = 0) ∨
    (OkE l es ∧ checkL l es = (0, 0, 4) ∧ sumD l es = (sumL es, 0) ∧ ∀ j (h : j < es.length), ruleL l (es.take j) es[j] = 0) := by
  unfold checkL sumD
  simp only [err_of hf, Bool.true_and]
  by_cases h8 : es.length ≤ 8
  · by_cases hr : es.all (fun x => isBlockL l x.1 && isGradeL l x.2.1) = true
    · right
      rw [if_pos h8, if_pos hr]
      simp only [if_true]
      cases hb : brokenL l [] es 0 with
      | none =>
        right
        rw [brokenL_none] at hb
        exact ⟨⟨h8, hr⟩, rfl, rfl, by simpa using hb⟩
      | some p =>
        left
        obtain ⟨n, r⟩ := p
        obtain ⟨_, h1, h2, h3, h4⟩ := (brokenL_some l r n es [] 0).1 hb
        simp only [Nat.sub_zero, List.nil_append] at h1 h2 h4
        exact ⟨⟨h8, hr⟩, n, h1, r, rfl, rfl, h2, h3, h4⟩
    · left
      refine ⟨2, .inr rfl, ?_, ?_⟩ <;> simp [h8, hr]
  · left
    refine ⟨3, .inl rfl, ?_, ?_⟩ <;> simp [h8]
theorem check_none {l : LotD} (hf : FineL l) {es : List EntD} (ho : OkE l es) (h : ∀ j (h : j < es.length), ruleL l (es.take j) es[j] = 0) : checkL l es = (0, 0, 4) ∧ sumD l es = (sumL es, 0) := by
  have hb : brokenL l [] es 0 = none := by rw [brokenL_none]; simpa using h
  unfold checkL sumD
  simp only [err_of hf, Bool.true_and, ho.1, ho.2, if_true, hb]
  exact ⟨trivial, trivial⟩
theorem check_some {l : LotD} (hf : FineL l) {es : List EntD} (ho : OkE l es) (n : Nat) (hn : n < es.length) (r : Int) (h1 : ruleL l (es.take n) es[n] = r) (h2 : r ≠ 0) (h3 : ∀ j (h : j < n), ruleL l (es.take j) (es[j]'(by omega)) = 0) : checkL l es = ((n : Int), r, 0) := by
  have hb : brokenL l [] es 0 = some (n, r) := by rw [brokenL_some]; exact ⟨Nat.zero_le _, hn, by simpa using h1, h2, by simpa using h3⟩
  unfold checkL
  simp only [err_of hf, Bool.true_and, ho.1, ho.2, if_true, hb]
theorem ok_of {l : LotD} {es fs : List EntD} (ho : OkE l es) (h8 : fs.length ≤ 8) (hs : ∀ x ∈ fs, x ∈ es ∨ (isBlockL l x.1 && isGradeL l x.2.1) = true) : OkE l fs := by
  refine ⟨h8, List.all_eq_true.2 fun x hx => ?_⟩
  rcases hs x hx with h | h
  · exact List.all_eq_true.1 ho.2 x h
  · exact h
/-- The list up to what breaks a rule, and with it. -/
theorem check_upto {l : LotD} (hf : FineL l) {es : List EntD} (ho : OkE l es) (n : Nat) (hn : n < es.length) (r : Int) (h1 : ruleL l (es.take n) es[n] = r) (h2 : r ≠ 0) (h3 : ∀ j (h : j < n), ruleL l (es.take j) (es[j]'(by omega)) = 0) :
    checkL l (es.take n) = (0, 0, 4) ∧ checkL l (es.take (n + 1)) = ((n : Int), r, 0) := by
  have hl : ∀ k, (es.take k).length ≤ 8 := fun k => by rw [List.length_take]; have := ho.1; omega
  have ho2 : ∀ k, OkE l (es.take k) := fun k => ok_of ho (hl k) fun x hx => .inl (List.mem_of_mem_take hx)
  constructor
  · refine (check_none hf (ho2 n) fun j hj => ?_).1
    rw [List.length_take] at hj
    rw [List.getElem_take, List.take_take, Nat.min_eq_left (by omega)]
    exact h3 j (by omega)
  · have hln : (es.take (n + 1)).length = n + 1 := by rw [List.length_take]; omega
    refine check_some hf (ho2 _) n (by omega) r ?_ h2 fun j hj => ?_
    · rw [List.getElem_take, List.take_take, Nat.min_eq_left (by omega)]
      exact h1
    · rw [List.getElem_take, List.take_take, Nat.min_eq_left (by omega)]
      exact h3 j hj
theorem rule_zero {l : LotD} {before : List EntD} {x : EntD} : ruleL l before x = 0 ↔ before.any (fun y => y.1 == x.1) = false ∧ sureL l x.1.toNat x.2.1.toNat = true ∧ x.2.2 = paidL l x.2.1.toNat := by
  unfold ruleL
  by_cases h1 : before.any (fun y => y.1 == x.1) = true <;> by_cases h2 : sureL l x.1.toNat x.2.1.toNat = true <;> by_cases h3 : x.2.2 = paidL l x.2.1.toNat <;> simp [h1, h2, h3]
/-- One less is right, too. -/
theorem check_less {l : LotD} (hf : FineL l) {es : List EntD} (ho : OkE l es) (h : ∀ j (h : j < es.length), ruleL l (es.take j) es[j] = 0) (i : Nat) (hi : i < es.length) : checkL l (es.take i ++ es.drop (i + 1)) = (0, 0, 4) := by
  have hln : (es.take i ++ es.drop (i + 1)).length = es.length - 1 := by rw [List.length_append, List.length_take, List.length_drop]; omega
  refine (check_none hf (ok_of ho (by have := ho.1; omega) fun x hx => ?_) fun j hj => ?_).1
  · rcases List.mem_append.1 hx with h | h
    · exact .inl (List.mem_of_mem_take h)
    · exact .inl (List.mem_of_mem_drop h)
  · rw [hln] at hj
    by_cases hji : j < i
    · rw [List.getElem_append_left (by rw [List.length_take]; omega), List.getElem_take, List.take_append_of_le_length (by rw [List.length_take]; omega), List.take_take, Nat.min_eq_left (by omega)]
      exact h j (by omega)
    · have hlt : (es.take i).length = i := by rw [List.length_take]; omega
      have h9 := h (j + 1) (by omega)
      rw [List.getElem_append_right (by omega), List.getElem_drop]
      have hix : i + 1 + (j - (es.take i).length) = j + 1 := by omega
      have he : es[i + 1 + (j - (es.take i).length)]'(by omega) = es[j + 1] := by congr 1
      rw [he, rule_zero]
      rw [rule_zero] at h9
      refine ⟨?_, h9.2⟩
      rw [List.any_eq_false] at h9 ⊢
      intro y hy
      refine h9.1 y ?_
      rw [List.take_append, List.take_of_length_le (by omega), hlt] at hy
      rcases List.mem_append.1 hy with hy | hy
      · exact List.take_subset_take_left es (by omega : i ≤ j + 1) hy
      · rw [List.take_drop] at hy
        have hjj : i + 1 + (j - i) = j + 1 := by omega
        rw [hjj] at hy
        exact List.mem_of_mem_drop hy
/-- A block that is booked twice breaks the first rule. -/
theorem check_twice {l : LotD} (hf : FineL l) {es : List EntD} (ho : OkE l es) (h : ∀ j (h : j < es.length), ruleL l (es.take j) es[j] = 0) (i : Nat) (hi : i < es.length) (h8 : es.length < 8) : checkL l (es ++ [es[i]]) = ((es.length : Int), 1, 0) := by
  refine check_some hf (ok_of ho (by simp; omega) fun x hx => ?_) es.length (by simp) 1 ?_ (by decide) fun j hj => ?_
  · rcases List.mem_append.1 hx with h | h
    · exact .inl h
    · rw [List.mem_singleton.1 h]; exact .inl (List.getElem_mem hi)
  · simp only [List.take_left', List.getElem_concat_length]
    unfold ruleL
    rw [if_pos]
    rw [List.any_eq_true]
    exact ⟨es[i], List.getElem_mem hi, by simp⟩
  · rw [List.getElem_append_left hj, List.take_append_of_le_length (by omega)]
    exact h j hj
/-- A block that is not in the list can be booked for what is paid. -/
theorem check_more {l : LotD} (hf : FineL l) {es : List EntD} (ho : OkE l es) (h : ∀ j (h : j < es.length), ruleL l (es.take j) es[j] = 0) (b : Nat) (hb : b < l.blocks.length) (h8 : es.length < 8) (hn : ∀ x ∈ es, x.1 ≠ (b : Int)) (hs : sellsN l b < l.lim.length) :
    sumD l (es ++ [((b : Int), (sellsN l b : Int), paidL l (sellsN l b))]) = (sumL es + paidL l (sellsN l b), 0) := by
  have hsum : sumL (es ++ [((b : Int), (sellsN l b : Int), paidL l (sellsN l b))]) = sumL es + paidL l (sellsN l b) := by unfold sumL; simp
  rw [← hsum]
  refine (check_none hf (ok_of ho (by simp; omega) fun x hx => ?_) fun j hj => ?_).2
  · rcases List.mem_append.1 hx with h | h
    · exact .inl h
    · rw [List.mem_singleton.1 h]
      refine .inr ?_
      simp [isBlockL, isGradeL]
      omega
  · by_cases hjl : j < es.length
    · rw [List.getElem_append_left hjl, List.take_append_of_le_length (by omega)]
      exact h j hjl
    · have : j = es.length := by simp at hj; omega
      subst this
      simp only [List.take_left', List.getElem_concat_length]
      rw [rule_zero]
      refine ⟨?_, ?_, ?_⟩
      · rw [List.any_eq_false]
        intro x hx
        simpa using hn x hx
      · simp only [Int.toNat_natCast]
        exact (sells_le b _ hs).1 (Nat.le_refl _)
      · simp
end Go.Proofs.Ytagjepclobobjaa

/- The reference's small functions of grades and lots. -/
namespace Go.Proofs.Ytagjepclobobjaa
set_option linter.unusedVariables false
set_option linter.unusedSimpArgs false
open Go.RowKit Go.Shelf
attribute [local go_sem] Oper.semAt_some

theorem r7in_any (n a b : Int) (w : World) :
    Calls Try.prog 79 #[.int .i64 n, .int .i64 a, .int .i64 b] w fun e w' => e = .returned (.bool (inN n a b)) ∧ w = w' := by
  have H : Hid (inN n a b = (decide (a ≤ n) && decide (n ≤ b))) := by show _ = _; simp [inN]
  go_enter Try.func79, Try.ntmps79
  go_wp2
  all_goals go_ret
  all_goals exact ⟨by rw [H.out]; simp [*]; try omega, rfl⟩
theorem r13in_any (n a b : Int) (w : World) :
    Calls Try.prog 53 #[.int .i64 n, .int .i64 a, .int .i64 b] w fun e w' => e = .returned (.bool (inN n a b)) ∧ w = w' := by
  have H : Hid (inN n a b = (decide (a ≤ n) && decide (n ≤ b))) := by show _ = _; simp [inN]
  go_enter Try.func53, Try.ntmps53
  go_wp2
  all_goals go_ret
  all_goals exact ⟨by rw [H.out]; simp [*]; try omega, rfl⟩
/-- Is a limit right, behind the one ahead of it? -/
def limR (lim : List (Int × Int)) (i : Nat) : Bool := inN (lim.getD i (0, 0)).1 0 20 && inN (lim.getD i (0, 0)).2 0 20 && (decide (i = 0) || (decide ((lim.getD (i - 1) (0, 0)).1 ≤ (lim.getD i (0, 0)).1) && decide ((lim.getD (i - 1) (0, 0)).2 ≤ (lim.getD i (0, 0)).2)))
theorem limR_upto (lim : List (Int × Int)) : ∀ n, (∀ i, i < n → limR lim i = true) ↔ (∀ i, i < n → limOk (lastG lim i) (lim.getD i (0, 0)) = true)
  | 0 => by simp
  | n + 1 => by
    have ih := limR_upto lim n
    have hs : ∀ p : Nat → Prop, (∀ i, i < n + 1 → p i) ↔ (∀ i, i < n → p i) ∧ p n := fun p => ⟨fun h => ⟨fun i hi => h i (by omega), h n (by omega)⟩, fun h i hi => by
      by_cases he : i = n
      · subst he; exact h.2
      · exact h.1 i (by omega)⟩
    rw [hs, hs, ih]
    refine and_congr_right fun h => ?_
    have h0 : n = 0 ∨ (0 ≤ (lim.getD (n - 1) (0, 0)).1 ∧ 0 ≤ (lim.getD (n - 1) (0, 0)).2) := by
      by_cases hn : n = 0
      · exact .inl hn
      · have := ih.2 h (n - 1) (by omega)
        unfold limR inN at this
        simp at this
        exact .inr ⟨this.1.1.1, this.1.2.1⟩
    unfold limR limOk lastG inN
    by_cases hn : n = 0
    · subst hn
      simp
    · have h0 := h0.resolve_left hn
      rw [if_neg hn]
      generalize lim.getD n (0, 0) = x at *
      generalize lim.getD (n - 1) (0, 0) = y at *
      simp only [Bool.and_eq_true, Bool.or_eq_true, decide_eq_true_eq]
      omega
def ptR (s : Int × Int) : Bool := !(decide (s.1 < -20) || decide (s.2 < s.1) || decide (20 < s.2) || decide (6 < s.2 - s.1))
theorem ptR_ok (s : Int × Int) : ptR s = ptOk s := by
  unfold ptR ptOk
  rw [Bool.eq_iff_iff]
  simp
theorem validG_r (g : GradeD) (hp : g.pts.length = 5) : validG g = (inN (g.lim.length : Int) 1 4 && inN g.step 0 10 && ((List.range g.lim.length).all fun i => limR g.lim i) && ((List.range 5).all fun i => ptR (g.pts.getD i (0, 0)))) := by
  have h1 : ((List.range g.lim.length).all fun i => limR g.lim i) = (List.range g.lim.length).all fun i => limOk (lastG g.lim i) (g.lim.getD i (0, 0)) := by
    rw [Bool.eq_iff_iff, List.all_eq_true, List.all_eq_true]
    simpa using limR_upto g.lim g.lim.length
  have h2 : ((List.range 5).all fun i => ptR (g.pts.getD i (0, 0))) = g.pts.all ptOk := by
    obtain ⟨lim, pts, step⟩ := g
    match pts, hp with
    | [a, b, c, d, e], _ =>
      simp [List.range, List.range.loop, ptR_ok]
  rw [h1, h2]
  unfold validG inN
  congr 2
  rw [Bool.eq_iff_iff]
  simp only [Bool.and_eq_true, decide_eq_true_eq]
  omega
set_option maxRecDepth 100000 in
set_option maxHeartbeats 4000000 in
theorem r7grade_any (g : GradeD) (hp : g.pts.length = 5) (lv : Value) (w : World) (hl : SpansAt w lv g.lim (fun k => k < w.heap.size)) (hl9 : g.lim.length ≤ 1000) :
    Calls Try.prog 54 #[gradeV lv g.pts g.step] w fun e w' => e = .returned (.bool (validG g)) ∧ Below w.heap.size w w' := by
  have HV := Lib.hid (validG_r g hp)
  obtain ⟨lim, pts, step⟩ := g
  obtain ⟨ao, cap, rfl, _, _, hel⟩ := hl
  match pts, hp with
  | [(a0, b0), (a1, b1), (a2, b2), (a3, b3), (a4, b4)], _ =>
  generalize hvv : validG ⟨lim, [(a0, b0), (a1, b1), (a2, b2), (a3, b3), (a4, b4)], step⟩ = vv at HV ⊢
  clear hvv
  obtain ⟨n, hn⟩ : ∃ n, n = lim.length := ⟨_, rfl⟩
  have HN := Lib.hid hn
  have HEL := Lib.hid hel
  dsimp only at hl9 HV ⊢
  rw [← hn] at HV hl9 ⊢
  clear hn hel
  unfold gradeV gradeC ptsC
  simp only [List.flatMap_cons, List.flatMap_nil, List.cons_append, List.nil_append, List.append_nil]
  go_enter Try.func54, Try.ntmps54
  go_wp2_with fail
  refine (r7in_any _ _ _ _).mono ?_
  rintro e w1 ⟨rfl, rfl⟩
  dsimp only
  cases h1 : inN (n : Int) 1 4 with
  | false =>
    go_wp2_with fail
    refine bodyPost_ret (v := .bool false) (by simp [results, Try.results54, go_sem]) rfl ⟨congrArg (fun b => Ending.returned (Value.bool b)) ?_, below_allocG _ _⟩
    rw [HV.out, h1]
    rfl
  | true =>
  go_wp2_with fail
  refine (r7in_any _ _ _ _).mono ?_
  rintro e w2 ⟨rfl, rfl⟩
  dsimp only
  cases h2 : inN step 0 10 with
  | false =>
    go_wp2_with fail
    refine bodyPost_ret (v := .bool false) (by simp [results, Try.results54, go_sem]) rfl ⟨congrArg (fun b => Ending.returned (Value.bool b)) ?_, below_allocG _ _⟩
    rw [HV.out, h1, h2]
    rfl
  | true =>
  replace HV := Lib.hid (show _ = _ from (show vv = (((List.range n).all fun i => limR lim i) && ((List.range 5).all fun i => ptR ([(a0, b0), (a1, b1), (a2, b2), (a3, b3), (a4, b4)].getD i (0, 0)))) by rw [HV.out, h1, h2]; rfl))
  go_wp2_with fail
  refine wp_name (fun W => W.heap[w.heap.size]? = some (.cells #[.slice ao n cap, .int .i64 a0, .int .i64 b0, .int .i64 a1, .int .i64 b1, .int .i64 a2, .int .i64 b2, .int .i64 a3, .int .i64 b3, .int .i64 a4, .int .i64 b4, .int .i64 step] 53 (0, 0)) ∧ Below w.heap.size w W) ⟨(by repeat (first | (refine heap_alloc_at _ _ _ ?_; (simp <;> omega); done) | (refine (hget_old _ _ _ ?_).trans ?_; · (simp <;> omega)))), below_allocG _ _⟩ ?_
  rintro W0 ⟨hrow, hb0⟩
  have HI0 := Lib.hid (And.intro hrow hb0)
  clear hrow hb0 h1 h2
  go_loopw [3] (fun iv wr => ∃ i : Nat, i ≤ n ∧ iv = .int .i64 i ∧ (∀ j, j < i → limR lim j = true) ∧ wr.heap[w.heap.size]? = some (.cells #[.slice ao n cap, .int .i64 a0, .int .i64 b0, .int .i64 a1, .int .i64 b1, .int .i64 a2, .int .i64 b2, .int .i64 a3, .int .i64 b3, .int .i64 a4, .int .i64 b4, .int .i64 step] 53 (0, 0)) ∧ Below w.heap.size w wr)
    (fun iv _ => n - (intOf iv).toNat)
  case atStart => exact ⟨0, Nat.zero_le _, rfl, (fun j hj => by omega), HI0.out.1, HI0.out.2⟩
  case round =>
    obtain ⟨i, hi, rfl, hpre, hrow, hb⟩ := hrel
    have HPRE := Lib.hid hpre
    have HROW := Lib.hid hrow
    have HB := Lib.hid hb
    have c0 : wr.cell? ⟨w.heap.size, 0, none⟩ = some (.slice ao n cap) := by rw [cell_of_row _ _ _ _ _ _ hrow]; rfl
    clear hpre hrow hb
    by_cases hlt : i < n
    · obtain ⟨b, off, rfl, _, hbl, e0, e1⟩ := HEL.out i (by rw [← HN.out]; exact hlt)
      replace e0 := (World.cell?_of_block (w := w) (w' := wr) (a := ⟨b, off + i * 2, none⟩) (HB.out.block b hbl)).trans e0
      replace e1 := (World.cell?_of_block (w := w) (w' := wr) (a := ⟨b, off + i * 2 + 1, none⟩) (HB.out.block b hbl)).trans e1
      obtain ⟨⟨x, y⟩, hx⟩ : ∃ x, x = lim[i]'(by rw [← HN.out]; exact hlt) := ⟨_, rfl⟩
      rw [← hx] at e0 e1
      have HX := Lib.hid (show lim.getD i (0, 0) = (x, y) by rw [List.getD_eq_getElem?_getD, List.getElem?_eq_getElem (by rw [← HN.out]; exact hlt), ← hx]; rfl)
      clear hx
      have hw : IntKind.i64.wrap ((i : Int) + 1) = ((i + 1 : Nat) : Int) := by rw [IntWalk.i64_in _ (by omega)]; omega
      have hlti : (i : Int) < (n : Int) := by omega
      obtain ⟨b', off', hbb, _, _, f0, f1⟩ := HEL.out (i - 1) (by rw [← HN.out]; omega)
      cases hbb
      replace f0 := (World.cell?_of_block (w := w) (w' := wr) (a := ⟨b, off + (i - 1) * 2, none⟩) (HB.out.block b hbl)).trans f0
      replace f1 := (World.cell?_of_block (w := w) (w' := wr) (a := ⟨b, off + (i - 1) * 2 + 1, none⟩) (HB.out.block b hbl)).trans f1
      obtain ⟨⟨px, py⟩, hx⟩ : ∃ x, x = lim[i - 1]'(by rw [← HN.out]; omega) := ⟨_, rfl⟩
      rw [← hx] at f0 f1
      have HP := Lib.hid (show lim.getD (i - 1) (0, 0) = (px, py) by rw [List.getD_eq_getElem?_getD, List.getElem?_eq_getElem (by rw [← HN.out]; omega), ← hx]; rfl)
      clear hx
      have HR : Hid (limR lim i = (inN x 0 20 && inN y 0 20 && (decide (i = 0) || (decide (px ≤ x) && decide (py ≤ y))))) := Lib.hid (by unfold limR; rw [HX.out, HP.out])
      have hbl2 : b < wr.heap.size := Nat.lt_of_lt_of_le hbl HB.out.size
      go_upto_region 7 with fail
      refine wp_name (fun W => (W.cell? ⟨w.heap.size, 0, none⟩ = some (.slice (some ⟨b, off, none⟩) n cap) ∧ W.cell? ⟨wr.heap.size, 0, none⟩ = some (.int .i64 x) ∧ W.cell? ⟨wr.heap.size, 1, none⟩ = some (.int .i64 y) ∧ W.cell? ⟨b, off + (i - 1) * 2, none⟩ = some (.int .i64 px) ∧ W.cell? ⟨b, off + (i - 1) * 2 + 1, none⟩ = some (.int .i64 py)) ∧ Below wr.heap.size wr W) ⟨⟨(World.cell?_of_block (hget_old _ _ _ (Nat.ne_of_lt (lt_of_block HROW.out)))).trans c0, by simp, by simp, (World.cell?_of_block (hget_old _ _ _ (Nat.ne_of_lt hbl2))).trans f0, (World.cell?_of_block (hget_old _ _ _ (Nat.ne_of_lt hbl2))).trans f1⟩, below_allocG _ _⟩ ?_
      rintro W7 ⟨hcells, hb7⟩
      have HB7 := Lib.hid hb7
      have HC7 := Lib.hid hcells
      clear hb7 hcells c0 e0 e1 f0 f1
      have hw1 : IntKind.i64.wrap ((i : Int) - 1) = (i : Int) - 1 := by rw [IntWalk.i64_in _ (by omega)]
      have ht1 : ((i : Int) - 1).toNat = i - 1 := by omega
      have hl1 : (i : Int) - 1 < (n : Int) := by omega
      refine wp_region_held_drew (S := fun W => W.cell? ⟨w.heap.size, 0, none⟩ = some (.slice (some ⟨b, off, none⟩) n cap) ∧ W.cell? ⟨wr.heap.size, 0, none⟩ = some (.int .i64 x) ∧ W.cell? ⟨wr.heap.size, 1, none⟩ = some (.int .i64 y) ∧ W.cell? ⟨b, off + (i - 1) * 2, none⟩ = some (.int .i64 px) ∧ W.cell? ⟨b, off + (i - 1) * 2 + 1, none⟩ = some (.int .i64 py)) rfl HC7.out fun hS => ?_
      cases h3 : inN x 0 20 with
      | false =>
        first | refine wpAnyH_take (i := 0) (v := undef) rfl (by kernel_rfl) (by kernel_rfl) (by kernel_rfl) (fun _ _ _ h => h) (.inr ⟨rfl, rfl⟩) hS ?_ | (refine wpAnyH_take (i := 0) (v := ?_) rfl (by kernel_rfl) (by kernel_rfl) (by kernel_rfl) (fun _ _ _ h => h) (Or.inl ⟨by rfl, ?_⟩) hS ?_; rotate_left; (intro W hSw; obtain ⟨q0, q1, q2, q3, q4⟩ := hSw; go_simp; try with_reducible rfl))
        try simp only [List.getElem_toArray, List.getElem_cons_succ, List.getElem_cons_zero, Act.put, List.setIfInBounds_toArray, List.set_cons_zero, List.set_cons_succ]
        first | refine wpAnyH_take (i := 1) (v := undef) rfl (by kernel_rfl) (by kernel_rfl) (by kernel_rfl) (fun _ _ _ h => h) (.inr ⟨rfl, rfl⟩) hS ?_ | (refine wpAnyH_take (i := 1) (v := ?_) rfl (by kernel_rfl) (by kernel_rfl) (by kernel_rfl) (fun _ _ _ h => h) (Or.inl ⟨by rfl, ?_⟩) hS ?_; rotate_left; (intro W hSw; obtain ⟨q0, q1, q2, q3, q4⟩ := hSw; go_simp; try with_reducible rfl))
        try simp only [List.getElem_toArray, List.getElem_cons_succ, List.getElem_cons_zero, Act.put, List.setIfInBounds_toArray, List.set_cons_zero, List.set_cons_succ]
        refine wpAnyH_ready (rs := [2]) (by kernel_rfl) (by simp) ?_
        refine AllReadyH.cons rfl (fun K hK => ?_) AllReadyH.nil
        go_simp
        refine (r7in_any _ _ _ _).mono ?_
        rintro e wz ⟨rfl, rfl⟩
        first | rw [h3] | rw [h4]
        dsimp only
        refine hK.out _ _ hS (fun hS => ?_)
        clear hK K
        try simp only [List.getElem_toArray, List.getElem_cons_succ, List.getElem_cons_zero, Act.put, List.setIfInBounds_toArray, List.set_cons_zero, List.set_cons_succ]
        first | refine wpAnyH_take (i := 3) (v := undef) rfl (by kernel_rfl) (by kernel_rfl) (by kernel_rfl) (fun _ _ _ h => h) (.inr ⟨rfl, rfl⟩) hS ?_ | (refine wpAnyH_take (i := 3) (v := ?_) rfl (by kernel_rfl) (by kernel_rfl) (by kernel_rfl) (fun _ _ _ h => h) (Or.inl ⟨by rfl, ?_⟩) hS ?_; rotate_left; (intro W hSw; obtain ⟨q0, q1, q2, q3, q4⟩ := hSw; go_simp; try with_reducible rfl))
        try simp only [List.getElem_toArray, List.getElem_cons_succ, List.getElem_cons_zero, Act.put, List.setIfInBounds_toArray, List.set_cons_zero, List.set_cons_succ]
        first | refine wpAnyH_take (i := 4) (v := undef) rfl (by kernel_rfl) (by kernel_rfl) (by kernel_rfl) (fun _ _ _ h => h) (.inr ⟨rfl, rfl⟩) hS ?_ | (refine wpAnyH_take (i := 4) (v := ?_) rfl (by kernel_rfl) (by kernel_rfl) (by kernel_rfl) (fun _ _ _ h => h) (Or.inl ⟨by rfl, ?_⟩) hS ?_; rotate_left; (intro W hSw; obtain ⟨q0, q1, q2, q3, q4⟩ := hSw; go_simp; try with_reducible rfl))
        try simp only [List.getElem_toArray, List.getElem_cons_succ, List.getElem_cons_zero, Act.put, List.setIfInBounds_toArray, List.set_cons_zero, List.set_cons_succ]
        first | refine wpAnyH_take (i := 5) (v := undef) rfl (by kernel_rfl) (by kernel_rfl) (by kernel_rfl) (fun _ _ _ h => h) (.inr ⟨rfl, rfl⟩) hS ?_ | (refine wpAnyH_take (i := 5) (v := ?_) rfl (by kernel_rfl) (by kernel_rfl) (by kernel_rfl) (fun _ _ _ h => h) (Or.inl ⟨by rfl, ?_⟩) hS ?_; rotate_left; (intro W hSw; obtain ⟨q0, q1, q2, q3, q4⟩ := hSw; go_simp; try with_reducible rfl))
        try simp only [List.getElem_toArray, List.getElem_cons_succ, List.getElem_cons_zero, Act.put, List.setIfInBounds_toArray, List.set_cons_zero, List.set_cons_succ]
        first | refine wpAnyH_take (i := 6) (v := undef) rfl (by kernel_rfl) (by kernel_rfl) (by kernel_rfl) (fun _ _ _ h => h) (.inr ⟨rfl, rfl⟩) hS ?_ | (refine wpAnyH_take (i := 6) (v := ?_) rfl (by kernel_rfl) (by kernel_rfl) (by kernel_rfl) (fun _ _ _ h => h) (Or.inl ⟨by rfl, ?_⟩) hS ?_; rotate_left; (intro W hSw; obtain ⟨q0, q1, q2, q3, q4⟩ := hSw; go_simp; try with_reducible rfl))
        try simp only [List.getElem_toArray, List.getElem_cons_succ, List.getElem_cons_zero, Act.put, List.setIfInBounds_toArray, List.set_cons_zero, List.set_cons_succ]
        first | refine wpAnyH_take (i := 7) (v := undef) rfl (by kernel_rfl) (by kernel_rfl) (by kernel_rfl) (fun _ _ _ h => h) (.inr ⟨rfl, rfl⟩) hS ?_ | (refine wpAnyH_take (i := 7) (v := ?_) rfl (by kernel_rfl) (by kernel_rfl) (by kernel_rfl) (fun _ _ _ h => h) (Or.inl ⟨by rfl, ?_⟩) hS ?_; rotate_left; (intro W hSw; obtain ⟨q0, q1, q2, q3, q4⟩ := hSw; go_simp; try with_reducible rfl))
        try simp only [List.getElem_toArray, List.getElem_cons_succ, List.getElem_cons_zero, Act.put, List.setIfInBounds_toArray, List.set_cons_zero, List.set_cons_succ]
        first | refine wpAnyH_take (i := 8) (v := undef) rfl (by kernel_rfl) (by kernel_rfl) (by kernel_rfl) (fun _ _ _ h => h) (.inr ⟨rfl, rfl⟩) hS ?_ | (refine wpAnyH_take (i := 8) (v := ?_) rfl (by kernel_rfl) (by kernel_rfl) (by kernel_rfl) (fun _ _ _ h => h) (Or.inl ⟨by rfl, ?_⟩) hS ?_; rotate_left; (intro W hSw; obtain ⟨q0, q1, q2, q3, q4⟩ := hSw; go_simp; try with_reducible rfl))
        try simp only [List.getElem_toArray, List.getElem_cons_succ, List.getElem_cons_zero, Act.put, List.setIfInBounds_toArray, List.set_cons_zero, List.set_cons_succ]
        first | refine wpAnyH_take (i := 9) (v := undef) rfl (by kernel_rfl) (by kernel_rfl) (by kernel_rfl) (fun _ _ _ h => h) (.inr ⟨rfl, rfl⟩) hS ?_ | (refine wpAnyH_take (i := 9) (v := ?_) rfl (by kernel_rfl) (by kernel_rfl) (by kernel_rfl) (fun _ _ _ h => h) (Or.inl ⟨by rfl, ?_⟩) hS ?_; rotate_left; (intro W hSw; obtain ⟨q0, q1, q2, q3, q4⟩ := hSw; go_simp; try with_reducible rfl))
        try simp only [List.getElem_toArray, List.getElem_cons_succ, List.getElem_cons_zero, Act.put, List.setIfInBounds_toArray, List.set_cons_zero, List.set_cons_succ]
        first | refine wpAnyH_take (i := 10) (v := undef) rfl (by kernel_rfl) (by kernel_rfl) (by kernel_rfl) (fun _ _ _ h => h) (.inr ⟨rfl, rfl⟩) hS ?_ | (refine wpAnyH_take (i := 10) (v := ?_) rfl (by kernel_rfl) (by kernel_rfl) (by kernel_rfl) (fun _ _ _ h => h) (Or.inl ⟨by rfl, ?_⟩) hS ?_; rotate_left; (intro W hSw; obtain ⟨q0, q1, q2, q3, q4⟩ := hSw; go_simp; try with_reducible rfl))
        try simp only [List.getElem_toArray, List.getElem_cons_succ, List.getElem_cons_zero, Act.put, List.setIfInBounds_toArray, List.set_cons_zero, List.set_cons_succ]
        first | refine wpAnyH_take (i := 11) (v := undef) rfl (by kernel_rfl) (by kernel_rfl) (by kernel_rfl) (fun _ _ _ h => h) (.inr ⟨rfl, rfl⟩) hS ?_ | (refine wpAnyH_take (i := 11) (v := ?_) rfl (by kernel_rfl) (by kernel_rfl) (by kernel_rfl) (fun _ _ _ h => h) (Or.inl ⟨by rfl, ?_⟩) hS ?_; rotate_left; (intro W hSw; obtain ⟨q0, q1, q2, q3, q4⟩ := hSw; go_simp; try with_reducible rfl))
        try simp only [List.getElem_toArray, List.getElem_cons_succ, List.getElem_cons_zero, Act.put, List.setIfInBounds_toArray, List.set_cons_zero, List.set_cons_succ]
        first | refine wpAnyH_take (i := 12) (v := undef) rfl (by kernel_rfl) (by kernel_rfl) (by kernel_rfl) (fun _ _ _ h => h) (.inr ⟨rfl, rfl⟩) hS ?_ | (refine wpAnyH_take (i := 12) (v := ?_) rfl (by kernel_rfl) (by kernel_rfl) (by kernel_rfl) (fun _ _ _ h => h) (Or.inl ⟨by rfl, ?_⟩) hS ?_; rotate_left; (intro W hSw; obtain ⟨q0, q1, q2, q3, q4⟩ := hSw; go_simp; try with_reducible rfl))
        try simp only [List.getElem_toArray, List.getElem_cons_succ, List.getElem_cons_zero, Act.put, List.setIfInBounds_toArray, List.set_cons_zero, List.set_cons_succ]
        first | refine wpAnyH_take (i := 13) (v := undef) rfl (by kernel_rfl) (by kernel_rfl) (by kernel_rfl) (fun _ _ _ h => h) (.inr ⟨rfl, rfl⟩) hS ?_ | (refine wpAnyH_take (i := 13) (v := ?_) rfl (by kernel_rfl) (by kernel_rfl) (by kernel_rfl) (fun _ _ _ h => h) (Or.inl ⟨by rfl, ?_⟩) hS ?_; rotate_left; (intro W hSw; obtain ⟨q0, q1, q2, q3, q4⟩ := hSw; go_simp; try with_reducible rfl))
        try simp only [List.getElem_toArray, List.getElem_cons_succ, List.getElem_cons_zero, Act.put, List.setIfInBounds_toArray, List.set_cons_zero, List.set_cons_succ]
        first | refine wpAnyH_take (i := 14) (v := undef) rfl (by kernel_rfl) (by kernel_rfl) (by kernel_rfl) (fun _ _ _ h => h) (.inr ⟨rfl, rfl⟩) hS ?_ | (refine wpAnyH_take (i := 14) (v := ?_) rfl (by kernel_rfl) (by kernel_rfl) (by kernel_rfl) (fun _ _ _ h => h) (Or.inl ⟨by rfl, ?_⟩) hS ?_; rotate_left; (intro W hSw; obtain ⟨q0, q1, q2, q3, q4⟩ := hSw; go_simp; try with_reducible rfl))
        try simp only [List.getElem_toArray, List.getElem_cons_succ, List.getElem_cons_zero, Act.put, List.setIfInBounds_toArray, List.set_cons_zero, List.set_cons_succ]
        first | refine wpAnyH_take (i := 15) (v := undef) rfl (by kernel_rfl) (by kernel_rfl) (by kernel_rfl) (fun _ _ _ h => h) (.inr ⟨rfl, rfl⟩) hS ?_ | (refine wpAnyH_take (i := 15) (v := ?_) rfl (by kernel_rfl) (by kernel_rfl) (by kernel_rfl) (fun _ _ _ h => h) (Or.inl ⟨by rfl, ?_⟩) hS ?_; rotate_left; (intro W hSw; obtain ⟨q0, q1, q2, q3, q4⟩ := hSw; go_simp; try with_reducible rfl))
        try simp only [List.getElem_toArray, List.getElem_cons_succ, List.getElem_cons_zero, Act.put, List.setIfInBounds_toArray, List.set_cons_zero, List.set_cons_succ]
        first | refine wpAnyH_take (i := 16) (v := undef) rfl (by kernel_rfl) (by kernel_rfl) (by kernel_rfl) (fun _ _ _ h => h) (.inr ⟨rfl, rfl⟩) hS ?_ | (refine wpAnyH_take (i := 16) (v := ?_) rfl (by kernel_rfl) (by kernel_rfl) (by kernel_rfl) (fun _ _ _ h => h) (Or.inl ⟨by rfl, ?_⟩) hS ?_; rotate_left; (intro W hSw; obtain ⟨q0, q1, q2, q3, q4⟩ := hSw; go_simp; try with_reducible rfl))
        try simp only [List.getElem_toArray, List.getElem_cons_succ, List.getElem_cons_zero, Act.put, List.setIfInBounds_toArray, List.set_cons_zero, List.set_cons_succ]
        first | refine wpAnyH_take (i := 17) (v := undef) rfl (by kernel_rfl) (by kernel_rfl) (by kernel_rfl) (fun _ _ _ h => h) (.inr ⟨rfl, rfl⟩) hS ?_ | (refine wpAnyH_take (i := 17) (v := ?_) rfl (by kernel_rfl) (by kernel_rfl) (by kernel_rfl) (fun _ _ _ h => h) (Or.inl ⟨by rfl, ?_⟩) hS ?_; rotate_left; (intro W hSw; obtain ⟨q0, q1, q2, q3, q4⟩ := hSw; go_simp; try with_reducible rfl))
        try simp only [List.getElem_toArray, List.getElem_cons_succ, List.getElem_cons_zero, Act.put, List.setIfInBounds_toArray, List.set_cons_zero, List.set_cons_succ]
        first | refine wpAnyH_take (i := 18) (v := undef) rfl (by kernel_rfl) (by kernel_rfl) (by kernel_rfl) (fun _ _ _ h => h) (.inr ⟨rfl, rfl⟩) hS ?_ | (refine wpAnyH_take (i := 18) (v := ?_) rfl (by kernel_rfl) (by kernel_rfl) (by kernel_rfl) (fun _ _ _ h => h) (Or.inl ⟨by rfl, ?_⟩) hS ?_; rotate_left; (intro W hSw; obtain ⟨q0, q1, q2, q3, q4⟩ := hSw; go_simp; try with_reducible rfl))
        try simp only [List.getElem_toArray, List.getElem_cons_succ, List.getElem_cons_zero, Act.put, List.setIfInBounds_toArray, List.set_cons_zero, List.set_cons_succ]
        first | refine wpAnyH_take (i := 19) (v := undef) rfl (by kernel_rfl) (by kernel_rfl) (by kernel_rfl) (fun _ _ _ h => h) (.inr ⟨rfl, rfl⟩) hS ?_ | (refine wpAnyH_take (i := 19) (v := ?_) rfl (by kernel_rfl) (by kernel_rfl) (by kernel_rfl) (fun _ _ _ h => h) (Or.inl ⟨by rfl, ?_⟩) hS ?_; rotate_left; (intro W hSw; obtain ⟨q0, q1, q2, q3, q4⟩ := hSw; go_simp; try with_reducible rfl))
        try simp only [List.getElem_toArray, List.getElem_cons_succ, List.getElem_cons_zero, Act.put, List.setIfInBounds_toArray, List.set_cons_zero, List.set_cons_succ]
        first | refine wpAnyH_take (i := 20) (v := undef) rfl (by kernel_rfl) (by kernel_rfl) (by kernel_rfl) (fun _ _ _ h => h) (.inr ⟨rfl, rfl⟩) hS ?_ | (refine wpAnyH_take (i := 20) (v := ?_) rfl (by kernel_rfl) (by kernel_rfl) (by kernel_rfl) (fun _ _ _ h => h) (Or.inl ⟨by rfl, ?_⟩) hS ?_; rotate_left; (intro W hSw; obtain ⟨q0, q1, q2, q3, q4⟩ := hSw; go_simp; try with_reducible rfl))
        try simp only [List.getElem_toArray, List.getElem_cons_succ, List.getElem_cons_zero, Act.put, List.setIfInBounds_toArray, List.set_cons_zero, List.set_cons_succ]
        first | refine wpAnyH_take (i := 21) (v := undef) rfl (by kernel_rfl) (by kernel_rfl) (by kernel_rfl) (fun _ _ _ h => h) (.inr ⟨rfl, rfl⟩) hS ?_ | (refine wpAnyH_take (i := 21) (v := ?_) rfl (by kernel_rfl) (by kernel_rfl) (by kernel_rfl) (fun _ _ _ h => h) (Or.inl ⟨by rfl, ?_⟩) hS ?_; rotate_left; (intro W hSw; obtain ⟨q0, q1, q2, q3, q4⟩ := hSw; go_simp; try with_reducible rfl))
        try simp only [List.getElem_toArray, List.getElem_cons_succ, List.getElem_cons_zero, Act.put, List.setIfInBounds_toArray, List.set_cons_zero, List.set_cons_succ]
        first | refine wpAnyH_take (i := 22) (v := undef) rfl (by kernel_rfl) (by kernel_rfl) (by kernel_rfl) (fun _ _ _ h => h) (.inr ⟨rfl, rfl⟩) hS ?_ | (refine wpAnyH_take (i := 22) (v := ?_) rfl (by kernel_rfl) (by kernel_rfl) (by kernel_rfl) (fun _ _ _ h => h) (Or.inl ⟨by rfl, ?_⟩) hS ?_; rotate_left; (intro W hSw; obtain ⟨q0, q1, q2, q3, q4⟩ := hSw; go_simp; try with_reducible rfl))
        try simp only [List.getElem_toArray, List.getElem_cons_succ, List.getElem_cons_zero, Act.put, List.setIfInBounds_toArray, List.set_cons_zero, List.set_cons_succ]
        first | refine wpAnyH_take (i := 23) (v := undef) rfl (by kernel_rfl) (by kernel_rfl) (by kernel_rfl) (fun _ _ _ h => h) (.inr ⟨rfl, rfl⟩) hS ?_ | (refine wpAnyH_take (i := 23) (v := ?_) rfl (by kernel_rfl) (by kernel_rfl) (by kernel_rfl) (fun _ _ _ h => h) (Or.inl ⟨by rfl, ?_⟩) hS ?_; rotate_left; (intro W hSw; obtain ⟨q0, q1, q2, q3, q4⟩ := hSw; go_simp; try with_reducible rfl))
        try simp only [List.getElem_toArray, List.getElem_cons_succ, List.getElem_cons_zero, Act.put, List.setIfInBounds_toArray, List.set_cons_zero, List.set_cons_succ]
        first | refine wpAnyH_take (i := 24) (v := undef) rfl (by kernel_rfl) (by kernel_rfl) (by kernel_rfl) (fun _ _ _ h => h) (.inr ⟨rfl, rfl⟩) hS ?_ | (refine wpAnyH_take (i := 24) (v := ?_) rfl (by kernel_rfl) (by kernel_rfl) (by kernel_rfl) (fun _ _ _ h => h) (Or.inl ⟨by rfl, ?_⟩) hS ?_; rotate_left; (intro W hSw; obtain ⟨q0, q1, q2, q3, q4⟩ := hSw; go_simp; try with_reducible rfl))
        try simp only [List.getElem_toArray, List.getElem_cons_succ, List.getElem_cons_zero, Act.put, List.setIfInBounds_toArray, List.set_cons_zero, List.set_cons_succ]
        first | refine wpAnyH_take (i := 25) (v := undef) rfl (by kernel_rfl) (by kernel_rfl) (by kernel_rfl) (fun _ _ _ h => h) (.inr ⟨rfl, rfl⟩) hS ?_ | (refine wpAnyH_take (i := 25) (v := ?_) rfl (by kernel_rfl) (by kernel_rfl) (by kernel_rfl) (fun _ _ _ h => h) (Or.inl ⟨by rfl, ?_⟩) hS ?_; rotate_left; (intro W hSw; obtain ⟨q0, q1, q2, q3, q4⟩ := hSw; go_simp; try with_reducible rfl))
        try simp only [List.getElem_toArray, List.getElem_cons_succ, List.getElem_cons_zero, Act.put, List.setIfInBounds_toArray, List.set_cons_zero, List.set_cons_succ]
        first | refine wpAnyH_take (i := 26) (v := undef) rfl (by kernel_rfl) (by kernel_rfl) (by kernel_rfl) (fun _ _ _ h => h) (.inr ⟨rfl, rfl⟩) hS ?_ | (refine wpAnyH_take (i := 26) (v := ?_) rfl (by kernel_rfl) (by kernel_rfl) (by kernel_rfl) (fun _ _ _ h => h) (Or.inl ⟨by rfl, ?_⟩) hS ?_; rotate_left; (intro W hSw; obtain ⟨q0, q1, q2, q3, q4⟩ := hSw; go_simp; try with_reducible rfl))
        try simp only [List.getElem_toArray, List.getElem_cons_succ, List.getElem_cons_zero, Act.put, List.setIfInBounds_toArray, List.set_cons_zero, List.set_cons_succ]
        first | refine wpAnyH_take (i := 27) (v := undef) rfl (by kernel_rfl) (by kernel_rfl) (by kernel_rfl) (fun _ _ _ h => h) (.inr ⟨rfl, rfl⟩) hS ?_ | (refine wpAnyH_take (i := 27) (v := ?_) rfl (by kernel_rfl) (by kernel_rfl) (by kernel_rfl) (fun _ _ _ h => h) (Or.inl ⟨by rfl, ?_⟩) hS ?_; rotate_left; (intro W hSw; obtain ⟨q0, q1, q2, q3, q4⟩ := hSw; go_simp; try with_reducible rfl))
        try simp only [List.getElem_toArray, List.getElem_cons_succ, List.getElem_cons_zero, Act.put, List.setIfInBounds_toArray, List.set_cons_zero, List.set_cons_succ]
        first | refine wpAnyH_take (i := 28) (v := undef) rfl (by kernel_rfl) (by kernel_rfl) (by kernel_rfl) (fun _ _ _ h => h) (.inr ⟨rfl, rfl⟩) hS ?_ | (refine wpAnyH_take (i := 28) (v := ?_) rfl (by kernel_rfl) (by kernel_rfl) (by kernel_rfl) (fun _ _ _ h => h) (Or.inl ⟨by rfl, ?_⟩) hS ?_; rotate_left; (intro W hSw; obtain ⟨q0, q1, q2, q3, q4⟩ := hSw; go_simp; try with_reducible rfl))
        try simp only [List.getElem_toArray, List.getElem_cons_succ, List.getElem_cons_zero, Act.put, List.setIfInBounds_toArray, List.set_cons_zero, List.set_cons_succ]
        first | refine wpAnyH_take (i := 29) (v := undef) rfl (by kernel_rfl) (by kernel_rfl) (by kernel_rfl) (fun _ _ _ h => h) (.inr ⟨rfl, rfl⟩) hS ?_ | (refine wpAnyH_take (i := 29) (v := ?_) rfl (by kernel_rfl) (by kernel_rfl) (by kernel_rfl) (fun _ _ _ h => h) (Or.inl ⟨by rfl, ?_⟩) hS ?_; rotate_left; (intro W hSw; obtain ⟨q0, q1, q2, q3, q4⟩ := hSw; go_simp; try with_reducible rfl))
        try simp only [List.getElem_toArray, List.getElem_cons_succ, List.getElem_cons_zero, Act.put, List.setIfInBounds_toArray, List.set_cons_zero, List.set_cons_succ]
        first | refine wpAnyH_take (i := 30) (v := undef) rfl (by kernel_rfl) (by kernel_rfl) (by kernel_rfl) (fun _ _ _ h => h) (.inr ⟨rfl, rfl⟩) hS ?_ | (refine wpAnyH_take (i := 30) (v := ?_) rfl (by kernel_rfl) (by kernel_rfl) (by kernel_rfl) (fun _ _ _ h => h) (Or.inl ⟨by rfl, ?_⟩) hS ?_; rotate_left; (intro W hSw; obtain ⟨q0, q1, q2, q3, q4⟩ := hSw; go_simp; try with_reducible rfl))
        try simp only [List.getElem_toArray, List.getElem_cons_succ, List.getElem_cons_zero, Act.put, List.setIfInBounds_toArray, List.set_cons_zero, List.set_cons_succ]
        first | refine wpAnyH_take (i := 31) (v := undef) rfl (by kernel_rfl) (by kernel_rfl) (by kernel_rfl) (fun _ _ _ h => h) (.inr ⟨rfl, rfl⟩) hS ?_ | (refine wpAnyH_take (i := 31) (v := ?_) rfl (by kernel_rfl) (by kernel_rfl) (by kernel_rfl) (fun _ _ _ h => h) (Or.inl ⟨by rfl, ?_⟩) hS ?_; rotate_left; (intro W hSw; obtain ⟨q0, q1, q2, q3, q4⟩ := hSw; go_simp; try with_reducible rfl))
        try simp only [List.getElem_toArray, List.getElem_cons_succ, List.getElem_cons_zero, Act.put, List.setIfInBounds_toArray, List.set_cons_zero, List.set_cons_succ]
        first | refine wpAnyH_take (i := 32) (v := undef) rfl (by kernel_rfl) (by kernel_rfl) (by kernel_rfl) (fun _ _ _ h => h) (.inr ⟨rfl, rfl⟩) hS ?_ | (refine wpAnyH_take (i := 32) (v := ?_) rfl (by kernel_rfl) (by kernel_rfl) (by kernel_rfl) (fun _ _ _ h => h) (Or.inl ⟨by rfl, ?_⟩) hS ?_; rotate_left; (intro W hSw; obtain ⟨q0, q1, q2, q3, q4⟩ := hSw; go_simp; try with_reducible rfl))
        try simp only [List.getElem_toArray, List.getElem_cons_succ, List.getElem_cons_zero, Act.put, List.setIfInBounds_toArray, List.set_cons_zero, List.set_cons_succ]
        first | refine wpAnyH_take (i := 33) (v := undef) rfl (by kernel_rfl) (by kernel_rfl) (by kernel_rfl) (fun _ _ _ h => h) (.inr ⟨rfl, rfl⟩) hS ?_ | (refine wpAnyH_take (i := 33) (v := ?_) rfl (by kernel_rfl) (by kernel_rfl) (by kernel_rfl) (fun _ _ _ h => h) (Or.inl ⟨by rfl, ?_⟩) hS ?_; rotate_left; (intro W hSw; obtain ⟨q0, q1, q2, q3, q4⟩ := hSw; go_simp; try with_reducible rfl))
        try simp only [List.getElem_toArray, List.getElem_cons_succ, List.getElem_cons_zero, Act.put, List.setIfInBounds_toArray, List.set_cons_zero, List.set_cons_succ]
        first | refine wpAnyH_take (i := 34) (v := undef) rfl (by kernel_rfl) (by kernel_rfl) (by kernel_rfl) (fun _ _ _ h => h) (.inr ⟨rfl, rfl⟩) hS ?_ | (refine wpAnyH_take (i := 34) (v := ?_) rfl (by kernel_rfl) (by kernel_rfl) (by kernel_rfl) (fun _ _ _ h => h) (Or.inl ⟨by rfl, ?_⟩) hS ?_; rotate_left; (intro W hSw; obtain ⟨q0, q1, q2, q3, q4⟩ := hSw; go_simp; try with_reducible rfl))
        try simp only [List.getElem_toArray, List.getElem_cons_succ, List.getElem_cons_zero, Act.put, List.setIfInBounds_toArray, List.set_cons_zero, List.set_cons_succ]
        first | refine wpAnyH_take (i := 35) (v := undef) rfl (by kernel_rfl) (by kernel_rfl) (by kernel_rfl) (fun _ _ _ h => h) (.inr ⟨rfl, rfl⟩) hS ?_ | (refine wpAnyH_take (i := 35) (v := ?_) rfl (by kernel_rfl) (by kernel_rfl) (by kernel_rfl) (fun _ _ _ h => h) (Or.inl ⟨by rfl, ?_⟩) hS ?_; rotate_left; (intro W hSw; obtain ⟨q0, q1, q2, q3, q4⟩ := hSw; go_simp; try with_reducible rfl))
        try simp only [List.getElem_toArray, List.getElem_cons_succ, List.getElem_cons_zero, Act.put, List.setIfInBounds_toArray, List.set_cons_zero, List.set_cons_succ]
        first | refine wpAnyH_take (i := 36) (v := undef) rfl (by kernel_rfl) (by kernel_rfl) (by kernel_rfl) (fun _ _ _ h => h) (.inr ⟨rfl, rfl⟩) hS ?_ | (refine wpAnyH_take (i := 36) (v := ?_) rfl (by kernel_rfl) (by kernel_rfl) (by kernel_rfl) (fun _ _ _ h => h) (Or.inl ⟨by rfl, ?_⟩) hS ?_; rotate_left; (intro W hSw; obtain ⟨q0, q1, q2, q3, q4⟩ := hSw; go_simp; try with_reducible rfl))
        try simp only [List.getElem_toArray, List.getElem_cons_succ, List.getElem_cons_zero, Act.put, List.setIfInBounds_toArray, List.set_cons_zero, List.set_cons_succ]
        first | refine wpAnyH_take (i := 37) (v := undef) rfl (by kernel_rfl) (by kernel_rfl) (by kernel_rfl) (fun _ _ _ h => h) (.inr ⟨rfl, rfl⟩) hS ?_ | (refine wpAnyH_take (i := 37) (v := ?_) rfl (by kernel_rfl) (by kernel_rfl) (by kernel_rfl) (fun _ _ _ h => h) (Or.inl ⟨by rfl, ?_⟩) hS ?_; rotate_left; (intro W hSw; obtain ⟨q0, q1, q2, q3, q4⟩ := hSw; go_simp; try with_reducible rfl))
        try simp only [List.getElem_toArray, List.getElem_cons_succ, List.getElem_cons_zero, Act.put, List.setIfInBounds_toArray, List.set_cons_zero, List.set_cons_succ]
        refine wpAnyH_done (by kernel_rfl) ?_ _
        clear hS
        go_wp2
        refine bodyPost_ret (v := .bool false) (by simp [results, Try.results54, go_sem]) rfl ⟨congrArg (fun b => Ending.returned (Value.bool b)) ?_, HB.out.trans ((HB7.out.drew).mono HB.out.size)⟩
        have hf : limR lim i = false := by rw [HR.out]; simp [h3]; try omega
        rw [HV.out]
        symm
        refine Bool.eq_false_iff.2 fun h => ?_
        rw [Bool.and_eq_true, List.all_eq_true] at h
        have := h.1 i (List.mem_range.2 hlt)
        rw [hf] at this
        cases this
      | true =>
      cases h4 : inN y 0 20 with
      | false =>
        first | refine wpAnyH_take (i := 0) (v := undef) rfl (by kernel_rfl) (by kernel_rfl) (by kernel_rfl) (fun _ _ _ h => h) (.inr ⟨rfl, rfl⟩) hS ?_ | (refine wpAnyH_take (i := 0) (v := ?_) rfl (by kernel_rfl) (by kernel_rfl) (by kernel_rfl) (fun _ _ _ h => h) (Or.inl ⟨by rfl, ?_⟩) hS ?_; rotate_left; (intro W hSw; obtain ⟨q0, q1, q2, q3, q4⟩ := hSw; go_simp; try with_reducible rfl))
        try simp only [List.getElem_toArray, List.getElem_cons_succ, List.getElem_cons_zero, Act.put, List.setIfInBounds_toArray, List.set_cons_zero, List.set_cons_succ]
        first | refine wpAnyH_take (i := 1) (v := undef) rfl (by kernel_rfl) (by kernel_rfl) (by kernel_rfl) (fun _ _ _ h => h) (.inr ⟨rfl, rfl⟩) hS ?_ | (refine wpAnyH_take (i := 1) (v := ?_) rfl (by kernel_rfl) (by kernel_rfl) (by kernel_rfl) (fun _ _ _ h => h) (Or.inl ⟨by rfl, ?_⟩) hS ?_; rotate_left; (intro W hSw; obtain ⟨q0, q1, q2, q3, q4⟩ := hSw; go_simp; try with_reducible rfl))
        try simp only [List.getElem_toArray, List.getElem_cons_succ, List.getElem_cons_zero, Act.put, List.setIfInBounds_toArray, List.set_cons_zero, List.set_cons_succ]
        refine wpAnyH_ready (rs := [2]) (by kernel_rfl) (by simp) ?_
        refine AllReadyH.cons rfl (fun K hK => ?_) AllReadyH.nil
        go_simp
        refine (r7in_any _ _ _ _).mono ?_
        rintro e wz ⟨rfl, rfl⟩
        first | rw [h3] | rw [h4]
        dsimp only
        refine hK.out _ _ hS (fun hS => ?_)
        clear hK K
        try simp only [List.getElem_toArray, List.getElem_cons_succ, List.getElem_cons_zero, Act.put, List.setIfInBounds_toArray, List.set_cons_zero, List.set_cons_succ]
        first | refine wpAnyH_take (i := 3) (v := undef) rfl (by kernel_rfl) (by kernel_rfl) (by kernel_rfl) (fun _ _ _ h => h) (.inr ⟨rfl, rfl⟩) hS ?_ | (refine wpAnyH_take (i := 3) (v := ?_) rfl (by kernel_rfl) (by kernel_rfl) (by kernel_rfl) (fun _ _ _ h => h) (Or.inl ⟨by rfl, ?_⟩) hS ?_; rotate_left; (intro W hSw; obtain ⟨q0, q1, q2, q3, q4⟩ := hSw; go_simp; try with_reducible rfl))
        try simp only [List.getElem_toArray, List.getElem_cons_succ, List.getElem_cons_zero, Act.put, List.setIfInBounds_toArray, List.set_cons_zero, List.set_cons_succ]
        first | refine wpAnyH_take (i := 4) (v := undef) rfl (by kernel_rfl) (by kernel_rfl) (by kernel_rfl) (fun _ _ _ h => h) (.inr ⟨rfl, rfl⟩) hS ?_ | (refine wpAnyH_take (i := 4) (v := ?_) rfl (by kernel_rfl) (by kernel_rfl) (by kernel_rfl) (fun _ _ _ h => h) (Or.inl ⟨by rfl, ?_⟩) hS ?_; rotate_left; (intro W hSw; obtain ⟨q0, q1, q2, q3, q4⟩ := hSw; go_simp; try with_reducible rfl))
        try simp only [List.getElem_toArray, List.getElem_cons_succ, List.getElem_cons_zero, Act.put, List.setIfInBounds_toArray, List.set_cons_zero, List.set_cons_succ]
        first | refine wpAnyH_take (i := 5) (v := undef) rfl (by kernel_rfl) (by kernel_rfl) (by kernel_rfl) (fun _ _ _ h => h) (.inr ⟨rfl, rfl⟩) hS ?_ | (refine wpAnyH_take (i := 5) (v := ?_) rfl (by kernel_rfl) (by kernel_rfl) (by kernel_rfl) (fun _ _ _ h => h) (Or.inl ⟨by rfl, ?_⟩) hS ?_; rotate_left; (intro W hSw; obtain ⟨q0, q1, q2, q3, q4⟩ := hSw; go_simp; try with_reducible rfl))
        try simp only [List.getElem_toArray, List.getElem_cons_succ, List.getElem_cons_zero, Act.put, List.setIfInBounds_toArray, List.set_cons_zero, List.set_cons_succ]
        first | refine wpAnyH_take (i := 6) (v := undef) rfl (by kernel_rfl) (by kernel_rfl) (by kernel_rfl) (fun _ _ _ h => h) (.inr ⟨rfl, rfl⟩) hS ?_ | (refine wpAnyH_take (i := 6) (v := ?_) rfl (by kernel_rfl) (by kernel_rfl) (by kernel_rfl) (fun _ _ _ h => h) (Or.inl ⟨by rfl, ?_⟩) hS ?_; rotate_left; (intro W hSw; obtain ⟨q0, q1, q2, q3, q4⟩ := hSw; go_simp; try with_reducible rfl))
        try simp only [List.getElem_toArray, List.getElem_cons_succ, List.getElem_cons_zero, Act.put, List.setIfInBounds_toArray, List.set_cons_zero, List.set_cons_succ]
        refine wpAnyH_ready (rs := [7]) (by kernel_rfl) (by simp) ?_
        refine AllReadyH.cons rfl (fun K hK => ?_) AllReadyH.nil
        go_simp
        refine (r7in_any _ _ _ _).mono ?_
        rintro e wz ⟨rfl, rfl⟩
        first | rw [h3] | rw [h4]
        dsimp only
        refine hK.out _ _ hS (fun hS => ?_)
        clear hK K
        try simp only [List.getElem_toArray, List.getElem_cons_succ, List.getElem_cons_zero, Act.put, List.setIfInBounds_toArray, List.set_cons_zero, List.set_cons_succ]
        first | refine wpAnyH_take (i := 8) (v := undef) rfl (by kernel_rfl) (by kernel_rfl) (by kernel_rfl) (fun _ _ _ h => h) (.inr ⟨rfl, rfl⟩) hS ?_ | (refine wpAnyH_take (i := 8) (v := ?_) rfl (by kernel_rfl) (by kernel_rfl) (by kernel_rfl) (fun _ _ _ h => h) (Or.inl ⟨by rfl, ?_⟩) hS ?_; rotate_left; (intro W hSw; obtain ⟨q0, q1, q2, q3, q4⟩ := hSw; go_simp; try with_reducible rfl))
        try simp only [List.getElem_toArray, List.getElem_cons_succ, List.getElem_cons_zero, Act.put, List.setIfInBounds_toArray, List.set_cons_zero, List.set_cons_succ]
        first | refine wpAnyH_take (i := 9) (v := undef) rfl (by kernel_rfl) (by kernel_rfl) (by kernel_rfl) (fun _ _ _ h => h) (.inr ⟨rfl, rfl⟩) hS ?_ | (refine wpAnyH_take (i := 9) (v := ?_) rfl (by kernel_rfl) (by kernel_rfl) (by kernel_rfl) (fun _ _ _ h => h) (Or.inl ⟨by rfl, ?_⟩) hS ?_; rotate_left; (intro W hSw; obtain ⟨q0, q1, q2, q3, q4⟩ := hSw; go_simp; try with_reducible rfl))
        try simp only [List.getElem_toArray, List.getElem_cons_succ, List.getElem_cons_zero, Act.put, List.setIfInBounds_toArray, List.set_cons_zero, List.set_cons_succ]
        first | refine wpAnyH_take (i := 10) (v := undef) rfl (by kernel_rfl) (by kernel_rfl) (by kernel_rfl) (fun _ _ _ h => h) (.inr ⟨rfl, rfl⟩) hS ?_ | (refine wpAnyH_take (i := 10) (v := ?_) rfl (by kernel_rfl) (by kernel_rfl) (by kernel_rfl) (fun _ _ _ h => h) (Or.inl ⟨by rfl, ?_⟩) hS ?_; rotate_left; (intro W hSw; obtain ⟨q0, q1, q2, q3, q4⟩ := hSw; go_simp; try with_reducible rfl))
        try simp only [List.getElem_toArray, List.getElem_cons_succ, List.getElem_cons_zero, Act.put, List.setIfInBounds_toArray, List.set_cons_zero, List.set_cons_succ]
        first | refine wpAnyH_take (i := 11) (v := undef) rfl (by kernel_rfl) (by kernel_rfl) (by kernel_rfl) (fun _ _ _ h => h) (.inr ⟨rfl, rfl⟩) hS ?_ | (refine wpAnyH_take (i := 11) (v := ?_) rfl (by kernel_rfl) (by kernel_rfl) (by kernel_rfl) (fun _ _ _ h => h) (Or.inl ⟨by rfl, ?_⟩) hS ?_; rotate_left; (intro W hSw; obtain ⟨q0, q1, q2, q3, q4⟩ := hSw; go_simp; try with_reducible rfl))
        try simp only [List.getElem_toArray, List.getElem_cons_succ, List.getElem_cons_zero, Act.put, List.setIfInBounds_toArray, List.set_cons_zero, List.set_cons_succ]
        first | refine wpAnyH_take (i := 12) (v := undef) rfl (by kernel_rfl) (by kernel_rfl) (by kernel_rfl) (fun _ _ _ h => h) (.inr ⟨rfl, rfl⟩) hS ?_ | (refine wpAnyH_take (i := 12) (v := ?_) rfl (by kernel_rfl) (by kernel_rfl) (by kernel_rfl) (fun _ _ _ h => h) (Or.inl ⟨by rfl, ?_⟩) hS ?_; rotate_left; (intro W hSw; obtain ⟨q0, q1, q2, q3, q4⟩ := hSw; go_simp; try with_reducible rfl))
        try simp only [List.getElem_toArray, List.getElem_cons_succ, List.getElem_cons_zero, Act.put, List.setIfInBounds_toArray, List.set_cons_zero, List.set_cons_succ]
        first | refine wpAnyH_take (i := 13) (v := undef) rfl (by kernel_rfl) (by kernel_rfl) (by kernel_rfl) (fun _ _ _ h => h) (.inr ⟨rfl, rfl⟩) hS ?_ | (refine wpAnyH_take (i := 13) (v := ?_) rfl (by kernel_rfl) (by kernel_rfl) (by kernel_rfl) (fun _ _ _ h => h) (Or.inl ⟨by rfl, ?_⟩) hS ?_; rotate_left; (intro W hSw; obtain ⟨q0, q1, q2, q3, q4⟩ := hSw; go_simp; try with_reducible rfl))
        try simp only [List.getElem_toArray, List.getElem_cons_succ, List.getElem_cons_zero, Act.put, List.setIfInBounds_toArray, List.set_cons_zero, List.set_cons_succ]
        first | refine wpAnyH_take (i := 14) (v := undef) rfl (by kernel_rfl) (by kernel_rfl) (by kernel_rfl) (fun _ _ _ h => h) (.inr ⟨rfl, rfl⟩) hS ?_ | (refine wpAnyH_take (i := 14) (v := ?_) rfl (by kernel_rfl) (by kernel_rfl) (by kernel_rfl) (fun _ _ _ h => h) (Or.inl ⟨by rfl, ?_⟩) hS ?_; rotate_left; (intro W hSw; obtain ⟨q0, q1, q2, q3, q4⟩ := hSw; go_simp; try with_reducible rfl))
        try simp only [List.getElem_toArray, List.getElem_cons_succ, List.getElem_cons_zero, Act.put, List.setIfInBounds_toArray, List.set_cons_zero, List.set_cons_succ]
        first | refine wpAnyH_take (i := 15) (v := undef) rfl (by kernel_rfl) (by kernel_rfl) (by kernel_rfl) (fun _ _ _ h => h) (.inr ⟨rfl, rfl⟩) hS ?_ | (refine wpAnyH_take (i := 15) (v := ?_) rfl (by kernel_rfl) (by kernel_rfl) (by kernel_rfl) (fun _ _ _ h => h) (Or.inl ⟨by rfl, ?_⟩) hS ?_; rotate_left; (intro W hSw; obtain ⟨q0, q1, q2, q3, q4⟩ := hSw; go_simp; try with_reducible rfl))
        try simp only [List.getElem_toArray, List.getElem_cons_succ, List.getElem_cons_zero, Act.put, List.setIfInBounds_toArray, List.set_cons_zero, List.set_cons_succ]
        first | refine wpAnyH_take (i := 16) (v := undef) rfl (by kernel_rfl) (by kernel_rfl) (by kernel_rfl) (fun _ _ _ h => h) (.inr ⟨rfl, rfl⟩) hS ?_ | (refine wpAnyH_take (i := 16) (v := ?_) rfl (by kernel_rfl) (by kernel_rfl) (by kernel_rfl) (fun _ _ _ h => h) (Or.inl ⟨by rfl, ?_⟩) hS ?_; rotate_left; (intro W hSw; obtain ⟨q0, q1, q2, q3, q4⟩ := hSw; go_simp; try with_reducible rfl))
        try simp only [List.getElem_toArray, List.getElem_cons_succ, List.getElem_cons_zero, Act.put, List.setIfInBounds_toArray, List.set_cons_zero, List.set_cons_succ]
        first | refine wpAnyH_take (i := 17) (v := undef) rfl (by kernel_rfl) (by kernel_rfl) (by kernel_rfl) (fun _ _ _ h => h) (.inr ⟨rfl, rfl⟩) hS ?_ | (refine wpAnyH_take (i := 17) (v := ?_) rfl (by kernel_rfl) (by kernel_rfl) (by kernel_rfl) (fun _ _ _ h => h) (Or.inl ⟨by rfl, ?_⟩) hS ?_; rotate_left; (intro W hSw; obtain ⟨q0, q1, q2, q3, q4⟩ := hSw; go_simp; try with_reducible rfl))
        try simp only [List.getElem_toArray, List.getElem_cons_succ, List.getElem_cons_zero, Act.put, List.setIfInBounds_toArray, List.set_cons_zero, List.set_cons_succ]
        first | refine wpAnyH_take (i := 18) (v := undef) rfl (by kernel_rfl) (by kernel_rfl) (by kernel_rfl) (fun _ _ _ h => h) (.inr ⟨rfl, rfl⟩) hS ?_ | (refine wpAnyH_take (i := 18) (v := ?_) rfl (by kernel_rfl) (by kernel_rfl) (by kernel_rfl) (fun _ _ _ h => h) (Or.inl ⟨by rfl, ?_⟩) hS ?_; rotate_left; (intro W hSw; obtain ⟨q0, q1, q2, q3, q4⟩ := hSw; go_simp; try with_reducible rfl))
        try simp only [List.getElem_toArray, List.getElem_cons_succ, List.getElem_cons_zero, Act.put, List.setIfInBounds_toArray, List.set_cons_zero, List.set_cons_succ]
        first | refine wpAnyH_take (i := 19) (v := undef) rfl (by kernel_rfl) (by kernel_rfl) (by kernel_rfl) (fun _ _ _ h => h) (.inr ⟨rfl, rfl⟩) hS ?_ | (refine wpAnyH_take (i := 19) (v := ?_) rfl (by kernel_rfl) (by kernel_rfl) (by kernel_rfl) (fun _ _ _ h => h) (Or.inl ⟨by rfl, ?_⟩) hS ?_; rotate_left; (intro W hSw; obtain ⟨q0, q1, q2, q3, q4⟩ := hSw; go_simp; try with_reducible rfl))
        try simp only [List.getElem_toArray, List.getElem_cons_succ, List.getElem_cons_zero, Act.put, List.setIfInBounds_toArray, List.set_cons_zero, List.set_cons_succ]
        first | refine wpAnyH_take (i := 20) (v := undef) rfl (by kernel_rfl) (by kernel_rfl) (by kernel_rfl) (fun _ _ _ h => h) (.inr ⟨rfl, rfl⟩) hS ?_ | (refine wpAnyH_take (i := 20) (v := ?_) rfl (by kernel_rfl) (by kernel_rfl) (by kernel_rfl) (fun _ _ _ h => h) (Or.inl ⟨by rfl, ?_⟩) hS ?_; rotate_left; (intro W hSw; obtain ⟨q0, q1, q2, q3, q4⟩ := hSw; go_simp; try with_reducible rfl))
        try simp only [List.getElem_toArray, List.getElem_cons_succ, List.getElem_cons_zero, Act.put, List.setIfInBounds_toArray, List.set_cons_zero, List.set_cons_succ]
        first | refine wpAnyH_take (i := 21) (v := undef) rfl (by kernel_rfl) (by kernel_rfl) (by kernel_rfl) (fun _ _ _ h => h) (.inr ⟨rfl, rfl⟩) hS ?_ | (refine wpAnyH_take (i := 21) (v := ?_) rfl (by kernel_rfl) (by kernel_rfl) (by kernel_rfl) (fun _ _ _ h => h) (Or.inl ⟨by rfl, ?_⟩) hS ?_; rotate_left; (intro W hSw; obtain ⟨q0, q1, q2, q3, q4⟩ := hSw; go_simp; try with_reducible rfl))
        try simp only [List.getElem_toArray, List.getElem_cons_succ, List.getElem_cons_zero, Act.put, List.setIfInBounds_toArray, List.set_cons_zero, List.set_cons_succ]
        first | refine wpAnyH_take (i := 22) (v := undef) rfl (by kernel_rfl) (by kernel_rfl) (by kernel_rfl) (fun _ _ _ h => h) (.inr ⟨rfl, rfl⟩) hS ?_ | (refine wpAnyH_take (i := 22) (v := ?_) rfl (by kernel_rfl) (by kernel_rfl) (by kernel_rfl) (fun _ _ _ h => h) (Or.inl ⟨by rfl, ?_⟩) hS ?_; rotate_left; (intro W hSw; obtain ⟨q0, q1, q2, q3, q4⟩ := hSw; go_simp; try with_reducible rfl))
        try simp only [List.getElem_toArray, List.getElem_cons_succ, List.getElem_cons_zero, Act.put, List.setIfInBounds_toArray, List.set_cons_zero, List.set_cons_succ]
        first | refine wpAnyH_take (i := 23) (v := undef) rfl (by kernel_rfl) (by kernel_rfl) (by kernel_rfl) (fun _ _ _ h => h) (.inr ⟨rfl, rfl⟩) hS ?_ | (refine wpAnyH_take (i := 23) (v := ?_) rfl (by kernel_rfl) (by kernel_rfl) (by kernel_rfl) (fun _ _ _ h => h) (Or.inl ⟨by rfl, ?_⟩) hS ?_; rotate_left; (intro W hSw; obtain ⟨q0, q1, q2, q3, q4⟩ := hSw; go_simp; try with_reducible rfl))
        try simp only [List.getElem_toArray, List.getElem_cons_succ, List.getElem_cons_zero, Act.put, List.setIfInBounds_toArray, List.set_cons_zero, List.set_cons_succ]
        first | refine wpAnyH_take (i := 24) (v := undef) rfl (by kernel_rfl) (by kernel_rfl) (by kernel_rfl) (fun _ _ _ h => h) (.inr ⟨rfl, rfl⟩) hS ?_ | (refine wpAnyH_take (i := 24) (v := ?_) rfl (by kernel_rfl) (by kernel_rfl) (by kernel_rfl) (fun _ _ _ h => h) (Or.inl ⟨by rfl, ?_⟩) hS ?_; rotate_left; (intro W hSw; obtain ⟨q0, q1, q2, q3, q4⟩ := hSw; go_simp; try with_reducible rfl))
        try simp only [List.getElem_toArray, List.getElem_cons_succ, List.getElem_cons_zero, Act.put, List.setIfInBounds_toArray, List.set_cons_zero, List.set_cons_succ]
        first | refine wpAnyH_take (i := 25) (v := undef) rfl (by kernel_rfl) (by kernel_rfl) (by kernel_rfl) (fun _ _ _ h => h) (.inr ⟨rfl, rfl⟩) hS ?_ | (refine wpAnyH_take (i := 25) (v := ?_) rfl (by kernel_rfl) (by kernel_rfl) (by kernel_rfl) (fun _ _ _ h => h) (Or.inl ⟨by rfl, ?_⟩) hS ?_; rotate_left; (intro W hSw; obtain ⟨q0, q1, q2, q3, q4⟩ := hSw; go_simp; try with_reducible rfl))
        try simp only [List.getElem_toArray, List.getElem_cons_succ, List.getElem_cons_zero, Act.put, List.setIfInBounds_toArray, List.set_cons_zero, List.set_cons_succ]
        first | refine wpAnyH_take (i := 26) (v := undef) rfl (by kernel_rfl) (by kernel_rfl) (by kernel_rfl) (fun _ _ _ h => h) (.inr ⟨rfl, rfl⟩) hS ?_ | (refine wpAnyH_take (i := 26) (v := ?_) rfl (by kernel_rfl) (by kernel_rfl) (by kernel_rfl) (fun _ _ _ h => h) (Or.inl ⟨by rfl, ?_⟩) hS ?_; rotate_left; (intro W hSw; obtain ⟨q0, q1, q2, q3, q4⟩ := hSw; go_simp; try with_reducible rfl))
        try simp only [List.getElem_toArray, List.getElem_cons_succ, List.getElem_cons_zero, Act.put, List.setIfInBounds_toArray, List.set_cons_zero, List.set_cons_succ]
        first | refine wpAnyH_take (i := 27) (v := undef) rfl (by kernel_rfl) (by kernel_rfl) (by kernel_rfl) (fun _ _ _ h => h) (.inr ⟨rfl, rfl⟩) hS ?_ | (refine wpAnyH_take (i := 27) (v := ?_) rfl (by kernel_rfl) (by kernel_rfl) (by kernel_rfl) (fun _ _ _ h => h) (Or.inl ⟨by rfl, ?_⟩) hS ?_; rotate_left; (intro W hSw; obtain ⟨q0, q1, q2, q3, q4⟩ := hSw; go_simp; try with_reducible rfl))
        try simp only [List.getElem_toArray, List.getElem_cons_succ, List.getElem_cons_zero, Act.put, List.setIfInBounds_toArray, List.set_cons_zero, List.set_cons_succ]
        first | refine wpAnyH_take (i := 28) (v := undef) rfl (by kernel_rfl) (by kernel_rfl) (by kernel_rfl) (fun _ _ _ h => h) (.inr ⟨rfl, rfl⟩) hS ?_ | (refine wpAnyH_take (i := 28) (v := ?_) rfl (by kernel_rfl) (by kernel_rfl) (by kernel_rfl) (fun _ _ _ h => h) (Or.inl ⟨by rfl, ?_⟩) hS ?_; rotate_left; (intro W hSw; obtain ⟨q0, q1, q2, q3, q4⟩ := hSw; go_simp; try with_reducible rfl))
        try simp only [List.getElem_toArray, List.getElem_cons_succ, List.getElem_cons_zero, Act.put, List.setIfInBounds_toArray, List.set_cons_zero, List.set_cons_succ]
        first | refine wpAnyH_take (i := 29) (v := undef) rfl (by kernel_rfl) (by kernel_rfl) (by kernel_rfl) (fun _ _ _ h => h) (.inr ⟨rfl, rfl⟩) hS ?_ | (refine wpAnyH_take (i := 29) (v := ?_) rfl (by kernel_rfl) (by kernel_rfl) (by kernel_rfl) (fun _ _ _ h => h) (Or.inl ⟨by rfl, ?_⟩) hS ?_; rotate_left; (intro W hSw; obtain ⟨q0, q1, q2, q3, q4⟩ := hSw; go_simp; try with_reducible rfl))
        try simp only [List.getElem_toArray, List.getElem_cons_succ, List.getElem_cons_zero, Act.put, List.setIfInBounds_toArray, List.set_cons_zero, List.set_cons_succ]
        first | refine wpAnyH_take (i := 30) (v := undef) rfl (by kernel_rfl) (by kernel_rfl) (by kernel_rfl) (fun _ _ _ h => h) (.inr ⟨rfl, rfl⟩) hS ?_ | (refine wpAnyH_take (i := 30) (v := ?_) rfl (by kernel_rfl) (by kernel_rfl) (by kernel_rfl) (fun _ _ _ h => h) (Or.inl ⟨by rfl, ?_⟩) hS ?_; rotate_left; (intro W hSw; obtain ⟨q0, q1, q2, q3, q4⟩ := hSw; go_simp; try with_reducible rfl))
        try simp only [List.getElem_toArray, List.getElem_cons_succ, List.getElem_cons_zero, Act.put, List.setIfInBounds_toArray, List.set_cons_zero, List.set_cons_succ]
        first | refine wpAnyH_take (i := 31) (v := undef) rfl (by kernel_rfl) (by kernel_rfl) (by kernel_rfl) (fun _ _ _ h => h) (.inr ⟨rfl, rfl⟩) hS ?_ | (refine wpAnyH_take (i := 31) (v := ?_) rfl (by kernel_rfl) (by kernel_rfl) (by kernel_rfl) (fun _ _ _ h => h) (Or.inl ⟨by rfl, ?_⟩) hS ?_; rotate_left; (intro W hSw; obtain ⟨q0, q1, q2, q3, q4⟩ := hSw; go_simp; try with_reducible rfl))
        try simp only [List.getElem_toArray, List.getElem_cons_succ, List.getElem_cons_zero, Act.put, List.setIfInBounds_toArray, List.set_cons_zero, List.set_cons_succ]
        first | refine wpAnyH_take (i := 32) (v := undef) rfl (by kernel_rfl) (by kernel_rfl) (by kernel_rfl) (fun _ _ _ h => h) (.inr ⟨rfl, rfl⟩) hS ?_ | (refine wpAnyH_take (i := 32) (v := ?_) rfl (by kernel_rfl) (by kernel_rfl) (by kernel_rfl) (fun _ _ _ h => h) (Or.inl ⟨by rfl, ?_⟩) hS ?_; rotate_left; (intro W hSw; obtain ⟨q0, q1, q2, q3, q4⟩ := hSw; go_simp; try with_reducible rfl))
        try simp only [List.getElem_toArray, List.getElem_cons_succ, List.getElem_cons_zero, Act.put, List.setIfInBounds_toArray, List.set_cons_zero, List.set_cons_succ]
        first | refine wpAnyH_take (i := 33) (v := undef) rfl (by kernel_rfl) (by kernel_rfl) (by kernel_rfl) (fun _ _ _ h => h) (.inr ⟨rfl, rfl⟩) hS ?_ | (refine wpAnyH_take (i := 33) (v := ?_) rfl (by kernel_rfl) (by kernel_rfl) (by kernel_rfl) (fun _ _ _ h => h) (Or.inl ⟨by rfl, ?_⟩) hS ?_; rotate_left; (intro W hSw; obtain ⟨q0, q1, q2, q3, q4⟩ := hSw; go_simp; try with_reducible rfl))
        try simp only [List.getElem_toArray, List.getElem_cons_succ, List.getElem_cons_zero, Act.put, List.setIfInBounds_toArray, List.set_cons_zero, List.set_cons_succ]
        first | refine wpAnyH_take (i := 34) (v := undef) rfl (by kernel_rfl) (by kernel_rfl) (by kernel_rfl) (fun _ _ _ h => h) (.inr ⟨rfl, rfl⟩) hS ?_ | (refine wpAnyH_take (i := 34) (v := ?_) rfl (by kernel_rfl) (by kernel_rfl) (by kernel_rfl) (fun _ _ _ h => h) (Or.inl ⟨by rfl, ?_⟩) hS ?_; rotate_left; (intro W hSw; obtain ⟨q0, q1, q2, q3, q4⟩ := hSw; go_simp; try with_reducible rfl))
        try simp only [List.getElem_toArray, List.getElem_cons_succ, List.getElem_cons_zero, Act.put, List.setIfInBounds_toArray, List.set_cons_zero, List.set_cons_succ]
        first | refine wpAnyH_take (i := 35) (v := undef) rfl (by kernel_rfl) (by kernel_rfl) (by kernel_rfl) (fun _ _ _ h => h) (.inr ⟨rfl, rfl⟩) hS ?_ | (refine wpAnyH_take (i := 35) (v := ?_) rfl (by kernel_rfl) (by kernel_rfl) (by kernel_rfl) (fun _ _ _ h => h) (Or.inl ⟨by rfl, ?_⟩) hS ?_; rotate_left; (intro W hSw; obtain ⟨q0, q1, q2, q3, q4⟩ := hSw; go_simp; try with_reducible rfl))
        try simp only [List.getElem_toArray, List.getElem_cons_succ, List.getElem_cons_zero, Act.put, List.setIfInBounds_toArray, List.set_cons_zero, List.set_cons_succ]
        first | refine wpAnyH_take (i := 36) (v := undef) rfl (by kernel_rfl) (by kernel_rfl) (by kernel_rfl) (fun _ _ _ h => h) (.inr ⟨rfl, rfl⟩) hS ?_ | (refine wpAnyH_take (i := 36) (v := ?_) rfl (by kernel_rfl) (by kernel_rfl) (by kernel_rfl) (fun _ _ _ h => h) (Or.inl ⟨by rfl, ?_⟩) hS ?_; rotate_left; (intro W hSw; obtain ⟨q0, q1, q2, q3, q4⟩ := hSw; go_simp; try with_reducible rfl))
        try simp only [List.getElem_toArray, List.getElem_cons_succ, List.getElem_cons_zero, Act.put, List.setIfInBounds_toArray, List.set_cons_zero, List.set_cons_succ]
        first | refine wpAnyH_take (i := 37) (v := undef) rfl (by kernel_rfl) (by kernel_rfl) (by kernel_rfl) (fun _ _ _ h => h) (.inr ⟨rfl, rfl⟩) hS ?_ | (refine wpAnyH_take (i := 37) (v := ?_) rfl (by kernel_rfl) (by kernel_rfl) (by kernel_rfl) (fun _ _ _ h => h) (Or.inl ⟨by rfl, ?_⟩) hS ?_; rotate_left; (intro W hSw; obtain ⟨q0, q1, q2, q3, q4⟩ := hSw; go_simp; try with_reducible rfl))
        try simp only [List.getElem_toArray, List.getElem_cons_succ, List.getElem_cons_zero, Act.put, List.setIfInBounds_toArray, List.set_cons_zero, List.set_cons_succ]
        refine wpAnyH_done (by kernel_rfl) ?_ _
        clear hS
        go_wp2
        refine bodyPost_ret (v := .bool false) (by simp [results, Try.results54, go_sem]) rfl ⟨congrArg (fun b => Ending.returned (Value.bool b)) ?_, HB.out.trans ((HB7.out.drew).mono HB.out.size)⟩
        have hf : limR lim i = false := by rw [HR.out]; simp [h3, h4]; try omega
        rw [HV.out]
        symm
        refine Bool.eq_false_iff.2 fun h => ?_
        rw [Bool.and_eq_true, List.all_eq_true] at h
        have := h.1 i (List.mem_range.2 hlt)
        rw [hf] at this
        cases this
      | true =>
      by_cases h5 : i = 0
      · have h5i : ¬ 0 < i := by omega
        first | refine wpAnyH_take (i := 0) (v := undef) rfl (by kernel_rfl) (by kernel_rfl) (by kernel_rfl) (fun _ _ _ h => h) (.inr ⟨rfl, rfl⟩) hS ?_ | (refine wpAnyH_take (i := 0) (v := ?_) rfl (by kernel_rfl) (by kernel_rfl) (by kernel_rfl) (fun _ _ _ h => h) (Or.inl ⟨by rfl, ?_⟩) hS ?_; rotate_left; (intro W hSw; obtain ⟨q0, q1, q2, q3, q4⟩ := hSw; go_simp; try with_reducible rfl))
        try simp only [List.getElem_toArray, List.getElem_cons_succ, List.getElem_cons_zero, Act.put, List.setIfInBounds_toArray, List.set_cons_zero, List.set_cons_succ]
        first | refine wpAnyH_take (i := 1) (v := undef) rfl (by kernel_rfl) (by kernel_rfl) (by kernel_rfl) (fun _ _ _ h => h) (.inr ⟨rfl, rfl⟩) hS ?_ | (refine wpAnyH_take (i := 1) (v := ?_) rfl (by kernel_rfl) (by kernel_rfl) (by kernel_rfl) (fun _ _ _ h => h) (Or.inl ⟨by rfl, ?_⟩) hS ?_; rotate_left; (intro W hSw; obtain ⟨q0, q1, q2, q3, q4⟩ := hSw; go_simp; try with_reducible rfl))
        try simp only [List.getElem_toArray, List.getElem_cons_succ, List.getElem_cons_zero, Act.put, List.setIfInBounds_toArray, List.set_cons_zero, List.set_cons_succ]
        refine wpAnyH_ready (rs := [2]) (by kernel_rfl) (by simp) ?_
        refine AllReadyH.cons rfl (fun K hK => ?_) AllReadyH.nil
        go_simp
        refine (r7in_any _ _ _ _).mono ?_
        rintro e wz ⟨rfl, rfl⟩
        first | rw [h3] | rw [h4]
        dsimp only
        refine hK.out _ _ hS (fun hS => ?_)
        clear hK K
        try simp only [List.getElem_toArray, List.getElem_cons_succ, List.getElem_cons_zero, Act.put, List.setIfInBounds_toArray, List.set_cons_zero, List.set_cons_succ]
        first | refine wpAnyH_take (i := 3) (v := undef) rfl (by kernel_rfl) (by kernel_rfl) (by kernel_rfl) (fun _ _ _ h => h) (.inr ⟨rfl, rfl⟩) hS ?_ | (refine wpAnyH_take (i := 3) (v := ?_) rfl (by kernel_rfl) (by kernel_rfl) (by kernel_rfl) (fun _ _ _ h => h) (Or.inl ⟨by rfl, ?_⟩) hS ?_; rotate_left; (intro W hSw; obtain ⟨q0, q1, q2, q3, q4⟩ := hSw; go_simp; try with_reducible rfl))
        try simp only [List.getElem_toArray, List.getElem_cons_succ, List.getElem_cons_zero, Act.put, List.setIfInBounds_toArray, List.set_cons_zero, List.set_cons_succ]
        first | refine wpAnyH_take (i := 4) (v := undef) rfl (by kernel_rfl) (by kernel_rfl) (by kernel_rfl) (fun _ _ _ h => h) (.inr ⟨rfl, rfl⟩) hS ?_ | (refine wpAnyH_take (i := 4) (v := ?_) rfl (by kernel_rfl) (by kernel_rfl) (by kernel_rfl) (fun _ _ _ h => h) (Or.inl ⟨by rfl, ?_⟩) hS ?_; rotate_left; (intro W hSw; obtain ⟨q0, q1, q2, q3, q4⟩ := hSw; go_simp; try with_reducible rfl))
        try simp only [List.getElem_toArray, List.getElem_cons_succ, List.getElem_cons_zero, Act.put, List.setIfInBounds_toArray, List.set_cons_zero, List.set_cons_succ]
        first | refine wpAnyH_take (i := 5) (v := undef) rfl (by kernel_rfl) (by kernel_rfl) (by kernel_rfl) (fun _ _ _ h => h) (.inr ⟨rfl, rfl⟩) hS ?_ | (refine wpAnyH_take (i := 5) (v := ?_) rfl (by kernel_rfl) (by kernel_rfl) (by kernel_rfl) (fun _ _ _ h => h) (Or.inl ⟨by rfl, ?_⟩) hS ?_; rotate_left; (intro W hSw; obtain ⟨q0, q1, q2, q3, q4⟩ := hSw; go_simp; try with_reducible rfl))
        try simp only [List.getElem_toArray, List.getElem_cons_succ, List.getElem_cons_zero, Act.put, List.setIfInBounds_toArray, List.set_cons_zero, List.set_cons_succ]
        first | refine wpAnyH_take (i := 6) (v := undef) rfl (by kernel_rfl) (by kernel_rfl) (by kernel_rfl) (fun _ _ _ h => h) (.inr ⟨rfl, rfl⟩) hS ?_ | (refine wpAnyH_take (i := 6) (v := ?_) rfl (by kernel_rfl) (by kernel_rfl) (by kernel_rfl) (fun _ _ _ h => h) (Or.inl ⟨by rfl, ?_⟩) hS ?_; rotate_left; (intro W hSw; obtain ⟨q0, q1, q2, q3, q4⟩ := hSw; go_simp; try with_reducible rfl))
        try simp only [List.getElem_toArray, List.getElem_cons_succ, List.getElem_cons_zero, Act.put, List.setIfInBounds_toArray, List.set_cons_zero, List.set_cons_succ]
        refine wpAnyH_ready (rs := [7]) (by kernel_rfl) (by simp) ?_
        refine AllReadyH.cons rfl (fun K hK => ?_) AllReadyH.nil
        go_simp
        refine (r7in_any _ _ _ _).mono ?_
        rintro e wz ⟨rfl, rfl⟩
        first | rw [h3] | rw [h4]
        dsimp only
        refine hK.out _ _ hS (fun hS => ?_)
        clear hK K
        try simp only [List.getElem_toArray, List.getElem_cons_succ, List.getElem_cons_zero, Act.put, List.setIfInBounds_toArray, List.set_cons_zero, List.set_cons_succ]
        first | refine wpAnyH_take (i := 8) (v := undef) rfl (by kernel_rfl) (by kernel_rfl) (by kernel_rfl) (fun _ _ _ h => h) (.inr ⟨rfl, rfl⟩) hS ?_ | (refine wpAnyH_take (i := 8) (v := ?_) rfl (by kernel_rfl) (by kernel_rfl) (by kernel_rfl) (fun _ _ _ h => h) (Or.inl ⟨by rfl, ?_⟩) hS ?_; rotate_left; (intro W hSw; obtain ⟨q0, q1, q2, q3, q4⟩ := hSw; go_simp; try with_reducible rfl))
        try simp only [List.getElem_toArray, List.getElem_cons_succ, List.getElem_cons_zero, Act.put, List.setIfInBounds_toArray, List.set_cons_zero, List.set_cons_succ]
        first | refine wpAnyH_take (i := 9) (v := undef) rfl (by kernel_rfl) (by kernel_rfl) (by kernel_rfl) (fun _ _ _ h => h) (.inr ⟨rfl, rfl⟩) hS ?_ | (refine wpAnyH_take (i := 9) (v := ?_) rfl (by kernel_rfl) (by kernel_rfl) (by kernel_rfl) (fun _ _ _ h => h) (Or.inl ⟨by rfl, ?_⟩) hS ?_; rotate_left; (intro W hSw; obtain ⟨q0, q1, q2, q3, q4⟩ := hSw; go_simp; try with_reducible rfl))
        try simp only [List.getElem_toArray, List.getElem_cons_succ, List.getElem_cons_zero, Act.put, List.setIfInBounds_toArray, List.set_cons_zero, List.set_cons_succ]
        first | refine wpAnyH_take (i := 10) (v := undef) rfl (by kernel_rfl) (by kernel_rfl) (by kernel_rfl) (fun _ _ _ h => h) (.inr ⟨rfl, rfl⟩) hS ?_ | (refine wpAnyH_take (i := 10) (v := ?_) rfl (by kernel_rfl) (by kernel_rfl) (by kernel_rfl) (fun _ _ _ h => h) (Or.inl ⟨by rfl, ?_⟩) hS ?_; rotate_left; (intro W hSw; obtain ⟨q0, q1, q2, q3, q4⟩ := hSw; go_simp; try with_reducible rfl))
        try simp only [List.getElem_toArray, List.getElem_cons_succ, List.getElem_cons_zero, Act.put, List.setIfInBounds_toArray, List.set_cons_zero, List.set_cons_succ]
        first | refine wpAnyH_take (i := 11) (v := undef) rfl (by kernel_rfl) (by kernel_rfl) (by kernel_rfl) (fun _ _ _ h => h) (.inr ⟨rfl, rfl⟩) hS ?_ | (refine wpAnyH_take (i := 11) (v := ?_) rfl (by kernel_rfl) (by kernel_rfl) (by kernel_rfl) (fun _ _ _ h => h) (Or.inl ⟨by rfl, ?_⟩) hS ?_; rotate_left; (intro W hSw; obtain ⟨q0, q1, q2, q3, q4⟩ := hSw; go_simp; try with_reducible rfl))
        try simp only [List.getElem_toArray, List.getElem_cons_succ, List.getElem_cons_zero, Act.put, List.setIfInBounds_toArray, List.set_cons_zero, List.set_cons_succ]
        first | refine wpAnyH_take (i := 12) (v := undef) rfl (by kernel_rfl) (by kernel_rfl) (by kernel_rfl) (fun _ _ _ h => h) (.inr ⟨rfl, rfl⟩) hS ?_ | (refine wpAnyH_take (i := 12) (v := ?_) rfl (by kernel_rfl) (by kernel_rfl) (by kernel_rfl) (fun _ _ _ h => h) (Or.inl ⟨by rfl, ?_⟩) hS ?_; rotate_left; (intro W hSw; obtain ⟨q0, q1, q2, q3, q4⟩ := hSw; go_simp; try with_reducible rfl))
        try simp only [List.getElem_toArray, List.getElem_cons_succ, List.getElem_cons_zero, Act.put, List.setIfInBounds_toArray, List.set_cons_zero, List.set_cons_succ]
        first | refine wpAnyH_take (i := 13) (v := undef) rfl (by kernel_rfl) (by kernel_rfl) (by kernel_rfl) (fun _ _ _ h => h) (.inr ⟨rfl, rfl⟩) hS ?_ | (refine wpAnyH_take (i := 13) (v := ?_) rfl (by kernel_rfl) (by kernel_rfl) (by kernel_rfl) (fun _ _ _ h => h) (Or.inl ⟨by rfl, ?_⟩) hS ?_; rotate_left; (intro W hSw; obtain ⟨q0, q1, q2, q3, q4⟩ := hSw; go_simp; try with_reducible rfl))
        try simp only [List.getElem_toArray, List.getElem_cons_succ, List.getElem_cons_zero, Act.put, List.setIfInBounds_toArray, List.set_cons_zero, List.set_cons_succ]
        first | refine wpAnyH_take (i := 14) (v := undef) rfl (by kernel_rfl) (by kernel_rfl) (by kernel_rfl) (fun _ _ _ h => h) (.inr ⟨rfl, rfl⟩) hS ?_ | (refine wpAnyH_take (i := 14) (v := ?_) rfl (by kernel_rfl) (by kernel_rfl) (by kernel_rfl) (fun _ _ _ h => h) (Or.inl ⟨by rfl, ?_⟩) hS ?_; rotate_left; (intro W hSw; obtain ⟨q0, q1, q2, q3, q4⟩ := hSw; go_simp; try with_reducible rfl))
        try simp only [List.getElem_toArray, List.getElem_cons_succ, List.getElem_cons_zero, Act.put, List.setIfInBounds_toArray, List.set_cons_zero, List.set_cons_succ]
        first | refine wpAnyH_take (i := 15) (v := undef) rfl (by kernel_rfl) (by kernel_rfl) (by kernel_rfl) (fun _ _ _ h => h) (.inr ⟨rfl, rfl⟩) hS ?_ | (refine wpAnyH_take (i := 15) (v := ?_) rfl (by kernel_rfl) (by kernel_rfl) (by kernel_rfl) (fun _ _ _ h => h) (Or.inl ⟨by rfl, ?_⟩) hS ?_; rotate_left; (intro W hSw; obtain ⟨q0, q1, q2, q3, q4⟩ := hSw; go_simp; try with_reducible rfl))
        try simp only [List.getElem_toArray, List.getElem_cons_succ, List.getElem_cons_zero, Act.put, List.setIfInBounds_toArray, List.set_cons_zero, List.set_cons_succ]
        first | refine wpAnyH_take (i := 16) (v := undef) rfl (by kernel_rfl) (by kernel_rfl) (by kernel_rfl) (fun _ _ _ h => h) (.inr ⟨rfl, rfl⟩) hS ?_ | (refine wpAnyH_take (i := 16) (v := ?_) rfl (by kernel_rfl) (by kernel_rfl) (by kernel_rfl) (fun _ _ _ h => h) (Or.inl ⟨by rfl, ?_⟩) hS ?_; rotate_left; (intro W hSw; obtain ⟨q0, q1, q2, q3, q4⟩ := hSw; go_simp; try with_reducible rfl))
        try simp only [List.getElem_toArray, List.getElem_cons_succ, List.getElem_cons_zero, Act.put, List.setIfInBounds_toArray, List.set_cons_zero, List.set_cons_succ]
        first | refine wpAnyH_take (i := 17) (v := undef) rfl (by kernel_rfl) (by kernel_rfl) (by kernel_rfl) (fun _ _ _ h => h) (.inr ⟨rfl, rfl⟩) hS ?_ | (refine wpAnyH_take (i := 17) (v := ?_) rfl (by kernel_rfl) (by kernel_rfl) (by kernel_rfl) (fun _ _ _ h => h) (Or.inl ⟨by rfl, ?_⟩) hS ?_; rotate_left; (intro W hSw; obtain ⟨q0, q1, q2, q3, q4⟩ := hSw; go_simp; try with_reducible rfl))
        try simp only [List.getElem_toArray, List.getElem_cons_succ, List.getElem_cons_zero, Act.put, List.setIfInBounds_toArray, List.set_cons_zero, List.set_cons_succ]
        first | refine wpAnyH_take (i := 18) (v := undef) rfl (by kernel_rfl) (by kernel_rfl) (by kernel_rfl) (fun _ _ _ h => h) (.inr ⟨rfl, rfl⟩) hS ?_ | (refine wpAnyH_take (i := 18) (v := ?_) rfl (by kernel_rfl) (by kernel_rfl) (by kernel_rfl) (fun _ _ _ h => h) (Or.inl ⟨by rfl, ?_⟩) hS ?_; rotate_left; (intro W hSw; obtain ⟨q0, q1, q2, q3, q4⟩ := hSw; go_simp; try with_reducible rfl))
        try simp only [List.getElem_toArray, List.getElem_cons_succ, List.getElem_cons_zero, Act.put, List.setIfInBounds_toArray, List.set_cons_zero, List.set_cons_succ]
        first | refine wpAnyH_take (i := 19) (v := undef) rfl (by kernel_rfl) (by kernel_rfl) (by kernel_rfl) (fun _ _ _ h => h) (.inr ⟨rfl, rfl⟩) hS ?_ | (refine wpAnyH_take (i := 19) (v := ?_) rfl (by kernel_rfl) (by kernel_rfl) (by kernel_rfl) (fun _ _ _ h => h) (Or.inl ⟨by rfl, ?_⟩) hS ?_; rotate_left; (intro W hSw; obtain ⟨q0, q1, q2, q3, q4⟩ := hSw; go_simp; try with_reducible rfl))
        try simp only [List.getElem_toArray, List.getElem_cons_succ, List.getElem_cons_zero, Act.put, List.setIfInBounds_toArray, List.set_cons_zero, List.set_cons_succ]
        first | refine wpAnyH_take (i := 20) (v := undef) rfl (by kernel_rfl) (by kernel_rfl) (by kernel_rfl) (fun _ _ _ h => h) (.inr ⟨rfl, rfl⟩) hS ?_ | (refine wpAnyH_take (i := 20) (v := ?_) rfl (by kernel_rfl) (by kernel_rfl) (by kernel_rfl) (fun _ _ _ h => h) (Or.inl ⟨by rfl, ?_⟩) hS ?_; rotate_left; (intro W hSw; obtain ⟨q0, q1, q2, q3, q4⟩ := hSw; go_simp; try with_reducible rfl))
        try simp only [List.getElem_toArray, List.getElem_cons_succ, List.getElem_cons_zero, Act.put, List.setIfInBounds_toArray, List.set_cons_zero, List.set_cons_succ]
        first | refine wpAnyH_take (i := 21) (v := undef) rfl (by kernel_rfl) (by kernel_rfl) (by kernel_rfl) (fun _ _ _ h => h) (.inr ⟨rfl, rfl⟩) hS ?_ | (refine wpAnyH_take (i := 21) (v := ?_) rfl (by kernel_rfl) (by kernel_rfl) (by kernel_rfl) (fun _ _ _ h => h) (Or.inl ⟨by rfl, ?_⟩) hS ?_; rotate_left; (intro W hSw; obtain ⟨q0, q1, q2, q3, q4⟩ := hSw; go_simp; try with_reducible rfl))
        try simp only [List.getElem_toArray, List.getElem_cons_succ, List.getElem_cons_zero, Act.put, List.setIfInBounds_toArray, List.set_cons_zero, List.set_cons_succ]
        first | refine wpAnyH_take (i := 22) (v := undef) rfl (by kernel_rfl) (by kernel_rfl) (by kernel_rfl) (fun _ _ _ h => h) (.inr ⟨rfl, rfl⟩) hS ?_ | (refine wpAnyH_take (i := 22) (v := ?_) rfl (by kernel_rfl) (by kernel_rfl) (by kernel_rfl) (fun _ _ _ h => h) (Or.inl ⟨by rfl, ?_⟩) hS ?_; rotate_left; (intro W hSw; obtain ⟨q0, q1, q2, q3, q4⟩ := hSw; go_simp; try with_reducible rfl))
        try simp only [List.getElem_toArray, List.getElem_cons_succ, List.getElem_cons_zero, Act.put, List.setIfInBounds_toArray, List.set_cons_zero, List.set_cons_succ]
        first | refine wpAnyH_take (i := 23) (v := undef) rfl (by kernel_rfl) (by kernel_rfl) (by kernel_rfl) (fun _ _ _ h => h) (.inr ⟨rfl, rfl⟩) hS ?_ | (refine wpAnyH_take (i := 23) (v := ?_) rfl (by kernel_rfl) (by kernel_rfl) (by kernel_rfl) (fun _ _ _ h => h) (Or.inl ⟨by rfl, ?_⟩) hS ?_; rotate_left; (intro W hSw; obtain ⟨q0, q1, q2, q3, q4⟩ := hSw; go_simp; try with_reducible rfl))
        try simp only [List.getElem_toArray, List.getElem_cons_succ, List.getElem_cons_zero, Act.put, List.setIfInBounds_toArray, List.set_cons_zero, List.set_cons_succ]
        first | refine wpAnyH_take (i := 24) (v := undef) rfl (by kernel_rfl) (by kernel_rfl) (by kernel_rfl) (fun _ _ _ h => h) (.inr ⟨rfl, rfl⟩) hS ?_ | (refine wpAnyH_take (i := 24) (v := ?_) rfl (by kernel_rfl) (by kernel_rfl) (by kernel_rfl) (fun _ _ _ h => h) (Or.inl ⟨by rfl, ?_⟩) hS ?_; rotate_left; (intro W hSw; obtain ⟨q0, q1, q2, q3, q4⟩ := hSw; go_simp; try with_reducible rfl))
        try simp only [List.getElem_toArray, List.getElem_cons_succ, List.getElem_cons_zero, Act.put, List.setIfInBounds_toArray, List.set_cons_zero, List.set_cons_succ]
        first | refine wpAnyH_take (i := 25) (v := undef) rfl (by kernel_rfl) (by kernel_rfl) (by kernel_rfl) (fun _ _ _ h => h) (.inr ⟨rfl, rfl⟩) hS ?_ | (refine wpAnyH_take (i := 25) (v := ?_) rfl (by kernel_rfl) (by kernel_rfl) (by kernel_rfl) (fun _ _ _ h => h) (Or.inl ⟨by rfl, ?_⟩) hS ?_; rotate_left; (intro W hSw; obtain ⟨q0, q1, q2, q3, q4⟩ := hSw; go_simp; try with_reducible rfl))
        try simp only [List.getElem_toArray, List.getElem_cons_succ, List.getElem_cons_zero, Act.put, List.setIfInBounds_toArray, List.set_cons_zero, List.set_cons_succ]
        first | refine wpAnyH_take (i := 26) (v := undef) rfl (by kernel_rfl) (by kernel_rfl) (by kernel_rfl) (fun _ _ _ h => h) (.inr ⟨rfl, rfl⟩) hS ?_ | (refine wpAnyH_take (i := 26) (v := ?_) rfl (by kernel_rfl) (by kernel_rfl) (by kernel_rfl) (fun _ _ _ h => h) (Or.inl ⟨by rfl, ?_⟩) hS ?_; rotate_left; (intro W hSw; obtain ⟨q0, q1, q2, q3, q4⟩ := hSw; go_simp; try with_reducible rfl))
        try simp only [List.getElem_toArray, List.getElem_cons_succ, List.getElem_cons_zero, Act.put, List.setIfInBounds_toArray, List.set_cons_zero, List.set_cons_succ]
        first | refine wpAnyH_take (i := 27) (v := undef) rfl (by kernel_rfl) (by kernel_rfl) (by kernel_rfl) (fun _ _ _ h => h) (.inr ⟨rfl, rfl⟩) hS ?_ | (refine wpAnyH_take (i := 27) (v := ?_) rfl (by kernel_rfl) (by kernel_rfl) (by kernel_rfl) (fun _ _ _ h => h) (Or.inl ⟨by rfl, ?_⟩) hS ?_; rotate_left; (intro W hSw; obtain ⟨q0, q1, q2, q3, q4⟩ := hSw; go_simp; try with_reducible rfl))
        try simp only [List.getElem_toArray, List.getElem_cons_succ, List.getElem_cons_zero, Act.put, List.setIfInBounds_toArray, List.set_cons_zero, List.set_cons_succ]
        first | refine wpAnyH_take (i := 28) (v := undef) rfl (by kernel_rfl) (by kernel_rfl) (by kernel_rfl) (fun _ _ _ h => h) (.inr ⟨rfl, rfl⟩) hS ?_ | (refine wpAnyH_take (i := 28) (v := ?_) rfl (by kernel_rfl) (by kernel_rfl) (by kernel_rfl) (fun _ _ _ h => h) (Or.inl ⟨by rfl, ?_⟩) hS ?_; rotate_left; (intro W hSw; obtain ⟨q0, q1, q2, q3, q4⟩ := hSw; go_simp; try with_reducible rfl))
        try simp only [List.getElem_toArray, List.getElem_cons_succ, List.getElem_cons_zero, Act.put, List.setIfInBounds_toArray, List.set_cons_zero, List.set_cons_succ]
        first | refine wpAnyH_take (i := 29) (v := undef) rfl (by kernel_rfl) (by kernel_rfl) (by kernel_rfl) (fun _ _ _ h => h) (.inr ⟨rfl, rfl⟩) hS ?_ | (refine wpAnyH_take (i := 29) (v := ?_) rfl (by kernel_rfl) (by kernel_rfl) (by kernel_rfl) (fun _ _ _ h => h) (Or.inl ⟨by rfl, ?_⟩) hS ?_; rotate_left; (intro W hSw; obtain ⟨q0, q1, q2, q3, q4⟩ := hSw; go_simp; try with_reducible rfl))
        try simp only [List.getElem_toArray, List.getElem_cons_succ, List.getElem_cons_zero, Act.put, List.setIfInBounds_toArray, List.set_cons_zero, List.set_cons_succ]
        first | refine wpAnyH_take (i := 30) (v := undef) rfl (by kernel_rfl) (by kernel_rfl) (by kernel_rfl) (fun _ _ _ h => h) (.inr ⟨rfl, rfl⟩) hS ?_ | (refine wpAnyH_take (i := 30) (v := ?_) rfl (by kernel_rfl) (by kernel_rfl) (by kernel_rfl) (fun _ _ _ h => h) (Or.inl ⟨by rfl, ?_⟩) hS ?_; rotate_left; (intro W hSw; obtain ⟨q0, q1, q2, q3, q4⟩ := hSw; go_simp; try with_reducible rfl))
        try simp only [List.getElem_toArray, List.getElem_cons_succ, List.getElem_cons_zero, Act.put, List.setIfInBounds_toArray, List.set_cons_zero, List.set_cons_succ]
        first | refine wpAnyH_take (i := 31) (v := undef) rfl (by kernel_rfl) (by kernel_rfl) (by kernel_rfl) (fun _ _ _ h => h) (.inr ⟨rfl, rfl⟩) hS ?_ | (refine wpAnyH_take (i := 31) (v := ?_) rfl (by kernel_rfl) (by kernel_rfl) (by kernel_rfl) (fun _ _ _ h => h) (Or.inl ⟨by rfl, ?_⟩) hS ?_; rotate_left; (intro W hSw; obtain ⟨q0, q1, q2, q3, q4⟩ := hSw; go_simp; try with_reducible rfl))
        try simp only [List.getElem_toArray, List.getElem_cons_succ, List.getElem_cons_zero, Act.put, List.setIfInBounds_toArray, List.set_cons_zero, List.set_cons_succ]
        first | refine wpAnyH_take (i := 32) (v := undef) rfl (by kernel_rfl) (by kernel_rfl) (by kernel_rfl) (fun _ _ _ h => h) (.inr ⟨rfl, rfl⟩) hS ?_ | (refine wpAnyH_take (i := 32) (v := ?_) rfl (by kernel_rfl) (by kernel_rfl) (by kernel_rfl) (fun _ _ _ h => h) (Or.inl ⟨by rfl, ?_⟩) hS ?_; rotate_left; (intro W hSw; obtain ⟨q0, q1, q2, q3, q4⟩ := hSw; go_simp; try with_reducible rfl))
        try simp only [List.getElem_toArray, List.getElem_cons_succ, List.getElem_cons_zero, Act.put, List.setIfInBounds_toArray, List.set_cons_zero, List.set_cons_succ]
        first | refine wpAnyH_take (i := 33) (v := undef) rfl (by kernel_rfl) (by kernel_rfl) (by kernel_rfl) (fun _ _ _ h => h) (.inr ⟨rfl, rfl⟩) hS ?_ | (refine wpAnyH_take (i := 33) (v := ?_) rfl (by kernel_rfl) (by kernel_rfl) (by kernel_rfl) (fun _ _ _ h => h) (Or.inl ⟨by rfl, ?_⟩) hS ?_; rotate_left; (intro W hSw; obtain ⟨q0, q1, q2, q3, q4⟩ := hSw; go_simp; try with_reducible rfl))
        try simp only [List.getElem_toArray, List.getElem_cons_succ, List.getElem_cons_zero, Act.put, List.setIfInBounds_toArray, List.set_cons_zero, List.set_cons_succ]
        first | refine wpAnyH_take (i := 34) (v := undef) rfl (by kernel_rfl) (by kernel_rfl) (by kernel_rfl) (fun _ _ _ h => h) (.inr ⟨rfl, rfl⟩) hS ?_ | (refine wpAnyH_take (i := 34) (v := ?_) rfl (by kernel_rfl) (by kernel_rfl) (by kernel_rfl) (fun _ _ _ h => h) (Or.inl ⟨by rfl, ?_⟩) hS ?_; rotate_left; (intro W hSw; obtain ⟨q0, q1, q2, q3, q4⟩ := hSw; go_simp; try with_reducible rfl))
        try simp only [List.getElem_toArray, List.getElem_cons_succ, List.getElem_cons_zero, Act.put, List.setIfInBounds_toArray, List.set_cons_zero, List.set_cons_succ]
        first | refine wpAnyH_take (i := 35) (v := undef) rfl (by kernel_rfl) (by kernel_rfl) (by kernel_rfl) (fun _ _ _ h => h) (.inr ⟨rfl, rfl⟩) hS ?_ | (refine wpAnyH_take (i := 35) (v := ?_) rfl (by kernel_rfl) (by kernel_rfl) (by kernel_rfl) (fun _ _ _ h => h) (Or.inl ⟨by rfl, ?_⟩) hS ?_; rotate_left; (intro W hSw; obtain ⟨q0, q1, q2, q3, q4⟩ := hSw; go_simp; try with_reducible rfl))
        try simp only [List.getElem_toArray, List.getElem_cons_succ, List.getElem_cons_zero, Act.put, List.setIfInBounds_toArray, List.set_cons_zero, List.set_cons_succ]
        first | refine wpAnyH_take (i := 36) (v := undef) rfl (by kernel_rfl) (by kernel_rfl) (by kernel_rfl) (fun _ _ _ h => h) (.inr ⟨rfl, rfl⟩) hS ?_ | (refine wpAnyH_take (i := 36) (v := ?_) rfl (by kernel_rfl) (by kernel_rfl) (by kernel_rfl) (fun _ _ _ h => h) (Or.inl ⟨by rfl, ?_⟩) hS ?_; rotate_left; (intro W hSw; obtain ⟨q0, q1, q2, q3, q4⟩ := hSw; go_simp; try with_reducible rfl))
        try simp only [List.getElem_toArray, List.getElem_cons_succ, List.getElem_cons_zero, Act.put, List.setIfInBounds_toArray, List.set_cons_zero, List.set_cons_succ]
        first | refine wpAnyH_take (i := 37) (v := undef) rfl (by kernel_rfl) (by kernel_rfl) (by kernel_rfl) (fun _ _ _ h => h) (.inr ⟨rfl, rfl⟩) hS ?_ | (refine wpAnyH_take (i := 37) (v := ?_) rfl (by kernel_rfl) (by kernel_rfl) (by kernel_rfl) (fun _ _ _ h => h) (Or.inl ⟨by rfl, ?_⟩) hS ?_; rotate_left; (intro W hSw; obtain ⟨q0, q1, q2, q3, q4⟩ := hSw; go_simp; try with_reducible rfl))
        try simp only [List.getElem_toArray, List.getElem_cons_succ, List.getElem_cons_zero, Act.put, List.setIfInBounds_toArray, List.set_cons_zero, List.set_cons_succ]
        refine wpAnyH_done (by kernel_rfl) ?_ _
        clear hS
        go_wp2
        refine ⟨⟨i + 1, hlt, (by first | rfl | (rw [h5]; rfl)), fun j hj => ?_, (HB7.out.drew.block _ (lt_of_block HROW.out)).trans HROW.out, HB.out.trans ((HB7.out.drew).mono HB.out.size)⟩, by simp [intOf]; omega⟩
        by_cases hji : j = i
        · subst hji
          rw [HR.out]; simp [h3, h4, h5]; try omega
        · exact HPRE.out j (by omega)
      · have h5i : 0 < i := by omega
        have h5j : (1 : Int) ≤ (i : Int) := by omega
        by_cases h6 : x < px
        · skip
          first | refine wpAnyH_take (i := 0) (v := undef) rfl (by kernel_rfl) (by kernel_rfl) (by kernel_rfl) (fun _ _ _ h => h) (.inr ⟨rfl, rfl⟩) hS ?_ | (refine wpAnyH_take (i := 0) (v := ?_) rfl (by kernel_rfl) (by kernel_rfl) (by kernel_rfl) (fun _ _ _ h => h) (Or.inl ⟨by rfl, ?_⟩) hS ?_; rotate_left; (intro W hSw; obtain ⟨q0, q1, q2, q3, q4⟩ := hSw; go_simp; try with_reducible rfl))
          try simp only [List.getElem_toArray, List.getElem_cons_succ, List.getElem_cons_zero, Act.put, List.setIfInBounds_toArray, List.set_cons_zero, List.set_cons_succ]
          first | refine wpAnyH_take (i := 1) (v := undef) rfl (by kernel_rfl) (by kernel_rfl) (by kernel_rfl) (fun _ _ _ h => h) (.inr ⟨rfl, rfl⟩) hS ?_ | (refine wpAnyH_take (i := 1) (v := ?_) rfl (by kernel_rfl) (by kernel_rfl) (by kernel_rfl) (fun _ _ _ h => h) (Or.inl ⟨by rfl, ?_⟩) hS ?_; rotate_left; (intro W hSw; obtain ⟨q0, q1, q2, q3, q4⟩ := hSw; go_simp; try with_reducible rfl))
          try simp only [List.getElem_toArray, List.getElem_cons_succ, List.getElem_cons_zero, Act.put, List.setIfInBounds_toArray, List.set_cons_zero, List.set_cons_succ]
          refine wpAnyH_ready (rs := [2]) (by kernel_rfl) (by simp) ?_
          refine AllReadyH.cons rfl (fun K hK => ?_) AllReadyH.nil
          go_simp
          refine (r7in_any _ _ _ _).mono ?_
          rintro e wz ⟨rfl, rfl⟩
          first | rw [h3] | rw [h4]
          dsimp only
          refine hK.out _ _ hS (fun hS => ?_)
          clear hK K
          try simp only [List.getElem_toArray, List.getElem_cons_succ, List.getElem_cons_zero, Act.put, List.setIfInBounds_toArray, List.set_cons_zero, List.set_cons_succ]
          first | refine wpAnyH_take (i := 3) (v := undef) rfl (by kernel_rfl) (by kernel_rfl) (by kernel_rfl) (fun _ _ _ h => h) (.inr ⟨rfl, rfl⟩) hS ?_ | (refine wpAnyH_take (i := 3) (v := ?_) rfl (by kernel_rfl) (by kernel_rfl) (by kernel_rfl) (fun _ _ _ h => h) (Or.inl ⟨by rfl, ?_⟩) hS ?_; rotate_left; (intro W hSw; obtain ⟨q0, q1, q2, q3, q4⟩ := hSw; go_simp; try with_reducible rfl))
          try simp only [List.getElem_toArray, List.getElem_cons_succ, List.getElem_cons_zero, Act.put, List.setIfInBounds_toArray, List.set_cons_zero, List.set_cons_succ]
          first | refine wpAnyH_take (i := 4) (v := undef) rfl (by kernel_rfl) (by kernel_rfl) (by kernel_rfl) (fun _ _ _ h => h) (.inr ⟨rfl, rfl⟩) hS ?_ | (refine wpAnyH_take (i := 4) (v := ?_) rfl (by kernel_rfl) (by kernel_rfl) (by kernel_rfl) (fun _ _ _ h => h) (Or.inl ⟨by rfl, ?_⟩) hS ?_; rotate_left; (intro W hSw; obtain ⟨q0, q1, q2, q3, q4⟩ := hSw; go_simp; try with_reducible rfl))
          try simp only [List.getElem_toArray, List.getElem_cons_succ, List.getElem_cons_zero, Act.put, List.setIfInBounds_toArray, List.set_cons_zero, List.set_cons_succ]
          first | refine wpAnyH_take (i := 5) (v := undef) rfl (by kernel_rfl) (by kernel_rfl) (by kernel_rfl) (fun _ _ _ h => h) (.inr ⟨rfl, rfl⟩) hS ?_ | (refine wpAnyH_take (i := 5) (v := ?_) rfl (by kernel_rfl) (by kernel_rfl) (by kernel_rfl) (fun _ _ _ h => h) (Or.inl ⟨by rfl, ?_⟩) hS ?_; rotate_left; (intro W hSw; obtain ⟨q0, q1, q2, q3, q4⟩ := hSw; go_simp; try with_reducible rfl))
          try simp only [List.getElem_toArray, List.getElem_cons_succ, List.getElem_cons_zero, Act.put, List.setIfInBounds_toArray, List.set_cons_zero, List.set_cons_succ]
          first | refine wpAnyH_take (i := 6) (v := undef) rfl (by kernel_rfl) (by kernel_rfl) (by kernel_rfl) (fun _ _ _ h => h) (.inr ⟨rfl, rfl⟩) hS ?_ | (refine wpAnyH_take (i := 6) (v := ?_) rfl (by kernel_rfl) (by kernel_rfl) (by kernel_rfl) (fun _ _ _ h => h) (Or.inl ⟨by rfl, ?_⟩) hS ?_; rotate_left; (intro W hSw; obtain ⟨q0, q1, q2, q3, q4⟩ := hSw; go_simp; try with_reducible rfl))
          try simp only [List.getElem_toArray, List.getElem_cons_succ, List.getElem_cons_zero, Act.put, List.setIfInBounds_toArray, List.set_cons_zero, List.set_cons_succ]
          refine wpAnyH_ready (rs := [7]) (by kernel_rfl) (by simp) ?_
          refine AllReadyH.cons rfl (fun K hK => ?_) AllReadyH.nil
          go_simp
          refine (r7in_any _ _ _ _).mono ?_
          rintro e wz ⟨rfl, rfl⟩
          first | rw [h3] | rw [h4]
          dsimp only
          refine hK.out _ _ hS (fun hS => ?_)
          clear hK K
          try simp only [List.getElem_toArray, List.getElem_cons_succ, List.getElem_cons_zero, Act.put, List.setIfInBounds_toArray, List.set_cons_zero, List.set_cons_succ]
          first | refine wpAnyH_take (i := 8) (v := undef) rfl (by kernel_rfl) (by kernel_rfl) (by kernel_rfl) (fun _ _ _ h => h) (.inr ⟨rfl, rfl⟩) hS ?_ | (refine wpAnyH_take (i := 8) (v := ?_) rfl (by kernel_rfl) (by kernel_rfl) (by kernel_rfl) (fun _ _ _ h => h) (Or.inl ⟨by rfl, ?_⟩) hS ?_; rotate_left; (intro W hSw; obtain ⟨q0, q1, q2, q3, q4⟩ := hSw; go_simp; try with_reducible rfl))
          try simp only [List.getElem_toArray, List.getElem_cons_succ, List.getElem_cons_zero, Act.put, List.setIfInBounds_toArray, List.set_cons_zero, List.set_cons_succ]
          first | refine wpAnyH_take (i := 9) (v := undef) rfl (by kernel_rfl) (by kernel_rfl) (by kernel_rfl) (fun _ _ _ h => h) (.inr ⟨rfl, rfl⟩) hS ?_ | (refine wpAnyH_take (i := 9) (v := ?_) rfl (by kernel_rfl) (by kernel_rfl) (by kernel_rfl) (fun _ _ _ h => h) (Or.inl ⟨by rfl, ?_⟩) hS ?_; rotate_left; (intro W hSw; obtain ⟨q0, q1, q2, q3, q4⟩ := hSw; go_simp; try with_reducible rfl))
          try simp only [List.getElem_toArray, List.getElem_cons_succ, List.getElem_cons_zero, Act.put, List.setIfInBounds_toArray, List.set_cons_zero, List.set_cons_succ]
          first | refine wpAnyH_take (i := 10) (v := undef) rfl (by kernel_rfl) (by kernel_rfl) (by kernel_rfl) (fun _ _ _ h => h) (.inr ⟨rfl, rfl⟩) hS ?_ | (refine wpAnyH_take (i := 10) (v := ?_) rfl (by kernel_rfl) (by kernel_rfl) (by kernel_rfl) (fun _ _ _ h => h) (Or.inl ⟨by rfl, ?_⟩) hS ?_; rotate_left; (intro W hSw; obtain ⟨q0, q1, q2, q3, q4⟩ := hSw; go_simp; try with_reducible rfl))
          try simp only [List.getElem_toArray, List.getElem_cons_succ, List.getElem_cons_zero, Act.put, List.setIfInBounds_toArray, List.set_cons_zero, List.set_cons_succ]
          first | refine wpAnyH_take (i := 11) (v := undef) rfl (by kernel_rfl) (by kernel_rfl) (by kernel_rfl) (fun _ _ _ h => h) (.inr ⟨rfl, rfl⟩) hS ?_ | (refine wpAnyH_take (i := 11) (v := ?_) rfl (by kernel_rfl) (by kernel_rfl) (by kernel_rfl) (fun _ _ _ h => h) (Or.inl ⟨by rfl, ?_⟩) hS ?_; rotate_left; (intro W hSw; obtain ⟨q0, q1, q2, q3, q4⟩ := hSw; go_simp; try with_reducible rfl))
          try simp only [List.getElem_toArray, List.getElem_cons_succ, List.getElem_cons_zero, Act.put, List.setIfInBounds_toArray, List.set_cons_zero, List.set_cons_succ]
          first | refine wpAnyH_take (i := 12) (v := undef) rfl (by kernel_rfl) (by kernel_rfl) (by kernel_rfl) (fun _ _ _ h => h) (.inr ⟨rfl, rfl⟩) hS ?_ | (refine wpAnyH_take (i := 12) (v := ?_) rfl (by kernel_rfl) (by kernel_rfl) (by kernel_rfl) (fun _ _ _ h => h) (Or.inl ⟨by rfl, ?_⟩) hS ?_; rotate_left; (intro W hSw; obtain ⟨q0, q1, q2, q3, q4⟩ := hSw; go_simp; try with_reducible rfl))
          try simp only [List.getElem_toArray, List.getElem_cons_succ, List.getElem_cons_zero, Act.put, List.setIfInBounds_toArray, List.set_cons_zero, List.set_cons_succ]
          first | refine wpAnyH_take (i := 13) (v := undef) rfl (by kernel_rfl) (by kernel_rfl) (by kernel_rfl) (fun _ _ _ h => h) (.inr ⟨rfl, rfl⟩) hS ?_ | (refine wpAnyH_take (i := 13) (v := ?_) rfl (by kernel_rfl) (by kernel_rfl) (by kernel_rfl) (fun _ _ _ h => h) (Or.inl ⟨by rfl, ?_⟩) hS ?_; rotate_left; (intro W hSw; obtain ⟨q0, q1, q2, q3, q4⟩ := hSw; go_simp; try with_reducible rfl))
          try simp only [List.getElem_toArray, List.getElem_cons_succ, List.getElem_cons_zero, Act.put, List.setIfInBounds_toArray, List.set_cons_zero, List.set_cons_succ]
          first | refine wpAnyH_take (i := 14) (v := undef) rfl (by kernel_rfl) (by kernel_rfl) (by kernel_rfl) (fun _ _ _ h => h) (.inr ⟨rfl, rfl⟩) hS ?_ | (refine wpAnyH_take (i := 14) (v := ?_) rfl (by kernel_rfl) (by kernel_rfl) (by kernel_rfl) (fun _ _ _ h => h) (Or.inl ⟨by rfl, ?_⟩) hS ?_; rotate_left; (intro W hSw; obtain ⟨q0, q1, q2, q3, q4⟩ := hSw; go_simp; try with_reducible rfl))
          try simp only [List.getElem_toArray, List.getElem_cons_succ, List.getElem_cons_zero, Act.put, List.setIfInBounds_toArray, List.set_cons_zero, List.set_cons_succ]
          first | refine wpAnyH_take (i := 15) (v := undef) rfl (by kernel_rfl) (by kernel_rfl) (by kernel_rfl) (fun _ _ _ h => h) (.inr ⟨rfl, rfl⟩) hS ?_ | (refine wpAnyH_take (i := 15) (v := ?_) rfl (by kernel_rfl) (by kernel_rfl) (by kernel_rfl) (fun _ _ _ h => h) (Or.inl ⟨by rfl, ?_⟩) hS ?_; rotate_left; (intro W hSw; obtain ⟨q0, q1, q2, q3, q4⟩ := hSw; go_simp; try with_reducible rfl))
          try simp only [List.getElem_toArray, List.getElem_cons_succ, List.getElem_cons_zero, Act.put, List.setIfInBounds_toArray, List.set_cons_zero, List.set_cons_succ]
          first | refine wpAnyH_take (i := 16) (v := undef) rfl (by kernel_rfl) (by kernel_rfl) (by kernel_rfl) (fun _ _ _ h => h) (.inr ⟨rfl, rfl⟩) hS ?_ | (refine wpAnyH_take (i := 16) (v := ?_) rfl (by kernel_rfl) (by kernel_rfl) (by kernel_rfl) (fun _ _ _ h => h) (Or.inl ⟨by rfl, ?_⟩) hS ?_; rotate_left; (intro W hSw; obtain ⟨q0, q1, q2, q3, q4⟩ := hSw; go_simp; try with_reducible rfl))
          try simp only [List.getElem_toArray, List.getElem_cons_succ, List.getElem_cons_zero, Act.put, List.setIfInBounds_toArray, List.set_cons_zero, List.set_cons_succ]
          first | refine wpAnyH_take (i := 17) (v := undef) rfl (by kernel_rfl) (by kernel_rfl) (by kernel_rfl) (fun _ _ _ h => h) (.inr ⟨rfl, rfl⟩) hS ?_ | (refine wpAnyH_take (i := 17) (v := ?_) rfl (by kernel_rfl) (by kernel_rfl) (by kernel_rfl) (fun _ _ _ h => h) (Or.inl ⟨by rfl, ?_⟩) hS ?_; rotate_left; (intro W hSw; obtain ⟨q0, q1, q2, q3, q4⟩ := hSw; go_simp; try with_reducible rfl))
          try simp only [List.getElem_toArray, List.getElem_cons_succ, List.getElem_cons_zero, Act.put, List.setIfInBounds_toArray, List.set_cons_zero, List.set_cons_succ]
          first | refine wpAnyH_take (i := 18) (v := undef) rfl (by kernel_rfl) (by kernel_rfl) (by kernel_rfl) (fun _ _ _ h => h) (.inr ⟨rfl, rfl⟩) hS ?_ | (refine wpAnyH_take (i := 18) (v := ?_) rfl (by kernel_rfl) (by kernel_rfl) (by kernel_rfl) (fun _ _ _ h => h) (Or.inl ⟨by rfl, ?_⟩) hS ?_; rotate_left; (intro W hSw; obtain ⟨q0, q1, q2, q3, q4⟩ := hSw; go_simp; try with_reducible rfl))
          try simp only [List.getElem_toArray, List.getElem_cons_succ, List.getElem_cons_zero, Act.put, List.setIfInBounds_toArray, List.set_cons_zero, List.set_cons_succ]
          first | refine wpAnyH_take (i := 19) (v := undef) rfl (by kernel_rfl) (by kernel_rfl) (by kernel_rfl) (fun _ _ _ h => h) (.inr ⟨rfl, rfl⟩) hS ?_ | (refine wpAnyH_take (i := 19) (v := ?_) rfl (by kernel_rfl) (by kernel_rfl) (by kernel_rfl) (fun _ _ _ h => h) (Or.inl ⟨by rfl, ?_⟩) hS ?_; rotate_left; (intro W hSw; obtain ⟨q0, q1, q2, q3, q4⟩ := hSw; go_simp; try with_reducible rfl))
          try simp only [List.getElem_toArray, List.getElem_cons_succ, List.getElem_cons_zero, Act.put, List.setIfInBounds_toArray, List.set_cons_zero, List.set_cons_succ]
          first | refine wpAnyH_take (i := 20) (v := undef) rfl (by kernel_rfl) (by kernel_rfl) (by kernel_rfl) (fun _ _ _ h => h) (.inr ⟨rfl, rfl⟩) hS ?_ | (refine wpAnyH_take (i := 20) (v := ?_) rfl (by kernel_rfl) (by kernel_rfl) (by kernel_rfl) (fun _ _ _ h => h) (Or.inl ⟨by rfl, ?_⟩) hS ?_; rotate_left; (intro W hSw; obtain ⟨q0, q1, q2, q3, q4⟩ := hSw; go_simp; try with_reducible rfl))
          try simp only [List.getElem_toArray, List.getElem_cons_succ, List.getElem_cons_zero, Act.put, List.setIfInBounds_toArray, List.set_cons_zero, List.set_cons_succ]
          first | refine wpAnyH_take (i := 21) (v := undef) rfl (by kernel_rfl) (by kernel_rfl) (by kernel_rfl) (fun _ _ _ h => h) (.inr ⟨rfl, rfl⟩) hS ?_ | (refine wpAnyH_take (i := 21) (v := ?_) rfl (by kernel_rfl) (by kernel_rfl) (by kernel_rfl) (fun _ _ _ h => h) (Or.inl ⟨by rfl, ?_⟩) hS ?_; rotate_left; (intro W hSw; obtain ⟨q0, q1, q2, q3, q4⟩ := hSw; go_simp; try with_reducible rfl))
          try simp only [List.getElem_toArray, List.getElem_cons_succ, List.getElem_cons_zero, Act.put, List.setIfInBounds_toArray, List.set_cons_zero, List.set_cons_succ]
          first | refine wpAnyH_take (i := 22) (v := undef) rfl (by kernel_rfl) (by kernel_rfl) (by kernel_rfl) (fun _ _ _ h => h) (.inr ⟨rfl, rfl⟩) hS ?_ | (refine wpAnyH_take (i := 22) (v := ?_) rfl (by kernel_rfl) (by kernel_rfl) (by kernel_rfl) (fun _ _ _ h => h) (Or.inl ⟨by rfl, ?_⟩) hS ?_; rotate_left; (intro W hSw; obtain ⟨q0, q1, q2, q3, q4⟩ := hSw; go_simp; try with_reducible rfl))
          try simp only [List.getElem_toArray, List.getElem_cons_succ, List.getElem_cons_zero, Act.put, List.setIfInBounds_toArray, List.set_cons_zero, List.set_cons_succ]
          first | refine wpAnyH_take (i := 23) (v := undef) rfl (by kernel_rfl) (by kernel_rfl) (by kernel_rfl) (fun _ _ _ h => h) (.inr ⟨rfl, rfl⟩) hS ?_ | (refine wpAnyH_take (i := 23) (v := ?_) rfl (by kernel_rfl) (by kernel_rfl) (by kernel_rfl) (fun _ _ _ h => h) (Or.inl ⟨by rfl, ?_⟩) hS ?_; rotate_left; (intro W hSw; obtain ⟨q0, q1, q2, q3, q4⟩ := hSw; go_simp; try with_reducible rfl))
          try simp only [List.getElem_toArray, List.getElem_cons_succ, List.getElem_cons_zero, Act.put, List.setIfInBounds_toArray, List.set_cons_zero, List.set_cons_succ]
          first | refine wpAnyH_take (i := 24) (v := undef) rfl (by kernel_rfl) (by kernel_rfl) (by kernel_rfl) (fun _ _ _ h => h) (.inr ⟨rfl, rfl⟩) hS ?_ | (refine wpAnyH_take (i := 24) (v := ?_) rfl (by kernel_rfl) (by kernel_rfl) (by kernel_rfl) (fun _ _ _ h => h) (Or.inl ⟨by rfl, ?_⟩) hS ?_; rotate_left; (intro W hSw; obtain ⟨q0, q1, q2, q3, q4⟩ := hSw; go_simp; try with_reducible rfl))
          try simp only [List.getElem_toArray, List.getElem_cons_succ, List.getElem_cons_zero, Act.put, List.setIfInBounds_toArray, List.set_cons_zero, List.set_cons_succ]
          first | refine wpAnyH_take (i := 25) (v := undef) rfl (by kernel_rfl) (by kernel_rfl) (by kernel_rfl) (fun _ _ _ h => h) (.inr ⟨rfl, rfl⟩) hS ?_ | (refine wpAnyH_take (i := 25) (v := ?_) rfl (by kernel_rfl) (by kernel_rfl) (by kernel_rfl) (fun _ _ _ h => h) (Or.inl ⟨by rfl, ?_⟩) hS ?_; rotate_left; (intro W hSw; obtain ⟨q0, q1, q2, q3, q4⟩ := hSw; go_simp; try with_reducible rfl))
          try simp only [List.getElem_toArray, List.getElem_cons_succ, List.getElem_cons_zero, Act.put, List.setIfInBounds_toArray, List.set_cons_zero, List.set_cons_succ]
          first | refine wpAnyH_take (i := 26) (v := undef) rfl (by kernel_rfl) (by kernel_rfl) (by kernel_rfl) (fun _ _ _ h => h) (.inr ⟨rfl, rfl⟩) hS ?_ | (refine wpAnyH_take (i := 26) (v := ?_) rfl (by kernel_rfl) (by kernel_rfl) (by kernel_rfl) (fun _ _ _ h => h) (Or.inl ⟨by rfl, ?_⟩) hS ?_; rotate_left; (intro W hSw; obtain ⟨q0, q1, q2, q3, q4⟩ := hSw; go_simp; try with_reducible rfl))
          try simp only [List.getElem_toArray, List.getElem_cons_succ, List.getElem_cons_zero, Act.put, List.setIfInBounds_toArray, List.set_cons_zero, List.set_cons_succ]
          first | refine wpAnyH_take (i := 27) (v := undef) rfl (by kernel_rfl) (by kernel_rfl) (by kernel_rfl) (fun _ _ _ h => h) (.inr ⟨rfl, rfl⟩) hS ?_ | (refine wpAnyH_take (i := 27) (v := ?_) rfl (by kernel_rfl) (by kernel_rfl) (by kernel_rfl) (fun _ _ _ h => h) (Or.inl ⟨by rfl, ?_⟩) hS ?_; rotate_left; (intro W hSw; obtain ⟨q0, q1, q2, q3, q4⟩ := hSw; go_simp; try with_reducible rfl))
          try simp only [List.getElem_toArray, List.getElem_cons_succ, List.getElem_cons_zero, Act.put, List.setIfInBounds_toArray, List.set_cons_zero, List.set_cons_succ]
          first | refine wpAnyH_take (i := 28) (v := undef) rfl (by kernel_rfl) (by kernel_rfl) (by kernel_rfl) (fun _ _ _ h => h) (.inr ⟨rfl, rfl⟩) hS ?_ | (refine wpAnyH_take (i := 28) (v := ?_) rfl (by kernel_rfl) (by kernel_rfl) (by kernel_rfl) (fun _ _ _ h => h) (Or.inl ⟨by rfl, ?_⟩) hS ?_; rotate_left; (intro W hSw; obtain ⟨q0, q1, q2, q3, q4⟩ := hSw; go_simp; try with_reducible rfl))
          try simp only [List.getElem_toArray, List.getElem_cons_succ, List.getElem_cons_zero, Act.put, List.setIfInBounds_toArray, List.set_cons_zero, List.set_cons_succ]
          first | refine wpAnyH_take (i := 29) (v := undef) rfl (by kernel_rfl) (by kernel_rfl) (by kernel_rfl) (fun _ _ _ h => h) (.inr ⟨rfl, rfl⟩) hS ?_ | (refine wpAnyH_take (i := 29) (v := ?_) rfl (by kernel_rfl) (by kernel_rfl) (by kernel_rfl) (fun _ _ _ h => h) (Or.inl ⟨by rfl, ?_⟩) hS ?_; rotate_left; (intro W hSw; obtain ⟨q0, q1, q2, q3, q4⟩ := hSw; go_simp; try with_reducible rfl))
          try simp only [List.getElem_toArray, List.getElem_cons_succ, List.getElem_cons_zero, Act.put, List.setIfInBounds_toArray, List.set_cons_zero, List.set_cons_succ]
          first | refine wpAnyH_take (i := 30) (v := undef) rfl (by kernel_rfl) (by kernel_rfl) (by kernel_rfl) (fun _ _ _ h => h) (.inr ⟨rfl, rfl⟩) hS ?_ | (refine wpAnyH_take (i := 30) (v := ?_) rfl (by kernel_rfl) (by kernel_rfl) (by kernel_rfl) (fun _ _ _ h => h) (Or.inl ⟨by rfl, ?_⟩) hS ?_; rotate_left; (intro W hSw; obtain ⟨q0, q1, q2, q3, q4⟩ := hSw; go_simp; try with_reducible rfl))
          try simp only [List.getElem_toArray, List.getElem_cons_succ, List.getElem_cons_zero, Act.put, List.setIfInBounds_toArray, List.set_cons_zero, List.set_cons_succ]
          first | refine wpAnyH_take (i := 31) (v := undef) rfl (by kernel_rfl) (by kernel_rfl) (by kernel_rfl) (fun _ _ _ h => h) (.inr ⟨rfl, rfl⟩) hS ?_ | (refine wpAnyH_take (i := 31) (v := ?_) rfl (by kernel_rfl) (by kernel_rfl) (by kernel_rfl) (fun _ _ _ h => h) (Or.inl ⟨by rfl, ?_⟩) hS ?_; rotate_left; (intro W hSw; obtain ⟨q0, q1, q2, q3, q4⟩ := hSw; go_simp; try with_reducible rfl))
          try simp only [List.getElem_toArray, List.getElem_cons_succ, List.getElem_cons_zero, Act.put, List.setIfInBounds_toArray, List.set_cons_zero, List.set_cons_succ]
          first | refine wpAnyH_take (i := 32) (v := undef) rfl (by kernel_rfl) (by kernel_rfl) (by kernel_rfl) (fun _ _ _ h => h) (.inr ⟨rfl, rfl⟩) hS ?_ | (refine wpAnyH_take (i := 32) (v := ?_) rfl (by kernel_rfl) (by kernel_rfl) (by kernel_rfl) (fun _ _ _ h => h) (Or.inl ⟨by rfl, ?_⟩) hS ?_; rotate_left; (intro W hSw; obtain ⟨q0, q1, q2, q3, q4⟩ := hSw; go_simp; try with_reducible rfl))
          try simp only [List.getElem_toArray, List.getElem_cons_succ, List.getElem_cons_zero, Act.put, List.setIfInBounds_toArray, List.set_cons_zero, List.set_cons_succ]
          first | refine wpAnyH_take (i := 33) (v := undef) rfl (by kernel_rfl) (by kernel_rfl) (by kernel_rfl) (fun _ _ _ h => h) (.inr ⟨rfl, rfl⟩) hS ?_ | (refine wpAnyH_take (i := 33) (v := ?_) rfl (by kernel_rfl) (by kernel_rfl) (by kernel_rfl) (fun _ _ _ h => h) (Or.inl ⟨by rfl, ?_⟩) hS ?_; rotate_left; (intro W hSw; obtain ⟨q0, q1, q2, q3, q4⟩ := hSw; go_simp; try with_reducible rfl))
          try simp only [List.getElem_toArray, List.getElem_cons_succ, List.getElem_cons_zero, Act.put, List.setIfInBounds_toArray, List.set_cons_zero, List.set_cons_succ]
          first | refine wpAnyH_take (i := 34) (v := undef) rfl (by kernel_rfl) (by kernel_rfl) (by kernel_rfl) (fun _ _ _ h => h) (.inr ⟨rfl, rfl⟩) hS ?_ | (refine wpAnyH_take (i := 34) (v := ?_) rfl (by kernel_rfl) (by kernel_rfl) (by kernel_rfl) (fun _ _ _ h => h) (Or.inl ⟨by rfl, ?_⟩) hS ?_; rotate_left; (intro W hSw; obtain ⟨q0, q1, q2, q3, q4⟩ := hSw; go_simp; try with_reducible rfl))
          try simp only [List.getElem_toArray, List.getElem_cons_succ, List.getElem_cons_zero, Act.put, List.setIfInBounds_toArray, List.set_cons_zero, List.set_cons_succ]
          first | refine wpAnyH_take (i := 35) (v := undef) rfl (by kernel_rfl) (by kernel_rfl) (by kernel_rfl) (fun _ _ _ h => h) (.inr ⟨rfl, rfl⟩) hS ?_ | (refine wpAnyH_take (i := 35) (v := ?_) rfl (by kernel_rfl) (by kernel_rfl) (by kernel_rfl) (fun _ _ _ h => h) (Or.inl ⟨by rfl, ?_⟩) hS ?_; rotate_left; (intro W hSw; obtain ⟨q0, q1, q2, q3, q4⟩ := hSw; go_simp; try with_reducible rfl))
          try simp only [List.getElem_toArray, List.getElem_cons_succ, List.getElem_cons_zero, Act.put, List.setIfInBounds_toArray, List.set_cons_zero, List.set_cons_succ]
          first | refine wpAnyH_take (i := 36) (v := undef) rfl (by kernel_rfl) (by kernel_rfl) (by kernel_rfl) (fun _ _ _ h => h) (.inr ⟨rfl, rfl⟩) hS ?_ | (refine wpAnyH_take (i := 36) (v := ?_) rfl (by kernel_rfl) (by kernel_rfl) (by kernel_rfl) (fun _ _ _ h => h) (Or.inl ⟨by rfl, ?_⟩) hS ?_; rotate_left; (intro W hSw; obtain ⟨q0, q1, q2, q3, q4⟩ := hSw; go_simp; try with_reducible rfl))
          try simp only [List.getElem_toArray, List.getElem_cons_succ, List.getElem_cons_zero, Act.put, List.setIfInBounds_toArray, List.set_cons_zero, List.set_cons_succ]
          first | refine wpAnyH_take (i := 37) (v := undef) rfl (by kernel_rfl) (by kernel_rfl) (by kernel_rfl) (fun _ _ _ h => h) (.inr ⟨rfl, rfl⟩) hS ?_ | (refine wpAnyH_take (i := 37) (v := ?_) rfl (by kernel_rfl) (by kernel_rfl) (by kernel_rfl) (fun _ _ _ h => h) (Or.inl ⟨by rfl, ?_⟩) hS ?_; rotate_left; (intro W hSw; obtain ⟨q0, q1, q2, q3, q4⟩ := hSw; go_simp; try with_reducible rfl))
          try simp only [List.getElem_toArray, List.getElem_cons_succ, List.getElem_cons_zero, Act.put, List.setIfInBounds_toArray, List.set_cons_zero, List.set_cons_succ]
          refine wpAnyH_done (by kernel_rfl) ?_ _
          clear hS
          go_wp2
          refine bodyPost_ret (v := .bool false) (by simp [results, Try.results54, go_sem]) rfl ⟨congrArg (fun b => Ending.returned (Value.bool b)) ?_, HB.out.trans ((HB7.out.drew).mono HB.out.size)⟩
          have hf : limR lim i = false := by rw [HR.out]; simp [h3, h4]; try omega
          rw [HV.out]
          symm
          refine Bool.eq_false_iff.2 fun h => ?_
          rw [Bool.and_eq_true, List.all_eq_true] at h
          have := h.1 i (List.mem_range.2 hlt)
          rw [hf] at this
          cases this
        by_cases h7 : y < py
        · skip
          first | refine wpAnyH_take (i := 0) (v := undef) rfl (by kernel_rfl) (by kernel_rfl) (by kernel_rfl) (fun _ _ _ h => h) (.inr ⟨rfl, rfl⟩) hS ?_ | (refine wpAnyH_take (i := 0) (v := ?_) rfl (by kernel_rfl) (by kernel_rfl) (by kernel_rfl) (fun _ _ _ h => h) (Or.inl ⟨by rfl, ?_⟩) hS ?_; rotate_left; (intro W hSw; obtain ⟨q0, q1, q2, q3, q4⟩ := hSw; go_simp; try with_reducible rfl))
          try simp only [List.getElem_toArray, List.getElem_cons_succ, List.getElem_cons_zero, Act.put, List.setIfInBounds_toArray, List.set_cons_zero, List.set_cons_succ]
          first | refine wpAnyH_take (i := 1) (v := undef) rfl (by kernel_rfl) (by kernel_rfl) (by kernel_rfl) (fun _ _ _ h => h) (.inr ⟨rfl, rfl⟩) hS ?_ | (refine wpAnyH_take (i := 1) (v := ?_) rfl (by kernel_rfl) (by kernel_rfl) (by kernel_rfl) (fun _ _ _ h => h) (Or.inl ⟨by rfl, ?_⟩) hS ?_; rotate_left; (intro W hSw; obtain ⟨q0, q1, q2, q3, q4⟩ := hSw; go_simp; try with_reducible rfl))
          try simp only [List.getElem_toArray, List.getElem_cons_succ, List.getElem_cons_zero, Act.put, List.setIfInBounds_toArray, List.set_cons_zero, List.set_cons_succ]
          refine wpAnyH_ready (rs := [2]) (by kernel_rfl) (by simp) ?_
          refine AllReadyH.cons rfl (fun K hK => ?_) AllReadyH.nil
          go_simp
          refine (r7in_any _ _ _ _).mono ?_
          rintro e wz ⟨rfl, rfl⟩
          first | rw [h3] | rw [h4]
          dsimp only
          refine hK.out _ _ hS (fun hS => ?_)
          clear hK K
          try simp only [List.getElem_toArray, List.getElem_cons_succ, List.getElem_cons_zero, Act.put, List.setIfInBounds_toArray, List.set_cons_zero, List.set_cons_succ]
          first | refine wpAnyH_take (i := 3) (v := undef) rfl (by kernel_rfl) (by kernel_rfl) (by kernel_rfl) (fun _ _ _ h => h) (.inr ⟨rfl, rfl⟩) hS ?_ | (refine wpAnyH_take (i := 3) (v := ?_) rfl (by kernel_rfl) (by kernel_rfl) (by kernel_rfl) (fun _ _ _ h => h) (Or.inl ⟨by rfl, ?_⟩) hS ?_; rotate_left; (intro W hSw; obtain ⟨q0, q1, q2, q3, q4⟩ := hSw; go_simp; try with_reducible rfl))
          try simp only [List.getElem_toArray, List.getElem_cons_succ, List.getElem_cons_zero, Act.put, List.setIfInBounds_toArray, List.set_cons_zero, List.set_cons_succ]
          first | refine wpAnyH_take (i := 4) (v := undef) rfl (by kernel_rfl) (by kernel_rfl) (by kernel_rfl) (fun _ _ _ h => h) (.inr ⟨rfl, rfl⟩) hS ?_ | (refine wpAnyH_take (i := 4) (v := ?_) rfl (by kernel_rfl) (by kernel_rfl) (by kernel_rfl) (fun _ _ _ h => h) (Or.inl ⟨by rfl, ?_⟩) hS ?_; rotate_left; (intro W hSw; obtain ⟨q0, q1, q2, q3, q4⟩ := hSw; go_simp; try with_reducible rfl))
          try simp only [List.getElem_toArray, List.getElem_cons_succ, List.getElem_cons_zero, Act.put, List.setIfInBounds_toArray, List.set_cons_zero, List.set_cons_succ]
          first | refine wpAnyH_take (i := 5) (v := undef) rfl (by kernel_rfl) (by kernel_rfl) (by kernel_rfl) (fun _ _ _ h => h) (.inr ⟨rfl, rfl⟩) hS ?_ | (refine wpAnyH_take (i := 5) (v := ?_) rfl (by kernel_rfl) (by kernel_rfl) (by kernel_rfl) (fun _ _ _ h => h) (Or.inl ⟨by rfl, ?_⟩) hS ?_; rotate_left; (intro W hSw; obtain ⟨q0, q1, q2, q3, q4⟩ := hSw; go_simp; try with_reducible rfl))
          try simp only [List.getElem_toArray, List.getElem_cons_succ, List.getElem_cons_zero, Act.put, List.setIfInBounds_toArray, List.set_cons_zero, List.set_cons_succ]
          first | refine wpAnyH_take (i := 6) (v := undef) rfl (by kernel_rfl) (by kernel_rfl) (by kernel_rfl) (fun _ _ _ h => h) (.inr ⟨rfl, rfl⟩) hS ?_ | (refine wpAnyH_take (i := 6) (v := ?_) rfl (by kernel_rfl) (by kernel_rfl) (by kernel_rfl) (fun _ _ _ h => h) (Or.inl ⟨by rfl, ?_⟩) hS ?_; rotate_left; (intro W hSw; obtain ⟨q0, q1, q2, q3, q4⟩ := hSw; go_simp; try with_reducible rfl))
          try simp only [List.getElem_toArray, List.getElem_cons_succ, List.getElem_cons_zero, Act.put, List.setIfInBounds_toArray, List.set_cons_zero, List.set_cons_succ]
          refine wpAnyH_ready (rs := [7]) (by kernel_rfl) (by simp) ?_
          refine AllReadyH.cons rfl (fun K hK => ?_) AllReadyH.nil
          go_simp
          refine (r7in_any _ _ _ _).mono ?_
          rintro e wz ⟨rfl, rfl⟩
          first | rw [h3] | rw [h4]
          dsimp only
          refine hK.out _ _ hS (fun hS => ?_)
          clear hK K
          try simp only [List.getElem_toArray, List.getElem_cons_succ, List.getElem_cons_zero, Act.put, List.setIfInBounds_toArray, List.set_cons_zero, List.set_cons_succ]
          first | refine wpAnyH_take (i := 8) (v := undef) rfl (by kernel_rfl) (by kernel_rfl) (by kernel_rfl) (fun _ _ _ h => h) (.inr ⟨rfl, rfl⟩) hS ?_ | (refine wpAnyH_take (i := 8) (v := ?_) rfl (by kernel_rfl) (by kernel_rfl) (by kernel_rfl) (fun _ _ _ h => h) (Or.inl ⟨by rfl, ?_⟩) hS ?_; rotate_left; (intro W hSw; obtain ⟨q0, q1, q2, q3, q4⟩ := hSw; go_simp; try with_reducible rfl))
          try simp only [List.getElem_toArray, List.getElem_cons_succ, List.getElem_cons_zero, Act.put, List.setIfInBounds_toArray, List.set_cons_zero, List.set_cons_succ]
          first | refine wpAnyH_take (i := 9) (v := undef) rfl (by kernel_rfl) (by kernel_rfl) (by kernel_rfl) (fun _ _ _ h => h) (.inr ⟨rfl, rfl⟩) hS ?_ | (refine wpAnyH_take (i := 9) (v := ?_) rfl (by kernel_rfl) (by kernel_rfl) (by kernel_rfl) (fun _ _ _ h => h) (Or.inl ⟨by rfl, ?_⟩) hS ?_; rotate_left; (intro W hSw; obtain ⟨q0, q1, q2, q3, q4⟩ := hSw; go_simp; try with_reducible rfl))
          try simp only [List.getElem_toArray, List.getElem_cons_succ, List.getElem_cons_zero, Act.put, List.setIfInBounds_toArray, List.set_cons_zero, List.set_cons_succ]
          first | refine wpAnyH_take (i := 10) (v := undef) rfl (by kernel_rfl) (by kernel_rfl) (by kernel_rfl) (fun _ _ _ h => h) (.inr ⟨rfl, rfl⟩) hS ?_ | (refine wpAnyH_take (i := 10) (v := ?_) rfl (by kernel_rfl) (by kernel_rfl) (by kernel_rfl) (fun _ _ _ h => h) (Or.inl ⟨by rfl, ?_⟩) hS ?_; rotate_left; (intro W hSw; obtain ⟨q0, q1, q2, q3, q4⟩ := hSw; go_simp; try with_reducible rfl))
          try simp only [List.getElem_toArray, List.getElem_cons_succ, List.getElem_cons_zero, Act.put, List.setIfInBounds_toArray, List.set_cons_zero, List.set_cons_succ]
          first | refine wpAnyH_take (i := 11) (v := undef) rfl (by kernel_rfl) (by kernel_rfl) (by kernel_rfl) (fun _ _ _ h => h) (.inr ⟨rfl, rfl⟩) hS ?_ | (refine wpAnyH_take (i := 11) (v := ?_) rfl (by kernel_rfl) (by kernel_rfl) (by kernel_rfl) (fun _ _ _ h => h) (Or.inl ⟨by rfl, ?_⟩) hS ?_; rotate_left; (intro W hSw; obtain ⟨q0, q1, q2, q3, q4⟩ := hSw; go_simp; try with_reducible rfl))
          try simp only [List.getElem_toArray, List.getElem_cons_succ, List.getElem_cons_zero, Act.put, List.setIfInBounds_toArray, List.set_cons_zero, List.set_cons_succ]
          first | refine wpAnyH_take (i := 12) (v := undef) rfl (by kernel_rfl) (by kernel_rfl) (by kernel_rfl) (fun _ _ _ h => h) (.inr ⟨rfl, rfl⟩) hS ?_ | (refine wpAnyH_take (i := 12) (v := ?_) rfl (by kernel_rfl) (by kernel_rfl) (by kernel_rfl) (fun _ _ _ h => h) (Or.inl ⟨by rfl, ?_⟩) hS ?_; rotate_left; (intro W hSw; obtain ⟨q0, q1, q2, q3, q4⟩ := hSw; go_simp; try with_reducible rfl))
          try simp only [List.getElem_toArray, List.getElem_cons_succ, List.getElem_cons_zero, Act.put, List.setIfInBounds_toArray, List.set_cons_zero, List.set_cons_succ]
          first | refine wpAnyH_take (i := 13) (v := undef) rfl (by kernel_rfl) (by kernel_rfl) (by kernel_rfl) (fun _ _ _ h => h) (.inr ⟨rfl, rfl⟩) hS ?_ | (refine wpAnyH_take (i := 13) (v := ?_) rfl (by kernel_rfl) (by kernel_rfl) (by kernel_rfl) (fun _ _ _ h => h) (Or.inl ⟨by rfl, ?_⟩) hS ?_; rotate_left; (intro W hSw; obtain ⟨q0, q1, q2, q3, q4⟩ := hSw; go_simp; try with_reducible rfl))
          try simp only [List.getElem_toArray, List.getElem_cons_succ, List.getElem_cons_zero, Act.put, List.setIfInBounds_toArray, List.set_cons_zero, List.set_cons_succ]
          first | refine wpAnyH_take (i := 14) (v := undef) rfl (by kernel_rfl) (by kernel_rfl) (by kernel_rfl) (fun _ _ _ h => h) (.inr ⟨rfl, rfl⟩) hS ?_ | (refine wpAnyH_take (i := 14) (v := ?_) rfl (by kernel_rfl) (by kernel_rfl) (by kernel_rfl) (fun _ _ _ h => h) (Or.inl ⟨by rfl, ?_⟩) hS ?_; rotate_left; (intro W hSw; obtain ⟨q0, q1, q2, q3, q4⟩ := hSw; go_simp; try with_reducible rfl))
          try simp only [List.getElem_toArray, List.getElem_cons_succ, List.getElem_cons_zero, Act.put, List.setIfInBounds_toArray, List.set_cons_zero, List.set_cons_succ]
          first | refine wpAnyH_take (i := 15) (v := undef) rfl (by kernel_rfl) (by kernel_rfl) (by kernel_rfl) (fun _ _ _ h => h) (.inr ⟨rfl, rfl⟩) hS ?_ | (refine wpAnyH_take (i := 15) (v := ?_) rfl (by kernel_rfl) (by kernel_rfl) (by kernel_rfl) (fun _ _ _ h => h) (Or.inl ⟨by rfl, ?_⟩) hS ?_; rotate_left; (intro W hSw; obtain ⟨q0, q1, q2, q3, q4⟩ := hSw; go_simp; try with_reducible rfl))
          try simp only [List.getElem_toArray, List.getElem_cons_succ, List.getElem_cons_zero, Act.put, List.setIfInBounds_toArray, List.set_cons_zero, List.set_cons_succ]
          first | refine wpAnyH_take (i := 16) (v := undef) rfl (by kernel_rfl) (by kernel_rfl) (by kernel_rfl) (fun _ _ _ h => h) (.inr ⟨rfl, rfl⟩) hS ?_ | (refine wpAnyH_take (i := 16) (v := ?_) rfl (by kernel_rfl) (by kernel_rfl) (by kernel_rfl) (fun _ _ _ h => h) (Or.inl ⟨by rfl, ?_⟩) hS ?_; rotate_left; (intro W hSw; obtain ⟨q0, q1, q2, q3, q4⟩ := hSw; go_simp; try with_reducible rfl))
          try simp only [List.getElem_toArray, List.getElem_cons_succ, List.getElem_cons_zero, Act.put, List.setIfInBounds_toArray, List.set_cons_zero, List.set_cons_succ]
          first | refine wpAnyH_take (i := 17) (v := undef) rfl (by kernel_rfl) (by kernel_rfl) (by kernel_rfl) (fun _ _ _ h => h) (.inr ⟨rfl, rfl⟩) hS ?_ | (refine wpAnyH_take (i := 17) (v := ?_) rfl (by kernel_rfl) (by kernel_rfl) (by kernel_rfl) (fun _ _ _ h => h) (Or.inl ⟨by rfl, ?_⟩) hS ?_; rotate_left; (intro W hSw; obtain ⟨q0, q1, q2, q3, q4⟩ := hSw; go_simp; try with_reducible rfl))
          try simp only [List.getElem_toArray, List.getElem_cons_succ, List.getElem_cons_zero, Act.put, List.setIfInBounds_toArray, List.set_cons_zero, List.set_cons_succ]
          first | refine wpAnyH_take (i := 18) (v := undef) rfl (by kernel_rfl) (by kernel_rfl) (by kernel_rfl) (fun _ _ _ h => h) (.inr ⟨rfl, rfl⟩) hS ?_ | (refine wpAnyH_take (i := 18) (v := ?_) rfl (by kernel_rfl) (by kernel_rfl) (by kernel_rfl) (fun _ _ _ h => h) (Or.inl ⟨by rfl, ?_⟩) hS ?_; rotate_left; (intro W hSw; obtain ⟨q0, q1, q2, q3, q4⟩ := hSw; go_simp; try with_reducible rfl))
          try simp only [List.getElem_toArray, List.getElem_cons_succ, List.getElem_cons_zero, Act.put, List.setIfInBounds_toArray, List.set_cons_zero, List.set_cons_succ]
          first | refine wpAnyH_take (i := 19) (v := undef) rfl (by kernel_rfl) (by kernel_rfl) (by kernel_rfl) (fun _ _ _ h => h) (.inr ⟨rfl, rfl⟩) hS ?_ | (refine wpAnyH_take (i := 19) (v := ?_) rfl (by kernel_rfl) (by kernel_rfl) (by kernel_rfl) (fun _ _ _ h => h) (Or.inl ⟨by rfl, ?_⟩) hS ?_; rotate_left; (intro W hSw; obtain ⟨q0, q1, q2, q3, q4⟩ := hSw; go_simp; try with_reducible rfl))
          try simp only [List.getElem_toArray, List.getElem_cons_succ, List.getElem_cons_zero, Act.put, List.setIfInBounds_toArray, List.set_cons_zero, List.set_cons_succ]
          first | refine wpAnyH_take (i := 20) (v := undef) rfl (by kernel_rfl) (by kernel_rfl) (by kernel_rfl) (fun _ _ _ h => h) (.inr ⟨rfl, rfl⟩) hS ?_ | (refine wpAnyH_take (i := 20) (v := ?_) rfl (by kernel_rfl) (by kernel_rfl) (by kernel_rfl) (fun _ _ _ h => h) (Or.inl ⟨by rfl, ?_⟩) hS ?_; rotate_left; (intro W hSw; obtain ⟨q0, q1, q2, q3, q4⟩ := hSw; go_simp; try with_reducible rfl))
          try simp only [List.getElem_toArray, List.getElem_cons_succ, List.getElem_cons_zero, Act.put, List.setIfInBounds_toArray, List.set_cons_zero, List.set_cons_succ]
          first | refine wpAnyH_take (i := 21) (v := undef) rfl (by kernel_rfl) (by kernel_rfl) (by kernel_rfl) (fun _ _ _ h => h) (.inr ⟨rfl, rfl⟩) hS ?_ | (refine wpAnyH_take (i := 21) (v := ?_) rfl (by kernel_rfl) (by kernel_rfl) (by kernel_rfl) (fun _ _ _ h => h) (Or.inl ⟨by rfl, ?_⟩) hS ?_; rotate_left; (intro W hSw; obtain ⟨q0, q1, q2, q3, q4⟩ := hSw; go_simp; try with_reducible rfl))
          try simp only [List.getElem_toArray, List.getElem_cons_succ, List.getElem_cons_zero, Act.put, List.setIfInBounds_toArray, List.set_cons_zero, List.set_cons_succ]
          first | refine wpAnyH_take (i := 22) (v := undef) rfl (by kernel_rfl) (by kernel_rfl) (by kernel_rfl) (fun _ _ _ h => h) (.inr ⟨rfl, rfl⟩) hS ?_ | (refine wpAnyH_take (i := 22) (v := ?_) rfl (by kernel_rfl) (by kernel_rfl) (by kernel_rfl) (fun _ _ _ h => h) (Or.inl ⟨by rfl, ?_⟩) hS ?_; rotate_left; (intro W hSw; obtain ⟨q0, q1, q2, q3, q4⟩ := hSw; go_simp; try with_reducible rfl))
          try simp only [List.getElem_toArray, List.getElem_cons_succ, List.getElem_cons_zero, Act.put, List.setIfInBounds_toArray, List.set_cons_zero, List.set_cons_succ]
          first | refine wpAnyH_take (i := 23) (v := undef) rfl (by kernel_rfl) (by kernel_rfl) (by kernel_rfl) (fun _ _ _ h => h) (.inr ⟨rfl, rfl⟩) hS ?_ | (refine wpAnyH_take (i := 23) (v := ?_) rfl (by kernel_rfl) (by kernel_rfl) (by kernel_rfl) (fun _ _ _ h => h) (Or.inl ⟨by rfl, ?_⟩) hS ?_; rotate_left; (intro W hSw; obtain ⟨q0, q1, q2, q3, q4⟩ := hSw; go_simp; try with_reducible rfl))
          try simp only [List.getElem_toArray, List.getElem_cons_succ, List.getElem_cons_zero, Act.put, List.setIfInBounds_toArray, List.set_cons_zero, List.set_cons_succ]
          first | refine wpAnyH_take (i := 24) (v := undef) rfl (by kernel_rfl) (by kernel_rfl) (by kernel_rfl) (fun _ _ _ h => h) (.inr ⟨rfl, rfl⟩) hS ?_ | (refine wpAnyH_take (i := 24) (v := ?_) rfl (by kernel_rfl) (by kernel_rfl) (by kernel_rfl) (fun _ _ _ h => h) (Or.inl ⟨by rfl, ?_⟩) hS ?_; rotate_left; (intro W hSw; obtain ⟨q0, q1, q2, q3, q4⟩ := hSw; go_simp; try with_reducible rfl))
          try simp only [List.getElem_toArray, List.getElem_cons_succ, List.getElem_cons_zero, Act.put, List.setIfInBounds_toArray, List.set_cons_zero, List.set_cons_succ]
          first | refine wpAnyH_take (i := 25) (v := undef) rfl (by kernel_rfl) (by kernel_rfl) (by kernel_rfl) (fun _ _ _ h => h) (.inr ⟨rfl, rfl⟩) hS ?_ | (refine wpAnyH_take (i := 25) (v := ?_) rfl (by kernel_rfl) (by kernel_rfl) (by kernel_rfl) (fun _ _ _ h => h) (Or.inl ⟨by rfl, ?_⟩) hS ?_; rotate_left; (intro W hSw; obtain ⟨q0, q1, q2, q3, q4⟩ := hSw; go_simp; try with_reducible rfl))
          try simp only [List.getElem_toArray, List.getElem_cons_succ, List.getElem_cons_zero, Act.put, List.setIfInBounds_toArray, List.set_cons_zero, List.set_cons_succ]
          first | refine wpAnyH_take (i := 26) (v := undef) rfl (by kernel_rfl) (by kernel_rfl) (by kernel_rfl) (fun _ _ _ h => h) (.inr ⟨rfl, rfl⟩) hS ?_ | (refine wpAnyH_take (i := 26) (v := ?_) rfl (by kernel_rfl) (by kernel_rfl) (by kernel_rfl) (fun _ _ _ h => h) (Or.inl ⟨by rfl, ?_⟩) hS ?_; rotate_left; (intro W hSw; obtain ⟨q0, q1, q2, q3, q4⟩ := hSw; go_simp; try with_reducible rfl))
          try simp only [List.getElem_toArray, List.getElem_cons_succ, List.getElem_cons_zero, Act.put, List.setIfInBounds_toArray, List.set_cons_zero, List.set_cons_succ]
          first | refine wpAnyH_take (i := 27) (v := undef) rfl (by kernel_rfl) (by kernel_rfl) (by kernel_rfl) (fun _ _ _ h => h) (.inr ⟨rfl, rfl⟩) hS ?_ | (refine wpAnyH_take (i := 27) (v := ?_) rfl (by kernel_rfl) (by kernel_rfl) (by kernel_rfl) (fun _ _ _ h => h) (Or.inl ⟨by rfl, ?_⟩) hS ?_; rotate_left; (intro W hSw; obtain ⟨q0, q1, q2, q3, q4⟩ := hSw; go_simp; try with_reducible rfl))
          try simp only [List.getElem_toArray, List.getElem_cons_succ, List.getElem_cons_zero, Act.put, List.setIfInBounds_toArray, List.set_cons_zero, List.set_cons_succ]
          first | refine wpAnyH_take (i := 28) (v := undef) rfl (by kernel_rfl) (by kernel_rfl) (by kernel_rfl) (fun _ _ _ h => h) (.inr ⟨rfl, rfl⟩) hS ?_ | (refine wpAnyH_take (i := 28) (v := ?_) rfl (by kernel_rfl) (by kernel_rfl) (by kernel_rfl) (fun _ _ _ h => h) (Or.inl ⟨by rfl, ?_⟩) hS ?_; rotate_left; (intro W hSw; obtain ⟨q0, q1, q2, q3, q4⟩ := hSw; go_simp; try with_reducible rfl))
          try simp only [List.getElem_toArray, List.getElem_cons_succ, List.getElem_cons_zero, Act.put, List.setIfInBounds_toArray, List.set_cons_zero, List.set_cons_succ]
          first | refine wpAnyH_take (i := 29) (v := undef) rfl (by kernel_rfl) (by kernel_rfl) (by kernel_rfl) (fun _ _ _ h => h) (.inr ⟨rfl, rfl⟩) hS ?_ | (refine wpAnyH_take (i := 29) (v := ?_) rfl (by kernel_rfl) (by kernel_rfl) (by kernel_rfl) (fun _ _ _ h => h) (Or.inl ⟨by rfl, ?_⟩) hS ?_; rotate_left; (intro W hSw; obtain ⟨q0, q1, q2, q3, q4⟩ := hSw; go_simp; try with_reducible rfl))
          try simp only [List.getElem_toArray, List.getElem_cons_succ, List.getElem_cons_zero, Act.put, List.setIfInBounds_toArray, List.set_cons_zero, List.set_cons_succ]
          first | refine wpAnyH_take (i := 30) (v := undef) rfl (by kernel_rfl) (by kernel_rfl) (by kernel_rfl) (fun _ _ _ h => h) (.inr ⟨rfl, rfl⟩) hS ?_ | (refine wpAnyH_take (i := 30) (v := ?_) rfl (by kernel_rfl) (by kernel_rfl) (by kernel_rfl) (fun _ _ _ h => h) (Or.inl ⟨by rfl, ?_⟩) hS ?_; rotate_left; (intro W hSw; obtain ⟨q0, q1, q2, q3, q4⟩ := hSw; go_simp; try with_reducible rfl))
          try simp only [List.getElem_toArray, List.getElem_cons_succ, List.getElem_cons_zero, Act.put, List.setIfInBounds_toArray, List.set_cons_zero, List.set_cons_succ]
          first | refine wpAnyH_take (i := 31) (v := undef) rfl (by kernel_rfl) (by kernel_rfl) (by kernel_rfl) (fun _ _ _ h => h) (.inr ⟨rfl, rfl⟩) hS ?_ | (refine wpAnyH_take (i := 31) (v := ?_) rfl (by kernel_rfl) (by kernel_rfl) (by kernel_rfl) (fun _ _ _ h => h) (Or.inl ⟨by rfl, ?_⟩) hS ?_; rotate_left; (intro W hSw; obtain ⟨q0, q1, q2, q3, q4⟩ := hSw; go_simp; try with_reducible rfl))
          try simp only [List.getElem_toArray, List.getElem_cons_succ, List.getElem_cons_zero, Act.put, List.setIfInBounds_toArray, List.set_cons_zero, List.set_cons_succ]
          first | refine wpAnyH_take (i := 32) (v := undef) rfl (by kernel_rfl) (by kernel_rfl) (by kernel_rfl) (fun _ _ _ h => h) (.inr ⟨rfl, rfl⟩) hS ?_ | (refine wpAnyH_take (i := 32) (v := ?_) rfl (by kernel_rfl) (by kernel_rfl) (by kernel_rfl) (fun _ _ _ h => h) (Or.inl ⟨by rfl, ?_⟩) hS ?_; rotate_left; (intro W hSw; obtain ⟨q0, q1, q2, q3, q4⟩ := hSw; go_simp; try with_reducible rfl))
          try simp only [List.getElem_toArray, List.getElem_cons_succ, List.getElem_cons_zero, Act.put, List.setIfInBounds_toArray, List.set_cons_zero, List.set_cons_succ]
          first | refine wpAnyH_take (i := 33) (v := undef) rfl (by kernel_rfl) (by kernel_rfl) (by kernel_rfl) (fun _ _ _ h => h) (.inr ⟨rfl, rfl⟩) hS ?_ | (refine wpAnyH_take (i := 33) (v := ?_) rfl (by kernel_rfl) (by kernel_rfl) (by kernel_rfl) (fun _ _ _ h => h) (Or.inl ⟨by rfl, ?_⟩) hS ?_; rotate_left; (intro W hSw; obtain ⟨q0, q1, q2, q3, q4⟩ := hSw; go_simp; try with_reducible rfl))
          try simp only [List.getElem_toArray, List.getElem_cons_succ, List.getElem_cons_zero, Act.put, List.setIfInBounds_toArray, List.set_cons_zero, List.set_cons_succ]
          first | refine wpAnyH_take (i := 34) (v := undef) rfl (by kernel_rfl) (by kernel_rfl) (by kernel_rfl) (fun _ _ _ h => h) (.inr ⟨rfl, rfl⟩) hS ?_ | (refine wpAnyH_take (i := 34) (v := ?_) rfl (by kernel_rfl) (by kernel_rfl) (by kernel_rfl) (fun _ _ _ h => h) (Or.inl ⟨by rfl, ?_⟩) hS ?_; rotate_left; (intro W hSw; obtain ⟨q0, q1, q2, q3, q4⟩ := hSw; go_simp; try with_reducible rfl))
          try simp only [List.getElem_toArray, List.getElem_cons_succ, List.getElem_cons_zero, Act.put, List.setIfInBounds_toArray, List.set_cons_zero, List.set_cons_succ]
          first | refine wpAnyH_take (i := 35) (v := undef) rfl (by kernel_rfl) (by kernel_rfl) (by kernel_rfl) (fun _ _ _ h => h) (.inr ⟨rfl, rfl⟩) hS ?_ | (refine wpAnyH_take (i := 35) (v := ?_) rfl (by kernel_rfl) (by kernel_rfl) (by kernel_rfl) (fun _ _ _ h => h) (Or.inl ⟨by rfl, ?_⟩) hS ?_; rotate_left; (intro W hSw; obtain ⟨q0, q1, q2, q3, q4⟩ := hSw; go_simp; try with_reducible rfl))
          try simp only [List.getElem_toArray, List.getElem_cons_succ, List.getElem_cons_zero, Act.put, List.setIfInBounds_toArray, List.set_cons_zero, List.set_cons_succ]
          first | refine wpAnyH_take (i := 36) (v := undef) rfl (by kernel_rfl) (by kernel_rfl) (by kernel_rfl) (fun _ _ _ h => h) (.inr ⟨rfl, rfl⟩) hS ?_ | (refine wpAnyH_take (i := 36) (v := ?_) rfl (by kernel_rfl) (by kernel_rfl) (by kernel_rfl) (fun _ _ _ h => h) (Or.inl ⟨by rfl, ?_⟩) hS ?_; rotate_left; (intro W hSw; obtain ⟨q0, q1, q2, q3, q4⟩ := hSw; go_simp; try with_reducible rfl))
          try simp only [List.getElem_toArray, List.getElem_cons_succ, List.getElem_cons_zero, Act.put, List.setIfInBounds_toArray, List.set_cons_zero, List.set_cons_succ]
          first | refine wpAnyH_take (i := 37) (v := undef) rfl (by kernel_rfl) (by kernel_rfl) (by kernel_rfl) (fun _ _ _ h => h) (.inr ⟨rfl, rfl⟩) hS ?_ | (refine wpAnyH_take (i := 37) (v := ?_) rfl (by kernel_rfl) (by kernel_rfl) (by kernel_rfl) (fun _ _ _ h => h) (Or.inl ⟨by rfl, ?_⟩) hS ?_; rotate_left; (intro W hSw; obtain ⟨q0, q1, q2, q3, q4⟩ := hSw; go_simp; try with_reducible rfl))
          try simp only [List.getElem_toArray, List.getElem_cons_succ, List.getElem_cons_zero, Act.put, List.setIfInBounds_toArray, List.set_cons_zero, List.set_cons_succ]
          refine wpAnyH_done (by kernel_rfl) ?_ _
          clear hS
          go_wp2
          refine bodyPost_ret (v := .bool false) (by simp [results, Try.results54, go_sem]) rfl ⟨congrArg (fun b => Ending.returned (Value.bool b)) ?_, HB.out.trans ((HB7.out.drew).mono HB.out.size)⟩
          have hf : limR lim i = false := by rw [HR.out]; simp [h3, h4]; try omega
          rw [HV.out]
          symm
          refine Bool.eq_false_iff.2 fun h => ?_
          rw [Bool.and_eq_true, List.all_eq_true] at h
          have := h.1 i (List.mem_range.2 hlt)
          rw [hf] at this
          cases this
        first | refine wpAnyH_take (i := 0) (v := undef) rfl (by kernel_rfl) (by kernel_rfl) (by kernel_rfl) (fun _ _ _ h => h) (.inr ⟨rfl, rfl⟩) hS ?_ | (refine wpAnyH_take (i := 0) (v := ?_) rfl (by kernel_rfl) (by kernel_rfl) (by kernel_rfl) (fun _ _ _ h => h) (Or.inl ⟨by rfl, ?_⟩) hS ?_; rotate_left; (intro W hSw; obtain ⟨q0, q1, q2, q3, q4⟩ := hSw; go_simp; try with_reducible rfl))
        try simp only [List.getElem_toArray, List.getElem_cons_succ, List.getElem_cons_zero, Act.put, List.setIfInBounds_toArray, List.set_cons_zero, List.set_cons_succ]
        first | refine wpAnyH_take (i := 1) (v := undef) rfl (by kernel_rfl) (by kernel_rfl) (by kernel_rfl) (fun _ _ _ h => h) (.inr ⟨rfl, rfl⟩) hS ?_ | (refine wpAnyH_take (i := 1) (v := ?_) rfl (by kernel_rfl) (by kernel_rfl) (by kernel_rfl) (fun _ _ _ h => h) (Or.inl ⟨by rfl, ?_⟩) hS ?_; rotate_left; (intro W hSw; obtain ⟨q0, q1, q2, q3, q4⟩ := hSw; go_simp; try with_reducible rfl))
        try simp only [List.getElem_toArray, List.getElem_cons_succ, List.getElem_cons_zero, Act.put, List.setIfInBounds_toArray, List.set_cons_zero, List.set_cons_succ]
        refine wpAnyH_ready (rs := [2]) (by kernel_rfl) (by simp) ?_
        refine AllReadyH.cons rfl (fun K hK => ?_) AllReadyH.nil
        go_simp
        refine (r7in_any _ _ _ _).mono ?_
        rintro e wz ⟨rfl, rfl⟩
        first | rw [h3] | rw [h4]
        dsimp only
        refine hK.out _ _ hS (fun hS => ?_)
        clear hK K
        try simp only [List.getElem_toArray, List.getElem_cons_succ, List.getElem_cons_zero, Act.put, List.setIfInBounds_toArray, List.set_cons_zero, List.set_cons_succ]
        first | refine wpAnyH_take (i := 3) (v := undef) rfl (by kernel_rfl) (by kernel_rfl) (by kernel_rfl) (fun _ _ _ h => h) (.inr ⟨rfl, rfl⟩) hS ?_ | (refine wpAnyH_take (i := 3) (v := ?_) rfl (by kernel_rfl) (by kernel_rfl) (by kernel_rfl) (fun _ _ _ h => h) (Or.inl ⟨by rfl, ?_⟩) hS ?_; rotate_left; (intro W hSw; obtain ⟨q0, q1, q2, q3, q4⟩ := hSw; go_simp; try with_reducible rfl))
        try simp only [List.getElem_toArray, List.getElem_cons_succ, List.getElem_cons_zero, Act.put, List.setIfInBounds_toArray, List.set_cons_zero, List.set_cons_succ]
        first | refine wpAnyH_take (i := 4) (v := undef) rfl (by kernel_rfl) (by kernel_rfl) (by kernel_rfl) (fun _ _ _ h => h) (.inr ⟨rfl, rfl⟩) hS ?_ | (refine wpAnyH_take (i := 4) (v := ?_) rfl (by kernel_rfl) (by kernel_rfl) (by kernel_rfl) (fun _ _ _ h => h) (Or.inl ⟨by rfl, ?_⟩) hS ?_; rotate_left; (intro W hSw; obtain ⟨q0, q1, q2, q3, q4⟩ := hSw; go_simp; try with_reducible rfl))
        try simp only [List.getElem_toArray, List.getElem_cons_succ, List.getElem_cons_zero, Act.put, List.setIfInBounds_toArray, List.set_cons_zero, List.set_cons_succ]
        first | refine wpAnyH_take (i := 5) (v := undef) rfl (by kernel_rfl) (by kernel_rfl) (by kernel_rfl) (fun _ _ _ h => h) (.inr ⟨rfl, rfl⟩) hS ?_ | (refine wpAnyH_take (i := 5) (v := ?_) rfl (by kernel_rfl) (by kernel_rfl) (by kernel_rfl) (fun _ _ _ h => h) (Or.inl ⟨by rfl, ?_⟩) hS ?_; rotate_left; (intro W hSw; obtain ⟨q0, q1, q2, q3, q4⟩ := hSw; go_simp; try with_reducible rfl))
        try simp only [List.getElem_toArray, List.getElem_cons_succ, List.getElem_cons_zero, Act.put, List.setIfInBounds_toArray, List.set_cons_zero, List.set_cons_succ]
        first | refine wpAnyH_take (i := 6) (v := undef) rfl (by kernel_rfl) (by kernel_rfl) (by kernel_rfl) (fun _ _ _ h => h) (.inr ⟨rfl, rfl⟩) hS ?_ | (refine wpAnyH_take (i := 6) (v := ?_) rfl (by kernel_rfl) (by kernel_rfl) (by kernel_rfl) (fun _ _ _ h => h) (Or.inl ⟨by rfl, ?_⟩) hS ?_; rotate_left; (intro W hSw; obtain ⟨q0, q1, q2, q3, q4⟩ := hSw; go_simp; try with_reducible rfl))
        try simp only [List.getElem_toArray, List.getElem_cons_succ, List.getElem_cons_zero, Act.put, List.setIfInBounds_toArray, List.set_cons_zero, List.set_cons_succ]
        refine wpAnyH_ready (rs := [7]) (by kernel_rfl) (by simp) ?_
        refine AllReadyH.cons rfl (fun K hK => ?_) AllReadyH.nil
        go_simp
        refine (r7in_any _ _ _ _).mono ?_
        rintro e wz ⟨rfl, rfl⟩
        first | rw [h3] | rw [h4]
        dsimp only
        refine hK.out _ _ hS (fun hS => ?_)
        clear hK K
        try simp only [List.getElem_toArray, List.getElem_cons_succ, List.getElem_cons_zero, Act.put, List.setIfInBounds_toArray, List.set_cons_zero, List.set_cons_succ]
        first | refine wpAnyH_take (i := 8) (v := undef) rfl (by kernel_rfl) (by kernel_rfl) (by kernel_rfl) (fun _ _ _ h => h) (.inr ⟨rfl, rfl⟩) hS ?_ | (refine wpAnyH_take (i := 8) (v := ?_) rfl (by kernel_rfl) (by kernel_rfl) (by kernel_rfl) (fun _ _ _ h => h) (Or.inl ⟨by rfl, ?_⟩) hS ?_; rotate_left; (intro W hSw; obtain ⟨q0, q1, q2, q3, q4⟩ := hSw; go_simp; try with_reducible rfl))
        try simp only [List.getElem_toArray, List.getElem_cons_succ, List.getElem_cons_zero, Act.put, List.setIfInBounds_toArray, List.set_cons_zero, List.set_cons_succ]
        first | refine wpAnyH_take (i := 9) (v := undef) rfl (by kernel_rfl) (by kernel_rfl) (by kernel_rfl) (fun _ _ _ h => h) (.inr ⟨rfl, rfl⟩) hS ?_ | (refine wpAnyH_take (i := 9) (v := ?_) rfl (by kernel_rfl) (by kernel_rfl) (by kernel_rfl) (fun _ _ _ h => h) (Or.inl ⟨by rfl, ?_⟩) hS ?_; rotate_left; (intro W hSw; obtain ⟨q0, q1, q2, q3, q4⟩ := hSw; go_simp; try with_reducible rfl))
        try simp only [List.getElem_toArray, List.getElem_cons_succ, List.getElem_cons_zero, Act.put, List.setIfInBounds_toArray, List.set_cons_zero, List.set_cons_succ]
        first | refine wpAnyH_take (i := 10) (v := undef) rfl (by kernel_rfl) (by kernel_rfl) (by kernel_rfl) (fun _ _ _ h => h) (.inr ⟨rfl, rfl⟩) hS ?_ | (refine wpAnyH_take (i := 10) (v := ?_) rfl (by kernel_rfl) (by kernel_rfl) (by kernel_rfl) (fun _ _ _ h => h) (Or.inl ⟨by rfl, ?_⟩) hS ?_; rotate_left; (intro W hSw; obtain ⟨q0, q1, q2, q3, q4⟩ := hSw; go_simp; try with_reducible rfl))
        try simp only [List.getElem_toArray, List.getElem_cons_succ, List.getElem_cons_zero, Act.put, List.setIfInBounds_toArray, List.set_cons_zero, List.set_cons_succ]
        first | refine wpAnyH_take (i := 11) (v := undef) rfl (by kernel_rfl) (by kernel_rfl) (by kernel_rfl) (fun _ _ _ h => h) (.inr ⟨rfl, rfl⟩) hS ?_ | (refine wpAnyH_take (i := 11) (v := ?_) rfl (by kernel_rfl) (by kernel_rfl) (by kernel_rfl) (fun _ _ _ h => h) (Or.inl ⟨by rfl, ?_⟩) hS ?_; rotate_left; (intro W hSw; obtain ⟨q0, q1, q2, q3, q4⟩ := hSw; go_simp; try with_reducible rfl))
        try simp only [List.getElem_toArray, List.getElem_cons_succ, List.getElem_cons_zero, Act.put, List.setIfInBounds_toArray, List.set_cons_zero, List.set_cons_succ]
        first | refine wpAnyH_take (i := 12) (v := undef) rfl (by kernel_rfl) (by kernel_rfl) (by kernel_rfl) (fun _ _ _ h => h) (.inr ⟨rfl, rfl⟩) hS ?_ | (refine wpAnyH_take (i := 12) (v := ?_) rfl (by kernel_rfl) (by kernel_rfl) (by kernel_rfl) (fun _ _ _ h => h) (Or.inl ⟨by rfl, ?_⟩) hS ?_; rotate_left; (intro W hSw; obtain ⟨q0, q1, q2, q3, q4⟩ := hSw; go_simp; try with_reducible rfl))
        try simp only [List.getElem_toArray, List.getElem_cons_succ, List.getElem_cons_zero, Act.put, List.setIfInBounds_toArray, List.set_cons_zero, List.set_cons_succ]
        first | refine wpAnyH_take (i := 13) (v := undef) rfl (by kernel_rfl) (by kernel_rfl) (by kernel_rfl) (fun _ _ _ h => h) (.inr ⟨rfl, rfl⟩) hS ?_ | (refine wpAnyH_take (i := 13) (v := ?_) rfl (by kernel_rfl) (by kernel_rfl) (by kernel_rfl) (fun _ _ _ h => h) (Or.inl ⟨by rfl, ?_⟩) hS ?_; rotate_left; (intro W hSw; obtain ⟨q0, q1, q2, q3, q4⟩ := hSw; go_simp; try with_reducible rfl))
        try simp only [List.getElem_toArray, List.getElem_cons_succ, List.getElem_cons_zero, Act.put, List.setIfInBounds_toArray, List.set_cons_zero, List.set_cons_succ]
        first | refine wpAnyH_take (i := 14) (v := undef) rfl (by kernel_rfl) (by kernel_rfl) (by kernel_rfl) (fun _ _ _ h => h) (.inr ⟨rfl, rfl⟩) hS ?_ | (refine wpAnyH_take (i := 14) (v := ?_) rfl (by kernel_rfl) (by kernel_rfl) (by kernel_rfl) (fun _ _ _ h => h) (Or.inl ⟨by rfl, ?_⟩) hS ?_; rotate_left; (intro W hSw; obtain ⟨q0, q1, q2, q3, q4⟩ := hSw; go_simp; try with_reducible rfl))
        try simp only [List.getElem_toArray, List.getElem_cons_succ, List.getElem_cons_zero, Act.put, List.setIfInBounds_toArray, List.set_cons_zero, List.set_cons_succ]
        first | refine wpAnyH_take (i := 15) (v := undef) rfl (by kernel_rfl) (by kernel_rfl) (by kernel_rfl) (fun _ _ _ h => h) (.inr ⟨rfl, rfl⟩) hS ?_ | (refine wpAnyH_take (i := 15) (v := ?_) rfl (by kernel_rfl) (by kernel_rfl) (by kernel_rfl) (fun _ _ _ h => h) (Or.inl ⟨by rfl, ?_⟩) hS ?_; rotate_left; (intro W hSw; obtain ⟨q0, q1, q2, q3, q4⟩ := hSw; go_simp; try with_reducible rfl))
        try simp only [List.getElem_toArray, List.getElem_cons_succ, List.getElem_cons_zero, Act.put, List.setIfInBounds_toArray, List.set_cons_zero, List.set_cons_succ]
        first | refine wpAnyH_take (i := 16) (v := undef) rfl (by kernel_rfl) (by kernel_rfl) (by kernel_rfl) (fun _ _ _ h => h) (.inr ⟨rfl, rfl⟩) hS ?_ | (refine wpAnyH_take (i := 16) (v := ?_) rfl (by kernel_rfl) (by kernel_rfl) (by kernel_rfl) (fun _ _ _ h => h) (Or.inl ⟨by rfl, ?_⟩) hS ?_; rotate_left; (intro W hSw; obtain ⟨q0, q1, q2, q3, q4⟩ := hSw; go_simp; try with_reducible rfl))
        try simp only [List.getElem_toArray, List.getElem_cons_succ, List.getElem_cons_zero, Act.put, List.setIfInBounds_toArray, List.set_cons_zero, List.set_cons_succ]
        first | refine wpAnyH_take (i := 17) (v := undef) rfl (by kernel_rfl) (by kernel_rfl) (by kernel_rfl) (fun _ _ _ h => h) (.inr ⟨rfl, rfl⟩) hS ?_ | (refine wpAnyH_take (i := 17) (v := ?_) rfl (by kernel_rfl) (by kernel_rfl) (by kernel_rfl) (fun _ _ _ h => h) (Or.inl ⟨by rfl, ?_⟩) hS ?_; rotate_left; (intro W hSw; obtain ⟨q0, q1, q2, q3, q4⟩ := hSw; go_simp; try with_reducible rfl))
        try simp only [List.getElem_toArray, List.getElem_cons_succ, List.getElem_cons_zero, Act.put, List.setIfInBounds_toArray, List.set_cons_zero, List.set_cons_succ]
        first | refine wpAnyH_take (i := 18) (v := undef) rfl (by kernel_rfl) (by kernel_rfl) (by kernel_rfl) (fun _ _ _ h => h) (.inr ⟨rfl, rfl⟩) hS ?_ | (refine wpAnyH_take (i := 18) (v := ?_) rfl (by kernel_rfl) (by kernel_rfl) (by kernel_rfl) (fun _ _ _ h => h) (Or.inl ⟨by rfl, ?_⟩) hS ?_; rotate_left; (intro W hSw; obtain ⟨q0, q1, q2, q3, q4⟩ := hSw; go_simp; try with_reducible rfl))
        try simp only [List.getElem_toArray, List.getElem_cons_succ, List.getElem_cons_zero, Act.put, List.setIfInBounds_toArray, List.set_cons_zero, List.set_cons_succ]
        first | refine wpAnyH_take (i := 19) (v := undef) rfl (by kernel_rfl) (by kernel_rfl) (by kernel_rfl) (fun _ _ _ h => h) (.inr ⟨rfl, rfl⟩) hS ?_ | (refine wpAnyH_take (i := 19) (v := ?_) rfl (by kernel_rfl) (by kernel_rfl) (by kernel_rfl) (fun _ _ _ h => h) (Or.inl ⟨by rfl, ?_⟩) hS ?_; rotate_left; (intro W hSw; obtain ⟨q0, q1, q2, q3, q4⟩ := hSw; go_simp; try with_reducible rfl))
        try simp only [List.getElem_toArray, List.getElem_cons_succ, List.getElem_cons_zero, Act.put, List.setIfInBounds_toArray, List.set_cons_zero, List.set_cons_succ]
        first | refine wpAnyH_take (i := 20) (v := undef) rfl (by kernel_rfl) (by kernel_rfl) (by kernel_rfl) (fun _ _ _ h => h) (.inr ⟨rfl, rfl⟩) hS ?_ | (refine wpAnyH_take (i := 20) (v := ?_) rfl (by kernel_rfl) (by kernel_rfl) (by kernel_rfl) (fun _ _ _ h => h) (Or.inl ⟨by rfl, ?_⟩) hS ?_; rotate_left; (intro W hSw; obtain ⟨q0, q1, q2, q3, q4⟩ := hSw; go_simp; try with_reducible rfl))
        try simp only [List.getElem_toArray, List.getElem_cons_succ, List.getElem_cons_zero, Act.put, List.setIfInBounds_toArray, List.set_cons_zero, List.set_cons_succ]
        first | refine wpAnyH_take (i := 21) (v := undef) rfl (by kernel_rfl) (by kernel_rfl) (by kernel_rfl) (fun _ _ _ h => h) (.inr ⟨rfl, rfl⟩) hS ?_ | (refine wpAnyH_take (i := 21) (v := ?_) rfl (by kernel_rfl) (by kernel_rfl) (by kernel_rfl) (fun _ _ _ h => h) (Or.inl ⟨by rfl, ?_⟩) hS ?_; rotate_left; (intro W hSw; obtain ⟨q0, q1, q2, q3, q4⟩ := hSw; go_simp; try with_reducible rfl))
        try simp only [List.getElem_toArray, List.getElem_cons_succ, List.getElem_cons_zero, Act.put, List.setIfInBounds_toArray, List.set_cons_zero, List.set_cons_succ]
        first | refine wpAnyH_take (i := 22) (v := undef) rfl (by kernel_rfl) (by kernel_rfl) (by kernel_rfl) (fun _ _ _ h => h) (.inr ⟨rfl, rfl⟩) hS ?_ | (refine wpAnyH_take (i := 22) (v := ?_) rfl (by kernel_rfl) (by kernel_rfl) (by kernel_rfl) (fun _ _ _ h => h) (Or.inl ⟨by rfl, ?_⟩) hS ?_; rotate_left; (intro W hSw; obtain ⟨q0, q1, q2, q3, q4⟩ := hSw; go_simp; try with_reducible rfl))
        try simp only [List.getElem_toArray, List.getElem_cons_succ, List.getElem_cons_zero, Act.put, List.setIfInBounds_toArray, List.set_cons_zero, List.set_cons_succ]
        first | refine wpAnyH_take (i := 23) (v := undef) rfl (by kernel_rfl) (by kernel_rfl) (by kernel_rfl) (fun _ _ _ h => h) (.inr ⟨rfl, rfl⟩) hS ?_ | (refine wpAnyH_take (i := 23) (v := ?_) rfl (by kernel_rfl) (by kernel_rfl) (by kernel_rfl) (fun _ _ _ h => h) (Or.inl ⟨by rfl, ?_⟩) hS ?_; rotate_left; (intro W hSw; obtain ⟨q0, q1, q2, q3, q4⟩ := hSw; go_simp; try with_reducible rfl))
        try simp only [List.getElem_toArray, List.getElem_cons_succ, List.getElem_cons_zero, Act.put, List.setIfInBounds_toArray, List.set_cons_zero, List.set_cons_succ]
        first | refine wpAnyH_take (i := 24) (v := undef) rfl (by kernel_rfl) (by kernel_rfl) (by kernel_rfl) (fun _ _ _ h => h) (.inr ⟨rfl, rfl⟩) hS ?_ | (refine wpAnyH_take (i := 24) (v := ?_) rfl (by kernel_rfl) (by kernel_rfl) (by kernel_rfl) (fun _ _ _ h => h) (Or.inl ⟨by rfl, ?_⟩) hS ?_; rotate_left; (intro W hSw; obtain ⟨q0, q1, q2, q3, q4⟩ := hSw; go_simp; try with_reducible rfl))
        try simp only [List.getElem_toArray, List.getElem_cons_succ, List.getElem_cons_zero, Act.put, List.setIfInBounds_toArray, List.set_cons_zero, List.set_cons_succ]
        first | refine wpAnyH_take (i := 25) (v := undef) rfl (by kernel_rfl) (by kernel_rfl) (by kernel_rfl) (fun _ _ _ h => h) (.inr ⟨rfl, rfl⟩) hS ?_ | (refine wpAnyH_take (i := 25) (v := ?_) rfl (by kernel_rfl) (by kernel_rfl) (by kernel_rfl) (fun _ _ _ h => h) (Or.inl ⟨by rfl, ?_⟩) hS ?_; rotate_left; (intro W hSw; obtain ⟨q0, q1, q2, q3, q4⟩ := hSw; go_simp; try with_reducible rfl))
        try simp only [List.getElem_toArray, List.getElem_cons_succ, List.getElem_cons_zero, Act.put, List.setIfInBounds_toArray, List.set_cons_zero, List.set_cons_succ]
        first | refine wpAnyH_take (i := 26) (v := undef) rfl (by kernel_rfl) (by kernel_rfl) (by kernel_rfl) (fun _ _ _ h => h) (.inr ⟨rfl, rfl⟩) hS ?_ | (refine wpAnyH_take (i := 26) (v := ?_) rfl (by kernel_rfl) (by kernel_rfl) (by kernel_rfl) (fun _ _ _ h => h) (Or.inl ⟨by rfl, ?_⟩) hS ?_; rotate_left; (intro W hSw; obtain ⟨q0, q1, q2, q3, q4⟩ := hSw; go_simp; try with_reducible rfl))
        try simp only [List.getElem_toArray, List.getElem_cons_succ, List.getElem_cons_zero, Act.put, List.setIfInBounds_toArray, List.set_cons_zero, List.set_cons_succ]
        first | refine wpAnyH_take (i := 27) (v := undef) rfl (by kernel_rfl) (by kernel_rfl) (by kernel_rfl) (fun _ _ _ h => h) (.inr ⟨rfl, rfl⟩) hS ?_ | (refine wpAnyH_take (i := 27) (v := ?_) rfl (by kernel_rfl) (by kernel_rfl) (by kernel_rfl) (fun _ _ _ h => h) (Or.inl ⟨by rfl, ?_⟩) hS ?_; rotate_left; (intro W hSw; obtain ⟨q0, q1, q2, q3, q4⟩ := hSw; go_simp; try with_reducible rfl))
        try simp only [List.getElem_toArray, List.getElem_cons_succ, List.getElem_cons_zero, Act.put, List.setIfInBounds_toArray, List.set_cons_zero, List.set_cons_succ]
        first | refine wpAnyH_take (i := 28) (v := undef) rfl (by kernel_rfl) (by kernel_rfl) (by kernel_rfl) (fun _ _ _ h => h) (.inr ⟨rfl, rfl⟩) hS ?_ | (refine wpAnyH_take (i := 28) (v := ?_) rfl (by kernel_rfl) (by kernel_rfl) (by kernel_rfl) (fun _ _ _ h => h) (Or.inl ⟨by rfl, ?_⟩) hS ?_; rotate_left; (intro W hSw; obtain ⟨q0, q1, q2, q3, q4⟩ := hSw; go_simp; try with_reducible rfl))
        try simp only [List.getElem_toArray, List.getElem_cons_succ, List.getElem_cons_zero, Act.put, List.setIfInBounds_toArray, List.set_cons_zero, List.set_cons_succ]
        first | refine wpAnyH_take (i := 29) (v := undef) rfl (by kernel_rfl) (by kernel_rfl) (by kernel_rfl) (fun _ _ _ h => h) (.inr ⟨rfl, rfl⟩) hS ?_ | (refine wpAnyH_take (i := 29) (v := ?_) rfl (by kernel_rfl) (by kernel_rfl) (by kernel_rfl) (fun _ _ _ h => h) (Or.inl ⟨by rfl, ?_⟩) hS ?_; rotate_left; (intro W hSw; obtain ⟨q0, q1, q2, q3, q4⟩ := hSw; go_simp; try with_reducible rfl))
        try simp only [List.getElem_toArray, List.getElem_cons_succ, List.getElem_cons_zero, Act.put, List.setIfInBounds_toArray, List.set_cons_zero, List.set_cons_succ]
        first | refine wpAnyH_take (i := 30) (v := undef) rfl (by kernel_rfl) (by kernel_rfl) (by kernel_rfl) (fun _ _ _ h => h) (.inr ⟨rfl, rfl⟩) hS ?_ | (refine wpAnyH_take (i := 30) (v := ?_) rfl (by kernel_rfl) (by kernel_rfl) (by kernel_rfl) (fun _ _ _ h => h) (Or.inl ⟨by rfl, ?_⟩) hS ?_; rotate_left; (intro W hSw; obtain ⟨q0, q1, q2, q3, q4⟩ := hSw; go_simp; try with_reducible rfl))
        try simp only [List.getElem_toArray, List.getElem_cons_succ, List.getElem_cons_zero, Act.put, List.setIfInBounds_toArray, List.set_cons_zero, List.set_cons_succ]
        first | refine wpAnyH_take (i := 31) (v := undef) rfl (by kernel_rfl) (by kernel_rfl) (by kernel_rfl) (fun _ _ _ h => h) (.inr ⟨rfl, rfl⟩) hS ?_ | (refine wpAnyH_take (i := 31) (v := ?_) rfl (by kernel_rfl) (by kernel_rfl) (by kernel_rfl) (fun _ _ _ h => h) (Or.inl ⟨by rfl, ?_⟩) hS ?_; rotate_left; (intro W hSw; obtain ⟨q0, q1, q2, q3, q4⟩ := hSw; go_simp; try with_reducible rfl))
        try simp only [List.getElem_toArray, List.getElem_cons_succ, List.getElem_cons_zero, Act.put, List.setIfInBounds_toArray, List.set_cons_zero, List.set_cons_succ]
        first | refine wpAnyH_take (i := 32) (v := undef) rfl (by kernel_rfl) (by kernel_rfl) (by kernel_rfl) (fun _ _ _ h => h) (.inr ⟨rfl, rfl⟩) hS ?_ | (refine wpAnyH_take (i := 32) (v := ?_) rfl (by kernel_rfl) (by kernel_rfl) (by kernel_rfl) (fun _ _ _ h => h) (Or.inl ⟨by rfl, ?_⟩) hS ?_; rotate_left; (intro W hSw; obtain ⟨q0, q1, q2, q3, q4⟩ := hSw; go_simp; try with_reducible rfl))
        try simp only [List.getElem_toArray, List.getElem_cons_succ, List.getElem_cons_zero, Act.put, List.setIfInBounds_toArray, List.set_cons_zero, List.set_cons_succ]
        first | refine wpAnyH_take (i := 33) (v := undef) rfl (by kernel_rfl) (by kernel_rfl) (by kernel_rfl) (fun _ _ _ h => h) (.inr ⟨rfl, rfl⟩) hS ?_ | (refine wpAnyH_take (i := 33) (v := ?_) rfl (by kernel_rfl) (by kernel_rfl) (by kernel_rfl) (fun _ _ _ h => h) (Or.inl ⟨by rfl, ?_⟩) hS ?_; rotate_left; (intro W hSw; obtain ⟨q0, q1, q2, q3, q4⟩ := hSw; go_simp; try with_reducible rfl))
        try simp only [List.getElem_toArray, List.getElem_cons_succ, List.getElem_cons_zero, Act.put, List.setIfInBounds_toArray, List.set_cons_zero, List.set_cons_succ]
        first | refine wpAnyH_take (i := 34) (v := undef) rfl (by kernel_rfl) (by kernel_rfl) (by kernel_rfl) (fun _ _ _ h => h) (.inr ⟨rfl, rfl⟩) hS ?_ | (refine wpAnyH_take (i := 34) (v := ?_) rfl (by kernel_rfl) (by kernel_rfl) (by kernel_rfl) (fun _ _ _ h => h) (Or.inl ⟨by rfl, ?_⟩) hS ?_; rotate_left; (intro W hSw; obtain ⟨q0, q1, q2, q3, q4⟩ := hSw; go_simp; try with_reducible rfl))
        try simp only [List.getElem_toArray, List.getElem_cons_succ, List.getElem_cons_zero, Act.put, List.setIfInBounds_toArray, List.set_cons_zero, List.set_cons_succ]
        first | refine wpAnyH_take (i := 35) (v := undef) rfl (by kernel_rfl) (by kernel_rfl) (by kernel_rfl) (fun _ _ _ h => h) (.inr ⟨rfl, rfl⟩) hS ?_ | (refine wpAnyH_take (i := 35) (v := ?_) rfl (by kernel_rfl) (by kernel_rfl) (by kernel_rfl) (fun _ _ _ h => h) (Or.inl ⟨by rfl, ?_⟩) hS ?_; rotate_left; (intro W hSw; obtain ⟨q0, q1, q2, q3, q4⟩ := hSw; go_simp; try with_reducible rfl))
        try simp only [List.getElem_toArray, List.getElem_cons_succ, List.getElem_cons_zero, Act.put, List.setIfInBounds_toArray, List.set_cons_zero, List.set_cons_succ]
        first | refine wpAnyH_take (i := 36) (v := undef) rfl (by kernel_rfl) (by kernel_rfl) (by kernel_rfl) (fun _ _ _ h => h) (.inr ⟨rfl, rfl⟩) hS ?_ | (refine wpAnyH_take (i := 36) (v := ?_) rfl (by kernel_rfl) (by kernel_rfl) (by kernel_rfl) (fun _ _ _ h => h) (Or.inl ⟨by rfl, ?_⟩) hS ?_; rotate_left; (intro W hSw; obtain ⟨q0, q1, q2, q3, q4⟩ := hSw; go_simp; try with_reducible rfl))
        try simp only [List.getElem_toArray, List.getElem_cons_succ, List.getElem_cons_zero, Act.put, List.setIfInBounds_toArray, List.set_cons_zero, List.set_cons_succ]
        first | refine wpAnyH_take (i := 37) (v := undef) rfl (by kernel_rfl) (by kernel_rfl) (by kernel_rfl) (fun _ _ _ h => h) (.inr ⟨rfl, rfl⟩) hS ?_ | (refine wpAnyH_take (i := 37) (v := ?_) rfl (by kernel_rfl) (by kernel_rfl) (by kernel_rfl) (fun _ _ _ h => h) (Or.inl ⟨by rfl, ?_⟩) hS ?_; rotate_left; (intro W hSw; obtain ⟨q0, q1, q2, q3, q4⟩ := hSw; go_simp; try with_reducible rfl))
        try simp only [List.getElem_toArray, List.getElem_cons_succ, List.getElem_cons_zero, Act.put, List.setIfInBounds_toArray, List.set_cons_zero, List.set_cons_succ]
        refine wpAnyH_done (by kernel_rfl) ?_ _
        clear hS
        go_wp2
        refine ⟨⟨i + 1, hlt, (by first | rfl | (rw [h5]; rfl)), fun j hj => ?_, (HB7.out.drew.block _ (lt_of_block HROW.out)).trans HROW.out, HB.out.trans ((HB7.out.drew).mono HB.out.size)⟩, by simp [intOf]; omega⟩
        by_cases hji : j = i
        · subst hji
          rw [HR.out]; simp [h3, h4, h5]; try omega
        · exact HPRE.out j (by omega)
    · obtain rfl : i = n := by omega
      have hlti : ¬ (i : Int) < (i : Int) := by omega
      replace HV := Lib.hid (show _ = _ from (show vv = ((List.range 5).all fun i => ptR ([(a0, b0), (a1, b1), (a2, b2), (a3, b3), (a4, b4)].getD i (0, 0))) by
        rw [HV.out, List.all_eq_true.2 fun j hj => HPRE.out j (List.mem_range.1 hj)]; rfl))
      clear HPRE
      go_wp2_with fail
      go_loopw [5] (fun iv wr => ∃ k : Nat, k ≤ 5 ∧ iv = .int .i64 k ∧ (∀ j, j < k → ptR ([(a0, b0), (a1, b1), (a2, b2), (a3, b3), (a4, b4)].getD j (0, 0)) = true) ∧ wr.heap[w.heap.size]? = some (.cells #[.slice ao i cap, .int .i64 a0, .int .i64 b0, .int .i64 a1, .int .i64 b1, .int .i64 a2, .int .i64 b2, .int .i64 a3, .int .i64 b3, .int .i64 a4, .int .i64 b4, .int .i64 step] 53 (0, 0)) ∧ Below w.heap.size w wr)
        (fun iv _ => 5 - (intOf iv).toNat)
      case atStart => exact ⟨0, Nat.zero_le _, rfl, (fun j hj => by omega), HROW.out, HB.out⟩
      case round =>
        clear c0
        obtain ⟨k, hk, rfl, hpre, hrow, hb⟩ := hrel
        have HPRE := Lib.hid hpre
        have HROW := Lib.hid hrow
        have HB := Lib.hid hb
        have HG : Hid (∀ q, wr.cell? ⟨w.heap.size, q, none⟩ = (#[Value.slice ao i cap, .int .i64 a0, .int .i64 b0, .int .i64 a1, .int .i64 b1, .int .i64 a2, .int .i64 b2, .int .i64 a3, .int .i64 b3, .int .i64 a4, .int .i64 b4, .int .i64 step] : Array Value)[q]?) := Lib.hid fun q => cell_of_row _ _ _ _ _ _ HROW.out
        clear hpre hrow hb
        by_cases hk5 : k < 5
        · obtain ⟨x, y, g0, g1, hg⟩ : ∃ x y : Int, wr.cell? ⟨w.heap.size, 1 + k * 2, none⟩ = some (.int .i64 x) ∧ wr.cell? ⟨w.heap.size, 1 + k * 2 + 1, none⟩ = some (.int .i64 y) ∧ [(a0, b0), (a1, b1), (a2, b2), (a3, b3), (a4, b4)].getD k (0, 0) = (x, y) := by
            rw [HG.out, HG.out]
            rcases (show k = 0 ∨ k = 1 ∨ k = 2 ∨ k = 3 ∨ k = 4 by omega) with rfl | rfl | rfl | rfl | rfl <;> exact ⟨_, _, rfl, rfl, rfl⟩
          have HP := Lib.hid (show ptR ([(a0, b0), (a1, b1), (a2, b2), (a3, b3), (a4, b4)].getD k (0, 0)) = ptR (x, y) by rw [hg])
          clear hg
          have hk5i : (k : Int) < 5 := by omega
          have hw : IntKind.i64.wrap ((k : Int) + 1) = ((k + 1 : Nat) : Int) := by rw [IntWalk.i64_in _ (by omega)]; omega
          by_cases k1 : x < -20
          · skip
            go_wp2
            refine bodyPost_ret (v := .bool false) (by simp [results, Try.results54, go_sem]) rfl ⟨congrArg (fun b => Ending.returned (Value.bool b)) ?_, HB.out.alloc HB.out.size _⟩
            rw [HV.out]
            symm
            refine Bool.eq_false_iff.2 fun h => ?_
            have h9 := List.all_eq_true.1 h k (List.mem_range.2 hk5)
            rw [HP.out] at h9
            unfold ptR at h9
            simp at h9
            omega
          by_cases k2 : y < x
          · skip
            go_wp2
            refine bodyPost_ret (v := .bool false) (by simp [results, Try.results54, go_sem]) rfl ⟨congrArg (fun b => Ending.returned (Value.bool b)) ?_, HB.out.alloc HB.out.size _⟩
            rw [HV.out]
            symm
            refine Bool.eq_false_iff.2 fun h => ?_
            have h9 := List.all_eq_true.1 h k (List.mem_range.2 hk5)
            rw [HP.out] at h9
            unfold ptR at h9
            simp at h9
            omega
          by_cases k3 : 20 < y
          · skip
            go_wp2
            refine bodyPost_ret (v := .bool false) (by simp [results, Try.results54, go_sem]) rfl ⟨congrArg (fun b => Ending.returned (Value.bool b)) ?_, HB.out.alloc HB.out.size _⟩
            rw [HV.out]
            symm
            refine Bool.eq_false_iff.2 fun h => ?_
            have h9 := List.all_eq_true.1 h k (List.mem_range.2 hk5)
            rw [HP.out] at h9
            unfold ptR at h9
            simp at h9
            omega
          have hws : IntKind.i64.wrap (y - x) = y - x := by rw [IntWalk.i64_in _ (by omega)]
          by_cases k4 : 6 < y - x
          · skip
            go_wp2
            refine bodyPost_ret (v := .bool false) (by simp [results, Try.results54, go_sem]) rfl ⟨congrArg (fun b => Ending.returned (Value.bool b)) ?_, HB.out.alloc HB.out.size _⟩
            rw [HV.out]
            symm
            refine Bool.eq_false_iff.2 fun h => ?_
            have h9 := List.all_eq_true.1 h k (List.mem_range.2 hk5)
            rw [HP.out] at h9
            unfold ptR at h9
            simp at h9
            omega
          go_wp2
          refine ⟨⟨k + 1, hk5, rfl, fun j hj => ?_, (hget_old _ _ _ (Nat.ne_of_lt (lt_of_block HROW.out))).trans HROW.out, HB.out.alloc HB.out.size _⟩, by simp [intOf]; omega⟩
          by_cases hji : j = k
          · subst hji
            rw [HP.out]; unfold ptR; simp; omega
          · exact HPRE.out j (by omega)
        · obtain rfl : k = 5 := by omega
          have hk5i : ¬ ((5 : Nat) : Int) < 5 := by omega
          have hvt : vv = true := by rw [HV.out]; exact List.all_eq_true.2 fun j hj => HPRE.out j (List.mem_range.1 hj)
          subst hvt
          go_wp2
          exact bodyPost_ret (v := .bool true) (by simp [results, Try.results54, go_sem]) rfl ⟨rfl, HB.out⟩
end Go.Proofs.Ytagjepclobobjaa

/- The reference's small functions of lots: the grade of a block; is a lot valid? -/
namespace Go.Proofs.Ytagjepclobobjaa
set_option linter.unusedVariables false
set_option linter.unusedSimpArgs false
open Go.RowKit Go.Shelf
attribute [local go_sem] Oper.semAt_some

set_option maxRecDepth 100000 in
set_option maxHeartbeats 4000000 in
theorem r13grade_any (l : LotD) (p : PartsL) (b : Nat) (hb : b < l.blocks.length) (w : World) (hL : LotAt l p (fun k => k < w.heap.size) w) (h9 : l.blocks.length ≤ 1000) :
    Calls Try.prog 22 #[lotV l p, .int .i64 (b : Int)] w fun e w' => e = .returned (gradeV p.lims (l.blocks.getD b []) l.step) ∧ Below w.heap.size w w' := by
  obtain ⟨ao, cap, hv, _, _, hel⟩ := hL.blk
  obtain ⟨h5, bb, off, rfl, _, hbl, hce⟩ := hel b hb
  have hgd : l.blocks.getD b [] = l.blocks[b] := by rw [List.getD_eq_getElem?_getD, List.getElem?_eq_getElem hb]; rfl
  rw [hgd]
  obtain ⟨pl, hpl⟩ : ∃ x, x = l.blocks[b] := ⟨_, rfl⟩
  rw [← hpl] at h5 hce ⊢
  obtain ⟨⟨a0, z0⟩, ⟨a1, z1⟩, ⟨a2, z2⟩, ⟨a3, z3⟩, ⟨a4, z4⟩, rfl⟩ := list5' h5
  have k0 : w.cell? ⟨bb, off + b * 10, none⟩ = some (.int .i64 a0) := hce 0 (by decide)
  have k1 : w.cell? ⟨bb, off + b * 10 + 1, none⟩ = some (.int .i64 z0) := hce 1 (by decide)
  have k2 : w.cell? ⟨bb, off + b * 10 + 2, none⟩ = some (.int .i64 a1) := hce 2 (by decide)
  have k3 : w.cell? ⟨bb, off + b * 10 + 3, none⟩ = some (.int .i64 z1) := hce 3 (by decide)
  have k4 : w.cell? ⟨bb, off + b * 10 + 4, none⟩ = some (.int .i64 a2) := hce 4 (by decide)
  have k5 : w.cell? ⟨bb, off + b * 10 + 5, none⟩ = some (.int .i64 z2) := hce 5 (by decide)
  have k6 : w.cell? ⟨bb, off + b * 10 + 6, none⟩ = some (.int .i64 a3) := hce 6 (by decide)
  have k7 : w.cell? ⟨bb, off + b * 10 + 7, none⟩ = some (.int .i64 z3) := hce 7 (by decide)
  have k8 : w.cell? ⟨bb, off + b * 10 + 8, none⟩ = some (.int .i64 a4) := hce 8 (by decide)
  have k9 : w.cell? ⟨bb, off + b * 10 + 9, none⟩ = some (.int .i64 z4) := hce 9 (by decide)
  obtain ⟨aol, capl, hlv, _⟩ := hL.lim
  obtain ⟨lim, st, blocks, pays, lap, orders⟩ := l
  obtain ⟨lims, blks, pv, ov⟩ := p
  dsimp only at *
  obtain ⟨nb, hnb⟩ : ∃ k, k = blocks.length := ⟨_, rfl⟩
  rw [← hnb] at hv h9 hb
  obtain ⟨nl, hnl⟩ : ∃ k, k = lim.length := ⟨_, rfl⟩
  rw [← hnl] at hlv
  subst hv hlv
  clear hnb hce hel hgd hpl h5 hL hnl
  have hold : ∀ (a : Addr) (v : Value), w.cell? a = some v → ∀ W1 : World, W1.heap[a.block]? = w.heap[a.block]? → W1.cell? a = some v := fun a v h W1 he => (World.cell?_of_block he).trans h
  obtain ⟨W1, hW1⟩ : ∃ W1, W1 = (w.alloc (.cells #[.slice aol nl capl, .int .i64 st, .slice (some ⟨bb, off, none⟩) nb cap, pv, .int .i64 lap, ov] 32)).alloc (.cells #[.slice none 0 0, .int .i64 0, .int .i64 0, .int .i64 0, .int .i64 0, .int .i64 0, .int .i64 0, .int .i64 0, .int .i64 0, .int .i64 0, .int .i64 0, .int .i64 0] 53) := ⟨_, rfl⟩
  have hrb : W1.heap[w.heap.size]? = some (.cells #[.slice aol nl capl, .int .i64 st, .slice (some ⟨bb, off, none⟩) nb cap, pv, .int .i64 lap, ov] 32 (0, 0)) := by rw [hW1]; exact (hget_old _ _ _ (by simp)).trans (heap_alloc_at _ _ _ rfl)
  have hr1 : W1.heap[w.heap.size + 1]? = some (.cells #[.slice none 0 0, .int .i64 0, .int .i64 0, .int .i64 0, .int .i64 0, .int .i64 0, .int .i64 0, .int .i64 0, .int .i64 0, .int .i64 0, .int .i64 0, .int .i64 0] 53 (0, 0)) := by rw [hW1]; exact heap_alloc_at _ _ _ (by simp)
  have hb1 : Below w.heap.size w W1 := by rw [hW1]; exact (below_allocG _ _).alloc (by simp) _
  have hs2 := hb1.block bb hbl
  have c0 : W1.cell? ⟨w.heap.size, 0, none⟩ = some (.slice aol nl capl) := by rw [cell_of_row _ _ _ _ _ _ hrb]; rfl
  have c1 : W1.cell? ⟨w.heap.size, 1, none⟩ = some (.int .i64 st) := by rw [cell_of_row _ _ _ _ _ _ hrb]; rfl
  have c2 : W1.cell? ⟨w.heap.size, 2, none⟩ = some (.slice (some ⟨bb, off, none⟩) nb cap) := by rw [cell_of_row _ _ _ _ _ _ hrb]; rfl
  replace k0 := hold _ _ k0 W1 hs2
  replace k1 := hold _ _ k1 W1 hs2
  replace k2 := hold _ _ k2 W1 hs2
  replace k3 := hold _ _ k3 W1 hs2
  replace k4 := hold _ _ k4 W1 hs2
  replace k5 := hold _ _ k5 W1 hs2
  replace k6 := hold _ _ k6 W1 hs2
  replace k7 := hold _ _ k7 W1 hs2
  replace k8 := hold _ _ k8 W1 hs2
  replace k9 := hold _ _ k9 W1 hs2
  have HR := Lib.hid hr1
  have HB := Lib.hid hb1
  unfold lotV lotC
  dsimp only
  clear hold hs2 hr1 hb1 hrb hbl
  go_enter Try.func22, Try.ntmps22
  go_upto_region 1 with fail
  rw [← hW1]
  clear hW1
  refine region_fix 10 (fun W' => W' = W1.drew) (by kernel_rfl) (by kernel_rfl) rfl ?_
  simp only [List.take_succ_cons, List.take_zero, List.drop_succ_cons, List.drop_zero]
  iterate 10
    refine WF_step ?_ (fun W' hC => ?_) rfl ?_
    rotate_left
    · subst hC
      go_simp
      exact fix_value (P := Try.prog) rfl
    simp only [Act.put, List.setIfInBounds_toArray, List.set_cons_zero, List.set_cons_succ]
  refine WF_nil ?_
  rintro W' rfl
  refine wpList_store_row rfl 53 _ _ rfl (w.heap.size + 1) #[.slice aol nl capl, .int .i64 a0, .int .i64 z0, .int .i64 a1, .int .i64 z1, .int .i64 a2, .int .i64 z2, .int .i64 a3, .int .i64 z3, .int .i64 a4, .int .i64 z4, .int .i64 st] rfl rfl 53 _ HR.out sizeGrade0 rfl (by simp [Value.oneCell']) ?_
  obtain ⟨cells, hcells⟩ : ∃ c : Array Value, c = #[.slice aol nl capl, .int .i64 a0, .int .i64 z0, .int .i64 a1, .int .i64 z1, .int .i64 a2, .int .i64 z2, .int .i64 a3, .int .i64 z3, .int .i64 a4, .int .i64 z4, .int .i64 st] := ⟨_, rfl⟩
  rw [← hcells]
  obtain ⟨W5, hW5⟩ : ∃ W5, W5 = W1.drew.setRow (w.heap.size + 1) cells := ⟨_, rfl⟩
  have hr5 : W5.heap[w.heap.size + 1]? = some (.cells cells 53 (0, 0)) := by rw [hW5]; exact setRow_heap _ _ _ _ _ _ (show W1.drew.heap[w.heap.size + 1]? = _ from HR.out)
  have hb5 : Below w.heap.size w W5 := by rw [hW5]; exact below_setRow (HB.out.trans (Below.refl _ _).drew) (Nat.le_succ _) _
  rw [← hW5]
  have HB5 := Lib.hid hb5
  have HR5 := Lib.hid hr5
  clear hW5 hb5 hr5
  go_wp2
  refine bodyPost_ret (v := .agg cells) (results_cell_row (fn := Try.f22) (p := 4) rfl _ _ (w.heap.size + 1) 53 cells (0, 0) _ rfl HR5.out underGrade rfl (by rw [hcells]; exact sizeGrade0)) rfl ⟨by rw [hcells]; rfl, HB5.out⟩
set_option maxHeartbeats 4000000 in
theorem r13number_any (l : LotD) (p : PartsL) (n : Int) (w : World) (hL : LotAt l p (fun k => k < w.heap.size) w) (h9 : l.lim.length ≤ 1000) :
    Calls Try.prog 55 #[lotV l p, .int .i64 n] w fun e w' => e = .returned (.bool (isGradeL l n)) ∧ Below w.heap.size w w' := by
  obtain ⟨aol, capl, hlv, _⟩ := hL.lim
  obtain ⟨lim, st, blocks, pays, lap, orders⟩ := l
  obtain ⟨lims, blks, pv, ov⟩ := p
  unfold isGradeL
  dsimp only at *
  obtain ⟨nl, hnl⟩ : ∃ k, k = lim.length := ⟨_, rfl⟩
  rw [← hnl] at hlv h9 ⊢
  subst hlv
  clear hL hnl
  unfold lotV lotC
  dsimp only
  have hw : IntKind.i64.wrap ((nl : Int) - 1) = (nl : Int) - 1 := by rw [IntWalk.i64_in _ (by omega)]
  go_enter Try.func55, Try.ntmps55
  go_wp2_with fail
  refine (r13in_any n 0 ((nl : Int) - 1) _).mono ?_
  rintro e w1 ⟨rfl, rfl⟩
  dsimp only
  go_wp2_with fail
  go_ret
  refine ⟨congrArg (fun b => Ending.returned (Value.bool b)) ?_, below_allocG _ _⟩
  unfold inN
  rw [decide_eq_decide]
  omega
end Go.Proofs.Ytagjepclobobjaa
