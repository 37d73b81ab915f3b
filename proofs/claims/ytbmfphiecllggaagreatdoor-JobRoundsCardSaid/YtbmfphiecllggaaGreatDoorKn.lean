/- Texts Ej, Ek, El, Em, En, Eo in one file; each begins with a word on what it proves. -/
import Derived.Test.YtbmfphiecllggaaGreatDoorTie
import Derived.Test.YtbmfphiecllggaaGreatDoorCards
import Derived.SevenTiedAt
import Derived.Test.YtbmfphiecllggaaGreatDoorKm
import Derived.Test.YtbmfphiecllggaaGreatDoorKl
import Derived.Test.YtbmfphiecllggaaGreatDoorKh
import Derived.Test.YtbmfphiecllggaaGreatDoorKg
import Derived.Test.YtbmfphiecllggaaGreatDoorKj

/- The reference: lists of lists of numbers in memory; an append to a fresh list. -/
namespace Go.Proofs.YtbmfphiecllggaaGreatDoor
set_option linter.unusedVariables false
set_option linter.unusedSimpArgs false
open Go.RowKit Go.Shelf
attribute [local go_sem] Oper.semAt_some

/-- A list of lists, in a row of its own. -/
def OutR (W : World) (B : Nat) (v : Value) (L : List (List Nat)) : Prop :=
  ∃ vals : List Value, W.ownsRow B 29 1 v L.length vals ∧ ∀ i (h : i < L.length), ∃ u, vals[i]? = some u ∧ u.oneCell' = true ∧ NumsAt W u (L[i].map fun s : Nat => (s : Int)) (fun q => v.ownBlock ≠ some q)
theorem OutR.nil (W : World) (B : Nat) : OutR W B (.slice none 0 0) [] := ⟨[], World.ownsRow_nil _ _ _ _, fun i h => absurd h (by simp)⟩
theorem OutR.below {W W' : World} {B : Nat} {v : Value} {L : List (List Nat)} (h : OutR W B v L) (hb : Below W.heap.size W W') : OutR W' B v L := by
  obtain ⟨vals, h1, h2⟩ := h
  exact ⟨vals, own_below h1 hb, fun i hi => by
    obtain ⟨u, e1, e2, e3⟩ := h2 i hi
    exact ⟨u, e1, e2, e3.later hb.size (fun k hk _ => hb.block k hk)⟩⟩
theorem OutR.lt {W : World} {B : Nat} {v : Value} {L : List (List Nat)} (h : OutR W B v L) : ∀ k, v.ownBlock = some k → B ≤ k ∧ k < W.heap.size := by
  obtain ⟨vals, h1, _⟩ := h
  exact h1.lt
theorem underIntsE : Tryz.prog.underlying 74 = some (.slice 29) := by kernel_rfl
theorem infoIntsE : (Tryz.prog.info? 29).map (fun i => (i.zero, i.size, i.bytes)) = some (some (.slice none 0 0), 1, 24) := by kernel_rfl
/-- A list is put behind the others. -/
theorem OutR.snoc {W W' : World} {B : Nat} {v v' bv : Value} {L : List (List Nat)} {b : List Nat} {vals : List Value} (h1 : W.ownsRow B 29 1 v L.length vals)
    (h2 : ∀ i (h : i < L.length), ∃ u, vals[i]? = some u ∧ u.oneCell' = true ∧ NumsAt W u (L[i].map fun s : Nat => (s : Int)) (fun q => v.ownBlock ≠ some q)) (ho : bv.oneCell' = true)
    (hb : NumsAt W bv (b.map fun s : Nat => (s : Int)) (fun q => v.ownBlock ≠ some q)) (h3 : W'.ownsRow B 29 1 v' (L.length + 1) (vals ++ [bv])) (hg : W.grownBy W' v.ownBlock) (ha : v'.ownBlock = v.ownBlock ∨ v'.ownBlock = some W.heap.size) : OutR W' B v' (L ++ [b]) := by
  have hk := keeps_grown hg
  have hlen : vals.length = L.length := by have := h1.1; omega
  have hmove : ∀ {u : Value} {l : List Int}, NumsAt W u l (fun q => v.ownBlock ≠ some q) → NumsAt W' u l (fun q => v'.ownBlock ≠ some q) := fun {u l} hn => by
    have h4 : NumsAt W u l (fun q => v.ownBlock ≠ some q ∧ q < W.heap.size) := by
      obtain ⟨ao, cap, e1, e2, e3, e4⟩ := hn
      exact ⟨ao, cap, e1, e2, e3, fun i hi => by obtain ⟨x, off, f1, f2, f3, f4⟩ := e4 i hi; exact ⟨x, off, f1, ⟨f2, f3⟩, f3, f4⟩⟩
    refine (h4.later (W := W') hk.size (fun k hk2 hm => hk.block k hk2 hm.1)).mono fun k hm => ?_
    rcases ha with ha | ha
    · rw [ha]; exact hm.1
    · rw [ha]; intro e; injection e with e; have := hm.2; omega
  refine ⟨vals ++ [bv], by rw [List.length_append]; exact h3, fun i hi => ?_⟩
  rw [List.length_append, List.length_singleton] at hi
  by_cases hlt : i < L.length
  · obtain ⟨u, e1, e2, e3⟩ := h2 i hlt
    refine ⟨u, by rw [List.getElem?_append_left (by omega)]; exact e1, e2, ?_⟩
    rw [List.getElem_append_left hlt]
    exact hmove e3
  · have hie : i = L.length := by omega
    subst hie
    refine ⟨bv, by rw [List.getElem?_append_right (by omega), hlen]; simp, ho, ?_⟩
    rw [List.getElem_append_right (by omega)]
    simpa using hmove hb
theorem own_emptyE {w : World} {base g : Nat} (h : w.heap[g]? = some (.cells #[] 3 (0, 0))) (hb : base ≤ g) : w.ownsRow base 3 1 (.slice (some ⟨g, 0, none⟩) 0 0) 0 [] :=
  ⟨rfl, .inr ⟨g, 0, #[], rfl, hb, h, Nat.le_refl _, by simp, rfl, rfl⟩⟩
/-- A list is copied: it is appended to a fresh one. -/
theorem wp_append_fresh {w : World} {o : Oper} {a : Act} {K : Act → World → Prop} {Q : Exit → Act → World → Prop} (s x : Operand)
    (ho : o.op = .call { callee := .builtin .append, args := #[s, x], argTypes := #[29, 29] }) (B g : Nat) (hg : w.heap[g]? = some (.cells #[] 3 (0, 0))) (hB : B ≤ g) (hs : a.eval s = .slice (some ⟨g, 0, none⟩) 0 0)
    (l : List Int) (xv : Value) (hx : a.eval x = xv) (Rd : Nat → Prop) (hn : NumsAt w xv l Rd) (hl : l.length ≤ 1000)
    (h : ∀ v' w', w'.ownsRow B 3 1 v' l.length (l.map (Value.int .i64)) → Keeps (fun k => k = g) w w' → K (a.put o.dst v') w') : o.wp Tryz.prog a w K Q := by
  obtain ⟨ao, cap, rfl, hc, _, hel⟩ := hn
  have hlt := lt_of_block hg
  cases ao with
  | none =>
    have hl0 : l = [] := by
      cases l with
      | nil => rfl
      | cons x l => obtain ⟨b, off, e, _⟩ := hel 0 (by simp); cases e
    subst hl0
    exact wp_append_nilJ s x 29 ho 3 1 8 (.int .i64 0) underInts infoInt g 0 0 (Nat.le_refl _) hs cap hx (h _ _ (own_emptyE hg hB) (Keeps.refl _ _))
  | some ad =>
    refine wp_append_here s x 29 ho B 3 1 8 (.int .i64 0) underInts infoInt rfl (by decide) _ 0 [] hs (own_emptyE hg hB) ad l.length cap (l.map (Value.int .i64)) hx (by simp) (fun k u hu => ?_) (fun u hu => ?_) (by omega) (by decide) (by omega) ?_
    · obtain ⟨hk, rfl⟩ := List.getElem?_eq_some_iff.1 hu
      rw [List.length_map] at hk
      obtain ⟨b, off, e, _, _, hcell⟩ := hel k hk
      injection e with e
      subst e
      rw [Addr.add_lit, List.getElem_map]
      exact hcell
    · obtain ⟨y, _, rfl⟩ := List.mem_map.1 hu; rfl
    · intro v' w' h1 h2 _
      exact h v' w' (by simpa using h1) ((keeps_grown h2).mono fun k _ e => by simpa [Value.ownBlock] using e.symm)
theorem plans_len (j : JobD) : ∀ (k : Nat) (b : List Nat), (plansL j k b).length ≤ 2 ^ (j.st.bs.length * k)
  | 0, b => by rw [plansL]; split <;> simp
  | k + 1, b => by
    rw [plansL]
    split
    · have : ∀ m, ((List.range m).flatMap fun s => plansL j k (b ++ [s + 1])).length ≤ m * 2 ^ (j.st.bs.length * k) := by
        intro m
        induction m with
        | zero => simp
        | succ m ih =>
          rw [List.range_succ, List.flatMap_append, List.length_append, Nat.succ_mul]
          have h9 := plans_len j k (b ++ [m + 1])
          rw [show ([m].flatMap fun s => plansL j k (b ++ [s + 1])) = plansL j k (b ++ [m + 1]) by simp]
          exact Nat.add_le_add ih h9
      refine Nat.le_trans (this _) ?_
      rw [Nat.mul_succ, Nat.pow_add, Nat.mul_comm (2 ^ (j.st.bs.length * k))]
      exact Nat.mul_le_mul_right _ (Nat.sub_le _ _)
    · simp
end Go.Proofs.YtbmfphiecllggaaGreatDoor

/- The reference of jobs, walked: all plans. -/
namespace Go.Proofs.YtbmfphiecllggaaGreatDoor
set_option linter.unusedVariables false
set_option linter.unusedSimpArgs false
open Go.RowKit Go.Shelf
attribute [local go_sem] Oper.semAt_some

def PlansR (j : JobD) (k : Nat) (b : List Nat) (B : Nat) (out : Value) (L : List (List Nat)) (w : World) (e : Ending) (w' : World) : Prop :=
  ∃ v', e = .returned v' ∧ OutR w' B v' (L ++ plansL j k b) ∧ Keeps (fun q => out.ownBlock = some q) w w' ∧ (v'.ownBlock = out.ownBlock ∨ ∀ q, v'.ownBlock = some q → w.heap.size ≤ q)
section
variable {P : Program} {ops : Array Oper}
theorem wpOp_ofE {Q : Exit → Act → World → Prop} {i : Nat} {o : Oper} {K : Act → World → Prop} {a : Act} {w : World} (ho : ops[i]? = some o) (hg : Region.wanted o (yielded ops a.tmps) = true) (h : o.wp P a w K Q) : wpOp P ops Q i K a w := by
  unfold wpOp
  rw [ho]
  simp only [hg, if_true]
  exact .inl h
theorem oper_valueE {Q : Exit → Act → World → Prop} {o : Oper} {K : Act → World → Prop} {a : Act} {w w' : World} {v : Value} (hrun : (execOp a.eval o).run P w = .ok (.value v) w') (h : K (a.put o.dst v) w') : o.wp P a w K Q := by
  unfold Oper.wp
  rw [hrun]
  exact h
end
theorem last_one (j : JobD) (b : List Nat) (h : b.length ≠ 0) : lastOk j b = (brokenL j b (b.length - 1) == 0) := by
  unfold lastOk
  cases b with
  | nil => simp at h
  | cons x b => rfl
theorem plans_stop (j : JobD) (k : Nat) (b : List Nat) (h : lastOk j b = false) : plansL j k b = [] := by
  cases k with
  | zero => rw [plansL, h]; rfl
  | succ k => rw [plansL, h]; rfl
theorem nums_own {W : World} {bv : Value} {l : List Int} {Rd : Nat → Prop} (h : NumsAt W bv l Rd) : NumsAt W bv l (fun q => Rd q ∧ q < W.heap.size) := by
  obtain ⟨ao, cap, e1, e2, e3, e4⟩ := h
  exact ⟨ao, cap, e1, e2, e3, fun i hi => by obtain ⟨x, off, f1, f2, f3, f4⟩ := e4 i hi; exact ⟨x, off, f1, ⟨f2, f3⟩, f3, f4⟩⟩
theorem plans_room (j : JobD) (k : Nat) (b : List Nat) (L : List (List Nat)) (m C : Nat) (hm : m + 1 ≤ 2 ^ j.st.bs.length) (h : L.length + 2 ^ (j.st.bs.length * (k + 1)) ≤ C) :
    (L ++ (List.range m).flatMap fun s => plansL j k (b ++ [s + 1])).length + 2 ^ (j.st.bs.length * k) ≤ C := by
  have h1 : ∀ m, ((List.range m).flatMap fun s => plansL j k (b ++ [s + 1])).length ≤ m * 2 ^ (j.st.bs.length * k) := by
    intro m
    induction m with
    | zero => simp
    | succ m ih =>
      rw [List.range_succ, List.flatMap_append, List.length_append, Nat.succ_mul]
      have h9 := plans_len j k (b ++ [m + 1])
      rw [show ([m].flatMap fun s => plansL j k (b ++ [s + 1])) = plansL j k (b ++ [m + 1]) by simp]
      exact Nat.add_le_add ih h9
  have h2 := h1 m
  have h3 : (m + 1) * 2 ^ (j.st.bs.length * k) ≤ 2 ^ (j.st.bs.length * (k + 1)) := by
    rw [Nat.mul_succ, Nat.pow_add, Nat.mul_comm (2 ^ (j.st.bs.length * k))]
    exact Nat.mul_le_mul_right _ hm
  rw [List.length_append]
  rw [Nat.succ_mul] at h3
  generalize 2 ^ (j.st.bs.length * k) = X at *
  generalize 2 ^ (j.st.bs.length * (k + 1)) = Z at *
  generalize m * X = V at *
  omega
set_option maxRecDepth 100000 in
set_option maxHeartbeats 8000000 in
theorem r12plans_any {j : JobD} (hv : validJb j = true) {bs ws : Value} {B : Nat} : ∀ (k : Nat) (b : List Nat) (bv out : Value) (L : List (List Nat)) (w : World), b.length + k = j.ws.length → (∀ s ∈ b, 1 ≤ s ∧ s < 2 ^ j.st.bs.length) → L.length + 2 ^ (j.st.bs.length * k) ≤ 1000000 → B ≤ w.heap.size →
    SpansAt w bs j.st.bs (fun q => q < B) → SpansAt w ws j.ws (fun q => q < B) → NumsAt w bv (b.map fun s : Nat => (s : Int)) (fun q => out.ownBlock ≠ some q) → bv.oneCell' = true → OutR w B out L →
    Calls Tryz.prog 43 #[jobV j bs ws, bv, out] w (PlansR j k b B out L w) := by
  have HV := Lib.hid hv
  clear hv
  intro k
  induction k with
  | zero =>
    intro b bv out L w hbk hbo hLb hB hbs hws hbv ho hout
    have HBO := Lib.hid hbo
    have HLB := Lib.hid hLb
    have HBS := Lib.hid hbs
    have HWS := Lib.hid hws
    have HBV := Lib.hid hbv
    have HO := Lib.hid ho
    have HOUT := Lib.hid hout
    have HBB := Lib.hid hB
    obtain ⟨ao, cap, hv1, _⟩ := id hbs
    obtain ⟨ao2, cap2, hv2, _⟩ := id hws
    obtain ⟨ao3, cap3, hv3, _⟩ := id hbv
    subst hv1 hv2 hv3
    rw [List.length_map] at HBV HO ⊢
    obtain ⟨nb, hnb⟩ : ∃ n, n = j.st.bs.length := ⟨_, rfl⟩
    obtain ⟨nw, hnw⟩ : ∃ n, n = j.ws.length := ⟨_, rfl⟩
    obtain ⟨n, hn⟩ : ∃ n, n = b.length := ⟨_, rfl⟩
    obtain ⟨fl, hfl⟩ : ∃ x, x = j.st.film.1 := ⟨_, rfl⟩
    obtain ⟨fh, hfh⟩ : ∃ x, x = j.st.film.2 := ⟨_, rfl⟩
    have HJV := Lib.hid (show jobV j (.slice ao nb cap) (.slice ao2 nw cap2) = .agg #[.slice ao nb cap, .int .i64 fl, .int .i64 fh, .slice ao2 nw cap2] by unfold jobV; rw [← hfl, ← hfh])
    unfold jobV
    rw [← hnb, ← hnw, ← hn, ← hfl, ← hfh]
    rw [← hnb] at HBS
    rw [← hnw] at HWS
    rw [← hn] at HBV HO
    have hnw4 : nw ≤ 4 := by rw [hnw]; exact (validJb_parts HV.out).2.1
    have hnb8 : nb ≤ 8 := by rw [hnb]; exact (validSt_parts (validJb_parts HV.out).1).1
    rw [← hn, ← hnw] at hbk
    have HN := Lib.hid (And.intro hnb (And.intro hnw hn))
    clear hbs hws hbv hout hbo hLb hB ho hnb hnw hn hfl hfh
    have hrowb : ∀ (W : World), w.heap.size ≤ W.heap.size → (∀ q, q < B → W.heap[q]? = w.heap[q]?) → SpansAt W (.slice ao nb cap) j.st.bs (fun q => q < B) := fun W hs hb => HBS.out.later hs (fun k _ h => hb k h)
    have hroww : ∀ (W : World), w.heap.size ≤ W.heap.size → (∀ q, q < B → W.heap[q]? = w.heap[q]?) → SpansAt W (.slice ao2 nw cap2) j.ws (fun q => q < B) := fun W hs hb => HWS.out.later hs (fun k _ h => hb k h)
    have HRB := Lib.hid hrowb
    have HRW := Lib.hid hroww
    clear hrowb hroww
    go_enter Tryz.func43, Tryz.ntmps43
    go_upto_region 2 with fail
    refine wp_name (fun W => W.heap[w.heap.size]? = some (.cells #[.slice ao nb cap, .int .i64 fl, .int .i64 fh, .slice ao2 nw cap2] 28 (0, 0)) ∧ Below w.heap.size w W) ⟨heap_alloc_at _ _ _ rfl, Below.alloc' _ _⟩ ?_
    rintro w0 ⟨h1, hb⟩
    have HXw0 := Lib.hid h1
    have HBw0 := Lib.hid hb
    clear h1 hb
    have c0 : w0.cell? ⟨w.heap.size, 0, none⟩ = some (.slice ao nb cap) := by rw [cell_of_row _ _ _ _ _ _ HXw0.out]; rfl
    have c1 : w0.cell? ⟨w.heap.size, 1, none⟩ = some (.int .i64 fl) := by rw [cell_of_row _ _ _ _ _ _ HXw0.out]; rfl
    have c2 : w0.cell? ⟨w.heap.size, 2, none⟩ = some (.int .i64 fh) := by rw [cell_of_row _ _ _ _ _ _ HXw0.out]; rfl
    have c3 : w0.cell? ⟨w.heap.size, 3, none⟩ = some (.slice ao2 nw cap2) := by rw [cell_of_row _ _ _ _ _ _ HXw0.out]; rfl
    by_cases hb0 : n = 0
    · have hb0n : ¬ 0 < n := by omega
      have HL0 := Lib.hid (show lastOk j b = true by unfold lastOk; rw [show b = [] from List.length_eq_zero_iff.1 (by rw [← HN.out.2.2]; exact hb0)]; rfl)
      clear hb0
      go_upto_region 4 with fail
      clear hb0n
      have he : n = nw := by omega
      have he2 : ((n : Int) == (nw : Int)) = true := by rw [beq_iff_eq]; omega
      have hO1 := (HOUT.out.below HBw0.out).below (Below.alloc' w0 (.cells #[.slice ao3 n cap3] 29))
      obtain ⟨vals, h1, h2⟩ := hO1
      have HR := Lib.hid (And.intro h1 h2)
      have hLle : L.length + 1 ≤ 1000000 := by have := HLB.out; simpa using this
      have hBle : B ≤ w0.heap.size := Nat.le_trans HBB.out HBw0.out.size
      clear h1 h2 he
      go_wp2_with (first | (refine wpList_append_here rfl (.tmp 27) (.tmp 29) 74 rfl B 29 1 24 _ underIntsE infoIntsE rfl (by decide) out L.length vals rfl HR.out.1 w0.heap.size 1 #[.slice ao3 n cap3] 29 (0, 0) rfl (heap_alloc_at _ _ _ rfl) rfl (by simp [Value.oneCell']) (by omega) (by decide) (by simp <;> omega) ?_))
      intro v7 W7 h7 hg7 ha7
      have ha7 : v7.ownBlock = out.ownBlock ∨ v7.ownBlock = some (w0.alloc (.cells #[.slice ao3 n cap3] 29)).heap.size := ha7.imp id (fun h => h.trans (by simp))
      have hk7 := keeps_grown hg7
      have hbA : Below w.heap.size w (w0.alloc (.cells #[.slice ao3 n cap3] 29)) := HBw0.out.alloc HBw0.out.size _
      have ho7 : OutR W7 B v7 (L ++ [b]) := OutR.snoc HR.out.1 HR.out.2 rfl (HBV.out.later hbA.size (fun k h _ => hbA.block k h)) h7 hg7 ha7
      have H7 := Lib.hid (And.intro ho7 (And.intro ((Keeps.of_below (Mut := fun q => out.ownBlock = some q) hbA (fun q h1 h2 => absurd h2 (by omega))).trans (hk7.mono fun k _ e => e)) (show v7.ownBlock = out.ownBlock ∨ ∀ q, v7.ownBlock = some q → w.heap.size ≤ q from ha7.imp id (fun e q h => by rw [e] at h; injection h with h; have := hbA.size; rw [← h]; exact this))))
      clear h7 hg7 ha7 hk7 hbA ho7
      go_wp2_with fail
      go_ret
      refine ⟨v7, rfl, ?_, H7.out.2.1, H7.out.2.2⟩
      rw [plansL, HL0.out, if_pos rfl]
      exact H7.out.1
    · have hb0n : 0 < n := by omega
      have hwm : IntKind.i64.wrap ((n : Int) - 1) = ((n - 1 : Nat) : Int) := by rw [IntWalk.i64_in _ (by omega)]; omega
      have HB0 := Lib.hid hb0
      clear hb0
      go_wp2_with fail
      have hc := r12broken_any j HV.out b HBO.out (n - 1) (by rw [← HN.out.2.2]; omega) (by rw [← HN.out.2.1]; omega) (.slice ao nb cap) (.slice ao2 nw cap2) (.slice ao3 n cap3) w0 (HRB.out w0 HBw0.out.size (fun q h => HBw0.out.block q (Nat.lt_of_lt_of_le h HBB.out))).low (HRW.out w0 HBw0.out.size (fun q h => HBw0.out.block q (Nat.lt_of_lt_of_le h HBB.out))).low (HBV.out.later HBw0.out.size (fun k h _ => HBw0.out.block k h)).lowE
      have hlo := last_one j b (by rw [← HN.out.2.2]; exact HB0.out)
      rw [← HN.out.2.2] at hlo
      obtain ⟨br, hbr⟩ : ∃ y, y = brokenL j b (n - 1) := ⟨_, rfl⟩
      rw [← hbr] at hc hlo
      rw [HJV.out] at hc
      refine hc.mono ?_
      rintro e w1 ⟨rfl, hb⟩
      clear hc hbr c0 c1 c2 c3
      dsimp only
      have HXw1 := Lib.hid ((hb.block _ (lt_of_block HXw0.out)).trans HXw0.out)
      have HBw1 := Lib.hid (HBw0.out.trans (hb.mono HBw0.out.size))
      clear hb hwm
      have c0 : w1.cell? ⟨w.heap.size, 0, none⟩ = some (.slice ao nb cap) := by rw [cell_of_row _ _ _ _ _ _ HXw1.out]; rfl
      have c1 : w1.cell? ⟨w.heap.size, 1, none⟩ = some (.int .i64 fl) := by rw [cell_of_row _ _ _ _ _ _ HXw1.out]; rfl
      have c2 : w1.cell? ⟨w.heap.size, 2, none⟩ = some (.int .i64 fh) := by rw [cell_of_row _ _ _ _ _ _ HXw1.out]; rfl
      have c3 : w1.cell? ⟨w.heap.size, 3, none⟩ = some (.slice ao2 nw cap2) := by rw [cell_of_row _ _ _ _ _ _ HXw1.out]; rfl
      by_cases hz : br = 0
      · rw [hz] at hlo
        subst hz
        have HL0 := Lib.hid (show lastOk j b = true from hlo)
        clear hlo
        go_upto_region 4 with fail
        clear hb0n
        have he : n = nw := by omega
        have he2 : ((n : Int) == (nw : Int)) = true := by rw [beq_iff_eq]; omega
        have hO1 := (HOUT.out.below HBw1.out).below (Below.alloc' w1 (.cells #[.slice ao3 n cap3] 29))
        obtain ⟨vals, h1, h2⟩ := hO1
        have HR := Lib.hid (And.intro h1 h2)
        have hLle : L.length + 1 ≤ 1000000 := by have := HLB.out; simpa using this
        have hBle : B ≤ w1.heap.size := Nat.le_trans HBB.out HBw1.out.size
        clear h1 h2 he
        go_wp2_with (first | (refine wpList_append_here rfl (.tmp 27) (.tmp 29) 74 rfl B 29 1 24 _ underIntsE infoIntsE rfl (by decide) out L.length vals rfl HR.out.1 w1.heap.size 1 #[.slice ao3 n cap3] 29 (0, 0) rfl (heap_alloc_at _ _ _ rfl) rfl (by simp [Value.oneCell']) (by omega) (by decide) (by simp <;> omega) ?_))
        intro v7 W7 h7 hg7 ha7
        have ha7 : v7.ownBlock = out.ownBlock ∨ v7.ownBlock = some (w1.alloc (.cells #[.slice ao3 n cap3] 29)).heap.size := ha7.imp id (fun h => h.trans (by simp))
        have hk7 := keeps_grown hg7
        have hbA : Below w.heap.size w (w1.alloc (.cells #[.slice ao3 n cap3] 29)) := HBw1.out.alloc HBw1.out.size _
        have ho7 : OutR W7 B v7 (L ++ [b]) := OutR.snoc HR.out.1 HR.out.2 rfl (HBV.out.later hbA.size (fun k h _ => hbA.block k h)) h7 hg7 ha7
        have H7 := Lib.hid (And.intro ho7 (And.intro ((Keeps.of_below (Mut := fun q => out.ownBlock = some q) hbA (fun q h1 h2 => absurd h2 (by omega))).trans (hk7.mono fun k _ e => e)) (show v7.ownBlock = out.ownBlock ∨ ∀ q, v7.ownBlock = some q → w.heap.size ≤ q from ha7.imp id (fun e q h => by rw [e] at h; injection h with h; have := hbA.size; rw [← h]; exact this))))
        clear h7 hg7 ha7 hk7 hbA ho7
        go_wp2_with fail
        go_ret
        refine ⟨v7, rfl, ?_, H7.out.2.1, H7.out.2.2⟩
        rw [plansL, HL0.out, if_pos rfl]
        exact H7.out.1
      · have hz2 : ((br : Int) == 0) = false := by rw [beq_eq_false_iff_ne]; omega
        have hz3 : ¬ (br : Int) = 0 := by omega
        have HLN := Lib.hid (show lastOk j b = false by rw [hlo, beq_eq_false_iff_ne]; exact hz)
        clear hlo hz
        go_wp2_with fail
        go_ret
        exact ⟨out, rfl, by rw [plans_stop j _ b HLN.out, List.append_nil]; exact HOUT.out.below HBw1.out, Keeps.of_below HBw1.out (fun q h1 h2 => absurd h2 (by omega)), .inl rfl⟩
  | succ k ih =>
    have IH := Lib.hid ih
    clear ih
    intro b bv out L w hbk hbo hLb hB hbs hws hbv ho hout
    have HBO := Lib.hid hbo
    have HLB := Lib.hid hLb
    have HBS := Lib.hid hbs
    have HWS := Lib.hid hws
    have HBV := Lib.hid hbv
    have HO := Lib.hid ho
    have HOUT := Lib.hid hout
    have HBB := Lib.hid hB
    obtain ⟨ao, cap, hv1, _⟩ := id hbs
    obtain ⟨ao2, cap2, hv2, _⟩ := id hws
    obtain ⟨ao3, cap3, hv3, _⟩ := id hbv
    subst hv1 hv2 hv3
    rw [List.length_map] at HBV HO ⊢
    obtain ⟨nb, hnb⟩ : ∃ n, n = j.st.bs.length := ⟨_, rfl⟩
    obtain ⟨nw, hnw⟩ : ∃ n, n = j.ws.length := ⟨_, rfl⟩
    obtain ⟨n, hn⟩ : ∃ n, n = b.length := ⟨_, rfl⟩
    obtain ⟨fl, hfl⟩ : ∃ x, x = j.st.film.1 := ⟨_, rfl⟩
    obtain ⟨fh, hfh⟩ : ∃ x, x = j.st.film.2 := ⟨_, rfl⟩
    have HJV := Lib.hid (show jobV j (.slice ao nb cap) (.slice ao2 nw cap2) = .agg #[.slice ao nb cap, .int .i64 fl, .int .i64 fh, .slice ao2 nw cap2] by unfold jobV; rw [← hfl, ← hfh])
    unfold jobV
    rw [← hnb, ← hnw, ← hn, ← hfl, ← hfh]
    rw [← hnb] at HBS
    rw [← hnw] at HWS
    rw [← hn] at HBV HO
    have hnw4 : nw ≤ 4 := by rw [hnw]; exact (validJb_parts HV.out).2.1
    have hnb8 : nb ≤ 8 := by rw [hnb]; exact (validSt_parts (validJb_parts HV.out).1).1
    rw [← hn, ← hnw] at hbk
    have HN := Lib.hid (And.intro hnb (And.intro hnw hn))
    clear hbs hws hbv hout hbo hLb hB ho hnb hnw hn hfl hfh
    have hrowb : ∀ (W : World), w.heap.size ≤ W.heap.size → (∀ q, q < B → W.heap[q]? = w.heap[q]?) → SpansAt W (.slice ao nb cap) j.st.bs (fun q => q < B) := fun W hs hb => HBS.out.later hs (fun k _ h => hb k h)
    have hroww : ∀ (W : World), w.heap.size ≤ W.heap.size → (∀ q, q < B → W.heap[q]? = w.heap[q]?) → SpansAt W (.slice ao2 nw cap2) j.ws (fun q => q < B) := fun W hs hb => HWS.out.later hs (fun k _ h => hb k h)
    have HRB := Lib.hid hrowb
    have HRW := Lib.hid hroww
    clear hrowb hroww
    go_enter Tryz.func43, Tryz.ntmps43
    go_upto_region 2 with fail
    refine wp_name (fun W => W.heap[w.heap.size]? = some (.cells #[.slice ao nb cap, .int .i64 fl, .int .i64 fh, .slice ao2 nw cap2] 28 (0, 0)) ∧ Below w.heap.size w W) ⟨heap_alloc_at _ _ _ rfl, Below.alloc' _ _⟩ ?_
    rintro w0 ⟨h1, hb⟩
    have HXw0 := Lib.hid h1
    have HBw0 := Lib.hid hb
    clear h1 hb
    have c0 : w0.cell? ⟨w.heap.size, 0, none⟩ = some (.slice ao nb cap) := by rw [cell_of_row _ _ _ _ _ _ HXw0.out]; rfl
    have c1 : w0.cell? ⟨w.heap.size, 1, none⟩ = some (.int .i64 fl) := by rw [cell_of_row _ _ _ _ _ _ HXw0.out]; rfl
    have c2 : w0.cell? ⟨w.heap.size, 2, none⟩ = some (.int .i64 fh) := by rw [cell_of_row _ _ _ _ _ _ HXw0.out]; rfl
    have c3 : w0.cell? ⟨w.heap.size, 3, none⟩ = some (.slice ao2 nw cap2) := by rw [cell_of_row _ _ _ _ _ _ HXw0.out]; rfl
    by_cases hb0 : n = 0
    · have hb0n : ¬ 0 < n := by omega
      have HL0 := Lib.hid (show lastOk j b = true by unfold lastOk; rw [show b = [] from List.length_eq_zero_iff.1 (by rw [← HN.out.2.2]; exact hb0)]; rfl)
      clear hb0
      go_upto_region 4 with fail
      clear hb0n
      have he : ¬ n = nw := by omega
      have he2 : ((n : Int) == (nw : Int)) = false := by rw [beq_eq_false_iff_ne]; omega
      obtain ⟨P, hP⟩ : ∃ P, P = 2 ^ nb := ⟨_, rfl⟩
      have hP256 : P ≤ 256 := by rw [hP]; exact (Nat.pow_le_pow_right (by decide) hnb8 : _ ≤ 2 ^ 8)
      have hP1 : 1 ≤ P := by rw [hP]; exact Nat.two_pow_pos nb
      have HP := Lib.hid hP
      have HBVW := Lib.hid (nums_own HBV.out)
      have hsk : ∀ Y, Keeps (fun q => out.ownBlock = some q) w0 Y → SJ4 w.heap.size (.slice ao nb cap) (.slice ao2 nw cap2) fl fh Y := fun Y hk => by
        have hx := (hk.block _ (lt_of_block HXw0.out) (fun e => by have := (HOUT.out.lt _ e).2; omega)).trans HXw0.out
        exact ⟨by rw [cell_of_row _ _ _ _ _ _ hx]; rfl, by rw [cell_of_row _ _ _ _ _ _ hx]; rfl, by rw [cell_of_row _ _ _ _ _ _ hx]; rfl, by rw [cell_of_row _ _ _ _ _ _ hx]; rfl⟩
      have HSK := Lib.hid hsk
      have hPL := HP.out
      rw [HN.out.1] at hPL
      have HPL := Lib.hid hPL
      clear he hP hsk hPL
      go_wp2_with fail
      clear c0 c1 c2 c3
      go_loopw [2, 8] (fun ov sv wr => ∃ s m : Nat, s = m + 1 ∧ s ≤ P ∧ sv = .int .i64 (s : Int) ∧ OutR wr B ov (L ++ (List.range m).flatMap fun s => plansL j k (b ++ [s + 1])) ∧ Keeps (fun q => out.ownBlock = some q) w0 wr ∧ (ov.ownBlock = out.ownBlock ∨ ∀ q, ov.ownBlock = some q → w0.heap.size ≤ q)) (fun _ sv _ => P - (intOf sv).toNat)
      case atStart => exact ⟨1, 0, rfl, hP1, rfl, by simpa using HOUT.out.below HBw0.out, Keeps.refl _ _, .inl rfl⟩
      case round =>
        obtain ⟨s, m, hsm, hsP, rfl, hov, hkp, how⟩ := hrel
        obtain ⟨ov, hove⟩ : ∃ y, y = u2 := ⟨_, rfl⟩
        rw [← hove] at hov how ⊢
        have HOV := Lib.hid hov
        have HKP := Lib.hid hkp
        have HOW := Lib.hid how
        obtain ⟨c0, c1, c2, c3⟩ := HSK.out _ hkp
        have hsz : w.heap.size ≤ wr.heap.size := Nat.le_trans HBw0.out.size hkp.size
        have HLOW := Lib.hid (show ∀ q, q < B → wr.heap[q]? = w.heap[q]? from fun q h => (hkp.block q (Nat.lt_of_lt_of_le h (Nat.le_trans HBB.out HBw0.out.size)) (fun e => by have := (HOUT.out.lt q e).1; omega)).trans (HBw0.out.block q (Nat.lt_of_lt_of_le h HBB.out)))
        have HBVr := Lib.hid (HBVW.out.later (W := wr) hsz (fun q hq hm => (hkp.block q (Nat.lt_of_lt_of_le hq HBw0.out.size) hm.1).trans (HBw0.out.block q hq)))
        have HSZ := Lib.hid hsz
        have HSM := Lib.hid hsm
        have hs1 : 1 ≤ s := by omega
        clear hov hkp how hsz hove hsm
        by_cases hlt : s < P
        · have hw : IntKind.i64.wrap ((s : Int) + 1) = ((s + 1 : Nat) : Int) := by rw [IntWalk.i64_in _ (by omega)]; omega
          have hlti : (s : Int) < (P : Int) := by omega
          have HSB := Lib.hid (And.intro hs1 hlt)
          have HLM := Lib.hid (show (L ++ (List.range m).flatMap fun s => plansL j k (b ++ [s + 1])).length + 2 ^ (j.st.bs.length * k) ≤ 1000000 from plans_room j k b L m 1000000 (by rw [← HPL.out]; have := HSM.out; omega) HLB.out)
          go_wp2_with fail
          refine (r12power_any nb (by omega) _).mono ?_
          rintro e w' ⟨rfl, rfl⟩
          dsimp only
          rw [← HP.out]
          go_upto_region 9 with fail
          clear c0 c1 c2 c3
          have hsx : ∀ Y, Below wr.heap.size wr Y → SJ4 w.heap.size (.slice ao nb cap) (.slice ao2 nw cap2) fl fh Y := fun Y hb => HSK.out Y (HKP.out.trans (Keeps.of_below hb (fun q h1 h2 => absurd h2 (by omega))))
          have HSX := Lib.hid hsx
          have HBrwr := Lib.hid (Below.refl wr.heap.size wr)
          clear hsx
          refine wp_region_held_drew (S := SJ4 w.heap.size (.slice ao nb cap) (.slice ao2 nw cap2) fl fh) (by kernel_rfl) (HSX.out _ HBrwr.out.drew) fun hS => ?_
          obtain ⟨D, hD⟩ : ∃ D, D = World.drew wr := ⟨_, rfl⟩
          have hAD : Below wr.heap.size wr D := by rw [hD]; exact (Below.refl _ _).drew
          rw [← hD] at hS ⊢
          have HBrD := Lib.hid hAD
          clear hD hAD
          refine wpAnyH_take (i := 0) (v := ?_) rfl (by kernel_rfl) (by kernel_rfl) (by kernel_rfl) (fun _ _ _ h => h) (Or.inl ⟨by rfl, ?_⟩) hS ?_
          rotate_left
          · (intro W hSw; obtain ⟨q0, q1, q2, q3⟩ := hSw; go_simp; try with_reducible rfl)
          try simp only [List.getElem_toArray, List.getElem_cons_succ, List.getElem_cons_zero, Act.put, List.setIfInBounds_toArray, List.set_cons_zero, List.set_cons_succ]
          refine wpAnyH_take (i := 2) (v := ?_) rfl (by kernel_rfl) (by kernel_rfl) (by kernel_rfl) (fun _ _ _ h => h) (Or.inl ⟨by rfl, ?_⟩) hS ?_
          rotate_left
          · (intro W hSw; obtain ⟨q0, q1, q2, q3⟩ := hSw; go_simp; try with_reducible rfl)
          try simp only [List.getElem_toArray, List.getElem_cons_succ, List.getElem_cons_zero, Act.put, List.setIfInBounds_toArray, List.set_cons_zero, List.set_cons_succ]
          refine wpAnyH_take (i := 4) (v := ?_) rfl (by kernel_rfl) (by kernel_rfl) (by kernel_rfl) (fun _ _ _ h => h) (Or.inl ⟨by rfl, ?_⟩) hS ?_
          rotate_left
          · (intro W hSw; obtain ⟨q0, q1, q2, q3⟩ := hSw; go_simp; try with_reducible rfl)
          try simp only [List.getElem_toArray, List.getElem_cons_succ, List.getElem_cons_zero, Act.put, List.setIfInBounds_toArray, List.set_cons_zero, List.set_cons_succ]
          refine wpAnyH_take (i := 7) (v := ?_) rfl (by kernel_rfl) (by kernel_rfl) (by kernel_rfl) (fun _ _ _ h => h) (Or.inl ⟨by rfl, ?_⟩) hS ?_
          rotate_left
          · (intro W hSw; obtain ⟨q0, q1, q2, q3⟩ := hSw; go_simp; try with_reducible rfl)
          try simp only [List.getElem_toArray, List.getElem_cons_succ, List.getElem_cons_zero, Act.put, List.setIfInBounds_toArray, List.set_cons_zero, List.set_cons_succ]
          refine wpAnyH_all (rs := [1, 5]) (by kernel_rfl) (by simp) fun i hi => ?_
          rcases (show i = 1 ∨ i = 5 by simpa using hi) with rfl | rfl <;> clear hi <;> refine wpOp_ofE rfl (by kernel_rfl) ?_
          · skip
            obtain ⟨g1, hg1⟩ : ∃ g, g = D.heap.size := ⟨_, rfl⟩
            refine oper_valueE (v := .slice (some ⟨g1, 0, none⟩) 0 0) (w' := D.alloc (.cells #[] 3)) (by rw [hg1]; simp [execOp, go_sem, Act.eval, Act.put]) ?_
            have hb := Below.alloc' D (.cells #[] 3)
            have hc1 : (D.alloc (.cells #[] 3)).heap[g1]? = some (.cells #[] 3 (0, 0)) := heap_alloc_at _ _ _ hg1
            obtain ⟨Y1, hZ⟩ : ∃ W, W = D.alloc (.cells #[] 3) := ⟨_, rfl⟩
            rw [← hZ] at hb hc1 ⊢
            have HC1 := Lib.hid hc1
            have HG1 := Lib.hid (show wr.heap.size ≤ g1 by rw [hg1]; exact HBrD.out.size)
            try have HNE := Lib.hid (show g1 ≠ g5 by have := lt_of_block HC5.out; omega)
            try have HC5 := Lib.hid ((hb.block _ (lt_of_block HC5.out)).trans HC5.out)
            have HBrY1 := Lib.hid (HBrD.out.trans (hb.mono HBrD.out.size))
            clear hZ hc1 hg1 hb
            have hS9 := HSX.out Y1 HBrY1.out
            refine ⟨hS9, ?_⟩
            clear hS
            have hS := hS9
            clear hS9
            try simp only [List.getElem_toArray, List.getElem_cons_succ, List.getElem_cons_zero, Act.put, List.setIfInBounds_toArray, List.set_cons_zero, List.set_cons_succ]
            refine wpAnyH_all (rs := [3, 5]) (by kernel_rfl) (by simp) fun i hi => ?_
            rcases (show i = 3 ∨ i = 5 by simpa using hi) with rfl | rfl <;> clear hi <;> refine wpOp_ofE rfl (by kernel_rfl) ?_
            · skip
              refine wp_append_fresh (.tmp 41) (.tmp 42) rfl wr.heap.size g1 HC1.out HG1.out rfl (b.map fun s : Nat => (s : Int)) (.slice ao3 n cap3) rfl _ (HBVr.out.later HBrY1.out.size (fun q h _ => HBrY1.out.block q h)) (by rw [List.length_map, ← HN.out.2.2]; omega) ?_
              intro v4 Y2 ho4 hk4
              have hb4 : Below wr.heap.size wr Y2 := HBrY1.out.trans (hk4.below HBrY1.out.size (fun q h e => by have := HG1.out; omega))
              try have HC5 := Lib.hid ((hk4.block g5 (lt_of_block HC5.out) (fun e => by have := HNE.out; omega)).trans HC5.out)
              have HO4 := Lib.hid (show World.ownsRow Y2 wr.heap.size 3 1 v4 n ((b.map fun s : Nat => (s : Int)).map (Value.int .i64)) by rw [HN.out.2.2]; simpa using ho4)
              have HBrY2 := Lib.hid hb4
              clear hb4 hk4 ho4
              have hS9 := HSX.out Y2 HBrY2.out
              refine ⟨hS9, ?_⟩
              clear hS
              have hS := hS9
              clear hS9
              try simp only [List.getElem_toArray, List.getElem_cons_succ, List.getElem_cons_zero, Act.put, List.setIfInBounds_toArray, List.set_cons_zero, List.set_cons_succ]
              refine wpAnyH_all (rs := [5]) (by kernel_rfl) (by simp) fun i hi => ?_
              obtain rfl : i = 5 := by simpa using hi
              clear hi
              refine wpOp_ofE rfl (by kernel_rfl) ?_
              obtain ⟨g5, hg5⟩ : ∃ g, g = Y2.heap.size := ⟨_, rfl⟩
              refine oper_valueE (v := .slice (some ⟨g5, 0, none⟩) 1 1) (w' := Y2.alloc (.cells #[.int .i64 (s : Int)] 3)) (by rw [hg5]; simp [execOp, go_sem, Act.eval, Act.put]) ?_
              have hb := Below.alloc' Y2 (.cells #[.int .i64 (s : Int)] 3)
              have hc5 : (Y2.alloc (.cells #[.int .i64 (s : Int)] 3)).heap[g5]? = some (.cells #[.int .i64 (s : Int)] 3 (0, 0)) := heap_alloc_at _ _ _ hg5
              obtain ⟨Y3, hZ⟩ : ∃ W, W = Y2.alloc (.cells #[.int .i64 (s : Int)] 3) := ⟨_, rfl⟩
              rw [← hZ] at hb hc5 ⊢
              have HC5 := Lib.hid hc5
              try have HNE := Lib.hid (show g1 ≠ g5 by have := lt_of_block HC1.out; omega)
              try have HC1 := Lib.hid ((hb.block _ (lt_of_block HC1.out)).trans HC1.out)
              try have HO4 := Lib.hid (own_below HO4.out hb)
              have HBrY3 := Lib.hid (HBrY2.out.trans (hb.mono HBrY2.out.size))
              clear hZ hc5 hg5 hb
              have hS9 := HSX.out Y3 HBrY3.out
              refine ⟨hS9, ?_⟩
              clear hS
              have hS := hS9
              clear hS9
              try simp only [List.getElem_toArray, List.getElem_cons_succ, List.getElem_cons_zero, Act.put, List.setIfInBounds_toArray, List.set_cons_zero, List.set_cons_succ]
              refine wpAnyH_all (rs := [6]) (by kernel_rfl) (by simp) fun i hi => ?_
              obtain rfl : i = 6 := by simpa using hi
              clear hi
              refine wpOp_ofE rfl (by kernel_rfl) ?_
              refine wp_append_here (.tmp 43) (.tmp 45) 29 rfl wr.heap.size 3 1 8 (.int .i64 0) underInts infoInt rfl (by decide) v4 n ((b.map fun s : Nat => (s : Int)).map (Value.int .i64)) rfl HO4.out ⟨g5, 0, none⟩ 1 1 [.int .i64 (s : Int)] rfl rfl (news_block HC5.out) (by simp [Value.oneCell']) (by omega) (by decide) HBrY3.out.size ?_
              intro v6 Y5 ho6 hg6 _
              have hk6 := keeps_grown hg6
              have hb6 : Below wr.heap.size wr Y5 := HBrY3.out.trans (hk6.below HBrY3.out.size (fun q h e => by have := (HO4.out.lt q e).1; omega))
              have hn6 : NumsAt Y5 v6 ((b ++ [s]).map fun s : Nat => (s : Int)) (fun q => wr.heap.size ≤ q) := nums_of_own (show n + 1 = _ by rw [List.length_map, List.length_append, HN.out.2.2]; rfl) (by rw [List.map_append, List.map_append]; exact ho6)
              have h1c : v6.oneCell' = true := by
                rcases ho6.2 with ⟨h, _⟩ | ⟨_, _, _, h, _⟩ <;> rw [h] <;> rfl
              have HN6 := Lib.hid (And.intro hn6 h1c)
              have HBrY5 := Lib.hid hb6
              clear hb6 hk6 ho6 hg6 hn6 h1c
              have hS9 := HSX.out Y5 HBrY5.out
              refine ⟨hS9, ?_⟩
              clear hS
              have hS := hS9
              clear hS9
              try simp only [List.getElem_toArray, List.getElem_cons_succ, List.getElem_cons_zero, Act.put, List.setIfInBounds_toArray, List.set_cons_zero, List.set_cons_succ]
              have hs5 : w.heap.size ≤ Y5.heap.size := Nat.le_trans HSZ.out HBrY5.out.size
              have hl5 : ∀ q, q < B → Y5.heap[q]? = w.heap[q]? := fun q h => (HBrY5.out.block q (Nat.lt_of_lt_of_le h (Nat.le_trans HBB.out HSZ.out))).trans (HLOW.out q h)
              have hc := IH.out (b ++ [s]) v6 ov (L ++ (List.range m).flatMap fun s => plansL j k (b ++ [s + 1])) Y5 (by rw [List.length_append, ← HN.out.2.2, ← HN.out.2.1]; simp; omega) (fun x hx => by
                rcases List.mem_append.1 hx with hx | hx
                · exact HBO.out x hx
                · rw [List.mem_singleton.1 hx, ← HN.out.1, ← HP.out]
                  exact HSB.out) HLM.out (Nat.le_trans HBB.out hs5) (by have h9 := HRB.out Y5 hs5 hl5; rw [HN.out.1] at h9; exact h9) (by have h9 := HRW.out Y5 hs5 hl5; rw [HN.out.2.1] at h9; exact h9) (HN6.out.1.mono fun q hq e => by have := (HOV.out.lt q e).2; omega) HN6.out.2 (HOV.out.below HBrY5.out)
              rw [← HN.out.1, ← HN.out.2.1, HJV.out] at hc
              refine wpAnyH_call (k := 8) (by kernel_rfl) rfl rfl (f := 43) (args := #[.agg #[.slice ao nb cap, .int .i64 fl, .int .i64 fh, .slice ao2 nw cap2], v6, ov]) (by simp [execOp, go_sem, Act.eval, Act.put]) ?_
              refine hc.mono ?_
              rintro e Y6 ⟨v7, rfl, ho7, hk7, hw7⟩
              clear hc hs5 hl5
              dsimp only
              have hk06 : Keeps (fun q => out.ownBlock = some q) w0 Y6 := by
                refine ⟨hk7.os.trans (HBrY5.out.os.trans HKP.out.os), hk7.tape.trans (HBrY5.out.tape.trans HKP.out.tape), hk7.output.trans (HBrY5.out.output.trans HKP.out.output), Nat.le_trans HKP.out.size (Nat.le_trans HBrY5.out.size hk7.size), fun q hq hm => ?_⟩
                refine (hk7.block q (Nat.lt_of_lt_of_le hq (Nat.le_trans HKP.out.size HBrY5.out.size)) (fun e => ?_)).trans ((HBrY5.out.block q (Nat.lt_of_lt_of_le hq HKP.out.size)).trans (HKP.out.block q hq hm))
                rcases HOW.out with h | h
                · exact hm (by rw [← h]; exact e)
                · have := h q e; omega
              have how7 : v7.ownBlock = out.ownBlock ∨ ∀ q, v7.ownBlock = some q → w0.heap.size ≤ q := by
                rcases hw7 with h | h
                · rw [h]; exact HOW.out
                · exact .inr fun q e => by have := h q e; have := HBrY5.out.size; have := HKP.out.size; omega
              have HK6 := Lib.hid (And.intro hk06 how7)
              have HO7 := Lib.hid ho7
              have hS9 := HSK.out Y6 hk06
              clear hk06 how7 ho7 hk7 hw7
              refine ⟨hS9, ?_⟩
              clear hS
              have hS := hS9
              clear hS9
              try simp only [List.getElem_toArray, List.getElem_cons_succ, List.getElem_cons_zero, Act.put, List.setIfInBounds_toArray, List.set_cons_zero, List.set_cons_succ]
              refine wpAnyH_take (i := 9) (v := ?_) rfl (by kernel_rfl) (by kernel_rfl) (by kernel_rfl) (fun _ _ _ h => h) (Or.inl ⟨by rfl, ?_⟩) hS ?_
              rotate_left
              · (intro W hSw; obtain ⟨q0, q1, q2, q3⟩ := hSw; go_simp; try with_reducible rfl)
              try simp only [List.getElem_toArray, List.getElem_cons_succ, List.getElem_cons_zero, Act.put, List.setIfInBounds_toArray, List.set_cons_zero, List.set_cons_succ]
              refine wpAnyH_done (by kernel_rfl) ?_ _
              try simp only [List.getElem_toArray, List.getElem_cons_succ, List.getElem_cons_zero, Act.put, List.setIfInBounds_toArray, List.set_cons_zero, List.set_cons_succ]
              clear hS
              go_wp2_with fail
              refine ⟨⟨s + 1, m + 1, by rw [HSM.out], hlt, by push_cast; rfl, ?_, HK6.out.1, HK6.out.2⟩, by simp [intOf]; omega⟩
              have h9 := HO7.out
              rw [HSM.out, List.append_assoc] at h9
              rw [List.range_succ, List.flatMap_append, show ([m].flatMap fun s => plansL j k (b ++ [s + 1])) = plansL j k (b ++ [m + 1]) by simp]
              exact h9
            · skip
              obtain ⟨g5, hg5⟩ : ∃ g, g = Y1.heap.size := ⟨_, rfl⟩
              refine oper_valueE (v := .slice (some ⟨g5, 0, none⟩) 1 1) (w' := Y1.alloc (.cells #[.int .i64 (s : Int)] 3)) (by rw [hg5]; simp [execOp, go_sem, Act.eval, Act.put]) ?_
              have hb := Below.alloc' Y1 (.cells #[.int .i64 (s : Int)] 3)
              have hc5 : (Y1.alloc (.cells #[.int .i64 (s : Int)] 3)).heap[g5]? = some (.cells #[.int .i64 (s : Int)] 3 (0, 0)) := heap_alloc_at _ _ _ hg5
              obtain ⟨Y2, hZ⟩ : ∃ W, W = Y1.alloc (.cells #[.int .i64 (s : Int)] 3) := ⟨_, rfl⟩
              rw [← hZ] at hb hc5 ⊢
              have HC5 := Lib.hid hc5
              try have HNE := Lib.hid (show g1 ≠ g5 by have := lt_of_block HC1.out; omega)
              try have HC1 := Lib.hid ((hb.block _ (lt_of_block HC1.out)).trans HC1.out)
              try have HO4 := Lib.hid (own_below HO4.out hb)
              have HBrY2 := Lib.hid (HBrY1.out.trans (hb.mono HBrY1.out.size))
              clear hZ hc5 hg5 hb
              have hS9 := HSX.out Y2 HBrY2.out
              refine ⟨hS9, ?_⟩
              clear hS
              have hS := hS9
              clear hS9
              try simp only [List.getElem_toArray, List.getElem_cons_succ, List.getElem_cons_zero, Act.put, List.setIfInBounds_toArray, List.set_cons_zero, List.set_cons_succ]
              refine wpAnyH_all (rs := [3]) (by kernel_rfl) (by simp) fun i hi => ?_
              obtain rfl : i = 3 := by simpa using hi
              clear hi
              refine wpOp_ofE rfl (by kernel_rfl) ?_
              refine wp_append_fresh (.tmp 41) (.tmp 42) rfl wr.heap.size g1 HC1.out HG1.out rfl (b.map fun s : Nat => (s : Int)) (.slice ao3 n cap3) rfl _ (HBVr.out.later HBrY2.out.size (fun q h _ => HBrY2.out.block q h)) (by rw [List.length_map, ← HN.out.2.2]; omega) ?_
              intro v4 Y3 ho4 hk4
              have hb4 : Below wr.heap.size wr Y3 := HBrY2.out.trans (hk4.below HBrY2.out.size (fun q h e => by have := HG1.out; omega))
              try have HC5 := Lib.hid ((hk4.block g5 (lt_of_block HC5.out) (fun e => by have := HNE.out; omega)).trans HC5.out)
              have HO4 := Lib.hid (show World.ownsRow Y3 wr.heap.size 3 1 v4 n ((b.map fun s : Nat => (s : Int)).map (Value.int .i64)) by rw [HN.out.2.2]; simpa using ho4)
              have HBrY3 := Lib.hid hb4
              clear hb4 hk4 ho4
              have hS9 := HSX.out Y3 HBrY3.out
              refine ⟨hS9, ?_⟩
              clear hS
              have hS := hS9
              clear hS9
              try simp only [List.getElem_toArray, List.getElem_cons_succ, List.getElem_cons_zero, Act.put, List.setIfInBounds_toArray, List.set_cons_zero, List.set_cons_succ]
              refine wpAnyH_all (rs := [6]) (by kernel_rfl) (by simp) fun i hi => ?_
              obtain rfl : i = 6 := by simpa using hi
              clear hi
              refine wpOp_ofE rfl (by kernel_rfl) ?_
              refine wp_append_here (.tmp 43) (.tmp 45) 29 rfl wr.heap.size 3 1 8 (.int .i64 0) underInts infoInt rfl (by decide) v4 n ((b.map fun s : Nat => (s : Int)).map (Value.int .i64)) rfl HO4.out ⟨g5, 0, none⟩ 1 1 [.int .i64 (s : Int)] rfl rfl (news_block HC5.out) (by simp [Value.oneCell']) (by omega) (by decide) HBrY3.out.size ?_
              intro v6 Y5 ho6 hg6 _
              have hk6 := keeps_grown hg6
              have hb6 : Below wr.heap.size wr Y5 := HBrY3.out.trans (hk6.below HBrY3.out.size (fun q h e => by have := (HO4.out.lt q e).1; omega))
              have hn6 : NumsAt Y5 v6 ((b ++ [s]).map fun s : Nat => (s : Int)) (fun q => wr.heap.size ≤ q) := nums_of_own (show n + 1 = _ by rw [List.length_map, List.length_append, HN.out.2.2]; rfl) (by rw [List.map_append, List.map_append]; exact ho6)
              have h1c : v6.oneCell' = true := by
                rcases ho6.2 with ⟨h, _⟩ | ⟨_, _, _, h, _⟩ <;> rw [h] <;> rfl
              have HN6 := Lib.hid (And.intro hn6 h1c)
              have HBrY5 := Lib.hid hb6
              clear hb6 hk6 ho6 hg6 hn6 h1c
              have hS9 := HSX.out Y5 HBrY5.out
              refine ⟨hS9, ?_⟩
              clear hS
              have hS := hS9
              clear hS9
              try simp only [List.getElem_toArray, List.getElem_cons_succ, List.getElem_cons_zero, Act.put, List.setIfInBounds_toArray, List.set_cons_zero, List.set_cons_succ]
              have hs5 : w.heap.size ≤ Y5.heap.size := Nat.le_trans HSZ.out HBrY5.out.size
              have hl5 : ∀ q, q < B → Y5.heap[q]? = w.heap[q]? := fun q h => (HBrY5.out.block q (Nat.lt_of_lt_of_le h (Nat.le_trans HBB.out HSZ.out))).trans (HLOW.out q h)
              have hc := IH.out (b ++ [s]) v6 ov (L ++ (List.range m).flatMap fun s => plansL j k (b ++ [s + 1])) Y5 (by rw [List.length_append, ← HN.out.2.2, ← HN.out.2.1]; simp; omega) (fun x hx => by
                rcases List.mem_append.1 hx with hx | hx
                · exact HBO.out x hx
                · rw [List.mem_singleton.1 hx, ← HN.out.1, ← HP.out]
                  exact HSB.out) HLM.out (Nat.le_trans HBB.out hs5) (by have h9 := HRB.out Y5 hs5 hl5; rw [HN.out.1] at h9; exact h9) (by have h9 := HRW.out Y5 hs5 hl5; rw [HN.out.2.1] at h9; exact h9) (HN6.out.1.mono fun q hq e => by have := (HOV.out.lt q e).2; omega) HN6.out.2 (HOV.out.below HBrY5.out)
              rw [← HN.out.1, ← HN.out.2.1, HJV.out] at hc
              refine wpAnyH_call (k := 8) (by kernel_rfl) rfl rfl (f := 43) (args := #[.agg #[.slice ao nb cap, .int .i64 fl, .int .i64 fh, .slice ao2 nw cap2], v6, ov]) (by simp [execOp, go_sem, Act.eval, Act.put]) ?_
              refine hc.mono ?_
              rintro e Y6 ⟨v7, rfl, ho7, hk7, hw7⟩
              clear hc hs5 hl5
              dsimp only
              have hk06 : Keeps (fun q => out.ownBlock = some q) w0 Y6 := by
                refine ⟨hk7.os.trans (HBrY5.out.os.trans HKP.out.os), hk7.tape.trans (HBrY5.out.tape.trans HKP.out.tape), hk7.output.trans (HBrY5.out.output.trans HKP.out.output), Nat.le_trans HKP.out.size (Nat.le_trans HBrY5.out.size hk7.size), fun q hq hm => ?_⟩
                refine (hk7.block q (Nat.lt_of_lt_of_le hq (Nat.le_trans HKP.out.size HBrY5.out.size)) (fun e => ?_)).trans ((HBrY5.out.block q (Nat.lt_of_lt_of_le hq HKP.out.size)).trans (HKP.out.block q hq hm))
                rcases HOW.out with h | h
                · exact hm (by rw [← h]; exact e)
                · have := h q e; omega
              have how7 : v7.ownBlock = out.ownBlock ∨ ∀ q, v7.ownBlock = some q → w0.heap.size ≤ q := by
                rcases hw7 with h | h
                · rw [h]; exact HOW.out
                · exact .inr fun q e => by have := h q e; have := HBrY5.out.size; have := HKP.out.size; omega
              have HK6 := Lib.hid (And.intro hk06 how7)
              have HO7 := Lib.hid ho7
              have hS9 := HSK.out Y6 hk06
              clear hk06 how7 ho7 hk7 hw7
              refine ⟨hS9, ?_⟩
              clear hS
              have hS := hS9
              clear hS9
              try simp only [List.getElem_toArray, List.getElem_cons_succ, List.getElem_cons_zero, Act.put, List.setIfInBounds_toArray, List.set_cons_zero, List.set_cons_succ]
              refine wpAnyH_take (i := 9) (v := ?_) rfl (by kernel_rfl) (by kernel_rfl) (by kernel_rfl) (fun _ _ _ h => h) (Or.inl ⟨by rfl, ?_⟩) hS ?_
              rotate_left
              · (intro W hSw; obtain ⟨q0, q1, q2, q3⟩ := hSw; go_simp; try with_reducible rfl)
              try simp only [List.getElem_toArray, List.getElem_cons_succ, List.getElem_cons_zero, Act.put, List.setIfInBounds_toArray, List.set_cons_zero, List.set_cons_succ]
              refine wpAnyH_done (by kernel_rfl) ?_ _
              try simp only [List.getElem_toArray, List.getElem_cons_succ, List.getElem_cons_zero, Act.put, List.setIfInBounds_toArray, List.set_cons_zero, List.set_cons_succ]
              clear hS
              go_wp2_with fail
              refine ⟨⟨s + 1, m + 1, by rw [HSM.out], hlt, by push_cast; rfl, ?_, HK6.out.1, HK6.out.2⟩, by simp [intOf]; omega⟩
              have h9 := HO7.out
              rw [HSM.out, List.append_assoc] at h9
              rw [List.range_succ, List.flatMap_append, show ([m].flatMap fun s => plansL j k (b ++ [s + 1])) = plansL j k (b ++ [m + 1]) by simp]
              exact h9
          · skip
            obtain ⟨g5, hg5⟩ : ∃ g, g = D.heap.size := ⟨_, rfl⟩
            refine oper_valueE (v := .slice (some ⟨g5, 0, none⟩) 1 1) (w' := D.alloc (.cells #[.int .i64 (s : Int)] 3)) (by rw [hg5]; simp [execOp, go_sem, Act.eval, Act.put]) ?_
            have hb := Below.alloc' D (.cells #[.int .i64 (s : Int)] 3)
            have hc5 : (D.alloc (.cells #[.int .i64 (s : Int)] 3)).heap[g5]? = some (.cells #[.int .i64 (s : Int)] 3 (0, 0)) := heap_alloc_at _ _ _ hg5
            obtain ⟨Y1, hZ⟩ : ∃ W, W = D.alloc (.cells #[.int .i64 (s : Int)] 3) := ⟨_, rfl⟩
            rw [← hZ] at hb hc5 ⊢
            have HC5 := Lib.hid hc5
            try have HNE := Lib.hid (show g1 ≠ g5 by have := lt_of_block HC1.out; omega)
            try have HC1 := Lib.hid ((hb.block _ (lt_of_block HC1.out)).trans HC1.out)
            try have HO4 := Lib.hid (own_below HO4.out hb)
            have HBrY1 := Lib.hid (HBrD.out.trans (hb.mono HBrD.out.size))
            clear hZ hc5 hg5 hb
            have hS9 := HSX.out Y1 HBrY1.out
            refine ⟨hS9, ?_⟩
            clear hS
            have hS := hS9
            clear hS9
            try simp only [List.getElem_toArray, List.getElem_cons_succ, List.getElem_cons_zero, Act.put, List.setIfInBounds_toArray, List.set_cons_zero, List.set_cons_succ]
            refine wpAnyH_all (rs := [1]) (by kernel_rfl) (by simp) fun i hi => ?_
            obtain rfl : i = 1 := by simpa using hi
            clear hi
            refine wpOp_ofE rfl (by kernel_rfl) ?_
            obtain ⟨g1, hg1⟩ : ∃ g, g = Y1.heap.size := ⟨_, rfl⟩
            refine oper_valueE (v := .slice (some ⟨g1, 0, none⟩) 0 0) (w' := Y1.alloc (.cells #[] 3)) (by rw [hg1]; simp [execOp, go_sem, Act.eval, Act.put]) ?_
            have hb := Below.alloc' Y1 (.cells #[] 3)
            have hc1 : (Y1.alloc (.cells #[] 3)).heap[g1]? = some (.cells #[] 3 (0, 0)) := heap_alloc_at _ _ _ hg1
            obtain ⟨Y2, hZ⟩ : ∃ W, W = Y1.alloc (.cells #[] 3) := ⟨_, rfl⟩
            rw [← hZ] at hb hc1 ⊢
            have HC1 := Lib.hid hc1
            have HG1 := Lib.hid (show wr.heap.size ≤ g1 by rw [hg1]; exact HBrY1.out.size)
            try have HNE := Lib.hid (show g1 ≠ g5 by have := lt_of_block HC5.out; omega)
            try have HC5 := Lib.hid ((hb.block _ (lt_of_block HC5.out)).trans HC5.out)
            have HBrY2 := Lib.hid (HBrY1.out.trans (hb.mono HBrY1.out.size))
            clear hZ hc1 hg1 hb
            have hS9 := HSX.out Y2 HBrY2.out
            refine ⟨hS9, ?_⟩
            clear hS
            have hS := hS9
            clear hS9
            try simp only [List.getElem_toArray, List.getElem_cons_succ, List.getElem_cons_zero, Act.put, List.setIfInBounds_toArray, List.set_cons_zero, List.set_cons_succ]
            refine wpAnyH_all (rs := [3]) (by kernel_rfl) (by simp) fun i hi => ?_
            obtain rfl : i = 3 := by simpa using hi
            clear hi
            refine wpOp_ofE rfl (by kernel_rfl) ?_
            refine wp_append_fresh (.tmp 41) (.tmp 42) rfl wr.heap.size g1 HC1.out HG1.out rfl (b.map fun s : Nat => (s : Int)) (.slice ao3 n cap3) rfl _ (HBVr.out.later HBrY2.out.size (fun q h _ => HBrY2.out.block q h)) (by rw [List.length_map, ← HN.out.2.2]; omega) ?_
            intro v4 Y3 ho4 hk4
            have hb4 : Below wr.heap.size wr Y3 := HBrY2.out.trans (hk4.below HBrY2.out.size (fun q h e => by have := HG1.out; omega))
            try have HC5 := Lib.hid ((hk4.block g5 (lt_of_block HC5.out) (fun e => by have := HNE.out; omega)).trans HC5.out)
            have HO4 := Lib.hid (show World.ownsRow Y3 wr.heap.size 3 1 v4 n ((b.map fun s : Nat => (s : Int)).map (Value.int .i64)) by rw [HN.out.2.2]; simpa using ho4)
            have HBrY3 := Lib.hid hb4
            clear hb4 hk4 ho4
            have hS9 := HSX.out Y3 HBrY3.out
            refine ⟨hS9, ?_⟩
            clear hS
            have hS := hS9
            clear hS9
            try simp only [List.getElem_toArray, List.getElem_cons_succ, List.getElem_cons_zero, Act.put, List.setIfInBounds_toArray, List.set_cons_zero, List.set_cons_succ]
            refine wpAnyH_all (rs := [6]) (by kernel_rfl) (by simp) fun i hi => ?_
            obtain rfl : i = 6 := by simpa using hi
            clear hi
            refine wpOp_ofE rfl (by kernel_rfl) ?_
            refine wp_append_here (.tmp 43) (.tmp 45) 29 rfl wr.heap.size 3 1 8 (.int .i64 0) underInts infoInt rfl (by decide) v4 n ((b.map fun s : Nat => (s : Int)).map (Value.int .i64)) rfl HO4.out ⟨g5, 0, none⟩ 1 1 [.int .i64 (s : Int)] rfl rfl (news_block HC5.out) (by simp [Value.oneCell']) (by omega) (by decide) HBrY3.out.size ?_
            intro v6 Y5 ho6 hg6 _
            have hk6 := keeps_grown hg6
            have hb6 : Below wr.heap.size wr Y5 := HBrY3.out.trans (hk6.below HBrY3.out.size (fun q h e => by have := (HO4.out.lt q e).1; omega))
            have hn6 : NumsAt Y5 v6 ((b ++ [s]).map fun s : Nat => (s : Int)) (fun q => wr.heap.size ≤ q) := nums_of_own (show n + 1 = _ by rw [List.length_map, List.length_append, HN.out.2.2]; rfl) (by rw [List.map_append, List.map_append]; exact ho6)
            have h1c : v6.oneCell' = true := by
              rcases ho6.2 with ⟨h, _⟩ | ⟨_, _, _, h, _⟩ <;> rw [h] <;> rfl
            have HN6 := Lib.hid (And.intro hn6 h1c)
            have HBrY5 := Lib.hid hb6
            clear hb6 hk6 ho6 hg6 hn6 h1c
            have hS9 := HSX.out Y5 HBrY5.out
            refine ⟨hS9, ?_⟩
            clear hS
            have hS := hS9
            clear hS9
            try simp only [List.getElem_toArray, List.getElem_cons_succ, List.getElem_cons_zero, Act.put, List.setIfInBounds_toArray, List.set_cons_zero, List.set_cons_succ]
            have hs5 : w.heap.size ≤ Y5.heap.size := Nat.le_trans HSZ.out HBrY5.out.size
            have hl5 : ∀ q, q < B → Y5.heap[q]? = w.heap[q]? := fun q h => (HBrY5.out.block q (Nat.lt_of_lt_of_le h (Nat.le_trans HBB.out HSZ.out))).trans (HLOW.out q h)
            have hc := IH.out (b ++ [s]) v6 ov (L ++ (List.range m).flatMap fun s => plansL j k (b ++ [s + 1])) Y5 (by rw [List.length_append, ← HN.out.2.2, ← HN.out.2.1]; simp; omega) (fun x hx => by
              rcases List.mem_append.1 hx with hx | hx
              · exact HBO.out x hx
              · rw [List.mem_singleton.1 hx, ← HN.out.1, ← HP.out]
                exact HSB.out) HLM.out (Nat.le_trans HBB.out hs5) (by have h9 := HRB.out Y5 hs5 hl5; rw [HN.out.1] at h9; exact h9) (by have h9 := HRW.out Y5 hs5 hl5; rw [HN.out.2.1] at h9; exact h9) (HN6.out.1.mono fun q hq e => by have := (HOV.out.lt q e).2; omega) HN6.out.2 (HOV.out.below HBrY5.out)
            rw [← HN.out.1, ← HN.out.2.1, HJV.out] at hc
            refine wpAnyH_call (k := 8) (by kernel_rfl) rfl rfl (f := 43) (args := #[.agg #[.slice ao nb cap, .int .i64 fl, .int .i64 fh, .slice ao2 nw cap2], v6, ov]) (by simp [execOp, go_sem, Act.eval, Act.put]) ?_
            refine hc.mono ?_
            rintro e Y6 ⟨v7, rfl, ho7, hk7, hw7⟩
            clear hc hs5 hl5
            dsimp only
            have hk06 : Keeps (fun q => out.ownBlock = some q) w0 Y6 := by
              refine ⟨hk7.os.trans (HBrY5.out.os.trans HKP.out.os), hk7.tape.trans (HBrY5.out.tape.trans HKP.out.tape), hk7.output.trans (HBrY5.out.output.trans HKP.out.output), Nat.le_trans HKP.out.size (Nat.le_trans HBrY5.out.size hk7.size), fun q hq hm => ?_⟩
              refine (hk7.block q (Nat.lt_of_lt_of_le hq (Nat.le_trans HKP.out.size HBrY5.out.size)) (fun e => ?_)).trans ((HBrY5.out.block q (Nat.lt_of_lt_of_le hq HKP.out.size)).trans (HKP.out.block q hq hm))
              rcases HOW.out with h | h
              · exact hm (by rw [← h]; exact e)
              · have := h q e; omega
            have how7 : v7.ownBlock = out.ownBlock ∨ ∀ q, v7.ownBlock = some q → w0.heap.size ≤ q := by
              rcases hw7 with h | h
              · rw [h]; exact HOW.out
              · exact .inr fun q e => by have := h q e; have := HBrY5.out.size; have := HKP.out.size; omega
            have HK6 := Lib.hid (And.intro hk06 how7)
            have HO7 := Lib.hid ho7
            have hS9 := HSK.out Y6 hk06
            clear hk06 how7 ho7 hk7 hw7
            refine ⟨hS9, ?_⟩
            clear hS
            have hS := hS9
            clear hS9
            try simp only [List.getElem_toArray, List.getElem_cons_succ, List.getElem_cons_zero, Act.put, List.setIfInBounds_toArray, List.set_cons_zero, List.set_cons_succ]
            refine wpAnyH_take (i := 9) (v := ?_) rfl (by kernel_rfl) (by kernel_rfl) (by kernel_rfl) (fun _ _ _ h => h) (Or.inl ⟨by rfl, ?_⟩) hS ?_
            rotate_left
            · (intro W hSw; obtain ⟨q0, q1, q2, q3⟩ := hSw; go_simp; try with_reducible rfl)
            try simp only [List.getElem_toArray, List.getElem_cons_succ, List.getElem_cons_zero, Act.put, List.setIfInBounds_toArray, List.set_cons_zero, List.set_cons_succ]
            refine wpAnyH_done (by kernel_rfl) ?_ _
            try simp only [List.getElem_toArray, List.getElem_cons_succ, List.getElem_cons_zero, Act.put, List.setIfInBounds_toArray, List.set_cons_zero, List.set_cons_succ]
            clear hS
            go_wp2_with fail
            refine ⟨⟨s + 1, m + 1, by rw [HSM.out], hlt, by push_cast; rfl, ?_, HK6.out.1, HK6.out.2⟩, by simp [intOf]; omega⟩
            have h9 := HO7.out
            rw [HSM.out, List.append_assoc] at h9
            rw [List.range_succ, List.flatMap_append, show ([m].flatMap fun s => plansL j k (b ++ [s + 1])) = plansL j k (b ++ [m + 1]) by simp]
            exact h9
        · have hsP2 : s = P := by omega
          have hlti : ¬ (s : Int) < (P : Int) := by omega
          have HRES := Lib.hid (show OutR wr B ov (L ++ plansL j (k + 1) b) by
            rw [plansL, HL0.out, if_pos rfl, ← HPL.out, ← hsP2, HSM.out, Nat.add_sub_cancel]
            exact HOV.out)
          go_wp2_with fail
          refine (r12power_any nb (by omega) _).mono ?_
          rintro e w' ⟨rfl, rfl⟩
          dsimp only
          rw [← HP.out]
          clear hlt hsP2
          go_wp2_with fail
          go_ret
          refine ⟨ov, rfl, HRES.out, ?_, HOW.out.imp id fun h q e => Nat.le_trans HBw0.out.size (h q e)⟩
          exact (Keeps.of_below HBw0.out (fun q h1 h2 => absurd h2 (by omega))).trans HKP.out
    · have hb0n : 0 < n := by omega
      have hwm : IntKind.i64.wrap ((n : Int) - 1) = ((n - 1 : Nat) : Int) := by rw [IntWalk.i64_in _ (by omega)]; omega
      have HB0 := Lib.hid hb0
      clear hb0
      go_wp2_with fail
      have hc := r12broken_any j HV.out b HBO.out (n - 1) (by rw [← HN.out.2.2]; omega) (by rw [← HN.out.2.1]; omega) (.slice ao nb cap) (.slice ao2 nw cap2) (.slice ao3 n cap3) w0 (HRB.out w0 HBw0.out.size (fun q h => HBw0.out.block q (Nat.lt_of_lt_of_le h HBB.out))).low (HRW.out w0 HBw0.out.size (fun q h => HBw0.out.block q (Nat.lt_of_lt_of_le h HBB.out))).low (HBV.out.later HBw0.out.size (fun k h _ => HBw0.out.block k h)).lowE
      have hlo := last_one j b (by rw [← HN.out.2.2]; exact HB0.out)
      rw [← HN.out.2.2] at hlo
      obtain ⟨br, hbr⟩ : ∃ y, y = brokenL j b (n - 1) := ⟨_, rfl⟩
      rw [← hbr] at hc hlo
      rw [HJV.out] at hc
      refine hc.mono ?_
      rintro e w1 ⟨rfl, hb⟩
      clear hc hbr c0 c1 c2 c3
      dsimp only
      have HXw1 := Lib.hid ((hb.block _ (lt_of_block HXw0.out)).trans HXw0.out)
      have HBw1 := Lib.hid (HBw0.out.trans (hb.mono HBw0.out.size))
      clear hb hwm
      have c0 : w1.cell? ⟨w.heap.size, 0, none⟩ = some (.slice ao nb cap) := by rw [cell_of_row _ _ _ _ _ _ HXw1.out]; rfl
      have c1 : w1.cell? ⟨w.heap.size, 1, none⟩ = some (.int .i64 fl) := by rw [cell_of_row _ _ _ _ _ _ HXw1.out]; rfl
      have c2 : w1.cell? ⟨w.heap.size, 2, none⟩ = some (.int .i64 fh) := by rw [cell_of_row _ _ _ _ _ _ HXw1.out]; rfl
      have c3 : w1.cell? ⟨w.heap.size, 3, none⟩ = some (.slice ao2 nw cap2) := by rw [cell_of_row _ _ _ _ _ _ HXw1.out]; rfl
      by_cases hz : br = 0
      · rw [hz] at hlo
        subst hz
        have HL0 := Lib.hid (show lastOk j b = true from hlo)
        clear hlo
        go_upto_region 4 with fail
        clear hb0n
        have he : ¬ n = nw := by omega
        have he2 : ((n : Int) == (nw : Int)) = false := by rw [beq_eq_false_iff_ne]; omega
        obtain ⟨P, hP⟩ : ∃ P, P = 2 ^ nb := ⟨_, rfl⟩
        have hP256 : P ≤ 256 := by rw [hP]; exact (Nat.pow_le_pow_right (by decide) hnb8 : _ ≤ 2 ^ 8)
        have hP1 : 1 ≤ P := by rw [hP]; exact Nat.two_pow_pos nb
        have HP := Lib.hid hP
        have HBVW := Lib.hid (nums_own HBV.out)
        have hsk : ∀ Y, Keeps (fun q => out.ownBlock = some q) w1 Y → SJ4 w.heap.size (.slice ao nb cap) (.slice ao2 nw cap2) fl fh Y := fun Y hk => by
          have hx := (hk.block _ (lt_of_block HXw1.out) (fun e => by have := (HOUT.out.lt _ e).2; omega)).trans HXw1.out
          exact ⟨by rw [cell_of_row _ _ _ _ _ _ hx]; rfl, by rw [cell_of_row _ _ _ _ _ _ hx]; rfl, by rw [cell_of_row _ _ _ _ _ _ hx]; rfl, by rw [cell_of_row _ _ _ _ _ _ hx]; rfl⟩
        have HSK := Lib.hid hsk
        have hPL := HP.out
        rw [HN.out.1] at hPL
        have HPL := Lib.hid hPL
        clear he hP hsk hPL
        go_wp2_with fail
        clear c0 c1 c2 c3
        go_loopw [2, 8] (fun ov sv wr => ∃ s m : Nat, s = m + 1 ∧ s ≤ P ∧ sv = .int .i64 (s : Int) ∧ OutR wr B ov (L ++ (List.range m).flatMap fun s => plansL j k (b ++ [s + 1])) ∧ Keeps (fun q => out.ownBlock = some q) w1 wr ∧ (ov.ownBlock = out.ownBlock ∨ ∀ q, ov.ownBlock = some q → w1.heap.size ≤ q)) (fun _ sv _ => P - (intOf sv).toNat)
        case atStart => exact ⟨1, 0, rfl, hP1, rfl, by simpa using HOUT.out.below HBw1.out, Keeps.refl _ _, .inl rfl⟩
        case round =>
          obtain ⟨s, m, hsm, hsP, rfl, hov, hkp, how⟩ := hrel
          obtain ⟨ov, hove⟩ : ∃ y, y = u2 := ⟨_, rfl⟩
          rw [← hove] at hov how ⊢
          have HOV := Lib.hid hov
          have HKP := Lib.hid hkp
          have HOW := Lib.hid how
          obtain ⟨c0, c1, c2, c3⟩ := HSK.out _ hkp
          have hsz : w.heap.size ≤ wr.heap.size := Nat.le_trans HBw1.out.size hkp.size
          have HLOW := Lib.hid (show ∀ q, q < B → wr.heap[q]? = w.heap[q]? from fun q h => (hkp.block q (Nat.lt_of_lt_of_le h (Nat.le_trans HBB.out HBw1.out.size)) (fun e => by have := (HOUT.out.lt q e).1; omega)).trans (HBw1.out.block q (Nat.lt_of_lt_of_le h HBB.out)))
          have HBVr := Lib.hid (HBVW.out.later (W := wr) hsz (fun q hq hm => (hkp.block q (Nat.lt_of_lt_of_le hq HBw1.out.size) hm.1).trans (HBw1.out.block q hq)))
          have HSZ := Lib.hid hsz
          have HSM := Lib.hid hsm
          have hs1 : 1 ≤ s := by omega
          clear hov hkp how hsz hove hsm
          by_cases hlt : s < P
          · have hw : IntKind.i64.wrap ((s : Int) + 1) = ((s + 1 : Nat) : Int) := by rw [IntWalk.i64_in _ (by omega)]; omega
            have hlti : (s : Int) < (P : Int) := by omega
            have HSB := Lib.hid (And.intro hs1 hlt)
            have HLM := Lib.hid (show (L ++ (List.range m).flatMap fun s => plansL j k (b ++ [s + 1])).length + 2 ^ (j.st.bs.length * k) ≤ 1000000 from plans_room j k b L m 1000000 (by rw [← HPL.out]; have := HSM.out; omega) HLB.out)
            go_wp2_with fail
            refine (r12power_any nb (by omega) _).mono ?_
            rintro e w' ⟨rfl, rfl⟩
            dsimp only
            rw [← HP.out]
            go_upto_region 9 with fail
            clear c0 c1 c2 c3
            have hsx : ∀ Y, Below wr.heap.size wr Y → SJ4 w.heap.size (.slice ao nb cap) (.slice ao2 nw cap2) fl fh Y := fun Y hb => HSK.out Y (HKP.out.trans (Keeps.of_below hb (fun q h1 h2 => absurd h2 (by omega))))
            have HSX := Lib.hid hsx
            have HBrwr := Lib.hid (Below.refl wr.heap.size wr)
            clear hsx
            refine wp_region_held_drew (S := SJ4 w.heap.size (.slice ao nb cap) (.slice ao2 nw cap2) fl fh) (by kernel_rfl) (HSX.out _ HBrwr.out.drew) fun hS => ?_
            obtain ⟨D, hD⟩ : ∃ D, D = World.drew wr := ⟨_, rfl⟩
            have hAD : Below wr.heap.size wr D := by rw [hD]; exact (Below.refl _ _).drew
            rw [← hD] at hS ⊢
            have HBrD := Lib.hid hAD
            clear hD hAD
            refine wpAnyH_take (i := 0) (v := ?_) rfl (by kernel_rfl) (by kernel_rfl) (by kernel_rfl) (fun _ _ _ h => h) (Or.inl ⟨by rfl, ?_⟩) hS ?_
            rotate_left
            · (intro W hSw; obtain ⟨q0, q1, q2, q3⟩ := hSw; go_simp; try with_reducible rfl)
            try simp only [List.getElem_toArray, List.getElem_cons_succ, List.getElem_cons_zero, Act.put, List.setIfInBounds_toArray, List.set_cons_zero, List.set_cons_succ]
            refine wpAnyH_take (i := 2) (v := ?_) rfl (by kernel_rfl) (by kernel_rfl) (by kernel_rfl) (fun _ _ _ h => h) (Or.inl ⟨by rfl, ?_⟩) hS ?_
            rotate_left
            · (intro W hSw; obtain ⟨q0, q1, q2, q3⟩ := hSw; go_simp; try with_reducible rfl)
            try simp only [List.getElem_toArray, List.getElem_cons_succ, List.getElem_cons_zero, Act.put, List.setIfInBounds_toArray, List.set_cons_zero, List.set_cons_succ]
            refine wpAnyH_take (i := 4) (v := ?_) rfl (by kernel_rfl) (by kernel_rfl) (by kernel_rfl) (fun _ _ _ h => h) (Or.inl ⟨by rfl, ?_⟩) hS ?_
            rotate_left
            · (intro W hSw; obtain ⟨q0, q1, q2, q3⟩ := hSw; go_simp; try with_reducible rfl)
            try simp only [List.getElem_toArray, List.getElem_cons_succ, List.getElem_cons_zero, Act.put, List.setIfInBounds_toArray, List.set_cons_zero, List.set_cons_succ]
            refine wpAnyH_take (i := 7) (v := ?_) rfl (by kernel_rfl) (by kernel_rfl) (by kernel_rfl) (fun _ _ _ h => h) (Or.inl ⟨by rfl, ?_⟩) hS ?_
            rotate_left
            · (intro W hSw; obtain ⟨q0, q1, q2, q3⟩ := hSw; go_simp; try with_reducible rfl)
            try simp only [List.getElem_toArray, List.getElem_cons_succ, List.getElem_cons_zero, Act.put, List.setIfInBounds_toArray, List.set_cons_zero, List.set_cons_succ]
            refine wpAnyH_all (rs := [1, 5]) (by kernel_rfl) (by simp) fun i hi => ?_
            rcases (show i = 1 ∨ i = 5 by simpa using hi) with rfl | rfl <;> clear hi <;> refine wpOp_ofE rfl (by kernel_rfl) ?_
            · skip
              obtain ⟨g1, hg1⟩ : ∃ g, g = D.heap.size := ⟨_, rfl⟩
              refine oper_valueE (v := .slice (some ⟨g1, 0, none⟩) 0 0) (w' := D.alloc (.cells #[] 3)) (by rw [hg1]; simp [execOp, go_sem, Act.eval, Act.put]) ?_
              have hb := Below.alloc' D (.cells #[] 3)
              have hc1 : (D.alloc (.cells #[] 3)).heap[g1]? = some (.cells #[] 3 (0, 0)) := heap_alloc_at _ _ _ hg1
              obtain ⟨Y1, hZ⟩ : ∃ W, W = D.alloc (.cells #[] 3) := ⟨_, rfl⟩
              rw [← hZ] at hb hc1 ⊢
              have HC1 := Lib.hid hc1
              have HG1 := Lib.hid (show wr.heap.size ≤ g1 by rw [hg1]; exact HBrD.out.size)
              try have HNE := Lib.hid (show g1 ≠ g5 by have := lt_of_block HC5.out; omega)
              try have HC5 := Lib.hid ((hb.block _ (lt_of_block HC5.out)).trans HC5.out)
              have HBrY1 := Lib.hid (HBrD.out.trans (hb.mono HBrD.out.size))
              clear hZ hc1 hg1 hb
              have hS9 := HSX.out Y1 HBrY1.out
              refine ⟨hS9, ?_⟩
              clear hS
              have hS := hS9
              clear hS9
              try simp only [List.getElem_toArray, List.getElem_cons_succ, List.getElem_cons_zero, Act.put, List.setIfInBounds_toArray, List.set_cons_zero, List.set_cons_succ]
              refine wpAnyH_all (rs := [3, 5]) (by kernel_rfl) (by simp) fun i hi => ?_
              rcases (show i = 3 ∨ i = 5 by simpa using hi) with rfl | rfl <;> clear hi <;> refine wpOp_ofE rfl (by kernel_rfl) ?_
              · skip
                refine wp_append_fresh (.tmp 41) (.tmp 42) rfl wr.heap.size g1 HC1.out HG1.out rfl (b.map fun s : Nat => (s : Int)) (.slice ao3 n cap3) rfl _ (HBVr.out.later HBrY1.out.size (fun q h _ => HBrY1.out.block q h)) (by rw [List.length_map, ← HN.out.2.2]; omega) ?_
                intro v4 Y2 ho4 hk4
                have hb4 : Below wr.heap.size wr Y2 := HBrY1.out.trans (hk4.below HBrY1.out.size (fun q h e => by have := HG1.out; omega))
                try have HC5 := Lib.hid ((hk4.block g5 (lt_of_block HC5.out) (fun e => by have := HNE.out; omega)).trans HC5.out)
                have HO4 := Lib.hid (show World.ownsRow Y2 wr.heap.size 3 1 v4 n ((b.map fun s : Nat => (s : Int)).map (Value.int .i64)) by rw [HN.out.2.2]; simpa using ho4)
                have HBrY2 := Lib.hid hb4
                clear hb4 hk4 ho4
                have hS9 := HSX.out Y2 HBrY2.out
                refine ⟨hS9, ?_⟩
                clear hS
                have hS := hS9
                clear hS9
                try simp only [List.getElem_toArray, List.getElem_cons_succ, List.getElem_cons_zero, Act.put, List.setIfInBounds_toArray, List.set_cons_zero, List.set_cons_succ]
                refine wpAnyH_all (rs := [5]) (by kernel_rfl) (by simp) fun i hi => ?_
                obtain rfl : i = 5 := by simpa using hi
                clear hi
                refine wpOp_ofE rfl (by kernel_rfl) ?_
                obtain ⟨g5, hg5⟩ : ∃ g, g = Y2.heap.size := ⟨_, rfl⟩
                refine oper_valueE (v := .slice (some ⟨g5, 0, none⟩) 1 1) (w' := Y2.alloc (.cells #[.int .i64 (s : Int)] 3)) (by rw [hg5]; simp [execOp, go_sem, Act.eval, Act.put]) ?_
                have hb := Below.alloc' Y2 (.cells #[.int .i64 (s : Int)] 3)
                have hc5 : (Y2.alloc (.cells #[.int .i64 (s : Int)] 3)).heap[g5]? = some (.cells #[.int .i64 (s : Int)] 3 (0, 0)) := heap_alloc_at _ _ _ hg5
                obtain ⟨Y3, hZ⟩ : ∃ W, W = Y2.alloc (.cells #[.int .i64 (s : Int)] 3) := ⟨_, rfl⟩
                rw [← hZ] at hb hc5 ⊢
                have HC5 := Lib.hid hc5
                try have HNE := Lib.hid (show g1 ≠ g5 by have := lt_of_block HC1.out; omega)
                try have HC1 := Lib.hid ((hb.block _ (lt_of_block HC1.out)).trans HC1.out)
                try have HO4 := Lib.hid (own_below HO4.out hb)
                have HBrY3 := Lib.hid (HBrY2.out.trans (hb.mono HBrY2.out.size))
                clear hZ hc5 hg5 hb
                have hS9 := HSX.out Y3 HBrY3.out
                refine ⟨hS9, ?_⟩
                clear hS
                have hS := hS9
                clear hS9
                try simp only [List.getElem_toArray, List.getElem_cons_succ, List.getElem_cons_zero, Act.put, List.setIfInBounds_toArray, List.set_cons_zero, List.set_cons_succ]
                refine wpAnyH_all (rs := [6]) (by kernel_rfl) (by simp) fun i hi => ?_
                obtain rfl : i = 6 := by simpa using hi
                clear hi
                refine wpOp_ofE rfl (by kernel_rfl) ?_
                refine wp_append_here (.tmp 43) (.tmp 45) 29 rfl wr.heap.size 3 1 8 (.int .i64 0) underInts infoInt rfl (by decide) v4 n ((b.map fun s : Nat => (s : Int)).map (Value.int .i64)) rfl HO4.out ⟨g5, 0, none⟩ 1 1 [.int .i64 (s : Int)] rfl rfl (news_block HC5.out) (by simp [Value.oneCell']) (by omega) (by decide) HBrY3.out.size ?_
                intro v6 Y5 ho6 hg6 _
                have hk6 := keeps_grown hg6
                have hb6 : Below wr.heap.size wr Y5 := HBrY3.out.trans (hk6.below HBrY3.out.size (fun q h e => by have := (HO4.out.lt q e).1; omega))
                have hn6 : NumsAt Y5 v6 ((b ++ [s]).map fun s : Nat => (s : Int)) (fun q => wr.heap.size ≤ q) := nums_of_own (show n + 1 = _ by rw [List.length_map, List.length_append, HN.out.2.2]; rfl) (by rw [List.map_append, List.map_append]; exact ho6)
                have h1c : v6.oneCell' = true := by
                  rcases ho6.2 with ⟨h, _⟩ | ⟨_, _, _, h, _⟩ <;> rw [h] <;> rfl
                have HN6 := Lib.hid (And.intro hn6 h1c)
                have HBrY5 := Lib.hid hb6
                clear hb6 hk6 ho6 hg6 hn6 h1c
                have hS9 := HSX.out Y5 HBrY5.out
                refine ⟨hS9, ?_⟩
                clear hS
                have hS := hS9
                clear hS9
                try simp only [List.getElem_toArray, List.getElem_cons_succ, List.getElem_cons_zero, Act.put, List.setIfInBounds_toArray, List.set_cons_zero, List.set_cons_succ]
                have hs5 : w.heap.size ≤ Y5.heap.size := Nat.le_trans HSZ.out HBrY5.out.size
                have hl5 : ∀ q, q < B → Y5.heap[q]? = w.heap[q]? := fun q h => (HBrY5.out.block q (Nat.lt_of_lt_of_le h (Nat.le_trans HBB.out HSZ.out))).trans (HLOW.out q h)
                have hc := IH.out (b ++ [s]) v6 ov (L ++ (List.range m).flatMap fun s => plansL j k (b ++ [s + 1])) Y5 (by rw [List.length_append, ← HN.out.2.2, ← HN.out.2.1]; simp; omega) (fun x hx => by
                  rcases List.mem_append.1 hx with hx | hx
                  · exact HBO.out x hx
                  · rw [List.mem_singleton.1 hx, ← HN.out.1, ← HP.out]
                    exact HSB.out) HLM.out (Nat.le_trans HBB.out hs5) (by have h9 := HRB.out Y5 hs5 hl5; rw [HN.out.1] at h9; exact h9) (by have h9 := HRW.out Y5 hs5 hl5; rw [HN.out.2.1] at h9; exact h9) (HN6.out.1.mono fun q hq e => by have := (HOV.out.lt q e).2; omega) HN6.out.2 (HOV.out.below HBrY5.out)
                rw [← HN.out.1, ← HN.out.2.1, HJV.out] at hc
                refine wpAnyH_call (k := 8) (by kernel_rfl) rfl rfl (f := 43) (args := #[.agg #[.slice ao nb cap, .int .i64 fl, .int .i64 fh, .slice ao2 nw cap2], v6, ov]) (by simp [execOp, go_sem, Act.eval, Act.put]) ?_
                refine hc.mono ?_
                rintro e Y6 ⟨v7, rfl, ho7, hk7, hw7⟩
                clear hc hs5 hl5
                dsimp only
                have hk06 : Keeps (fun q => out.ownBlock = some q) w1 Y6 := by
                  refine ⟨hk7.os.trans (HBrY5.out.os.trans HKP.out.os), hk7.tape.trans (HBrY5.out.tape.trans HKP.out.tape), hk7.output.trans (HBrY5.out.output.trans HKP.out.output), Nat.le_trans HKP.out.size (Nat.le_trans HBrY5.out.size hk7.size), fun q hq hm => ?_⟩
                  refine (hk7.block q (Nat.lt_of_lt_of_le hq (Nat.le_trans HKP.out.size HBrY5.out.size)) (fun e => ?_)).trans ((HBrY5.out.block q (Nat.lt_of_lt_of_le hq HKP.out.size)).trans (HKP.out.block q hq hm))
                  rcases HOW.out with h | h
                  · exact hm (by rw [← h]; exact e)
                  · have := h q e; omega
                have how7 : v7.ownBlock = out.ownBlock ∨ ∀ q, v7.ownBlock = some q → w1.heap.size ≤ q := by
                  rcases hw7 with h | h
                  · rw [h]; exact HOW.out
                  · exact .inr fun q e => by have := h q e; have := HBrY5.out.size; have := HKP.out.size; omega
                have HK6 := Lib.hid (And.intro hk06 how7)
                have HO7 := Lib.hid ho7
                have hS9 := HSK.out Y6 hk06
                clear hk06 how7 ho7 hk7 hw7
                refine ⟨hS9, ?_⟩
                clear hS
                have hS := hS9
                clear hS9
                try simp only [List.getElem_toArray, List.getElem_cons_succ, List.getElem_cons_zero, Act.put, List.setIfInBounds_toArray, List.set_cons_zero, List.set_cons_succ]
                refine wpAnyH_take (i := 9) (v := ?_) rfl (by kernel_rfl) (by kernel_rfl) (by kernel_rfl) (fun _ _ _ h => h) (Or.inl ⟨by rfl, ?_⟩) hS ?_
                rotate_left
                · (intro W hSw; obtain ⟨q0, q1, q2, q3⟩ := hSw; go_simp; try with_reducible rfl)
                try simp only [List.getElem_toArray, List.getElem_cons_succ, List.getElem_cons_zero, Act.put, List.setIfInBounds_toArray, List.set_cons_zero, List.set_cons_succ]
                refine wpAnyH_done (by kernel_rfl) ?_ _
                try simp only [List.getElem_toArray, List.getElem_cons_succ, List.getElem_cons_zero, Act.put, List.setIfInBounds_toArray, List.set_cons_zero, List.set_cons_succ]
                clear hS
                go_wp2_with fail
                refine ⟨⟨s + 1, m + 1, by rw [HSM.out], hlt, by push_cast; rfl, ?_, HK6.out.1, HK6.out.2⟩, by simp [intOf]; omega⟩
                have h9 := HO7.out
                rw [HSM.out, List.append_assoc] at h9
                rw [List.range_succ, List.flatMap_append, show ([m].flatMap fun s => plansL j k (b ++ [s + 1])) = plansL j k (b ++ [m + 1]) by simp]
                exact h9
              · skip
                obtain ⟨g5, hg5⟩ : ∃ g, g = Y1.heap.size := ⟨_, rfl⟩
                refine oper_valueE (v := .slice (some ⟨g5, 0, none⟩) 1 1) (w' := Y1.alloc (.cells #[.int .i64 (s : Int)] 3)) (by rw [hg5]; simp [execOp, go_sem, Act.eval, Act.put]) ?_
                have hb := Below.alloc' Y1 (.cells #[.int .i64 (s : Int)] 3)
                have hc5 : (Y1.alloc (.cells #[.int .i64 (s : Int)] 3)).heap[g5]? = some (.cells #[.int .i64 (s : Int)] 3 (0, 0)) := heap_alloc_at _ _ _ hg5
                obtain ⟨Y2, hZ⟩ : ∃ W, W = Y1.alloc (.cells #[.int .i64 (s : Int)] 3) := ⟨_, rfl⟩
                rw [← hZ] at hb hc5 ⊢
                have HC5 := Lib.hid hc5
                try have HNE := Lib.hid (show g1 ≠ g5 by have := lt_of_block HC1.out; omega)
                try have HC1 := Lib.hid ((hb.block _ (lt_of_block HC1.out)).trans HC1.out)
                try have HO4 := Lib.hid (own_below HO4.out hb)
                have HBrY2 := Lib.hid (HBrY1.out.trans (hb.mono HBrY1.out.size))
                clear hZ hc5 hg5 hb
                have hS9 := HSX.out Y2 HBrY2.out
                refine ⟨hS9, ?_⟩
                clear hS
                have hS := hS9
                clear hS9
                try simp only [List.getElem_toArray, List.getElem_cons_succ, List.getElem_cons_zero, Act.put, List.setIfInBounds_toArray, List.set_cons_zero, List.set_cons_succ]
                refine wpAnyH_all (rs := [3]) (by kernel_rfl) (by simp) fun i hi => ?_
                obtain rfl : i = 3 := by simpa using hi
                clear hi
                refine wpOp_ofE rfl (by kernel_rfl) ?_
                refine wp_append_fresh (.tmp 41) (.tmp 42) rfl wr.heap.size g1 HC1.out HG1.out rfl (b.map fun s : Nat => (s : Int)) (.slice ao3 n cap3) rfl _ (HBVr.out.later HBrY2.out.size (fun q h _ => HBrY2.out.block q h)) (by rw [List.length_map, ← HN.out.2.2]; omega) ?_
                intro v4 Y3 ho4 hk4
                have hb4 : Below wr.heap.size wr Y3 := HBrY2.out.trans (hk4.below HBrY2.out.size (fun q h e => by have := HG1.out; omega))
                try have HC5 := Lib.hid ((hk4.block g5 (lt_of_block HC5.out) (fun e => by have := HNE.out; omega)).trans HC5.out)
                have HO4 := Lib.hid (show World.ownsRow Y3 wr.heap.size 3 1 v4 n ((b.map fun s : Nat => (s : Int)).map (Value.int .i64)) by rw [HN.out.2.2]; simpa using ho4)
                have HBrY3 := Lib.hid hb4
                clear hb4 hk4 ho4
                have hS9 := HSX.out Y3 HBrY3.out
                refine ⟨hS9, ?_⟩
                clear hS
                have hS := hS9
                clear hS9
                try simp only [List.getElem_toArray, List.getElem_cons_succ, List.getElem_cons_zero, Act.put, List.setIfInBounds_toArray, List.set_cons_zero, List.set_cons_succ]
                refine wpAnyH_all (rs := [6]) (by kernel_rfl) (by simp) fun i hi => ?_
                obtain rfl : i = 6 := by simpa using hi
                clear hi
                refine wpOp_ofE rfl (by kernel_rfl) ?_
                refine wp_append_here (.tmp 43) (.tmp 45) 29 rfl wr.heap.size 3 1 8 (.int .i64 0) underInts infoInt rfl (by decide) v4 n ((b.map fun s : Nat => (s : Int)).map (Value.int .i64)) rfl HO4.out ⟨g5, 0, none⟩ 1 1 [.int .i64 (s : Int)] rfl rfl (news_block HC5.out) (by simp [Value.oneCell']) (by omega) (by decide) HBrY3.out.size ?_
                intro v6 Y5 ho6 hg6 _
                have hk6 := keeps_grown hg6
                have hb6 : Below wr.heap.size wr Y5 := HBrY3.out.trans (hk6.below HBrY3.out.size (fun q h e => by have := (HO4.out.lt q e).1; omega))
                have hn6 : NumsAt Y5 v6 ((b ++ [s]).map fun s : Nat => (s : Int)) (fun q => wr.heap.size ≤ q) := nums_of_own (show n + 1 = _ by rw [List.length_map, List.length_append, HN.out.2.2]; rfl) (by rw [List.map_append, List.map_append]; exact ho6)
                have h1c : v6.oneCell' = true := by
                  rcases ho6.2 with ⟨h, _⟩ | ⟨_, _, _, h, _⟩ <;> rw [h] <;> rfl
                have HN6 := Lib.hid (And.intro hn6 h1c)
                have HBrY5 := Lib.hid hb6
                clear hb6 hk6 ho6 hg6 hn6 h1c
                have hS9 := HSX.out Y5 HBrY5.out
                refine ⟨hS9, ?_⟩
                clear hS
                have hS := hS9
                clear hS9
                try simp only [List.getElem_toArray, List.getElem_cons_succ, List.getElem_cons_zero, Act.put, List.setIfInBounds_toArray, List.set_cons_zero, List.set_cons_succ]
                have hs5 : w.heap.size ≤ Y5.heap.size := Nat.le_trans HSZ.out HBrY5.out.size
                have hl5 : ∀ q, q < B → Y5.heap[q]? = w.heap[q]? := fun q h => (HBrY5.out.block q (Nat.lt_of_lt_of_le h (Nat.le_trans HBB.out HSZ.out))).trans (HLOW.out q h)
                have hc := IH.out (b ++ [s]) v6 ov (L ++ (List.range m).flatMap fun s => plansL j k (b ++ [s + 1])) Y5 (by rw [List.length_append, ← HN.out.2.2, ← HN.out.2.1]; simp; omega) (fun x hx => by
                  rcases List.mem_append.1 hx with hx | hx
                  · exact HBO.out x hx
                  · rw [List.mem_singleton.1 hx, ← HN.out.1, ← HP.out]
                    exact HSB.out) HLM.out (Nat.le_trans HBB.out hs5) (by have h9 := HRB.out Y5 hs5 hl5; rw [HN.out.1] at h9; exact h9) (by have h9 := HRW.out Y5 hs5 hl5; rw [HN.out.2.1] at h9; exact h9) (HN6.out.1.mono fun q hq e => by have := (HOV.out.lt q e).2; omega) HN6.out.2 (HOV.out.below HBrY5.out)
                rw [← HN.out.1, ← HN.out.2.1, HJV.out] at hc
                refine wpAnyH_call (k := 8) (by kernel_rfl) rfl rfl (f := 43) (args := #[.agg #[.slice ao nb cap, .int .i64 fl, .int .i64 fh, .slice ao2 nw cap2], v6, ov]) (by simp [execOp, go_sem, Act.eval, Act.put]) ?_
                refine hc.mono ?_
                rintro e Y6 ⟨v7, rfl, ho7, hk7, hw7⟩
                clear hc hs5 hl5
                dsimp only
                have hk06 : Keeps (fun q => out.ownBlock = some q) w1 Y6 := by
                  refine ⟨hk7.os.trans (HBrY5.out.os.trans HKP.out.os), hk7.tape.trans (HBrY5.out.tape.trans HKP.out.tape), hk7.output.trans (HBrY5.out.output.trans HKP.out.output), Nat.le_trans HKP.out.size (Nat.le_trans HBrY5.out.size hk7.size), fun q hq hm => ?_⟩
                  refine (hk7.block q (Nat.lt_of_lt_of_le hq (Nat.le_trans HKP.out.size HBrY5.out.size)) (fun e => ?_)).trans ((HBrY5.out.block q (Nat.lt_of_lt_of_le hq HKP.out.size)).trans (HKP.out.block q hq hm))
                  rcases HOW.out with h | h
                  · exact hm (by rw [← h]; exact e)
                  · have := h q e; omega
                have how7 : v7.ownBlock = out.ownBlock ∨ ∀ q, v7.ownBlock = some q → w1.heap.size ≤ q := by
                  rcases hw7 with h | h
                  · rw [h]; exact HOW.out
                  · exact .inr fun q e => by have := h q e; have := HBrY5.out.size; have := HKP.out.size; omega
                have HK6 := Lib.hid (And.intro hk06 how7)
                have HO7 := Lib.hid ho7
                have hS9 := HSK.out Y6 hk06
                clear hk06 how7 ho7 hk7 hw7
                refine ⟨hS9, ?_⟩
                clear hS
                have hS := hS9
                clear hS9
                try simp only [List.getElem_toArray, List.getElem_cons_succ, List.getElem_cons_zero, Act.put, List.setIfInBounds_toArray, List.set_cons_zero, List.set_cons_succ]
                refine wpAnyH_take (i := 9) (v := ?_) rfl (by kernel_rfl) (by kernel_rfl) (by kernel_rfl) (fun _ _ _ h => h) (Or.inl ⟨by rfl, ?_⟩) hS ?_
                rotate_left
                · (intro W hSw; obtain ⟨q0, q1, q2, q3⟩ := hSw; go_simp; try with_reducible rfl)
                try simp only [List.getElem_toArray, List.getElem_cons_succ, List.getElem_cons_zero, Act.put, List.setIfInBounds_toArray, List.set_cons_zero, List.set_cons_succ]
                refine wpAnyH_done (by kernel_rfl) ?_ _
                try simp only [List.getElem_toArray, List.getElem_cons_succ, List.getElem_cons_zero, Act.put, List.setIfInBounds_toArray, List.set_cons_zero, List.set_cons_succ]
                clear hS
                go_wp2_with fail
                refine ⟨⟨s + 1, m + 1, by rw [HSM.out], hlt, by push_cast; rfl, ?_, HK6.out.1, HK6.out.2⟩, by simp [intOf]; omega⟩
                have h9 := HO7.out
                rw [HSM.out, List.append_assoc] at h9
                rw [List.range_succ, List.flatMap_append, show ([m].flatMap fun s => plansL j k (b ++ [s + 1])) = plansL j k (b ++ [m + 1]) by simp]
                exact h9
            · skip
              obtain ⟨g5, hg5⟩ : ∃ g, g = D.heap.size := ⟨_, rfl⟩
              refine oper_valueE (v := .slice (some ⟨g5, 0, none⟩) 1 1) (w' := D.alloc (.cells #[.int .i64 (s : Int)] 3)) (by rw [hg5]; simp [execOp, go_sem, Act.eval, Act.put]) ?_
              have hb := Below.alloc' D (.cells #[.int .i64 (s : Int)] 3)
              have hc5 : (D.alloc (.cells #[.int .i64 (s : Int)] 3)).heap[g5]? = some (.cells #[.int .i64 (s : Int)] 3 (0, 0)) := heap_alloc_at _ _ _ hg5
              obtain ⟨Y1, hZ⟩ : ∃ W, W = D.alloc (.cells #[.int .i64 (s : Int)] 3) := ⟨_, rfl⟩
              rw [← hZ] at hb hc5 ⊢
              have HC5 := Lib.hid hc5
              try have HNE := Lib.hid (show g1 ≠ g5 by have := lt_of_block HC1.out; omega)
              try have HC1 := Lib.hid ((hb.block _ (lt_of_block HC1.out)).trans HC1.out)
              try have HO4 := Lib.hid (own_below HO4.out hb)
              have HBrY1 := Lib.hid (HBrD.out.trans (hb.mono HBrD.out.size))
              clear hZ hc5 hg5 hb
              have hS9 := HSX.out Y1 HBrY1.out
              refine ⟨hS9, ?_⟩
              clear hS
              have hS := hS9
              clear hS9
              try simp only [List.getElem_toArray, List.getElem_cons_succ, List.getElem_cons_zero, Act.put, List.setIfInBounds_toArray, List.set_cons_zero, List.set_cons_succ]
              refine wpAnyH_all (rs := [1]) (by kernel_rfl) (by simp) fun i hi => ?_
              obtain rfl : i = 1 := by simpa using hi
              clear hi
              refine wpOp_ofE rfl (by kernel_rfl) ?_
              obtain ⟨g1, hg1⟩ : ∃ g, g = Y1.heap.size := ⟨_, rfl⟩
              refine oper_valueE (v := .slice (some ⟨g1, 0, none⟩) 0 0) (w' := Y1.alloc (.cells #[] 3)) (by rw [hg1]; simp [execOp, go_sem, Act.eval, Act.put]) ?_
              have hb := Below.alloc' Y1 (.cells #[] 3)
              have hc1 : (Y1.alloc (.cells #[] 3)).heap[g1]? = some (.cells #[] 3 (0, 0)) := heap_alloc_at _ _ _ hg1
              obtain ⟨Y2, hZ⟩ : ∃ W, W = Y1.alloc (.cells #[] 3) := ⟨_, rfl⟩
              rw [← hZ] at hb hc1 ⊢
              have HC1 := Lib.hid hc1
              have HG1 := Lib.hid (show wr.heap.size ≤ g1 by rw [hg1]; exact HBrY1.out.size)
              try have HNE := Lib.hid (show g1 ≠ g5 by have := lt_of_block HC5.out; omega)
              try have HC5 := Lib.hid ((hb.block _ (lt_of_block HC5.out)).trans HC5.out)
              have HBrY2 := Lib.hid (HBrY1.out.trans (hb.mono HBrY1.out.size))
              clear hZ hc1 hg1 hb
              have hS9 := HSX.out Y2 HBrY2.out
              refine ⟨hS9, ?_⟩
              clear hS
              have hS := hS9
              clear hS9
              try simp only [List.getElem_toArray, List.getElem_cons_succ, List.getElem_cons_zero, Act.put, List.setIfInBounds_toArray, List.set_cons_zero, List.set_cons_succ]
              refine wpAnyH_all (rs := [3]) (by kernel_rfl) (by simp) fun i hi => ?_
              obtain rfl : i = 3 := by simpa using hi
              clear hi
              refine wpOp_ofE rfl (by kernel_rfl) ?_
              refine wp_append_fresh (.tmp 41) (.tmp 42) rfl wr.heap.size g1 HC1.out HG1.out rfl (b.map fun s : Nat => (s : Int)) (.slice ao3 n cap3) rfl _ (HBVr.out.later HBrY2.out.size (fun q h _ => HBrY2.out.block q h)) (by rw [List.length_map, ← HN.out.2.2]; omega) ?_
              intro v4 Y3 ho4 hk4
              have hb4 : Below wr.heap.size wr Y3 := HBrY2.out.trans (hk4.below HBrY2.out.size (fun q h e => by have := HG1.out; omega))
              try have HC5 := Lib.hid ((hk4.block g5 (lt_of_block HC5.out) (fun e => by have := HNE.out; omega)).trans HC5.out)
              have HO4 := Lib.hid (show World.ownsRow Y3 wr.heap.size 3 1 v4 n ((b.map fun s : Nat => (s : Int)).map (Value.int .i64)) by rw [HN.out.2.2]; simpa using ho4)
              have HBrY3 := Lib.hid hb4
              clear hb4 hk4 ho4
              have hS9 := HSX.out Y3 HBrY3.out
              refine ⟨hS9, ?_⟩
              clear hS
              have hS := hS9
              clear hS9
              try simp only [List.getElem_toArray, List.getElem_cons_succ, List.getElem_cons_zero, Act.put, List.setIfInBounds_toArray, List.set_cons_zero, List.set_cons_succ]
              refine wpAnyH_all (rs := [6]) (by kernel_rfl) (by simp) fun i hi => ?_
              obtain rfl : i = 6 := by simpa using hi
              clear hi
              refine wpOp_ofE rfl (by kernel_rfl) ?_
              refine wp_append_here (.tmp 43) (.tmp 45) 29 rfl wr.heap.size 3 1 8 (.int .i64 0) underInts infoInt rfl (by decide) v4 n ((b.map fun s : Nat => (s : Int)).map (Value.int .i64)) rfl HO4.out ⟨g5, 0, none⟩ 1 1 [.int .i64 (s : Int)] rfl rfl (news_block HC5.out) (by simp [Value.oneCell']) (by omega) (by decide) HBrY3.out.size ?_
              intro v6 Y5 ho6 hg6 _
              have hk6 := keeps_grown hg6
              have hb6 : Below wr.heap.size wr Y5 := HBrY3.out.trans (hk6.below HBrY3.out.size (fun q h e => by have := (HO4.out.lt q e).1; omega))
              have hn6 : NumsAt Y5 v6 ((b ++ [s]).map fun s : Nat => (s : Int)) (fun q => wr.heap.size ≤ q) := nums_of_own (show n + 1 = _ by rw [List.length_map, List.length_append, HN.out.2.2]; rfl) (by rw [List.map_append, List.map_append]; exact ho6)
              have h1c : v6.oneCell' = true := by
                rcases ho6.2 with ⟨h, _⟩ | ⟨_, _, _, h, _⟩ <;> rw [h] <;> rfl
              have HN6 := Lib.hid (And.intro hn6 h1c)
              have HBrY5 := Lib.hid hb6
              clear hb6 hk6 ho6 hg6 hn6 h1c
              have hS9 := HSX.out Y5 HBrY5.out
              refine ⟨hS9, ?_⟩
              clear hS
              have hS := hS9
              clear hS9
              try simp only [List.getElem_toArray, List.getElem_cons_succ, List.getElem_cons_zero, Act.put, List.setIfInBounds_toArray, List.set_cons_zero, List.set_cons_succ]
              have hs5 : w.heap.size ≤ Y5.heap.size := Nat.le_trans HSZ.out HBrY5.out.size
              have hl5 : ∀ q, q < B → Y5.heap[q]? = w.heap[q]? := fun q h => (HBrY5.out.block q (Nat.lt_of_lt_of_le h (Nat.le_trans HBB.out HSZ.out))).trans (HLOW.out q h)
              have hc := IH.out (b ++ [s]) v6 ov (L ++ (List.range m).flatMap fun s => plansL j k (b ++ [s + 1])) Y5 (by rw [List.length_append, ← HN.out.2.2, ← HN.out.2.1]; simp; omega) (fun x hx => by
                rcases List.mem_append.1 hx with hx | hx
                · exact HBO.out x hx
                · rw [List.mem_singleton.1 hx, ← HN.out.1, ← HP.out]
                  exact HSB.out) HLM.out (Nat.le_trans HBB.out hs5) (by have h9 := HRB.out Y5 hs5 hl5; rw [HN.out.1] at h9; exact h9) (by have h9 := HRW.out Y5 hs5 hl5; rw [HN.out.2.1] at h9; exact h9) (HN6.out.1.mono fun q hq e => by have := (HOV.out.lt q e).2; omega) HN6.out.2 (HOV.out.below HBrY5.out)
              rw [← HN.out.1, ← HN.out.2.1, HJV.out] at hc
              refine wpAnyH_call (k := 8) (by kernel_rfl) rfl rfl (f := 43) (args := #[.agg #[.slice ao nb cap, .int .i64 fl, .int .i64 fh, .slice ao2 nw cap2], v6, ov]) (by simp [execOp, go_sem, Act.eval, Act.put]) ?_
              refine hc.mono ?_
              rintro e Y6 ⟨v7, rfl, ho7, hk7, hw7⟩
              clear hc hs5 hl5
              dsimp only
              have hk06 : Keeps (fun q => out.ownBlock = some q) w1 Y6 := by
                refine ⟨hk7.os.trans (HBrY5.out.os.trans HKP.out.os), hk7.tape.trans (HBrY5.out.tape.trans HKP.out.tape), hk7.output.trans (HBrY5.out.output.trans HKP.out.output), Nat.le_trans HKP.out.size (Nat.le_trans HBrY5.out.size hk7.size), fun q hq hm => ?_⟩
                refine (hk7.block q (Nat.lt_of_lt_of_le hq (Nat.le_trans HKP.out.size HBrY5.out.size)) (fun e => ?_)).trans ((HBrY5.out.block q (Nat.lt_of_lt_of_le hq HKP.out.size)).trans (HKP.out.block q hq hm))
                rcases HOW.out with h | h
                · exact hm (by rw [← h]; exact e)
                · have := h q e; omega
              have how7 : v7.ownBlock = out.ownBlock ∨ ∀ q, v7.ownBlock = some q → w1.heap.size ≤ q := by
                rcases hw7 with h | h
                · rw [h]; exact HOW.out
                · exact .inr fun q e => by have := h q e; have := HBrY5.out.size; have := HKP.out.size; omega
              have HK6 := Lib.hid (And.intro hk06 how7)
              have HO7 := Lib.hid ho7
              have hS9 := HSK.out Y6 hk06
              clear hk06 how7 ho7 hk7 hw7
              refine ⟨hS9, ?_⟩
              clear hS
              have hS := hS9
              clear hS9
              try simp only [List.getElem_toArray, List.getElem_cons_succ, List.getElem_cons_zero, Act.put, List.setIfInBounds_toArray, List.set_cons_zero, List.set_cons_succ]
              refine wpAnyH_take (i := 9) (v := ?_) rfl (by kernel_rfl) (by kernel_rfl) (by kernel_rfl) (fun _ _ _ h => h) (Or.inl ⟨by rfl, ?_⟩) hS ?_
              rotate_left
              · (intro W hSw; obtain ⟨q0, q1, q2, q3⟩ := hSw; go_simp; try with_reducible rfl)
              try simp only [List.getElem_toArray, List.getElem_cons_succ, List.getElem_cons_zero, Act.put, List.setIfInBounds_toArray, List.set_cons_zero, List.set_cons_succ]
              refine wpAnyH_done (by kernel_rfl) ?_ _
              try simp only [List.getElem_toArray, List.getElem_cons_succ, List.getElem_cons_zero, Act.put, List.setIfInBounds_toArray, List.set_cons_zero, List.set_cons_succ]
              clear hS
              go_wp2_with fail
              refine ⟨⟨s + 1, m + 1, by rw [HSM.out], hlt, by push_cast; rfl, ?_, HK6.out.1, HK6.out.2⟩, by simp [intOf]; omega⟩
              have h9 := HO7.out
              rw [HSM.out, List.append_assoc] at h9
              rw [List.range_succ, List.flatMap_append, show ([m].flatMap fun s => plansL j k (b ++ [s + 1])) = plansL j k (b ++ [m + 1]) by simp]
              exact h9
          · have hsP2 : s = P := by omega
            have hlti : ¬ (s : Int) < (P : Int) := by omega
            have HRES := Lib.hid (show OutR wr B ov (L ++ plansL j (k + 1) b) by
              rw [plansL, HL0.out, if_pos rfl, ← HPL.out, ← hsP2, HSM.out, Nat.add_sub_cancel]
              exact HOV.out)
            go_wp2_with fail
            refine (r12power_any nb (by omega) _).mono ?_
            rintro e w' ⟨rfl, rfl⟩
            dsimp only
            rw [← HP.out]
            clear hlt hsP2
            go_wp2_with fail
            go_ret
            refine ⟨ov, rfl, HRES.out, ?_, HOW.out.imp id fun h q e => Nat.le_trans HBw1.out.size (h q e)⟩
            exact (Keeps.of_below HBw1.out (fun q h1 h2 => absurd h2 (by omega))).trans HKP.out
      · have hz2 : ((br : Int) == 0) = false := by rw [beq_eq_false_iff_ne]; omega
        have hz3 : ¬ (br : Int) = 0 := by omega
        have HLN := Lib.hid (show lastOk j b = false by rw [hlo, beq_eq_false_iff_ne]; exact hz)
        clear hlo hz
        go_wp2_with fail
        go_ret
        exact ⟨out, rfl, by rw [plans_stop j _ b HLN.out, List.append_nil]; exact HOUT.out.below HBw1.out, Keeps.of_below HBw1.out (fun q h1 h2 => absurd h2 (by omega)), .inl rfl⟩
end Go.Proofs.YtbmfphiecllggaaGreatDoor

/- The reference of jobs, walked: can, Plan. -/
namespace Go.Proofs.YtbmfphiecllggaaGreatDoor
set_option linter.unusedVariables false
set_option linter.unusedSimpArgs false
open Go.RowKit Go.Shelf
attribute [local go_sem] Oper.semAt_some

theorem OutR.shape {W : World} {B : Nat} {v : Value} {L : List (List Nat)} (h : OutR W B v L) : ∃ a c, v = .slice a L.length c := by
  obtain ⟨vals, h1, _⟩ := h
  rcases h1.2 with ⟨h2, h3⟩ | ⟨g, cap, cur, h2, _⟩
  · exact ⟨none, 0, by rw [h2, h3]⟩
  · exact ⟨_, _, h2⟩
/-- One of the lists, as it is read. -/
theorem OutR.read {W : World} {B : Nat} {a : Option Addr} {n c : Nat} {L : List (List Nat)} (h : OutR W B (.slice a n c) L) (i : Nat) (hi : i < L.length) : ∃ g u, a = some ⟨g, 0, none⟩ ∧ W.cell? ⟨g, 0 + i, none⟩ = some u ∧ NumsAt W u (L[i].map fun s : Nat => (s : Int)) (fun k => k < W.heap.size) := by
  obtain ⟨vals, h1, h2⟩ := h
  obtain ⟨u, e1, e2, e3⟩ := h2 i hi
  rcases id h1.2 with ⟨h3, h4⟩ | ⟨g, cap, cur, h3, h4, h5, h6, h7, h8, h9⟩
  · omega
  · injection h3 with h3 h10 h11
    subst h3
    rw [h10] at h1
    refine ⟨g, u, rfl, ?_, e3.lowE⟩
    have h12 : i < L.length * 1 := by rw [Nat.mul_one]; exact hi
    rw [Nat.zero_add, World.ownsRow.cellAt h1 i h12, e1]
theorem errD_bad {j : JobD} (hv : validJb j = false) : errD j true = 1 := by unfold errD; rw [hv]; rfl
theorem r12room (j : JobD) (h18 : j.ws.length * j.st.bs.length ≤ 18) (k : Nat) (hk : k ≤ j.ws.length) : ([] : List (List Nat)).length + 2 ^ (j.st.bs.length * k) ≤ 1000000 := by
  have h1 : j.st.bs.length * k ≤ 18 := Nat.le_trans (Nat.mul_le_mul_left _ hk) (by rw [Nat.mul_comm]; exact h18)
  have h2 : 2 ^ (j.st.bs.length * k) ≤ 2 ^ 18 := Nat.pow_le_pow_right (by decide) h1
  simp
  omega
set_option maxRecDepth 100000 in
set_option maxHeartbeats 4000000 in
/-- Whether the wants of a set can be met at once, by the reference. -/
theorem r12can_any (j : JobD) (hv : validJb j = true) (h18 : j.ws.length * j.st.bs.length ≤ 18) (set : Nat) (hset : set < 256) (bs ws : Value) (w : World) (hbs : SpansAt w bs j.st.bs (fun k => k < w.heap.size)) (hws : SpansAt w ws j.ws (fun k => k < w.heap.size)) :
    Calls Tryz.prog 46 #[jobV j bs ws, .int .i64 set] w fun e w' => e = .returned (.bool (canD j set)) ∧ Below w.heap.size w w' := by
  have HBS := Lib.hid hbs
  have HWS := Lib.hid hws
  have HV := Lib.hid hv
  have H18 := Lib.hid h18
  obtain ⟨ao, cap, rfl, _⟩ := id hbs
  obtain ⟨ao2, cap2, rfl, _⟩ := id hws
  obtain ⟨nb, hnb⟩ : ∃ n, n = j.st.bs.length := ⟨_, rfl⟩
  obtain ⟨nw, hnw⟩ : ∃ n, n = j.ws.length := ⟨_, rfl⟩
  rw [← hnb] at HBS
  rw [← hnw] at HWS
  have HNB := Lib.hid hnb
  have HNW := Lib.hid hnw
  have hjv : jobV j (.slice ao nb cap) (.slice ao2 nw cap2) = .agg #[.slice ao nb cap, .int .i64 j.st.film.1, .int .i64 j.st.film.2, .slice ao2 nw cap2] := rfl
  rw [← hnb, ← hnw, hjv]
  have HJV := Lib.hid hjv
  have hb0 := Below.alloc' w (.cells #[.slice ao nb cap, .int .i64 j.st.film.1, .int .i64 j.st.film.2, .slice ao2 nw cap2] 28)
  have HB0 := Lib.hid hb0
  clear hbs hws hnb hnw hjv hb0 hv h18
  go_enter Tryz.func46, Tryz.ntmps46
  go_wp2_with fail
  have hc := r12only_any j (by have := (validJb_parts HV.out).2.1; omega) set hset (.slice ao nb cap) (.slice ao2 nw cap2) _ ⟨_, _, _, rfl⟩ (HWS.out.later HB0.out.size (fun k h1 _ => HB0.out.block k h1)).low
  rw [HJV.out] at hc
  refine hc.mono ?_
  rintro e w1 ⟨⟨wv, rfl, hwv⟩, hb1⟩
  clear hc
  dsimp only
  obtain ⟨a5, c5, rfl, _⟩ := id hwv
  obtain ⟨nx, hnx⟩ : ∃ n, n = (onlyD j set).ws.length := ⟨_, rfl⟩
  rw [← hnx] at hwv ⊢
  have HW1 := Lib.hid (HB0.out.trans (hb1.mono HB0.out.size))
  have HWV := Lib.hid hwv
  have HNX := Lib.hid hnx
  have hjx : jobV (onlyD j set) (.slice ao nb cap) (.slice a5 nx c5) = .agg #[.slice ao nb cap, .int .i64 j.st.film.1, .int .i64 j.st.film.2, .slice a5 nx c5] := rfl
  rw [hjx]
  have HJX := Lib.hid hjx
  have hone : ∀ (L : List (List Nat)), decide (0 < (plansL (onlyD j set) (onlyD j set).ws.length []).length) = canD j set := fun _ => by
    rw [← can_only j set]
    cases hc : canD (onlyD j set) (everyD (onlyD j set)) with
    | false => rw [(plans_none _).2 hc]; rfl
    | true =>
      rw [decide_eq_true_iff]
      cases hl : plansL (onlyD j set) (onlyD j set).ws.length [] with
      | nil => rw [(plans_none _).1 hl] at hc; cases hc
      | cons x l => simp
  have HONE := Lib.hid (hone [])
  have hlw : (onlyD j set).ws.length ≤ j.ws.length := sel_lenJ j.ws set
  have HLW := Lib.hid hlw
  clear hb1 hwv hnx hjx hone hlw
  go_wp2_with fail
  have hc := r12plans_any (valid_only HV.out set) (bs := .slice ao nb cap) (ws := .slice a5 nx c5) (B := w1.heap.size) (onlyD j set).ws.length [] (.slice none 0 0) (.slice none 0 0) [] w1 (by simp) (by simp) (r12room j H18.out _ HLW.out) (Nat.le_refl _) (HBS.out.later HW1.out.size (fun k h1 _ => HW1.out.block k h1)).low HWV.out.low ⟨none, 0, rfl, by simp, by decide, fun i hi => absurd hi (by simp)⟩ rfl (OutR.nil _ _)
  rw [HJX.out] at hc
  refine hc.mono ?_
  rintro e w2 ⟨v', rfl, ho, hk, hw⟩
  clear hc
  dsimp only
  rw [List.nil_append] at ho
  obtain ⟨a6, c6, rfl⟩ := ho.shape
  obtain ⟨pl, hpl⟩ : ∃ n, n = (plansL (onlyD j set) (onlyD j set).ws.length []).length := ⟨_, rfl⟩
  have hone := HONE.out
  rw [← hpl] at hone ⊢
  have hb2 : Below w1.heap.size w1 w2 := hk.below (Nat.le_refl _) (fun q _ e => by simp [Value.ownBlock] at e)
  have HW2 := Lib.hid (HW1.out.trans (hb2.mono HW1.out.size))
  clear ho hk hw hpl hb2
  by_cases hp : 0 < pl
  · rw [decide_eq_true hp] at hone
    have HON := Lib.hid hone
    clear hone
    go_wp2_with fail
    go_ret
    exact ⟨by rw [← HON.out]; rfl, HW2.out⟩
  · rw [decide_eq_false hp] at hone
    have HON := Lib.hid hone
    clear hone
    go_wp2_with fail
    go_ret
    exact ⟨by rw [← HON.out]; rfl, HW2.out⟩
end Go.Proofs.YtbmfphiecllggaaGreatDoor

/- The reference of jobs, walked: Plan. -/
namespace Go.Proofs.YtbmfphiecllggaaGreatDoor
set_option linter.unusedVariables false
set_option linter.unusedSimpArgs false
open Go.RowKit Go.Shelf
attribute [local go_sem] Oper.semAt_some

def PlanE (j : JobD) (w : World) (e : Ending) (w' : World) : Prop :=
  ∃ v, e = .returned (.tuple #[v, .int .i64 (planD j).2]) ∧ NumsAt w' v ((planD j).1.map fun s : Nat => (s : Int)) (fun k => k < w'.heap.size) ∧ Below w.heap.size w w'
def bestF8 (b q : List Nat) : List Nat := if costJ 8 q < costJ 8 b then q else b
theorem best_take (l : List (List Nat)) (p : List Nat) (i : Nat) (h : i < l.length) : (l.take (i + 1)).foldl bestF8 p = bestF8 ((l.take i).foldl bestF8 p) l[i] := by
  rw [List.take_succ_eq_append_getElem h, List.foldl_append]; rfl
set_option maxRecDepth 100000 in
set_option maxHeartbeats 4000000 in
theorem r12Plan_any (j : JobD) (h18 : validJb j = true → j.ws.length * j.st.bs.length ≤ 18) (bs ws : Value) (w : World) (hbs : SpansAt w bs j.st.bs (fun k => k < w.heap.size)) (hws : SpansAt w ws j.ws (fun k => k < w.heap.size)) :
    Calls Tryz.prog 11 #[jobV j bs ws] w (PlanE j w) := by
  have H18 := Lib.hid h18
  clear h18
  have HBS := Lib.hid hbs
  have HWS := Lib.hid hws
  obtain ⟨ao, cap, hv1, _⟩ := id hbs
  obtain ⟨ao2, cap2, hv2, _⟩ := id hws
  subst hv1 hv2
  obtain ⟨nb, hnb⟩ : ∃ n, n = j.st.bs.length := ⟨_, rfl⟩
  obtain ⟨nw, hnw⟩ : ∃ n, n = j.ws.length := ⟨_, rfl⟩
  obtain ⟨fl, hfl⟩ : ∃ x, x = j.st.film.1 := ⟨_, rfl⟩
  obtain ⟨fh, hfh⟩ : ∃ x, x = j.st.film.2 := ⟨_, rfl⟩
  have HJV := Lib.hid (show jobV j (.slice ao nb cap) (.slice ao2 nw cap2) = .agg #[.slice ao nb cap, .int .i64 fl, .int .i64 fh, .slice ao2 nw cap2] by unfold jobV; rw [← hfl, ← hfh])
  unfold jobV
  rw [← hnb, ← hnw, ← hfl, ← hfh]
  rw [← hnb] at HBS
  rw [← hnw] at HWS
  have HN := Lib.hid (And.intro hnb hnw)
  have HXw0 := Lib.hid (show (w.alloc (.cells #[.slice ao nb cap, .int .i64 fl, .int .i64 fh, .slice ao2 nw cap2] 28)).heap[w.heap.size]? = some (.cells #[.slice ao nb cap, .int .i64 fl, .int .i64 fh, .slice ao2 nw cap2] 28 (0, 0)) from heap_alloc_at _ _ _ rfl)
  have HBw0 := Lib.hid (Below.alloc' w (.cells #[.slice ao nb cap, .int .i64 fl, .int .i64 fh, .slice ao2 nw cap2] 28))
  clear hbs hws hnb hnw hfl hfh
  go_enter Tryz.func11, Tryz.ntmps11
  go_wp2_with fail
  have hc := r12check_any j true (.slice ao nb cap) (.slice ao2 nw cap2) _ (HBS.out.later HBw0.out.size (fun k h1 _ => HBw0.out.block k h1)).low (HWS.out.later HBw0.out.size (fun k h1 _ => HBw0.out.block k h1)).low
  rw [HJV.out] at hc
  refine hc.mono ?_
  rintro e w1 ⟨rfl, hb⟩
  clear hc
  dsimp only
  have HXw1 := Lib.hid ((hb.block _ (lt_of_block HXw0.out)).trans HXw0.out)
  have HBw1 := Lib.hid (HBw0.out.trans (hb.mono HBw0.out.size))
  clear hb
  cases hv : validJb j with
  | false =>
    have hpd : planD j = ([], 1) := by unfold planD; rw [errD_bad hv, if_pos (by decide)]
    rw [errD_bad hv]
    have HPD := Lib.hid hpd
    clear hv hpd
    go_wp2_with fail
    exact bodyPost_ret (v := .tuple #[.slice none 0 0, .int .i64 1]) (by simp [results, Tryz.results11, go_sem]) rfl ⟨_, by rw [HPD.out], by rw [HPD.out]; exact ⟨none, 0, rfl, by simp, by decide, fun i hi => absurd hi (by simp)⟩, HBw1.out⟩
  | true =>
    rw [errD_ok hv]
    have HV := Lib.hid hv
    clear hv
    have c0 : w1.cell? ⟨w.heap.size, 0, none⟩ = some (.slice ao nb cap) := by rw [cell_of_row _ _ _ _ _ _ HXw1.out]; rfl
    have c1 : w1.cell? ⟨w.heap.size, 1, none⟩ = some (.int .i64 fl) := by rw [cell_of_row _ _ _ _ _ _ HXw1.out]; rfl
    have c2 : w1.cell? ⟨w.heap.size, 2, none⟩ = some (.int .i64 fh) := by rw [cell_of_row _ _ _ _ _ _ HXw1.out]; rfl
    have c3 : w1.cell? ⟨w.heap.size, 3, none⟩ = some (.slice ao2 nw cap2) := by rw [cell_of_row _ _ _ _ _ _ HXw1.out]; rfl
    go_wp2_with fail
    have hc := r12plans_any HV.out (bs := .slice ao nb cap) (ws := .slice ao2 nw cap2) (B := w1.heap.size) j.ws.length [] (.slice none 0 0) (.slice none 0 0) [] w1 (by simp) (by simp) (r12room j (H18.out HV.out) _ (Nat.le_refl _)) (Nat.le_refl _) (HBS.out.later HBw1.out.size (fun k h1 _ => HBw1.out.block k h1)).low (HWS.out.later HBw1.out.size (fun k h1 _ => HBw1.out.block k h1)).low ⟨none, 0, rfl, by simp, by decide, fun i hi => absurd hi (by simp)⟩ rfl (OutR.nil _ _)
    rw [HJV.out] at hc
    refine hc.mono ?_
    rintro e w2 ⟨v', rfl, ho, hk, hw⟩
    clear hc c0 c1 c2 c3
    dsimp only
    rw [List.nil_append] at ho
    obtain ⟨a6, c6, rfl⟩ := ho.shape
    have hb2 : Below w1.heap.size w1 w2 := hk.below (Nat.le_refl _) (fun q _ e => by simp [Value.ownBlock] at e)
    have HBw2 := Lib.hid (HBw1.out.trans (hb2.mono HBw1.out.size))
    have hnone := plans_none j
    have hbest := plans_best j
    have hmem := fun p => @plans_iff j p
    have hlen := plans_len j j.ws.length []
    have hroom := r12room j (H18.out HV.out) _ (Nat.le_refl _)
    obtain ⟨pl, hpl⟩ : ∃ l, l = plansL j j.ws.length [] := ⟨_, rfl⟩
    rw [← hpl] at ho hnone hbest hlen ⊢
    have hmem2 : ∀ p ∈ pl, PlanJ (rightsD j) (allD j) p := fun p hp => (hmem p).1 (by rw [← hpl]; exact hp)
    have HOUT := Lib.hid ho
    obtain ⟨np, hnp⟩ : ∃ n, n = pl.length := ⟨_, rfl⟩
    have hnp6 : np ≤ 1000000 := by rw [hnp]; simp at hroom; omega
    rw [← hnp]
    have HMEM := Lib.hid hmem2
    have HNP := Lib.hid hnp
    cases hl : pl with
    | nil =>
      have hnp0 : np = 0 := by rw [hnp, hl]; rfl
      have hpd := planD_cannot HV.out (hnone.1 hl)
      subst hnp0
      have HPD := Lib.hid hpd
      clear ho hk hw hb2 hnone hbest hmem hlen hroom hmem2 hpd hl hnp
      go_wp2_with fail
      exact bodyPost_ret (v := .tuple #[.slice none 0 0, .int .i64 4]) (by simp [results, Tryz.results11, go_sem]) rfl ⟨_, by rw [HPD.out], by rw [HPD.out]; exact ⟨none, 0, rfl, by simp, by decide, fun i hi => absurd hi (by simp)⟩, HBw2.out⟩
    | cons p0 rest =>
      have hcan : canD j (everyD j) = true := by
        cases hc : canD j (everyD j) with
        | true => rfl
        | false => rw [hnone.2 hc] at hl; cases hl
      have hpd := planD_can HV.out hcan
      rw [← hbest p0 rest hl] at hpd
      rw [← hl] at hpd
      have hn1 : 0 < np := by rw [hnp, hl]; simp
      have hn1i : (0 : Int) < (np : Int) := by omega
      have hnz : ¬ np = 0 := by omega
      have hnz2 : ((np : Int) == 0) = false := by rw [beq_eq_false_iff_ne]; omega
      have h0 : pl[0]? = some p0 := by rw [hl]; rfl
      have HPD := Lib.hid (And.intro hpd h0)
      obtain ⟨g, u0, hae, e0, hn0⟩ := ho.read 0 (by rw [← hnp]; exact hn1)
      have hp00 : pl[0]'(by rw [← hnp]; exact hn1) = p0 := by rw [List.getElem?_eq_getElem (by rw [← hnp]; exact hn1)] at h0; exact Option.some.inj h0
      rw [hp00] at hn0
      subst hae
      have HN0 := Lib.hid hn0
      have e0 : w2.cell? ⟨g, 0, none⟩ = some u0 := e0
      have HP0 := Lib.hid (HMEM.out p0 (by rw [hl]; exact List.mem_cons_self))
      clear ho hk hw hb2 hnone hbest hmem hlen hroom hmem2 hpd hl hnp h0 hn0 hp00 hcan
      go_wp2_with fail
      clear e0
      go_loopw [6, 7] (fun bv iv wr => ∃ i : Nat, i ≤ np ∧ iv = .int .i64 i ∧ w2 = wr ∧ NumsAt w2 bv (((pl.take i).foldl bestF8 p0).map fun s : Nat => (s : Int)) (fun k => k < w2.heap.size) ∧ PlanJ (rightsD j) (allD j) ((pl.take i).foldl bestF8 p0)) (fun _ iv _ => np - (intOf iv).toNat)
      case atStart => exact ⟨0, Nat.zero_le _, rfl, rfl, HN0.out, HP0.out⟩
      case round =>
        obtain ⟨i, hi, rfl, hwr, hbv, hbp⟩ := hrel
        subst hwr
        obtain ⟨bb, hbb⟩ : ∃ y, y = (pl.take i).foldl bestF8 p0 := ⟨_, rfl⟩
        rw [← hbb] at hbv hbp
        have HBB := Lib.hid hbb
        have HBV := Lib.hid hbv
        have HBP := Lib.hid hbp
        clear hbb hbv hbp
        by_cases hlt : i < np
        · have hw : IntKind.i64.wrap ((i : Int) + 1) = ((i + 1 : Nat) : Int) := by rw [IntWalk.i64_in _ (by omega)]; omega
          have hlti : (i : Int) < (np : Int) := by omega
          have hi0 : 0 ≤ (i : Int) := by omega
          have hil : i < pl.length := by rw [← HNP.out]; exact hlt
          obtain ⟨g', u, hae, e1, hnu⟩ := HOUT.out.read i hil
          injection hae with hae
          injection hae with hae _ _
          subst hae
          have hbt := best_take pl p0 i hil
          rw [← HBB.out] at hbt
          obtain ⟨q, hq⟩ : ∃ y, y = pl[i] := ⟨_, rfl⟩
          rw [← hq] at hnu hbt
          have hqp := HMEM.out q (by rw [hq]; exact List.getElem_mem hil)
          have hqf := plan_facts hqp
          have hbf := plan_facts HBP.out
          have hp256 : 2 ^ j.st.bs.length ≤ 256 := (Nat.pow_le_pow_right (by decide) (validSt_parts (validJb_parts HV.out).1).1 : _ ≤ 2 ^ 8)
          have hw4 := (validJb_parts HV.out).2.1
          have e2 : w2.cell? ⟨g, i, none⟩ = some u := by have := e1; rwa [Nat.zero_add] at this
          have HQ := Lib.hid (And.intro hnu (And.intro hqp (And.intro hbt (And.intro hqf hbf))))
          clear hnu hqp hbt hqf hbf hq hil
          go_wp2_with fail
          refine (r12blocks_any q (fun s hs => Nat.lt_of_lt_of_le (HQ.out.2.2.2.1.lt s hs) hp256) (by rw [HQ.out.2.2.2.1.len]; omega) u _ w2 HQ.out.1).mono ?_
          rintro e w' ⟨rfl, rfl⟩
          dsimp only
          go_wp2_with fail
          refine (r12blocks_any bb (fun s hs => Nat.lt_of_lt_of_le (HQ.out.2.2.2.2.lt s hs) hp256) (by rw [HQ.out.2.2.2.2.len]; omega) u6 _ w2 HBV.out).mono ?_
          rintro e w' ⟨rfl, rfl⟩
          dsimp only
          have hbt := HQ.out.2.2.1
          unfold bestF8 at hbt
          obtain ⟨cq, hcq⟩ : ∃ y, y = costJ 8 q := ⟨_, rfl⟩
          obtain ⟨cb, hcb⟩ : ∃ y, y = costJ 8 bb := ⟨_, rfl⟩
          rw [← hcq, ← hcb] at hbt ⊢
          clear hcq hcb
          by_cases hc : cq < cb
          · rw [if_pos hc] at hbt
            have HBT := Lib.hid hbt
            have hci : (cq : Int) < (cb : Int) := by omega
            clear hbt
            go_wp2_with fail
            exact ⟨⟨i + 1, hlt, by push_cast; rfl, by first | rfl | trivial, by rw [← show q = (pl.take (i + 1)).foldl bestF8 p0 from HBT.out.symm]; exact HQ.out.1, by rw [← show q = (pl.take (i + 1)).foldl bestF8 p0 from HBT.out.symm]; exact HQ.out.2.1⟩, by simp [intOf]; omega⟩
          · rw [if_neg hc] at hbt
            have HBT := Lib.hid hbt
            have hci : ¬ (cq : Int) < (cb : Int) := by omega
            clear hbt
            go_wp2_with fail
            exact ⟨⟨i + 1, hlt, by push_cast; rfl, by first | rfl | trivial, by rw [← show bb = (pl.take (i + 1)).foldl bestF8 p0 from HBT.out.symm]; exact HBV.out, by rw [← show bb = (pl.take (i + 1)).foldl bestF8 p0 from HBT.out.symm]; exact HBP.out⟩, by simp [intOf]; omega⟩
        · have hin : np = i := by omega
          subst hin
          have hlti : ¬ (np : Int) < (np : Int) := by omega
          have hpd := HPD.out.1
          have hbe := HBB.out
          rw [List.take_of_length_le (by rw [HNP.out]; exact Nat.le_refl _)] at hbe
          have hpd2 : planD j = (bb, 0) := by rw [hpd, hbe]; rfl
          have HPD2 := Lib.hid hpd2
          clear hlt hpd hbe hpd2
          go_wp2_with fail
          exact bodyPost_ret (v := .tuple #[u6, .int .i64 0]) (by simp [results, Tryz.results11, go_sem]) rfl ⟨_, by rw [HPD2.out], by rw [HPD2.out]; exact HBV.out, HBw2.out⟩
end Go.Proofs.YtbmfphiecllggaaGreatDoor

/- JobReads, walked. -/
namespace Go.Proofs.YtbmfphiecllggaaGreatDoor
set_option linter.unusedVariables false
set_option linter.unusedSimpArgs false
open Go.RowKit Go.Shelf
attribute [local go_sem] Oper.semAt_some

def heavyD (j : JobD) (k : Nat) : Bool := decide (40 < max j.st.bs.length (max j.ws.length k)) || (validJb j && decide (18 < j.ws.length * j.st.bs.length))
theorem heavyD_no {j : JobD} {k : Nat} (h : heavyD j k = false) : j.st.bs.length ≤ 40 ∧ j.ws.length ≤ 40 ∧ k ≤ 40 ∧ (validJb j = true → j.ws.length * j.st.bs.length ≤ 18) := by
  unfold heavyD at h
  rw [Bool.or_eq_false_iff, decide_eq_false_iff_not, Bool.and_eq_false_iff] at h
  refine ⟨by omega, by omega, by omega, fun hv => ?_⟩
  rcases h.2 with h2 | h2
  · rw [hv] at h2; cases h2
  · rw [decide_eq_false_iff_not] at h2; omega
set_option maxRecDepth 100000 in
set_option maxHeartbeats 4000000 in
theorem heavyj_any (j : JobD) (bs ws : Value) (a3 : Option Addr) (k cap3 : Nat) (w : World) (hbs : SpansAt w bs j.st.bs (fun k => k < w.heap.size)) (hws : SpansAt w ws j.ws (fun k => k < w.heap.size)) :
    Calls Tryz.prog 6 #[jobV j bs ws, .slice a3 k cap3] w fun e w' => e = .returned (.bool (heavyD j k)) ∧ Below w.heap.size w w' := by
  have HBS := Lib.hid hbs
  have HWS := Lib.hid hws
  obtain ⟨ao, cap, hv1, _⟩ := id hbs
  obtain ⟨ao2, cap2, hv2, _⟩ := id hws
  subst hv1 hv2
  obtain ⟨hd, hhd⟩ : ∃ b, b = heavyD j k := ⟨_, rfl⟩
  rw [← hhd]
  unfold heavyD at hhd
  obtain ⟨nb, hnb⟩ : ∃ n, n = j.st.bs.length := ⟨_, rfl⟩
  obtain ⟨nw, hnw⟩ : ∃ n, n = j.ws.length := ⟨_, rfl⟩
  obtain ⟨fl, hfl⟩ : ∃ x, x = j.st.film.1 := ⟨_, rfl⟩
  obtain ⟨fh, hfh⟩ : ∃ x, x = j.st.film.2 := ⟨_, rfl⟩
  have HJV := Lib.hid (show jobV j (.slice ao nb cap) (.slice ao2 nw cap2) = .agg #[.slice ao nb cap, .int .i64 fl, .int .i64 fh, .slice ao2 nw cap2] by unfold jobV; rw [← hfl, ← hfh])
  unfold jobV
  rw [← hnb, ← hnw, ← hfl, ← hfh]
  rw [← hnb] at HBS hhd
  rw [← hnw] at HWS hhd
  have HHD := Lib.hid hhd
  have HXw0 := Lib.hid (show (w.alloc (.cells #[.slice ao nb cap, .int .i64 fl, .int .i64 fh, .slice ao2 nw cap2] 28)).heap[w.heap.size]? = some (.cells #[.slice ao nb cap, .int .i64 fl, .int .i64 fh, .slice ao2 nw cap2] 28 (0, 0)) from heap_alloc_at _ _ _ rfl)
  have HBw0 := Lib.hid (Below.alloc' w (.cells #[.slice ao nb cap, .int .i64 fl, .int .i64 fh, .slice ao2 nw cap2] 28))
  clear hbs hws hnb hnw hfl hfh hhd
  go_enter Tryz.func6, Tryz.ntmps6
  go_wp2_with fail
  have hc := far_any j nb cap nw cap2 k cap3 ao ao2 a3 (w.alloc (.cells #[.slice ao nb cap, .int .i64 fl, .int .i64 fh, .slice ao2 nw cap2] 28))
  rw [HJV.out] at hc
  refine hc.mono ?_
  rintro e w1 ⟨rfl, hb⟩
  clear hc
  dsimp only
  have HXw1 := Lib.hid ((hb.block _ (lt_of_block HXw0.out)).trans HXw0.out)
  have HBw1 := Lib.hid (HBw0.out.trans (hb.mono HBw0.out.size))
  clear hb
  have hhd := HHD.out
  by_cases hf : 40 < max nb (max nw k)
  · rw [decide_eq_true hf, Bool.true_or] at hhd
    rw [decide_eq_true hf]
    subst hhd
    clear hf
    go_wp2_with fail
    go_ret
    exact ⟨rfl, HBw1.out⟩
  · rw [decide_eq_false hf, Bool.false_or] at hhd
    rw [decide_eq_false hf]
    have hn40 : nb ≤ 40 ∧ nw ≤ 40 := by omega
    have hmu : nw * nb ≤ 1600 := Nat.mul_le_mul hn40.2 hn40.1
    have HH2 := Lib.hid hhd
    clear hf hhd
    have c0 : w1.cell? ⟨w.heap.size, 0, none⟩ = some (.slice ao nb cap) := by rw [cell_of_row _ _ _ _ _ _ HXw1.out]; rfl
    have c1 : w1.cell? ⟨w.heap.size, 1, none⟩ = some (.int .i64 fl) := by rw [cell_of_row _ _ _ _ _ _ HXw1.out]; rfl
    have c2 : w1.cell? ⟨w.heap.size, 2, none⟩ = some (.int .i64 fh) := by rw [cell_of_row _ _ _ _ _ _ HXw1.out]; rfl
    have c3 : w1.cell? ⟨w.heap.size, 3, none⟩ = some (.slice ao2 nw cap2) := by rw [cell_of_row _ _ _ _ _ _ HXw1.out]; rfl
    go_wp2_with fail
    have hc := r12job_any j (.slice ao nb cap) (.slice ao2 nw cap2) w1 (HBS.out.later HBw1.out.size (fun k h1 _ => HBw1.out.block k h1)).low (HWS.out.later HBw1.out.size (fun k h1 _ => HBw1.out.block k h1)).low
    rw [HJV.out] at hc
    refine hc.mono ?_
    rintro e w2 ⟨rfl, hb⟩
    clear hc c0 c1 c2 c3
    dsimp only
    have HXw2 := Lib.hid ((hb.block _ (lt_of_block HXw1.out)).trans HXw1.out)
    have HBw2 := Lib.hid (HBw1.out.trans (hb.mono HBw1.out.size))
    clear hb
    have hhd := HH2.out
    cases hv : validJb j with
    | false =>
      rw [hv, Bool.false_and] at hhd
      subst hhd
      clear hv
      go_wp2_with fail
      go_ret
      exact ⟨rfl, HBw2.out⟩
    | true =>
      rw [hv, Bool.true_and] at hhd
      have c0 : w2.cell? ⟨w.heap.size, 0, none⟩ = some (.slice ao nb cap) := by rw [cell_of_row _ _ _ _ _ _ HXw2.out]; rfl
      have c1 : w2.cell? ⟨w.heap.size, 1, none⟩ = some (.int .i64 fl) := by rw [cell_of_row _ _ _ _ _ _ HXw2.out]; rfl
      have c2 : w2.cell? ⟨w.heap.size, 2, none⟩ = some (.int .i64 fh) := by rw [cell_of_row _ _ _ _ _ _ HXw2.out]; rfl
      have c3 : w2.cell? ⟨w.heap.size, 3, none⟩ = some (.slice ao2 nw cap2) := by rw [cell_of_row _ _ _ _ _ _ HXw2.out]; rfl
      obtain ⟨mu, hmue⟩ : ∃ m, m = nw * nb := ⟨_, rfl⟩
      rw [← hmue] at hhd hmu
      have hwm : IntKind.i64.wrap ((nw : Int) * (nb : Int)) = (mu : Int) := by
        have : ((nw : Int) * (nb : Int)) = ((nw * nb : Nat) : Int) := by push_cast; rfl
        rw [this, ← hmue]
        exact IntWalk.i64_in _ (by omega)
      have HM := Lib.hid hhd
      clear hv hhd hmue
      by_cases hg : 18 < mu
      · have hgi : (18 : Int) < (mu : Int) := by omega
        have hhd := HM.out
        rw [decide_eq_true hg] at hhd
        subst hhd
        go_wp2_with fail
        go_ret
        exact ⟨rfl, HBw2.out⟩
      · have hgi : ¬ (18 : Int) < (mu : Int) := by omega
        have hhd := HM.out
        rw [decide_eq_false hg] at hhd
        subst hhd
        go_wp2_with fail
        go_ret
        exact ⟨rfl, HBw2.out⟩
set_option maxRecDepth 100000 in
set_option maxHeartbeats 8000000 in
theorem lreads_any (j : JobD) (bs ws : Value) (l : List Int) (v : Value) (w : World) (hbs : SpansAt w bs j.st.bs (fun k => k < w.heap.size)) (hws : SpansAt w ws j.ws (fun k => k < w.heap.size)) (hus : NumsAt w v l (fun k => k < w.heap.size)) (htz : TabZ w) :
    Calls Tryz.prog 3 #[jobV j bs ws, v] w fun e w' => e = .returned (.bool true) ∧ Below w.heap.size w w' := by
  have HBS := Lib.hid hbs
  have HWS := Lib.hid hws
  have HUS := Lib.hid hus
  have HTZ := Lib.hid htz
  have h1z := htz.lt
  obtain ⟨ao, cap, hv1, _⟩ := id hbs
  obtain ⟨ao2, cap2, hv2, _⟩ := id hws
  obtain ⟨ao3, cap3, hv3, _⟩ := id hus
  subst hv1 hv2 hv3
  obtain ⟨nb, hnb⟩ : ∃ n, n = j.st.bs.length := ⟨_, rfl⟩
  obtain ⟨nw, hnw⟩ : ∃ n, n = j.ws.length := ⟨_, rfl⟩
  obtain ⟨nu, hnu⟩ : ∃ n, n = l.length := ⟨_, rfl⟩
  rw [← hnb] at HBS
  rw [← hnw] at HWS
  rw [← hnu] at HUS
  unfold jobV
  rw [← hnb, ← hnw, ← hnu]
  have HNB := Lib.hid hnb
  have HNW := Lib.hid hnw
  have HNU := Lib.hid hnu
  clear hbs hws hus htz hnb hnw hnu
  obtain ⟨fl, hfl⟩ : ∃ x, x = j.st.film.1 := ⟨_, rfl⟩
  obtain ⟨fh, hfh⟩ : ∃ x, x = j.st.film.2 := ⟨_, rfl⟩
  rw [← hfl, ← hfh]
  have HFL := Lib.hid (And.intro hfl hfh)
  clear hfl hfh
  have HJV := Lib.hid (show jobV j (.slice ao nb cap) (.slice ao2 nw cap2) = .agg #[.slice ao nb cap, .int .i64 fl, .int .i64 fh, .slice ao2 nw cap2] by unfold jobV; rw [← HFL.out.1, ← HFL.out.2])
  have HBw0 := Lib.hid (Below.alloc' w (.cells #[.slice ao nb cap, .int .i64 fl, .int .i64 fh, .slice ao2 nw cap2] 28))
  have HXw0 := Lib.hid (show (w.alloc (.cells #[.slice ao nb cap, .int .i64 fl, .int .i64 fh, .slice ao2 nw cap2] 28)).heap[w.heap.size]? = some (.cells #[.slice ao nb cap, .int .i64 fl, .int .i64 fh, .slice ao2 nw cap2] 28 (0, 0)) from heap_alloc_at _ _ _ rfl)
  go_enter Tryz.func3, Tryz.ntmps3
  go_wp2_with fail
  have hc := heavyj_any j (.slice ao nb cap) (.slice ao2 nw cap2) ao3 nu cap3 (w.alloc (.cells #[.slice ao nb cap, .int .i64 fl, .int .i64 fh, .slice ao2 nw cap2] 28)) (HBS.out.later HBw0.out.size (fun k h1 _ => HBw0.out.block k h1)).low (HWS.out.later HBw0.out.size (fun k h1 _ => HBw0.out.block k h1)).low
  rw [HJV.out] at hc
  refine hc.mono ?_
  rintro e w1 ⟨rfl, hb⟩
  clear hc
  dsimp only
  have HXw1 := Lib.hid ((hb.block _ (lt_of_block HXw0.out)).trans HXw0.out)
  have HBw1 := Lib.hid (HBw0.out.trans (hb.mono HBw0.out.size))
  clear hb
  cases hhd : heavyD j nu with
  | true =>
    clear hhd
    go_wp2_with fail
    refine (lawake_any _ (HTZ.out.below HBw1.out h1z)).mono ?_
    rintro e w9 ⟨rfl, hb9⟩
    dsimp only
    have HB9 := Lib.hid (HBw1.out.trans (hb9.mono HBw1.out.size))
    clear hb9
    go_wp2_with fail
    go_ret
    exact ⟨rfl, HB9.out⟩
  | false =>
    have HHD := Lib.hid (heavyD_no hhd)
    clear hhd
    have c0 : w1.cell? ⟨w.heap.size, 0, none⟩ = some (.slice ao nb cap) := by rw [cell_of_row _ _ _ _ _ _ HXw1.out]; rfl
    have c1 : w1.cell? ⟨w.heap.size, 1, none⟩ = some (.int .i64 fl) := by rw [cell_of_row _ _ _ _ _ _ HXw1.out]; rfl
    have c2 : w1.cell? ⟨w.heap.size, 2, none⟩ = some (.int .i64 fh) := by rw [cell_of_row _ _ _ _ _ _ HXw1.out]; rfl
    have c3 : w1.cell? ⟨w.heap.size, 3, none⟩ = some (.slice ao2 nw cap2) := by rw [cell_of_row _ _ _ _ _ _ HXw1.out]; rfl
    go_wp2_with fail
    have hc := Check_any j (.slice ao nb cap) (.slice ao2 nw cap2) l (.slice ao3 nu cap3) w1 (HBS.out.later HBw1.out.size (fun k h1 _ => HBw1.out.block k h1)).low (HWS.out.later HBw1.out.size (fun k h1 _ => HBw1.out.block k h1)).low (HUS.out.later HBw1.out.size (fun k h1 _ => HBw1.out.block k h1)).lowE (by have := HHD.out.2.2.1; rw [HNU.out] at this; omega)
    obtain ⟨⟨⟨wh, ru⟩, er⟩, hres⟩ : ∃ y : (Int × Int) × Int, y = checkD j l := ⟨_, rfl⟩
    rw [HJV.out, ← hres] at hc
    have HRES := Lib.hid hres
    refine hc.mono ?_
    rintro e w2 ⟨rfl, hb⟩
    clear hc hres c0 c1 c2 c3
    dsimp only
    have HXw2 := Lib.hid ((hb.block _ (lt_of_block HXw1.out)).trans HXw1.out)
    have HBw2 := Lib.hid (HBw1.out.trans (hb.mono HBw1.out.size))
    clear hb
    have c0 : w2.cell? ⟨w.heap.size, 0, none⟩ = some (.slice ao nb cap) := by rw [cell_of_row _ _ _ _ _ _ HXw2.out]; rfl
    have c1 : w2.cell? ⟨w.heap.size, 1, none⟩ = some (.int .i64 fl) := by rw [cell_of_row _ _ _ _ _ _ HXw2.out]; rfl
    have c2 : w2.cell? ⟨w.heap.size, 2, none⟩ = some (.int .i64 fh) := by rw [cell_of_row _ _ _ _ _ _ HXw2.out]; rfl
    have c3 : w2.cell? ⟨w.heap.size, 3, none⟩ = some (.slice ao2 nw cap2) := by rw [cell_of_row _ _ _ _ _ _ HXw2.out]; rfl
    go_wp2_with fail
    have hc := r12Check_any j (by have := HHD.out.1; omega) (.slice ao nb cap) (.slice ao2 nw cap2) l (by have := HHD.out.2.2.1; rw [HNU.out] at this; omega) (.slice ao3 nu cap3) w2 (HBS.out.later HBw2.out.size (fun k h1 _ => HBw2.out.block k h1)).low (HWS.out.later HBw2.out.size (fun k h1 _ => HBw2.out.block k h1)).low (HUS.out.later HBw2.out.size (fun k h1 _ => HBw2.out.block k h1)).lowE
    rw [HJV.out, ← HRES.out] at hc
    refine hc.mono ?_
    rintro e w3 ⟨rfl, hb⟩
    clear hc c0 c1 c2 c3
    dsimp only
    have HXw3 := Lib.hid ((hb.block _ (lt_of_block HXw2.out)).trans HXw2.out)
    have HBw3 := Lib.hid (HBw2.out.trans (hb.mono HBw2.out.size))
    clear hb
    have c0 : w3.cell? ⟨w.heap.size, 0, none⟩ = some (.slice ao nb cap) := by rw [cell_of_row _ _ _ _ _ _ HXw3.out]; rfl
    have c1 : w3.cell? ⟨w.heap.size, 1, none⟩ = some (.int .i64 fl) := by rw [cell_of_row _ _ _ _ _ _ HXw3.out]; rfl
    have c2 : w3.cell? ⟨w.heap.size, 2, none⟩ = some (.int .i64 fh) := by rw [cell_of_row _ _ _ _ _ _ HXw3.out]; rfl
    have c3 : w3.cell? ⟨w.heap.size, 3, none⟩ = some (.slice ao2 nw cap2) := by rw [cell_of_row _ _ _ _ _ _ HXw3.out]; rfl
    go_wp2_with fail
    have hc := Plan_any j (.slice ao nb cap) (.slice ao2 nw cap2) w3 (HBS.out.later HBw3.out.size (fun k h1 _ => HBw3.out.block k h1)).low (HWS.out.later HBw3.out.size (fun k h1 _ => HBw3.out.block k h1)).low (HTZ.out.below HBw3.out h1z)
    obtain ⟨⟨pl, pe⟩, hpd⟩ : ∃ y, y = planD j := ⟨_, rfl⟩
    unfold PlanR at hc
    rw [HJV.out, ← hpd] at hc
    have HPD := Lib.hid hpd
    refine hc.mono ?_
    rintro e w4 ⟨pv, rfl, hpv, hb⟩
    clear hc hpd c0 c1 c2 c3
    dsimp only at hpv ⊢
    have HPV := Lib.hid hpv.lowE
    have HXw4 := Lib.hid ((hb.block _ (lt_of_block HXw3.out)).trans HXw3.out)
    have HBw4 := Lib.hid (HBw3.out.trans (hb.mono HBw3.out.size))
    clear hb
    clear hpv
    have c0 : w4.cell? ⟨w.heap.size, 0, none⟩ = some (.slice ao nb cap) := by rw [cell_of_row _ _ _ _ _ _ HXw4.out]; rfl
    have c1 : w4.cell? ⟨w.heap.size, 1, none⟩ = some (.int .i64 fl) := by rw [cell_of_row _ _ _ _ _ _ HXw4.out]; rfl
    have c2 : w4.cell? ⟨w.heap.size, 2, none⟩ = some (.int .i64 fh) := by rw [cell_of_row _ _ _ _ _ _ HXw4.out]; rfl
    have c3 : w4.cell? ⟨w.heap.size, 3, none⟩ = some (.slice ao2 nw cap2) := by rw [cell_of_row _ _ _ _ _ _ HXw4.out]; rfl
    go_wp2_with fail
    have hc := r12Plan_any j HHD.out.2.2.2 (.slice ao nb cap) (.slice ao2 nw cap2) w4 (HBS.out.later HBw4.out.size (fun k h1 _ => HBw4.out.block k h1)).low (HWS.out.later HBw4.out.size (fun k h1 _ => HBw4.out.block k h1)).low
    unfold PlanE at hc
    rw [HJV.out, ← HPD.out] at hc
    refine hc.mono ?_
    rintro e w5 ⟨qv, rfl, hqv, hb⟩
    clear hc c0 c1 c2 c3
    dsimp only at hqv ⊢
    have HQV := Lib.hid hqv
    have HPV5 := Lib.hid (HPV.out.later hb.size (fun k h _ => hb.block k h)).lowE
    have HXw5 := Lib.hid ((hb.block _ (lt_of_block HXw4.out)).trans HXw4.out)
    have HBw5 := Lib.hid (HBw4.out.trans (hb.mono HBw4.out.size))
    clear hb
    clear hqv
    have hpl : pl.length ≤ 40 := by
      have hpd := HPD.out
      unfold planD at hpd
      split at hpd
      · injection hpd with h1 _; rw [h1]; simp
      · split at hpd
        · rename_i hc
          injection hpd with h1 _
          rw [h1, (plan_facts (can_told hc)).len]
          exact HHD.out.2.1
        · injection hpd with h1 _; rw [h1]; simp
    have HPL := Lib.hid hpl
    clear hpl
    go_wp2_with fail
    have hc := r12ints_any (pl.map fun s : Nat => (s : Int)) (pl.map fun s : Nat => (s : Int)) pv qv _ _ (by rw [List.length_map]; have := HPL.out; omega) (by rw [List.length_map]; have := HPL.out; omega) w5 HPV5.out HQV.out
    rw [decide_eq_true rfl] at hc
    refine hc.mono ?_
    rintro e w6 ⟨rfl, hb⟩
    clear hc
    dsimp only
    have HXw6 := Lib.hid ((hb.block _ (lt_of_block HXw5.out)).trans HXw5.out)
    have HBw6 := Lib.hid (HBw5.out.trans (hb.mono HBw5.out.size))
    clear hb
    go_wp2_with fail
    refine (lawake_any _ (HTZ.out.below HBw6.out h1z)).mono ?_
    rintro e w9 ⟨rfl, hb9⟩
    dsimp only
    have HB9 := Lib.hid (HBw6.out.trans (hb9.mono HBw6.out.size))
    clear hb9
    go_wp2_with fail
    go_ret
    exact ⟨rfl, HB9.out⟩
end Go.Proofs.YtbmfphiecllggaaGreatDoor

/- JobReads: the law returns true, and its arguments read as they did. -/
namespace Go.Proofs.YtbmfphiecllggaaGreatDoor
set_option linter.unusedVariables false
set_option linter.unusedSimpArgs false
open Go.ChangeShapes Go.WideShapes Go.ChangeAt Go.RowKit Go.Deep
section
variable {H : Type} {enc : TypeId × Value → H} {w : World} {base : Nat} {spare : Nat → Bool} {held : Bool}
set_option maxRecDepth 100000 in
theorem open_numsE {t ts : TypeId} {n : Nat} {v : Value} {x : DataW H × List MemPlace} (hts : Tryz.prog.underlying ts = some (.slice t)) (ht : Tryz.prog.underlying t = some (.int .i64)) (hcl : Tryz.prog.cellsOf t = 1) (h : DataW.trod enc Tryz.prog w base spare held n ts [v] = some x) : ∃ l, NumsAt w v l (fun k => k < w.heap.size) := by
  rcases open_slice hts h with ⟨h1, _⟩ | ⟨a, len, cap, m, k, D, Pl, h1, _, h2, h3, h4, _, h5⟩
  · exact ⟨[], none, 0, by simpa using h1, by simp, by simp, fun i hi => absurd hi (by simp)⟩
  · have hv : v = .slice (some a) len cap := by simpa using h1
    have hlm : len ≤ m := by rw [h4]; split <;> omega
    by_cases h0 : len = 0
    · subst h0
      exact ⟨[], some a, cap, hv, by simp, h3, fun i hi => absurd hi (by simp)⟩
    have hcells : ∀ i, i < len → ∃ s : Int, w.cell? (a.add i) = some (.int .i64 s) := fun i hi => by
      obtain ⟨cs', hc, ht'⟩ := h5 i (by omega)
      rw [hcl] at hc
      obtain ⟨s, rfl, _, _⟩ := DataW.trod_int ht ht'
      obtain ⟨_, _, hat⟩ := World.cells?_some hc
      have a0 := hat 0 (by omega)
      rw [Go.Deep.add_add, Nat.mul_one, Nat.add_zero] at a0
      exact ⟨s, a0⟩
    obtain ⟨s0, hs0⟩ := hcells 0 (by omega)
    obtain ⟨hae, hab⟩ := addr_of_cell (a := a) (w := w) hs0
    obtain ⟨l, hl, hq⟩ := choose_list (Q := fun i (s : Int) => w.cell? ⟨a.block, a.off + i, none⟩ = some (.int .i64 s)) len (fun i hi => by
      obtain ⟨s, e1⟩ := hcells i hi
      rw [hae, Addr.add_mid] at e1
      exact ⟨s, e1⟩)
    refine ⟨l, some a, cap, by rw [hv, hl], by omega, h3, fun i hi => ?_⟩
    exact ⟨a.block, a.off, by rw [← hae], hab, hab, hq i hi⟩
end
set_option maxRecDepth 100000 in
theorem jobReads_lifted (os : Os) (started : os.Started) (H : Type) (enc : TypeId × Value → H) :
    ReturnsInHanded {} Tryz.checked os 3 .any (fun w args => (Rows.jobReadsSpec.pre enc Tryz.prog Tryz.f3 [] false w args ∧ laidMetH Tryz.prog laidB w) ∧ sizedMet enc Tryz.prog Tryz.f3 (OpenSpec.ofChange Rows.jobReadsSpec) false w args)
      (Rows.jobReadsSpec.post enc Tryz.prog Tryz.f3 false true false false) := by
  refine returnsInHanded_of_change_and (C := Tryz.checked) (X := fun w _ => laidMetH Tryz.prog laidB w) (fun _ _ _ hh h => h.of_heap hh) own_knob started (by kernel_rfl) Tryz.func3
    (ChangeSpec.witness_shaped (enc := enc) (C := Tryz.checked) (os := os) (X := fun w _ => laidMetH Tryz.prog laidB w) false (World.doorLaid Tryz.prog 400 os) #[.agg #[.slice none 0 0, .int .i64 0, .int .i64 0, .slice none 0 0], .slice none 0 0] 8 rfl (World.shaped_of_RefB (by kernel_rfl) (by kernel_rfl)) (by kernel_rfl) (by kernel_rfl) (by kernel_rfl) (door_met os _)) ?_
  intro W base args ds gs before hval0 hW _ _ hL _
  have hval : ∀ (j : Nat) t v, Tryz.f3.params[j]? = some t → args[j]? = some v → Value.okWide Tryz.prog W .any base t v := hval0
  have hW' := hW
  obtain ⟨p, q, hA0, hV, rfl, hfz, hnd⟩ := hW
  have hA : DataW.TrodAll enc Tryz.prog W 0 (fun _ => true) true Tryz.f3.params.toList args.toList ds p := hA0
  rw [Tryz.params3] at hA hval
  obtain ⟨rfl, rfl⟩ := trodVars_none hV
  clear hA0 hval0
  simp only [List.append_nil] at hW'
  have hst := hA
  have htz := of_laid hL
  obtain ⟨v0, v1, d0, d1, p0, p1, rfl, rfl, rfl, h0, h1⟩ := trodAll_two hA
  obtain ⟨j, bs, ws, rfl, hbs, hws⟩ := open_jobV (hval 0 _ _ rfl rfl) h0
  obtain ⟨fuel, hf⟩ := h1
  obtain ⟨ao, len, cap, rfl⟩ := okWide_slice Tryz.underlying29 (hval 1 _ _ rfl rfl)
  obtain ⟨l, hus⟩ := open_numsE (v := .slice ao len cap) Tryz.underlying29 (by kernel_rfl) (by kernel_rfl) hf
  refine (lreads_any j bs ws l _ W hbs hws hus htz).mono fun e W' ⟨he, hb⟩ => ?_
  subst he
  exact ⟨_, rfl, lawEnd hW' rfl hst rfl (by decide +kernel) rfl rfl hb⟩
theorem jobReads_over : Rows.jobReadsRow.holds Tryz.pinned (OpenSpec.ofChange Rows.jobReadsSpec) :=
  OpenClaim.holds_of_wide 3 Tryz.f3 rfl rfl rfl rfl rfl rfl rfl ⟨rfl, rfl, rfl, rfl, rfl⟩ rfl rfl rfl rfl rfl (by kernel_rfl) Tryz.func3 (by kernel_rfl)
    (of_decide_eq_true (by kernel_rfl)) (by unfold Func.isWrapper; first | (rw [if_pos (by decide +kernel)]; kernel_rfl) | (rw [if_neg (by decide +kernel)]; exact ⟨rfl, rfl⟩))
    (fun os started H enc _ => jobReads_lifted os started H enc)
theorem job_reads : Rows.JobReadsCardSaid :=
  Claim7.holds_tied_plain_at .later [] [.data, .data] true (true, "b10382ac8671ca2007e8d9f3e1d106936a675b56188049218c01893cb5a1cd3f") true
    jobReads_over (fun _ h => by cases h) (by kernel_rfl) (fun _ h => by cases h) jobReads_row_tie rfl ⟨rfl, rfl⟩ (by kernel_rfl) rfl
    (fun f fn hf hfn => by
      obtain rfl : f = 3 := Option.some.inj ((show Tryz.prog.funcNamed "blockworks/blockworkslaw12.JobReads" = some 3 by kernel_rfl).symm.trans hf) |>.symm
      obtain rfl : fn = Tryz.f3 := (Option.some.inj (Tryz.func3.symm.trans hfn)).symm
      exact ⟨by kernel_rfl, fun j t ht => by
        rw [Tryz.params3] at ht
        have hm : t ∈ [28, 29] := by simpa using Array.mem_of_getElem? ht
        have hall : ([28, 29].all fun u => !Tryz.prog.wantsStandIn u) = true := by kernel_rfl
        exact (show Tryz.prog.wantsStandIn t = false by simpa using List.all_eq_true.1 hall t hm)⟩)
    (by kernel_rfl)
#print axioms job_reads
end Go.Proofs.YtbmfphiecllggaaGreatDoor
