/- Texts Vf, Vg, Vh, Vi in one file; each begins with a word on what it proves. -/
import Derived.Laws.AppendOwn
import Derived.Maps.AppendAt
import Derived.Laws.StructEq
import Derived.Test.YtabbmihakoeegaaKj

/- told, enough, can; what a set costs. -/
namespace Go.Proofs.Ytabbmihakoeegaa
set_option linter.unusedVariables false
set_option linter.unusedSimpArgs false
open Go.RowKit Go.Shelf
attribute [local go_sem] Oper.semAt_some

set_option maxRecDepth 100000 in
set_option maxHeartbeats 2000000 in
theorem of_seqG (b1 s : Nat) (hs : s < 256) (W : World) (hb1 : W.heap[b1]? = some (.cells #[.int .u64 s] 70 (0, 0))) :
    SeqG Try.prog 89 #[.pointer (some ⟨b1, 0, none⟩)] (fun n : Nat => #[.int .i64 n]) (ofL s) (fun k => k = b1) W := by
  intro l Mut J Jx hM hJ hJx hY h0
  have HM := Lib.hid hM
  have HJ := Lib.hid hJ
  have HJx := Lib.hid hJx
  have HY := Lib.hid hY
  clear hM hJ hJx hY
  have hlt1 := lt_of_block hb1
  have HB1 := Lib.hid hb1
  clear hb1
  refine callsIn_wide.1 (callsIn_of_wp (F := Fence.wide) (n := 0) Try.func89 rfl trivial ?_ rfl)
  simp only [Try.ntmps89, List.size_toArray, List.length_cons, List.length_nil, Nat.reduceAdd, Nat.reduceSub, Array.replicate_succ, Array.replicate_zero, List.push_toArray, List.append_toArray, List.nil_append, List.cons_append]
  have facts : ∀ wr, Keeps (fun k => Mut k ∨ W.heap.size ≤ k) W wr → wr.cell? ⟨b1, 0, none⟩ = some (.int .u64 s) := by
    intro wr hk
    have k1 := (hk.block b1 hlt1 (fun h => h.elim (fun h => (HM.out _ h).2 rfl) (fun h => by omega))).trans HB1.out
    rw [cell_of_row wr b1 _ _ _ _ k1]; rfl
  have HF := Lib.hid facts
  clear facts
  refine wpIn_wide.2 (wp_scope_straight ((wpIn_wide (n := 0)).1 (wpIn_seq (wpIn_label ?_))))
  simp only [Exit.then]
  gi_wp2
  gi_loopw [3] (fun z wr => ∃ (n : Nat) (G : Nat → Prop), n ≤ 8 ∧ z = .int .i64 n ∧ J (ofN s n) G wr ∧ Keeps (fun k => Mut k ∨ W.heap.size ≤ k) W wr ∧ (∀ k, G k → W.heap.size ≤ k)) (fun z _ => 9 - (intOf z).toNat)
  case atStart => exact ⟨0, fun _ => False, Nat.zero_le _, rfl, h0, Keeps.refl _ _, fun _ h => h.elim⟩
  case round =>
    obtain ⟨n, G, hn, rfl, hj, hk, hG⟩ := hrel
    have HK := Lib.hid hk
    have HJJ := Lib.hid hj
    have f0 := HF.out wr hk
    clear hj hk
    have hdq : ((s : Int) / 2 ^ n) = ((s / 2 ^ n : Nat) : Int) := by simp
    by_cases hz : s / 2 ^ n = 0
    · have hz2 : (s : Int) / 2 ^ n = 0 := by rw [hdq, hz]; rfl
      have hlt : s < 2 ^ n := by
        rcases Nat.lt_or_ge s (2 ^ n) with h | h
        · exact h
        · have := Nat.div_pos h (Nat.two_pow_pos n); omega
      have HE := Lib.hid (ofN_end s n hn hlt)
      clear hdq hz hlt
      gi_wp2
      simp only [Exit.noGoto]
      go_end0
      exact ⟨⟨_, rfl⟩, HK.out, G, .inl (by rw [← HE.out]; exact HJJ.out)⟩
    · have hz2 : ¬ (s : Int) / 2 ^ n = 0 := by rw [hdq]; omega
      have hn8 : n < 8 := by
        rcases Nat.lt_or_ge n 8 with h | h
        · exact h
        · exact absurd (Nat.div_eq_of_lt (Nat.lt_of_lt_of_le hs (Nat.pow_le_pow_right (show 0 < 2 by decide) h) : s < 2 ^ n)) hz
      have hw : IntKind.i64.wrap ((n : Int) + 1) = ((n + 1 : Nat) : Int) := by rw [IntWalk.i64_in _ (by omega)]; omega
      clear hdq hz
      gi_wp2
      refine ⟨trivial, rfl, callsIn_wide.2 ((has_any s n hs (by omega) _).mono ?_)⟩
      rintro e w2 ⟨rfl, rfl⟩
      cases hb : s.testBit n with
      | false =>
        have HNO := Lib.hid (ofN_no s n hb)
        clear hb
        gi_wp2
        go_roundw
        case rel => exact ⟨n + 1, G, by omega, rfl, by rw [HNO.out]; exact HJJ.out, HK.out, hG⟩
        case measure => simp [intOf]; omega
      | true =>
        have HYE := Lib.hid (ofN_yes s n hb)
        obtain ⟨rest, hrest⟩ := ofL_at s n hn8 hb
        obtain ⟨fn, tmps, assign, body, hy, hR⟩ := HY.out _ _ _ G wr hrest HJJ.out HK.out.size hG
        rw [← HYE.out] at hR
        have HSP := Lib.hid hrest
        clear hb hrest
        gi_wp2
        refine ⟨rfl, hR.mono ?_⟩
        rintro e W3 ⟨hk3, hjj⟩
        have hk3' : Keeps (fun k => Mut k ∨ W.heap.size ≤ k) wr W3 := hk3.mono (fun k _ h => h.elim .inl (fun h => .inr (hG k h)))
        have hG3 : ∀ k, Grow G wr W3 k → W.heap.size ≤ k := fun k h => h.elim (hG k) (fun h => by have := HK.out.size; omega)
        rcases hjj with ⟨rfl, hj3⟩ | ⟨rfl, hj3⟩
        · gi_wp2
          go_roundw
          case rel => exact ⟨n + 1, _, by omega, rfl, hj3, HK.out.trans hk3', hG3⟩
          case measure => simp [intOf]; omega
        · gi_wp2
          simp only [Exit.noGoto]
          refine bodyPost_ret (results_none rfl _ _ _) rfl ?_
          exact ⟨⟨_, rfl⟩, HK.out.trans hk3', _, .inr ⟨_, _, _, HSP.out, by rw [← HYE.out]; exact hj3⟩⟩

theorem PlanS.drew {q : PlanD} {B pp mp : Nat} {bs rs ps : Value} {L : List Nat} {W : World} (h : PlanS q B pp mp bs rs ps L W) : PlanS q B pp mp bs rs ps L W.drew := h.keep (M := fun _ => False) (Keeps.drew _ _) (fun _ h => h.elim)
/-- What a call that answers a number, and may keep more, comes to. -/
def GivesP (q : PlanD) (B pp mp : Nat) (bs rs ps v : Value) (w : World) (e : Ending) (w' : World) : Prop := e = .returned v ∧ ∃ L', PlanS q B pp mp bs rs ps L' w' ∧ Keeps (fun k => k = mp) w w'
set_option maxRecDepth 100000 in
set_option maxHeartbeats 4000000 in
theorem ptold_any {q : PlanD} (hq : OkQ q) {B pp mp : Nat} {bs rs ps : Value} (w : World) (h : PlanS q B pp mp bs rs ps [] w) :
    Calls Try.prog 33 #[.pointer (some ⟨pp, 0, none⟩)] w fun e w' => (truA q.pr = [] ∧ e = .panicked [{ v := refV 10, recovered := false }] ∧ Below w.heap.size w w') ∨ (truA q.pr ≠ [] ∧ GivesP q B pp mp bs rs ps (.pointer (some ⟨pp, 0, none⟩)) w e w') := by
  have HQ := Lib.hid hq
  have H := Lib.hid h
  clear hq h
  go_enter Try.func33, Try.ntmps33
  go_wp2_with fail
  refine (pevery_any HQ.out w H.out).mono ?_
  rintro e w' ⟨rfl, rfl⟩
  dsimp only
  go_wp2_with fail
  refine (known_out HQ.out (everyV q) everyV_lt (by simp) _ H.out).mono ?_
  have hev : truA (onlyP q.pr (everyV q)) = [] ↔ truA q.pr = [] := by rw [everyV_is HQ.out]; exact truA_every HQ.out.pr
  rintro e w' (⟨ht, rfl, hb⟩ | ⟨ht, rfl, L', hP, hk⟩)
  · dsimp only
    go_wp2_with fail
    exact ⟨by simp, .inl ⟨hev.1 ht, rfl, hb⟩⟩
  · dsimp only
    go_wp2_with fail
    go_ret
    exact .inr ⟨fun h => ht (hev.2 h), rfl, L', hP, hk⟩
set_option maxRecDepth 100000 in
set_option maxHeartbeats 4000000 in
theorem enough_any {q : PlanD} (hq : OkQ q) (ht : truA q.pr ≠ []) {B pp mp : Nat} {bs rs ps : Value} {L : List Nat} (s : Nat) (hs : s < 2 ^ q.prices.length) (w : World) (h : PlanS q B pp mp bs rs ps L w) :
    Calls Try.prog 54 #[.pointer (some ⟨pp, 0, none⟩), .int .u64 s] w (GivesP q B pp mp bs rs ps (.bool (enoughV q s)) w) := by
  have HQ := Lib.hid hq
  have H := Lib.hid h
  have HT := Lib.hid ht
  have c6 := h.c6
  clear hq h ht
  go_enter Try.func54, Try.ntmps54
  go_wp2_with fail
  refine wp_region_held_drew (S := fun W' => W'.cell? ⟨pp, 6, none⟩ = some (.int .i64 q.wide)) (by kernel_rfl) c6 fun hS => ?_
  refine wpAnyH_take (i := 0) (v := ?_) rfl (by kernel_rfl) (by kernel_rfl) (by kernel_rfl) (fun _ _ _ h => h) (Or.inl ⟨by rfl, ?_⟩) hS ?_
  rotate_left
  · (intro W hSw; have hq1 := hSw; go_simp; try with_reducible rfl)
  try simp only [List.getElem_toArray, List.getElem_cons_succ, List.getElem_cons_zero, Act.put, List.setIfInBounds_toArray, List.set_cons_zero, List.set_cons_succ]
  refine wpAnyH_take (i := 1) (v := ?_) rfl (by kernel_rfl) (by kernel_rfl) (by kernel_rfl) (fun _ _ _ h => h) (Or.inl ⟨by rfl, ?_⟩) hS ?_
  rotate_left
  · (intro W hSw; have hq1 := hSw; go_simp; try with_reducible rfl)
  try simp only [List.getElem_toArray, List.getElem_cons_succ, List.getElem_cons_zero, Act.put, List.setIfInBounds_toArray, List.set_cons_zero, List.set_cons_succ]
  refine wpAnyH_take (i := 4) (v := ?_) rfl (by kernel_rfl) (by kernel_rfl) (by kernel_rfl) (fun _ _ _ h => h) (Or.inl ⟨by rfl, ?_⟩) hS ?_
  rotate_left
  · (intro W hSw; have hq1 := hSw; go_simp; try with_reducible rfl)
  try simp only [List.getElem_toArray, List.getElem_cons_succ, List.getElem_cons_zero, Act.put, List.setIfInBounds_toArray, List.set_cons_zero, List.set_cons_succ]
  refine wpAnyH_take (i := 5) (v := ?_) rfl (by kernel_rfl) (by kernel_rfl) (by kernel_rfl) (fun _ _ _ h => h) (Or.inl ⟨by rfl, ?_⟩) hS ?_
  rotate_left
  · (intro W hSw; have hq1 := hSw; go_simp; try with_reducible rfl)
  try simp only [List.getElem_toArray, List.getElem_cons_succ, List.getElem_cons_zero, Act.put, List.setIfInBounds_toArray, List.set_cons_zero, List.set_cons_succ]
  refine wpAnyH_take (i := 6) (v := ?_) rfl (by kernel_rfl) (by kernel_rfl) (by kernel_rfl) (fun _ _ _ h => h) (Or.inl ⟨by rfl, ?_⟩) hS ?_
  rotate_left
  · (intro W hSw; have hq1 := hSw; go_simp; try with_reducible rfl)
  try simp only [List.getElem_toArray, List.getElem_cons_succ, List.getElem_cons_zero, Act.put, List.setIfInBounds_toArray, List.set_cons_zero, List.set_cons_succ]
  refine wpAnyH_take (i := 7) (v := ?_) rfl (by kernel_rfl) (by kernel_rfl) (by kernel_rfl) (fun _ _ _ h => h) (Or.inl ⟨by rfl, ?_⟩) hS ?_
  rotate_left
  · (intro W hSw; have hq1 := hSw; go_simp; try with_reducible rfl)
  try simp only [List.getElem_toArray, List.getElem_cons_succ, List.getElem_cons_zero, Act.put, List.setIfInBounds_toArray, List.set_cons_zero, List.set_cons_succ]
  refine wpAnyH_take (i := 8) (v := ?_) rfl (by kernel_rfl) (by kernel_rfl) (by kernel_rfl) (fun _ _ _ h => h) (Or.inl ⟨by rfl, ?_⟩) hS ?_
  rotate_left
  · (intro W hSw; have hq1 := hSw; go_simp; try with_reducible rfl)
  try simp only [List.getElem_toArray, List.getElem_cons_succ, List.getElem_cons_zero, Act.put, List.setIfInBounds_toArray, List.set_cons_zero, List.set_cons_succ]
  refine wpAnyH_ready (rs := [2]) (by kernel_rfl) (by simp) ?_
  refine AllReadyH.cons rfl (fun K hK => ?_) AllReadyH.nil
  go_simp
  refine (pknown_any HQ.out HT.out s hs _ H.out.drew).mono ?_
  rintro e w' ⟨rfl, L', hP, hk⟩
  dsimp only
  have HP := Lib.hid hP
  have HK := Lib.hid hk
  clear hP hk hS
  refine hK.out _ _ HP.out.c6 (fun hS => ?_)
  clear hK K
  try simp only [List.getElem_toArray, List.getElem_cons_succ, List.getElem_cons_zero, Act.put, List.setIfInBounds_toArray, List.set_cons_zero, List.set_cons_succ]
  refine wpAnyH_ready (rs := [3]) (by kernel_rfl) (by simp) ?_
  refine AllReadyH.cons rfl (fun K hK => ?_) AllReadyH.nil
  go_simp
  refine (widest_any q.pr s _).mono ?_
  rintro e w2 ⟨rfl, hb⟩
  dsimp only
  have HP2 := Lib.hid (HP.out.below hb)
  have HK2 := Lib.hid ((Keeps.drew (fun k => k = mp) w).trans (HK.out.trans (Keeps.of_below hb (fun k h1 h2 => by omega))))
  clear hb hS
  refine hK.out _ _ HP2.out.c6 (fun hS => ?_)
  clear hK K
  try simp only [List.getElem_toArray, List.getElem_cons_succ, List.getElem_cons_zero, Act.put, List.setIfInBounds_toArray, List.set_cons_zero, List.set_cons_succ]
  refine wpAnyH_take (i := 9) (v := ?_) rfl (by kernel_rfl) (by kernel_rfl) (by kernel_rfl) (fun _ _ _ h => h) (Or.inl ⟨by rfl, ?_⟩) hS ?_
  rotate_left
  · (intro W hSw; have hq1 := hSw; go_simp; try with_reducible rfl)
  try simp only [List.getElem_toArray, List.getElem_cons_succ, List.getElem_cons_zero, Act.put, List.setIfInBounds_toArray, List.set_cons_zero, List.set_cons_succ]
  refine wpAnyH_take (i := 10) (v := ?_) rfl (by kernel_rfl) (by kernel_rfl) (by kernel_rfl) (fun _ _ _ h => h) (Or.inl ⟨by rfl, ?_⟩) hS ?_
  rotate_left
  · (intro W hSw; have hq1 := hSw; go_simp; try with_reducible rfl)
  try simp only [List.getElem_toArray, List.getElem_cons_succ, List.getElem_cons_zero, Act.put, List.setIfInBounds_toArray, List.set_cons_zero, List.set_cons_succ]
  refine wpAnyH_done (by kernel_rfl) ?_ _
  clear hS
  go_wp2
  go_ret
  exact ⟨rfl, L', HP2.out, HK2.out⟩
set_option maxRecDepth 100000 in
set_option maxHeartbeats 4000000 in
theorem can_any {q : PlanD} (hq : OkQ q) {B pp mp : Nat} {bs rs ps : Value} (w : World) (h : PlanS q B pp mp bs rs ps [] w) :
    Calls Try.prog 52 #[.pointer (some ⟨pp, 0, none⟩)] w fun e w' => (truA q.pr = [] ∧ e = .panicked [{ v := refV 10, recovered := false }] ∧ Keeps (fun k => k = mp) w w') ∨
      (truA q.pr ≠ [] ∧ enoughV q (everyV q) = false ∧ e = .panicked [{ v := refV 4, recovered := false }] ∧ Keeps (fun k => k = mp) w w') ∨ (truA q.pr ≠ [] ∧ enoughV q (everyV q) = true ∧ GivesP q B pp mp bs rs ps (.pointer (some ⟨pp, 0, none⟩)) w e w') := by
  have HQ := Lib.hid hq
  have H := Lib.hid h
  clear hq h
  go_enter Try.func52, Try.ntmps52
  go_wp2_with fail
  refine (ptold_any HQ.out w H.out).mono ?_
  rintro e w1 (⟨ht, rfl, hb⟩ | ⟨ht, rfl, L1, hP, hk⟩)
  · dsimp only
    go_wp2_with fail
    exact ⟨by simp, .inl ⟨ht, rfl, Keeps.of_below hb (fun k h1 h2 => by omega)⟩⟩
  dsimp only
  have HT := Lib.hid ht
  have HP := Lib.hid hP
  have HK := Lib.hid hk
  clear ht hP hk
  go_wp2_with fail
  refine (pevery_any HQ.out w1 HP.out).mono ?_
  rintro e w' ⟨rfl, rfl⟩
  dsimp only
  go_wp2_with fail
  refine (enough_any HQ.out HT.out (everyV q) everyV_lt _ HP.out).mono ?_
  rintro e w2 ⟨rfl, L2, hP, hk⟩
  dsimp only
  have HP2 := Lib.hid hP
  have HK2 := Lib.hid (HK.out.trans hk)
  clear hP hk
  cases hen : enoughV q (everyV q) with
  | false =>
    go_wp2_with fail
    refine (ask_no 4 _).mono ?_
    rintro e w3 ⟨rfl, rfl⟩
    dsimp only
    go_wp2_with fail
    exact ⟨by simp, .inr (.inl ⟨HT.out, by first | trivial | rfl, rfl, HK2.out⟩)⟩
  | true =>
    go_wp2_with fail
    refine (ask_ok 4 _).mono ?_
    rintro e w3 ⟨rfl, rfl⟩
    dsimp only
    go_wp2_with fail
    go_ret
    exact .inr (.inr ⟨HT.out, by first | trivial | rfl, rfl, L2, HP2.out, HK2.out⟩)

/-! ### what a set costs -/
section
variable {P : Program} {w : World}
/-- An append at an operation, in a region too. -/
theorem wp_append_here {o : Oper} {a : Act} {K : Act → World → Prop} {Q : Exit → Act → World → Prop} (s x : Operand) (t : TypeId)
    (ho : o.op = .call { callee := .builtin .append, args := #[s, x], argTypes := #[t, t] })
    (base : Nat) (e : TypeId) (size bytes : Nat) (z : Value) (ht : P.underlying t = some (.slice e)) (hinfo : (P.info? e).map (fun i => (i.zero, i.size, i.bytes)) = some (some z, size, bytes)) (hzs : z.cells.size = size) (hsz : 0 < size)
    (v : Value) (n : Nat) (xs : List Value) (hs : a.eval s = v) (hown : w.ownsRow base e size v n xs)
    (ad : Addr) (m c : Nat) (news : List Value) (hx : a.eval x = .slice (some ad) m c) (hl : news.length = m * size) (hnews : ∀ j u, news[j]? = some u → w.cell? (ad.add j) = some u) (h1 : ∀ u ∈ news, u.oneCell' = true)
    (h63 : n + m ≤ 1000001) (hbytes : bytes ≤ 1000) (hbase : base ≤ w.heap.size)
    (h : ∀ v' w', w'.ownsRow base e size v' (n + m) (xs ++ news) → w.grownBy w' v.ownBlock → (v'.ownBlock = v.ownBlock ∨ v'.ownBlock = some w.heap.size) → K (a.put o.dst v') w') : o.wp P a w K Q := by
  obtain ⟨i, hi, hz, hsize, hby⟩ := info_parts hinfo
  have hb : (n + m) * bytes ≤ 140737488355328 := by
    have h2 : (n + m) * bytes ≤ 1000001 * 1000 := Nat.mul_le_mul h63 hbytes
    omega
  obtain ⟨v', w', hr, h2, h3, h4, h5⟩ := run_append_own_at (P := P) w base t o.type e i z size bytes ht hi hz hsize hby hzs hsz v n xs hown ad m c news hl hnews h1 (by unfold maxLen; omega) hb hbase
  unfold Oper.wp execOp
  simp only [ho, resolve, invoke, builtin, Sem.run_bind, Sem.run_pure, Result.andThen_ok, List.map_toArray, List.map_cons, List.map_nil, hs, hx, hr]
  exact h v' w' h2 h3 h5
theorem wpList_append_here {ops : Array Oper} {rest : List Oper} {o : Oper} {a : Act} {Q : Exit → Act → World → Prop} (hgd : o.guard = none) (s x : Operand) (t : TypeId)
    (ho : o.op = .call { callee := .builtin .append, args := #[s, x], argTypes := #[t, t] })
    (base : Nat) (e : TypeId) (size bytes : Nat) (z : Value) (ht : P.underlying t = some (.slice e)) (hinfo : (P.info? e).map (fun i => (i.zero, i.size, i.bytes)) = some (some z, size, bytes)) (hzs : z.cells.size = size) (hsz : 0 < size)
    (v : Value) (n : Nat) (xs : List Value) (hs : a.eval s = v) (hown : w.ownsRow base e size v n xs)
    (g c : Nat) (cs : Array Value) (t2 : TypeId) (fr : Nat × Nat) (hx : a.eval x = .slice (some ⟨g, 0, none⟩) 1 c) (hgc : w.heap[g]? = some (.cells cs t2 fr)) (hcs : cs.size = size) (h1 : cs.all (·.oneCell') = true)
    (h63 : n ≤ 1000000) (hbytes : bytes ≤ 1000) (hbase : base ≤ w.heap.size)
    (h : ∀ v' w', w'.ownsRow base e size v' (n + 1) (xs ++ cs.toList) → w.grownBy w' v.ownBlock → (v'.ownBlock = v.ownBlock ∨ v'.ownBlock = some w.heap.size) → wpList P ops Q rest (a.put o.dst v') w') : wpList P ops Q (o :: rest) a w :=
  wpList_plain hgd fun _ hK => wp_append_here s x t ho base e size bytes z ht hinfo hzs hsz v n xs hs hown ⟨g, 0, none⟩ 1 c cs.toList hx (by simp [hcs]) (news_block hgc) (fun u hu => (Array.all_eq_true_iff_forall_mem.1 h1) u (by simpa using hu)) (by omega) hbytes hbase fun v' w' h2 h3 h4 => hK _ _ (h v' w' h2 h3 h4)
end
theorem keeps_grown {w w' : World} {row : Option Nat} (h : w.grownBy w' row) : Keeps (fun k => row = some k) w w' :=
  ⟨h.os, h.tape, h.output, h.size, fun k hk hn => h.block k hk (fun e => hn e.symm)⟩
theorem own_block {w w' : World} {base : Nat} {e : TypeId} {size : Nat} {v : Value} {n : Nat} {xs : List Value} (h : w.ownsRow base e size v n xs) (hk : ∀ k, v.ownBlock = some k → w'.heap[k]? = w.heap[k]?) : w'.ownsRow base e size v n xs := by
  refine ⟨h.1, ?_⟩
  rcases h.2 with h2 | ⟨g, cap, cur, h2, h3, h4, h5⟩
  · exact .inl h2
  · exact .inr ⟨g, cap, cur, h2, h3, (hk g (by rw [h2]; rfl)).trans h4, h5⟩
theorem nums_of_own {w : World} {base : Nat} {e : TypeId} {v : Value} {l : List Int} {n : Nat} (hn : n = l.length) (h : w.ownsRow base e 1 v n (l.map (Value.int .i64))) : NumsAt w v l (fun k => base ≤ k) := by
  subst hn
  rcases h.2 with ⟨h2, h3⟩ | ⟨g, cap, cur, h2, h3, h4, h5, h6, h7, h8⟩
  · refine ⟨none, 0, by rw [h2, h3], by omega, by unfold maxLen; omega, fun i hi => by omega⟩
  · refine ⟨_, cap, h2, h5, h6, fun i hi => ⟨g, 0, rfl, h3, lt_of_block h4, ?_⟩⟩
    rw [cell_of_row w g _ _ _ _ h4, Nat.zero_add]
    have h9 : (cur.toList.take (l.length * 1))[i]? = (l.map (Value.int .i64))[i]? := by rw [h8]
    rw [List.getElem?_take_of_lt (by omega), List.getElem?_map, List.getElem?_eq_getElem hi] at h9
    simpa using h9
def selN (l : List Int) (pre : List Nat) : List Int := pre.filterMap fun i => l[i]?
theorem selN_snoc (l : List Int) (pre : List Nat) (x : Nat) (h : x < l.length) : selN l (pre ++ [x]) = selN l pre ++ [l[x]] := by
  unfold selN; rw [List.filterMap_append]; simp [List.getElem?_eq_getElem h]
theorem selN_mem {l : List Int} {pre : List Nat} {n : Int} (h : n ∈ selN l pre) : n ∈ l := by
  obtain ⟨i, _, hi⟩ := List.mem_filterMap.1 h
  exact List.mem_of_getElem? hi
theorem selN_len (l : List Int) : ∀ pre : List Nat, (∀ x ∈ pre, x < l.length) → (selN l pre).length = pre.length
  | [], _ => rfl
  | x :: pre, h => by
    unfold selN
    rw [List.filterMap_cons, List.getElem?_eq_getElem (h x List.mem_cons_self)]
    simp only [List.length_cons]
    rw [← selN_len l pre (fun y hy => h y (List.mem_cons_of_mem _ hy))]; rfl
theorem selN_all {q : PlanD} (hq : OkQ q) (s : Nat) (hs : s < 2 ^ q.prices.length) : sumL (selN q.prices (ofL s)) = costV q s := by
  unfold costV
  rw [← ofN_end s q.prices.length hq.m8 hs]
  unfold selN ofN
  rw [List.filterMap_filter]
theorem underInts : Try.prog.underlying 28 = some (.slice 3) := by kernel_rfl
theorem infoInt : (Try.prog.info? 3).map (fun i => (i.zero, i.size, i.bytes)) = some (some (.int .i64 0), 1, 8) := by kernel_rfl
set_option maxRecDepth 100000 in
set_option maxHeartbeats 4000000 in
theorem costs_any {q : PlanD} (hq : OkQ q) {B pp mp : Nat} {bs rs ps : Value} {L : List Nat} (s : Nat) (hs : s < 2 ^ q.prices.length) (w : World) (h : PlanS q B pp mp bs rs ps L w) :
    Calls Try.prog 70 #[.pointer (some ⟨pp, 0, none⟩), .int .u64 s] w fun e w' => e = .returned (.int .i64 (costV q s)) ∧ Below w.heap.size w w' := by
  have HQ := Lib.hid hq
  have H := Lib.hid h
  have hs256 : s < 256 := Nat.lt_of_lt_of_le hs hq.p256
  have hpl := lt_of_block h.obj
  have HPS := Lib.hid h.hp
  obtain ⟨aop, capp, hpsv, _, hpc, _⟩ := h.hp
  subst hpsv
  clear h hq
  refine calls_of_wp_marks Try.func70 rfl ?_
  simp only [Try.ntmps70, List.size_toArray, List.length_cons, List.length_nil, Nat.reduceAdd, Nat.reduceSub, Array.replicate_succ, Array.replicate_zero, List.push_toArray, List.append_toArray, List.nil_append, List.cons_append]
  go_wp2_with (first | (go_at_call 56; refine (of_any s _).mono ?_; rintro e w' ⟨rfl, rfl⟩))
  obtain ⟨WZ, hWZ⟩ : ∃ WZ, WZ = (((w.alloc (.cells #[.pointer (some ⟨pp, 0, none⟩)] 60)).alloc (.cells #[.slice none 0 0] 28)).alloc (.cells #[.int .u64 s] 70)) := ⟨_, rfl⟩
  rw [← hWZ]
  have hzz : WZ.heap.size = w.heap.size + 3 := by rw [hWZ]; simp
  have y2 : WZ.heap[w.heap.size]? = some (.cells #[.pointer (some ⟨pp, 0, none⟩)] 60 (0, 0)) := by rw [hWZ]; exact (by repeat (first | (refine heap_alloc_at _ _ _ ?_; (simp <;> omega); done) | (refine (hget_old _ _ _ ?_).trans ?_; · (simp <;> omega))))
  have y5 : WZ.heap[w.heap.size + 1]? = some (.cells #[.slice none 0 0] 28 (0, 0)) := by rw [hWZ]; exact (by repeat (first | (refine heap_alloc_at _ _ _ ?_; (simp <;> omega); done) | (refine (hget_old _ _ _ ?_).trans ?_; · (simp <;> omega))))
  have ys : WZ.heap[w.heap.size + 1 + 1]? = some (.cells #[.int .u64 s] 70 (0, 0)) := by rw [hWZ]; exact (by repeat (first | (refine heap_alloc_at _ _ _ ?_; (simp <;> omega); done) | (refine (hget_old _ _ _ ?_).trans ?_; · (simp <;> omega))))
  have hbz : Below w.heap.size w WZ := by rw [hWZ]; exact (((Below.refl _ _).alloc (Nat.le_refl _) _).alloc (by simp) _).alloc (by simp <;> omega) _
  have Y2 := Lib.hid y2
  have Y5 := Lib.hid y5
  have YS := Lib.hid ys
  have HBZ := Lib.hid hbz
  have HBB := H.out.lp
  clear hWZ y2 y5 ys hbz
  refine wp_rangeG (gf := 89) (lb := #[.pointer (some ⟨w.heap.size + 1 + 1, 0, none⟩)]) rfl (enters_of Try.func89 (by kernel_rfl) rfl) (encs := fun n : Nat => #[.int .i64 n]) (fun _ => rfl)
    (fun k => k = w.heap.size + 1 + 1) (fun k => k = w.heap.size + 1) ?hRd ?hM (ofL s) ?hseq
    (fun pre G Wr => ∃ v, Wr.heap[w.heap.size + 1]? = some (.cells #[v] 28 (0, 0)) ∧ Wr.ownsRow (w.heap.size + 3) 3 1 v pre.length ((selN q.prices pre).map (Value.int .i64)) ∧ (∀ k, v.ownBlock = some k → G k) ∧ Keeps (fun k => k = w.heap.size + 1) WZ Wr)
    (fun _ _ _ _ => False)
    ?hI ?hIx ?h0 ?hround ?hdone ?hstop
  case hRd => intro k hk; omega
  case hM => intro k hk; exact ⟨by omega, fun h => by omega⟩
  case hseq =>
    intro W' hb
    exact of_seqG _ s hs256 W' ((hb.block _ (by omega)).trans YS.out)
  case hI =>
    rintro s G A B' ⟨v, h1, h2, h3, h4⟩ hk
    exact ⟨v, (hk.block _ (lt_of_block h1) (by omega)).trans h1, own_block h2 (fun k e => hk.block k (h2.lt k e).2 (fun hn => hn.2 (h3 k e))), h3, h4.transNew hk (fun i h => h.1)⟩
  case hIx => rintro c s G A B' h hk; exact h
  case h0 => exact ⟨_, Y5.out, World.ownsRow_nil _ _ _ _, (fun k e => by simp [Value.ownBlock] at e), Keeps.refl _ _⟩
  case hstop => rintro D c pre x rest G W' hxs h; exact h.elim
  case hround =>
    rintro l pre x rest G Wr hxs ⟨v, h1, h2, h3, h4⟩ hl1 hl2 hGl
    have hxm := ofL_mem (show x ∈ ofL s by rw [hxs]; simp)
    have hxl : x < q.prices.length := bit_lt hxm.1 hs
    have hpl8 : pre.length ≤ 8 := by
      have : (ofL s).length ≤ 8 := by unfold ofL; exact Nat.le_trans (List.length_filter_le _ _) (by simp)
      rw [hxs] at this; simp at this; omega
    obtain ⟨pb, po, haop, hpb, hpbs, e1⟩ : ∃ pb po, aop = some ⟨pb, po, none⟩ ∧ pb < B ∧ pb < w.heap.size ∧ w.cell? ⟨pb, po + x, none⟩ = some (.int .i64 q.prices[x]) := by
      obtain ⟨ao', cap', he, _, _, hel⟩ := HPS.out
      cases he
      exact hel x hxl
    subst haop
    obtain ⟨pr, hpr⟩ : ∃ n, n = q.prices[x] := ⟨_, rfl⟩
    have hsn := selN_snoc q.prices pre x hxl
    rw [← hpr] at e1 hsn
    have H1 := Lib.hid h1
    have H2 := Lib.hid h2
    have H3 := Lib.hid h3
    have H4 := Lib.hid h4
    have HSN := Lib.hid hsn
    have HGL := Lib.hid hGl
    clear h1 h2 h3 h4 hsn hxs hGl hpr hxm
    gi_wp2
    refine ⟨Keeps.refl _ _, ?_⟩
    intro W3 hk3 hs3
    have hW3 : ∀ k, k < w.heap.size + 3 → W3.heap[k]? = Wr.heap[k]? := fun k hk => hk3.block k (by omega) (by omega)
    have z2 := (hW3 _ (by omega)).trans ((H4.out.block w.heap.size (by omega) (by omega)).trans Y2.out)
    have z5 := (hW3 _ (by omega)).trans H1.out
    have zp := (hW3 pp (by omega)).trans ((H4.out.block pp (by omega) (by omega)).trans ((HBZ.out.block pp hpl).trans H.out.obj))
    have zb : W3.heap[pb]? = w.heap[pb]? := (hW3 pb (by omega)).trans ((H4.out.block pb (by omega) (by omega)).trans (HBZ.out.block pb hpbs))
    have d1 : W3.cell? ⟨w.heap.size + 1, 0, none⟩ = some v := by rw [cell_of_row W3 _ _ _ _ _ z5]; rfl
    have d2 : W3.cell? ⟨w.heap.size, 0, none⟩ = some (.pointer (some ⟨pp, 0, none⟩)) := by rw [cell_of_row W3 _ _ _ _ _ z2]; rfl
    have d3 : W3.cell? ⟨pp, 7, none⟩ = some (.slice (some ⟨pb, po, none⟩) q.prices.length capp) := by rw [cell_of_row W3 _ _ _ _ _ zp]; rfl
    have d4 : W3.cell? ⟨pb, po + x, none⟩ = some (.int .i64 pr) := (World.cell?_of_block (w := w) (w' := W3) (a := ⟨pb, po + x, none⟩) zb).trans e1
    have hown3 : W3.ownsRow (w.heap.size + 3) 3 1 v pre.length ((selN q.prices pre).map (Value.int .i64)) := own_block H2.out (fun k e => hk3.block k (H2.out.lt k e).2 (fun hn => by have := HGL.out k (H3.out k e); omega))
    have Z5 := Lib.hid z5
    have HO3 := Lib.hid hown3
    have HK3 := Lib.hid hk3
    clear z2 z5 zp zb hk3 hW3 hown3 e1
    gi_wp2
    refine region_tailIn (S := fun W' => W'.cell? ⟨w.heap.size + 1, 0, none⟩ = some v ∧ W'.cell? ⟨w.heap.size, 0, none⟩ = some (.pointer (some ⟨pp, 0, none⟩)) ∧ W'.cell? ⟨pp, 7, none⟩ = some (.slice (some ⟨pb, po, none⟩) q.prices.length capp) ∧ W'.cell? ⟨pb, po + x, none⟩ = some (.int .i64 pr))
      10 #[false, false, false, false, false, false, false, false, false, false, true, true] (by kernel_rfl) (by kernel_rfl) (by kernel_rfl) (fun ⟨a, w, h⟩ => h) rfl ⟨d1, d2, d3, d4⟩ fun hS => ?_
    refine wpAnyH_take (i := 0) (v := ?_) rfl (by kernel_rfl) (by kernel_rfl) (by kernel_rfl) (fun _ _ _ h => h) (Or.inl ⟨by rfl, ?_⟩) hS ?_
    rotate_left
    · (intro W hSw; obtain ⟨hq1, hq2, hq3, hq4⟩ := hSw; go_simp; try with_reducible rfl)
    try simp only [List.getElem_toArray, List.getElem_cons_succ, List.getElem_cons_zero, Act.put, List.setIfInBounds_toArray, List.set_cons_zero, List.set_cons_succ]
    refine wpAnyH_take (i := 1) (v := ?_) rfl (by kernel_rfl) (by kernel_rfl) (by kernel_rfl) (fun _ _ _ h => h) (Or.inl ⟨by rfl, ?_⟩) hS ?_
    rotate_left
    · (intro W hSw; obtain ⟨hq1, hq2, hq3, hq4⟩ := hSw; go_simp; try with_reducible rfl)
    try simp only [List.getElem_toArray, List.getElem_cons_succ, List.getElem_cons_zero, Act.put, List.setIfInBounds_toArray, List.set_cons_zero, List.set_cons_succ]
    refine wpAnyH_take (i := 2) (v := ?_) rfl (by kernel_rfl) (by kernel_rfl) (by kernel_rfl) (fun _ _ _ h => h) (Or.inl ⟨by rfl, ?_⟩) hS ?_
    rotate_left
    · (intro W hSw; obtain ⟨hq1, hq2, hq3, hq4⟩ := hSw; go_simp; try with_reducible rfl)
    try simp only [List.getElem_toArray, List.getElem_cons_succ, List.getElem_cons_zero, Act.put, List.setIfInBounds_toArray, List.set_cons_zero, List.set_cons_succ]
    refine wpAnyH_take (i := 3) (v := ?_) rfl (by kernel_rfl) (by kernel_rfl) (by kernel_rfl) (fun _ _ _ h => h) (Or.inl ⟨by rfl, ?_⟩) hS ?_
    rotate_left
    · (intro W hSw; obtain ⟨hq1, hq2, hq3, hq4⟩ := hSw; go_simp; try with_reducible rfl)
    try simp only [List.getElem_toArray, List.getElem_cons_succ, List.getElem_cons_zero, Act.put, List.setIfInBounds_toArray, List.set_cons_zero, List.set_cons_succ]
    refine wpAnyH_take (i := 4) (v := ?_) rfl (by kernel_rfl) (by kernel_rfl) (by kernel_rfl) (fun _ _ _ h => h) (Or.inl ⟨by rfl, ?_⟩) hS ?_
    rotate_left
    · (intro W hSw; obtain ⟨hq1, hq2, hq3, hq4⟩ := hSw; go_simp; try with_reducible rfl)
    try simp only [List.getElem_toArray, List.getElem_cons_succ, List.getElem_cons_zero, Act.put, List.setIfInBounds_toArray, List.set_cons_zero, List.set_cons_succ]
    refine wpAnyH_take (i := 5) (v := ?_) rfl (by kernel_rfl) (by kernel_rfl) (by kernel_rfl) (fun _ _ _ h => h) (Or.inl ⟨by rfl, ?_⟩) hS ?_
    rotate_left
    · (intro W hSw; obtain ⟨hq1, hq2, hq3, hq4⟩ := hSw; go_simp; try with_reducible rfl)
    try simp only [List.getElem_toArray, List.getElem_cons_succ, List.getElem_cons_zero, Act.put, List.setIfInBounds_toArray, List.set_cons_zero, List.set_cons_succ]
    refine wpAnyH_take (i := 6) (v := ?_) rfl (by kernel_rfl) (by kernel_rfl) (by kernel_rfl) (fun _ _ _ h => h) (Or.inl ⟨by rfl, ?_⟩) hS ?_
    rotate_left
    · (intro W hSw; obtain ⟨hq1, hq2, hq3, hq4⟩ := hSw; go_simp; try with_reducible rfl)
    try simp only [List.getElem_toArray, List.getElem_cons_succ, List.getElem_cons_zero, Act.put, List.setIfInBounds_toArray, List.set_cons_zero, List.set_cons_succ]
    refine wpAnyH_take (i := 7) (v := ?_) rfl (by kernel_rfl) (by kernel_rfl) (by kernel_rfl) (fun _ _ _ h => h) (Or.inl ⟨by rfl, ?_⟩) hS ?_
    rotate_left
    · (intro W hSw; obtain ⟨hq1, hq2, hq3, hq4⟩ := hSw; go_simp; try with_reducible rfl)
    try simp only [List.getElem_toArray, List.getElem_cons_succ, List.getElem_cons_zero, Act.put, List.setIfInBounds_toArray, List.set_cons_zero, List.set_cons_succ]
    refine wpAnyH_take (i := 8) (v := ?_) rfl (by kernel_rfl) (by kernel_rfl) (by kernel_rfl) (fun _ _ _ h => h) (Or.inl ⟨by rfl, ?_⟩) hS ?_
    rotate_left
    · (intro W hSw; obtain ⟨hq1, hq2, hq3, hq4⟩ := hSw; go_simp; try with_reducible rfl)
    try simp only [List.getElem_toArray, List.getElem_cons_succ, List.getElem_cons_zero, Act.put, List.setIfInBounds_toArray, List.set_cons_zero, List.set_cons_succ]
    refine wpAnyH_ready (rs := [9]) (by kernel_rfl) (by simp) ?_
    refine AllReadyH.cons rfl (fun K hK => ?_) AllReadyH.nil
    go_simp
    obtain ⟨W4, hW4⟩ : ∃ x, x = (W3.alloc (.cells #[.int .i64 pr] 3)).drew := ⟨_, rfl⟩
    have hz4 : W4.heap.size = Wr.heap.size + 1 := by rw [hW4]; show (W3.alloc _).heap.size = _; simp [hs3]
    have hb4 : Below W3.heap.size W3 W4 := by rw [hW4]; exact ((Below.refl _ _).alloc (Nat.le_refl _) _).drew
    have hn4 : W4.heap[Wr.heap.size]? = some (.cells #[.int .i64 pr] 3 (0, 0)) := by rw [hW4]; exact heap_alloc_at _ _ _ hs3.symm
    have hcel : ∀ (k o : Nat), k < W3.heap.size → W4.cell? ⟨k, o, none⟩ = W3.drew.cell? ⟨k, o, none⟩ := fun k o h1 => hb4.cell (p := ⟨k, o, none⟩) h1
    have hS4 : W4.cell? ⟨w.heap.size + 1, 0, none⟩ = some v ∧ W4.cell? ⟨w.heap.size, 0, none⟩ = some (.pointer (some ⟨pp, 0, none⟩)) ∧ W4.cell? ⟨pp, 7, none⟩ = some (.slice (some ⟨pb, po, none⟩) q.prices.length capp) ∧ W4.cell? ⟨pb, po + x, none⟩ = some (.int .i64 pr) := ⟨(hcel _ _ (by omega)).trans hS.1, (hcel _ _ (by omega)).trans hS.2.1, (hcel _ _ (by omega)).trans hS.2.2.1, (hcel _ _ (by omega)).trans hS.2.2.2⟩
    rw [← hW4]
    have hown4 : W4.ownsRow (w.heap.size + 3) 3 1 v pre.length ((selN q.prices pre).map (Value.int .i64)) := own_block HO3.out (fun k e => hb4.block k (HO3.out.lt k e).2)
    have z54 := (hb4.block _ (by omega)).trans Z5.out
    have HB4 := Lib.hid hb4
    have Z54 := Lib.hid z54
    clear hS hcel hb4 hW4 z54 d1 d2 d3 d4
    refine hK.out _ _ hS4 (fun hS => ?_)
    clear hK K
    try simp only [List.getElem_toArray, List.getElem_cons_succ, List.getElem_cons_zero, Act.put, List.setIfInBounds_toArray, List.set_cons_zero, List.set_cons_succ]
    refine wpAnyH_done (by kernel_rfl) ?_ _
    unfold TailQ
    simp only [List.drop_succ_cons, List.drop_zero]
    clear hS hS4
    refine wpList_append_here rfl (.tmp 10) (.tmp 19) 28 rfl (w.heap.size + 3) 3 1 8 (.int .i64 0) underInts infoInt rfl (by decide) v pre.length _ rfl hown4 Wr.heap.size 1 #[.int .i64 pr] 3 (0, 0) rfl hn4 rfl (by simp [Value.oneCell']) (by omega) (by decide) (by omega) ?_
    intro v1 W5 hown5 hg5 hat5
    have hb5 : Below (w.heap.size + 3) W4 W5 := (Below.refl _ _).grown hg5 (by omega) (own_base hown4)
    have hk5 : Keeps (fun k => G k) W4 W5 := (keeps_grown hg5).mono (fun k _ e => H3.out k e)
    have hat : ∀ k, v1.ownBlock = some k → Grow G Wr W5 k := fun k e => by
      rcases hat5 with h | h
      · exact .inl (H3.out k (h.symm.trans e))
      · rw [h] at e; obtain rfl := Option.some.inj e; exact .inr ⟨by omega, (hown5.lt _ h).2⟩
    have HK5 := Lib.hid hk5
    have HAT := Lib.hid hat
    clear hk5 hat hat5
    have hs5 := hb5.size
    have c5 : W5.cell? ⟨w.heap.size + 1, 0, none⟩ = some v := by rw [cell_of_row W5 _ _ _ _ _ ((hb5.block _ (by omega)).trans Z54.out)]; rfl
    have f5 : W5.frozen? ⟨w.heap.size + 1, 0, none⟩ = false := frozen_of_row _ _ 0 _ _ ((hb5.block _ (by omega)).trans Z54.out)
    have hv1 : v1.oneCell' = true := by
      rcases hown5.2 with ⟨h2, _⟩ | ⟨g, cap, cur, h2, _⟩ <;> rw [h2] <;> rfl
    have z55 := (hb5.block (w.heap.size + 1) (by omega)).trans Z54.out
    have Z55 := Lib.hid z55
    have HO5 := Lib.hid hown5
    have HG5 := Lib.hid hg5
    have HB5 := Lib.hid hb5
    clear hown5 hg5 hb5 z55 hown4 hn4
    obtain ⟨av, ac, nv, rfl⟩ : ∃ a n c, v1 = .slice a n c := by
      rcases HO5.out.2 with ⟨h2, _⟩ | ⟨g, cap, cur, h2, _⟩ <;> exact ⟨_, _, _, h2⟩
    go_wp2_with fail
    refine ⟨?_, .slice av ac nv, ?_, ?_, ?_, ?_⟩
    · refine Keeps.trans (Keeps.of_below HB4.out (fun k h1 h2 => by omega)) (Keeps.trans (HK5.out.mono (fun k _ h => .inr h)) (Keeps.setCell _ _ _ (.inl rfl)))
    · have := Z55.out
      simp [World.setCell, Array.getElem?_modify, this]
    · rw [List.length_append, HSN.out, List.map_append]
      exact ownsRow_setCell_below HO5.out (by simp) _
    · intro k e
      rcases HAT.out k e with h | h
      · exact .inl h
      · exact .inr ⟨h.1, by simpa [World.setCell] using h.2⟩
    · exact (((H4.out.transNew HK3.out (fun i hi => by omega)).trans (Keeps.of_below HB4.out (fun k h1 h2 => by omega))).transNew HK5.out (fun i h => by have := HGL.out i h; omega)).trans (Keeps.setCell _ _ _ rfl)
  case hdone =>
    rintro D G W' ⟨v, h1, h2, h3, h4⟩ hGD hkk hD hDs
    have hlen := selN_len q.prices (ofL s) (fun x hx => bit_lt (ofL_mem hx).1 hs)
    have hnum := nums_of_own hlen.symm h2
    have c1 : W'.cell? ⟨w.heap.size + 1, 0, none⟩ = some v := by rw [cell_of_row _ _ _ _ _ _ h1]; rfl
    have HNM := Lib.hid hnum
    have H4 := Lib.hid h4
    have HD := Lib.hid hD
    have hl8 : (ofL s).length ≤ 8 := by unfold ofL; exact Nat.le_trans (List.length_filter_le _ _) (by simp)
    obtain ⟨av, nv, cv, rfl⟩ : ∃ a n c, v = .slice a n c := by
      rcases h2.2 with ⟨h2, _⟩ | ⟨g, cap, cur, h2, _⟩ <;> exact ⟨_, _, _, h2⟩
    clear h1 h2 h3 h4 hGD hkk hD hnum
    go_wp2_with fail
    refine (total_any (selN q.prices (ofL s)) (fun x hx => by have := HQ.out.ps x (selN_mem hx); omega) (by omega) _ _ _ HNM.out).mono ?_
    rintro e w5 ⟨rfl, hb5⟩
    dsimp only
    have HB5 := Lib.hid hb5
    have hd5 := (hb5.block D (lt_of_block HD.out)).trans HD.out
    have HD5 := Lib.hid hd5
    clear hb5 hd5 c1
    go_wp2_with fail
    refine ⟨by simp, .inl ⟨_, _, rfl, run_takeDeferred HD5.out, ?_⟩⟩
    refine ⟨.int .i64 (sumL (selN q.prices (ofL s))), ?_, ?_, ?_⟩
    · simp [results, Try.results70, go_sem]
    · rw [selN_all HQ.out s hs]
    · have a1 : Keeps (fun _ => False) w WZ := Keeps.of_below HBZ.out (fun k h1 h2 => by omega)
      have hz := H4.out.size
      exact (((a1.transNew H4.out (fun i h => by omega)).trans (Keeps.of_below HB5.out (fun k h1 h2 => by omega))).transNew (Keeps.putObj (Mut := fun k => k = D) _ _ _ rfl) (fun i h => by omega)).below (Nat.le_refl _) (fun _ _ h => h)
end Go.Proofs.Ytabbmihakoeegaa

/- What sets are worth. -/
namespace Go.Proofs.Ytabbmihakoeegaa
set_option linter.unusedVariables false
set_option linter.unusedSimpArgs false
open Go.RowKit Go.Shelf
attribute [local go_sem] Oper.semAt_some

def worthR (q : PlanD) (pr : Bool) (s : Nat) : Array Value := #[.int .i64 (muchV q pr s), .int .i64 (ones s), .int .u64 s]
theorem worthR_one (q : PlanD) (pr : Bool) (s : Nat) : (worthR q pr s).all (·.oneCell') = true := by simp [worthR, Value.oneCell']
theorem underWorth : Try.prog.underlying 120 = some (.struct (Try.prog.fieldsOf 120)) := by kernel_rfl
theorem infoWorth : (Try.prog.info? 120).map (·.size) = some 3 := by kernel_rfl
theorem sizeWorth (q : PlanD) (pr : Bool) (s : Nat) : (Try.prog.info? 120).map (·.size) = some (worthR q pr s).size := infoWorth
theorem eqWorth (q : PlanD) (pr : Bool) (s t : Nat) (w : World) : (Op.equal 120 (.agg (worthR q pr s)) (.agg (worthR q pr t))).run Try.prog w = .ok (decide (s = t)) w := by
  unfold worthR Op.equal Op.maxDepth
  rw [run_equalIn_agg w 9999 120 _ _ underWorth (by kernel_rfl)]
  by_cases h : s = t
  · subst h; simp [go_sem, Op.eqFields]
  · have h2 : ¬ (s : Int) = (t : Int) := by omega
    by_cases h3 : muchV q pr s = muchV q pr t <;> by_cases h4 : ones s = ones t <;> simp [go_sem, Op.eqFields, h, h2, h3, h4] <;> omega
theorem run_eqWorth {o : Oper} {ρ : Operand → Value} {w : World} (x y : Operand) (ho : o.op = .binOp .eql 120 x y 120) (q : PlanD) (pr : Bool) (s t : Nat) (hx : ρ x = .agg (worthR q pr s)) (hy : ρ y = .agg (worthR q pr t)) :
    (execOp ρ o).run Try.prog w = .ok (.value (.bool (decide (s = t)))) w := by
  have hm : Try.prog.eqGuardType Try.prog.depth 120 = false := by kernel_rfl
  have h1 := eqWorth q pr s t w
  unfold Op.equal Op.maxDepth at h1
  unfold execOp
  rw [ho]
  simp only [hx, hy]
  simp [run_eqGuard_agg, hm, run_eql_struct, h1]
theorem wpList_eqWorth {ops : Array Oper} {rest : List Oper} {o : Oper} {a : Act} {w : World} {Q : Exit → Act → World → Prop} (hg : o.guard = none) (x y : Operand) (ho : o.op = .binOp .eql 120 x y 120) (q : PlanD) (pr : Bool) (s t : Nat) (hx : a.eval x = .agg (worthR q pr s)) (hy : a.eval y = .agg (worthR q pr t))
    (h : wpList Try.prog ops Q rest (a.put o.dst (.bool (decide (s = t)))) w) : wpList Try.prog ops Q (o :: rest) a w := by
  refine wpList_plain hg fun K hK => ?_
  unfold Oper.wp
  rw [run_eqWorth x y ho q pr s t hx hy]
  exact hK _ _ h
set_option maxRecDepth 100000 in
set_option maxHeartbeats 2000000 in
theorem manyW_any (q : PlanD) (v : Value) (s : Nat) (hs : s < 256) (w : World) :
    Calls Try.prog 119 #[.agg #[], v, .int .u64 s] w fun e w' => e = .returned (.agg (worthR q false s)) ∧ Below w.heap.size w w' := by
  go_enter Try.func119, Try.ntmps119
  go_wp2_with fail
  refine (many_any s hs _).mono ?_
  rintro e w' ⟨rfl, rfl⟩
  dsimp only
  go_wp2_with fail
  refine bodyPost_ret (v := .agg (worthR q false s)) (results_cell_row (fn := Try.f119) (p := 6) rfl _ _ (w.heap.size + 1) 120 (worthR q false s) (0, 0) _ rfl (heap_alloc_at _ _ _ (by simp)) underWorth rfl (sizeWorth _ _ _)) rfl ⟨rfl, ((Below.refl _ _).alloc (Nat.le_refl _) _).alloc (by simp) _⟩
theorem run_part0 {W : World} {b : Nat} {fr : Nat × Nat} (h : W.heap[b]? = some (.cells #[] 106 fr)) : (partAt ⟨b, 0, none⟩ 0 0).run Try.prog W = .ok ⟨b, 0, none⟩ W := by
  have hc : Try.prog.cellsOf 106 = 0 := by kernel_rfl
  have hb : (byteOf ⟨b, 0, none⟩).run Try.prog W = .ok 0 W := by
    simp [byteOf, noView, viewAt, shape, Sem.run, h, hc, program, World.shape?]
  simp [partAt, hb]
set_option maxRecDepth 100000 in
set_option maxHeartbeats 2000000 in
theorem priceW_any {q : PlanD} (hq : OkQ q) {B pp mp : Nat} {bs rs ps : Value} {L : List Nat} (s : Nat) (hs : s < 2 ^ q.prices.length) (w : World) (h : PlanS q B pp mp bs rs ps L w) :
    Calls Try.prog 120 #[.agg #[], .pointer (some ⟨pp, 0, none⟩), .int .u64 s] w fun e w' => e = .returned (.agg (worthR q true s)) ∧ Below w.heap.size w w' := by
  have hs256 : s < 256 := Nat.lt_of_lt_of_le hs hq.p256
  have HQ := Lib.hid hq
  have H := Lib.hid h
  clear hq h
  go_enter Try.func120, Try.ntmps120
  have hpt : ∀ o, (partAt ⟨w.heap.size, 0, none⟩ 0 0).run Try.prog ((w.alloc (.cells #[] 106)).alloc o) = .ok ⟨w.heap.size, 0, none⟩ ((w.alloc (.cells #[] 106)).alloc o) := fun o => run_part0 (fr := (0, 0)) ((hget_old _ _ _ (by simp)).trans (heap_alloc_at _ _ _ rfl))
  go_wp2_with fail
  refine (manyW_any q _ s hs256 _).mono ?_
  rintro e w1 ⟨rfl, hb1⟩
  dsimp only
  have hr6 := (hb1.block (w.heap.size + 1) (by simp)).trans (show _ = some (.cells #[.int .i64 0, .int .i64 0, .int .u64 0] 120 (0, 0)) from heap_alloc_at (w.alloc (.cells #[] 106)) _ _ (by simp))
  have hbw1 : Below w.heap.size w w1 := (((Below.refl _ _).alloc (Nat.le_refl _) _).alloc (by simp) _).trans (hb1.mono (by simp; omega))
  have hz1 := hb1.size
  have hz1' : w.heap.size + 2 ≤ w1.heap.size := by simpa using hz1
  have HR6 := Lib.hid hr6
  have HBW := Lib.hid hbw1
  clear hb1 hr6 hbw1 hpt hz1
  go_wp2_with (first | (refine wpList_storeA rfl 120 _ _ rfl w1.heap.size (worthR q false s) rfl rfl 120 _ (heap_alloc_at _ _ _ rfl) (sizeWorth _ _ _) rfl (worthR_one _ _ _) ?_; intro W2 hr2 hk2 hs2; have HR2 := Lib.hid hr2; have HK2 := Lib.hid hk2; clear hr2 hk2))
  have hz2 : W2.heap.size = w1.heap.size + 1 := by rw [hs2]; simp
  have hk12 : Keeps (fun k => k = w1.heap.size) w1 W2 := (Keeps.alloc _ _ _).trans HK2.out
  have hbw2 : Below w.heap.size w W2 := HBW.out.trans (hk12.below (by omega) (fun k h => by omega))
  have HBW2 := Lib.hid hbw2
  have HR62 := Lib.hid ((hk12.block _ (by omega) (by omega)).trans HR6.out)
  clear hk12 hbw2
  refine (costs_any HQ.out s hs _ (H.out.below HBW2.out)).mono ?_
  rintro e w3 ⟨rfl, hb3⟩
  dsimp only
  have hz3 := hb3.size
  have r3 := (hb3.block w1.heap.size (by omega)).trans HR2.out
  have c3 : w3.cell? ⟨w1.heap.size, 0, none⟩ = some (.int .i64 (muchV q false s)) := by rw [cell_of_row _ _ _ _ _ _ r3]; rfl
  have f3 : w3.frozen? ⟨w1.heap.size, 0, none⟩ = false := frozen_of_row _ _ 0 _ _ r3
  have HB3 := Lib.hid (HBW2.out.trans (hb3.mono (by omega)))
  have R3 := Lib.hid r3
  have HR63 := Lib.hid ((hb3.block _ (by omega)).trans HR62.out)
  have hset : (w3.setCell ⟨w1.heap.size, 0, none⟩ (.int .i64 (costV q s))).heap[w1.heap.size]? = some (.cells (worthR q true s) 120 (0, 0)) := by
    unfold worthR at r3 ⊢
    simp [World.setCell, Array.getElem?_modify, r3, muchV]
  have HSET := Lib.hid hset
  clear hb3 r3 hset
  go_wp2_with (first | (refine wpList_load_row rfl 120 _ rfl w1.heap.size rfl 120 (worthR q true s) (0, 0) _ HSET.out underWorth rfl (sizeWorth _ _ _) ?_) | (refine wpList_storeA rfl 120 _ _ rfl (w.heap.size + 1) (worthR q true s) rfl rfl 120 _ ((Below.heap_setCell _ _ _ _ (by simp; omega)).trans HR63.out) (sizeWorth _ _ _) rfl (worthR_one _ _ _) ?_; intro W5 hr5 hk5 hs5))
  refine bodyPost_ret (v := .agg (worthR q true s)) (results_cell_row (fn := Try.f120) (p := 6) rfl _ _ (w.heap.size + 1) 120 (worthR q true s) (0, 0) _ rfl hr5 underWorth rfl (sizeWorth _ _ _)) rfl ⟨rfl, ?_⟩
  exact (HB3.out.setCell (by simp; omega) _).trans (hk5.below (by have := HB3.out.size; simpa [World.setCell] using this) (fun k h => by omega))
set_option maxRecDepth 100000 in
set_option maxHeartbeats 4000000 in
theorem less_any (q : PlanD) (pr : Bool) (s t : Nat) (w : World) :
    Calls Try.prog 77 #[.agg (worthR q pr s), .agg (worthR q pr t)] w fun e w' => e = .returned (.bool (lessW q pr s t)) ∧ Below w.heap.size w w' := by
  have HL := Lib.hid (lessW_iff q pr s t)
  have hb : Below w.heap.size w ((w.alloc (.cells (worthR q pr s) 120 (0, 0))).alloc (.cells (worthR q pr t) 120 (0, 0))) := ((Below.refl _ _).alloc (Nat.le_refl _) _).alloc (by simp) _
  have HB := Lib.hid hb
  clear hb
  unfold worthR at HB ⊢
  obtain ⟨m1, hm1⟩ : ∃ m, m = muchV q pr s := ⟨_, rfl⟩
  obtain ⟨m2, hm2⟩ : ∃ m, m = muchV q pr t := ⟨_, rfl⟩
  obtain ⟨o1, ho1⟩ : ∃ m, m = ones s := ⟨_, rfl⟩
  obtain ⟨o2, ho2⟩ : ∃ m, m = ones t := ⟨_, rfl⟩
  rw [← hm1, ← hm2, ← ho1, ← ho2] at HL
  rw [← hm1, ← hm2, ← ho1, ← ho2] at HB
  rw [← hm1, ← hm2, ← ho1, ← ho2]
  have HV : ∀ b : Bool, (b = true ↔ lessW q pr s t = true) → lessW q pr s t = b := fun b h => by cases b <;> cases h2 : lessW q pr s t <;> simp_all
  have HVV := Lib.hid HV
  clear hm1 hm2 ho1 ho2 HV
  go_enter Try.func77, Try.ntmps77
  by_cases h1 : m1 = m2
  · by_cases h2 : o1 < o2
    · have d2 : (o1 : Int) < (o2 : Int) := by omega
      go_wp2
      go_ret
      refine ⟨?_, ((Below.refl _ _).alloc (Nat.le_refl _) _).alloc (by simp) _⟩
      rw [HVV.out true (by rw [HL.out]; exact ⟨fun _ => .inr ⟨h1, .inl h2⟩, fun _ => rfl⟩)]; rfl
    · have d2 : ¬ (o1 : Int) < (o2 : Int) := by omega
      by_cases h3 : o1 = o2
      · by_cases h4 : s < t
        · have d4 : (s : Int) < (t : Int) := by omega
          go_wp2
          go_ret
          refine ⟨?_, ((Below.refl _ _).alloc (Nat.le_refl _) _).alloc (by simp) _⟩
          rw [HVV.out true (by rw [HL.out]; exact ⟨fun _ => .inr ⟨h1, .inr ⟨h3, h4⟩⟩, fun _ => rfl⟩)]; rfl
        · have d4 : ¬ (s : Int) < (t : Int) := by omega
          go_wp2
          go_ret
          refine ⟨?_, ((Below.refl _ _).alloc (Nat.le_refl _) _).alloc (by simp) _⟩
          rw [HVV.out false (by rw [HL.out]; exact ⟨(fun h => by cases h), fun h => by omega⟩)]; rfl
      · have d3 : ¬ (o1 : Int) = (o2 : Int) := by omega
        go_wp2
        go_ret
        refine ⟨?_, ((Below.refl _ _).alloc (Nat.le_refl _) _).alloc (by simp) _⟩
        rw [HVV.out false (by rw [HL.out]; exact ⟨(fun h => by cases h), fun h => by omega⟩)]; rfl
  · by_cases h2 : m1 < m2
    · go_wp2
      go_ret
      refine ⟨?_, ((Below.refl _ _).alloc (Nat.le_refl _) _).alloc (by simp) _⟩
      rw [HVV.out true (by rw [HL.out]; exact ⟨fun _ => .inl h2, fun _ => rfl⟩)]; rfl
    · go_wp2
      go_ret
      refine ⟨?_, ((Below.refl _ _).alloc (Nat.le_refl _) _).alloc (by simp) _⟩
      rw [HVV.out false (by rw [HL.out]; exact ⟨(fun h => by cases h), fun h => by omega⟩)]; rfl
end Go.Proofs.Ytabbmihakoeegaa

/- The comparison of sets, walked. -/
namespace Go.Proofs.Ytabbmihakoeegaa
set_option linter.unusedVariables false
set_option linter.unusedSimpArgs false
open Go.RowKit Go.Shelf
attribute [local go_sem] Oper.semAt_some

theorem held_tail {P : Program} {l : List Oper} {n fuel : Nat} {Q : Exit → Act → World → Prop} {S : World → Prop} {L : Array Bool} {a : Act} {w : World} (F : Nat → Nat → Act) (Fact : Nat → Nat → World → Prop) (h1 : ∀ b8 b9 W, Fact b8 b9 W → TailQ P l n Q .normal (F b8 b9) W)
    (h2 : (∀ b8 b9 W, Fact b8 b9 W → TailQ P l n Q .normal (F b8 b9) W) → wpAnyH P .any l.toArray (TailQ P l n Q) S fuel L a w) : wpAnyH P .any l.toArray (TailQ P l n Q) S fuel L a w := h2 h1
def zW : Array Value := #[.int .i64 0, .int .i64 0, .int .u64 0]
/-- Two fresh rows. -/
structure Two (w W : World) (b8 b9 : Nat) : Prop where
  ne : b8 ≠ b9
  r8 : W.heap[b8]? = some (.cells zW 120 (0, 0))
  r9 : W.heap[b9]? = some (.cells zW 120 (0, 0))
  g8 : w.heap.size ≤ b8
  g9 : w.heap.size ≤ b9
  bl : Below w.heap.size w W
set_option maxRecDepth 100000 in
set_option maxHeartbeats 8000000 in
theorem cmp_many {q : PlanD} (hq : OkQ q) {B pp mp : Nat} {bs rs ps : Value} {L : List Nat} (mb pb s t : Nat) (hs : s < 2 ^ q.prices.length) (ht : t < 2 ^ q.prices.length) (w : World) (hmb : w.heap[mb]? = some (.cells #[.iface 78 (.agg #[])] 117 (0, 0))) (hpb : w.heap[pb]? = some (.cells #[.pointer (some ⟨pp, 0, none⟩)] 60 (0, 0))) (h : PlanS q B pp mp bs rs ps L w) :
    Calls Try.prog 76 #[.int .u64 s, .int .u64 t, .pointer (some ⟨mb, 0, none⟩), .pointer (some ⟨pb, 0, none⟩)] w fun e w' => e = .returned (.int .i64 (cmpW q false s t)) ∧ Below w.heap.size w w' := by
  have hs256 : s < 256 := Nat.lt_of_lt_of_le hs hq.p256
  have ht256 : t < 256 := Nat.lt_of_lt_of_le ht hq.p256
  have HQ := Lib.hid hq
  have HP := Lib.hid h.drew
  have HMB := Lib.hid hmb
  have HPB := Lib.hid hpb
  have HS1 := Lib.hid hs
  have HS2 := Lib.hid ht
  have HB : Hid (Below w.heap.size w w.drew) := Lib.hid (Below.refl _ _).drew
  have d1 : w.cell? ⟨mb, 0, none⟩ = some (.iface 78 (.agg #[])) := by rw [cell_of_row _ _ _ _ _ _ hmb]; rfl
  have d2 : w.cell? ⟨pb, 0, none⟩ = some (.pointer (some ⟨pp, 0, none⟩)) := by rw [cell_of_row _ _ _ _ _ _ hpb]; rfl
  have hcm : cmpW q false s t = if s = t then 0 else if lessW q false s t then -1 else 1 := rfl
  clear hq h hmb hpb hs ht
  go_enter Try.func76, Try.ntmps76
  go_wp2_with fail
  refine wp_region_tail 10 #[false, false, false, false, false, false, false, false, false, false, true, true] (fun W' => W'.cell? ⟨mb, 0, none⟩ = some (.iface 78 (.agg #[])) ∧ W'.cell? ⟨pb, 0, none⟩ = some (.pointer (some ⟨pp, 0, none⟩))) (by kernel_rfl) (by kernel_rfl) rfl ⟨d1, d2⟩ fun hS => ?_
  clear d1 d2
  refine held_tail (fun b8 b9 => { tmps := #[.int .u64 s, .int .u64 t, .pointer (some ⟨mb, 0, none⟩), .pointer (some ⟨pb, 0, none⟩), undef, undef, .int .i64 0, .pointer (some ⟨b8, 0, none⟩), .pointer (some ⟨b9, 0, none⟩), .iface 78 (.agg #[]), .pointer (some ⟨pp, 0, none⟩), .int .u64 s, .agg (worthR q false s), .iface 78 (.agg #[]), .pointer (some ⟨pp, 0, none⟩), .int .u64 t, .agg (worthR q false t), undef, undef, undef, undef, undef, undef], defers := [] }) (fun b8 b9 W => Two w W b8 b9) ?_ ?_
  · intro b8 b9 W0 ht
    clear HP HMB HPB hS HB
    unfold TailQ
    simp only [List.drop_succ_cons, List.drop_zero]
    have hl8 := lt_of_block ht.r8
    have hl9 := lt_of_block ht.r9
    have hfin : ∀ X1 X2 : World, Keeps (fun k => k = b8) W0 X1 → Keeps (fun k => k = b9) X1 X2 → Below w.heap.size w X2 := fun X1 X2 k1 k2 => (ht.bl.trans (k1.below ht.bl.size (fun k h e => by have := ht.g8; omega))).trans (k2.below (by have := k1.size; have := ht.bl.size; omega) (fun k h e => by have := ht.g9; omega))
    have HFIN := Lib.hid hfin
    clear hfin
    by_cases hst : s = t
    · have hsd : decide (s = t) = true := decide_eq_true hst
      rw [if_pos hst] at hcm
      have HCM := Lib.hid hcm
      have HST := Lib.hid hst
      clear hcm hst
      go_wp2_with (first | (refine wpList_storeA rfl 120 _ _ rfl b8 (worthR q false s) rfl rfl 120 _ ht.r8 (sizeWorth _ _ _) rfl (worthR_one _ _ _) ?_; intro X1 hr1 hk1 hs1; have HR1 := Lib.hid hr1; have HK1 := Lib.hid hk1; have HR9 := Lib.hid ((hk1.block b9 (lt_of_block ht.r9) (fun e => ht.ne e.symm)).trans ht.r9); clear hr1 hk1) | (refine wpList_storeA rfl 120 _ _ rfl b9 (worthR q false t) rfl rfl 120 _ HR9.out (sizeWorth _ _ _) rfl (worthR_one _ _ _) ?_; intro X2 hr2 hk2 hs2; have HR2 := Lib.hid hr2; have HK2 := Lib.hid hk2; have HR12 := Lib.hid ((hk2.block b8 (lt_of_block HR1.out) ht.ne).trans HR1.out); clear hr2 hk2) | (refine wpList_load_row rfl 120 _ rfl b8 rfl 120 (worthR q false s) (0, 0) _ HR12.out underWorth rfl (sizeWorth _ _ _) ?_) | (refine wpList_load_row rfl 120 _ rfl b9 rfl 120 (worthR q false t) (0, 0) _ HR2.out underWorth rfl (sizeWorth _ _ _) ?_) | (refine wpList_eqWorth rfl (.tmp 17) (.tmp 18) rfl q false s t rfl rfl ?_))
      go_ret
      exact ⟨by rw [HCM.out]; rfl, HFIN.out _ _ HK1.out HK2.out⟩
    · have hsd : decide (s = t) = false := decide_eq_false hst
      rw [if_neg hst] at hcm
      have HCM := Lib.hid hcm
      clear hcm
      go_wp2_with (first | (refine wpList_storeA rfl 120 _ _ rfl b8 (worthR q false s) rfl rfl 120 _ ht.r8 (sizeWorth _ _ _) rfl (worthR_one _ _ _) ?_; intro X1 hr1 hk1 hs1; have HR1 := Lib.hid hr1; have HK1 := Lib.hid hk1; have HR9 := Lib.hid ((hk1.block b9 (lt_of_block ht.r9) (fun e => ht.ne e.symm)).trans ht.r9); clear hr1 hk1) | (refine wpList_storeA rfl 120 _ _ rfl b9 (worthR q false t) rfl rfl 120 _ HR9.out (sizeWorth _ _ _) rfl (worthR_one _ _ _) ?_; intro X2 hr2 hk2 hs2; have HR2 := Lib.hid hr2; have HK2 := Lib.hid hk2; have HR12 := Lib.hid ((hk2.block b8 (lt_of_block HR1.out) ht.ne).trans HR1.out); clear hr2 hk2) | (refine wpList_load_row rfl 120 _ rfl b8 rfl 120 (worthR q false s) (0, 0) _ HR12.out underWorth rfl (sizeWorth _ _ _) ?_) | (refine wpList_load_row rfl 120 _ rfl b9 rfl 120 (worthR q false t) (0, 0) _ HR2.out underWorth rfl (sizeWorth _ _ _) ?_) | (refine wpList_eqWorth rfl (.tmp 17) (.tmp 18) rfl q false s t rfl rfl ?_))
      refine (less_any q false s t _).mono ?_
      rintro e X3 ⟨rfl, hb3⟩
      dsimp only
      have hb23 := (HFIN.out _ _ HK1.out HK2.out).trans (hb3.mono (HFIN.out _ _ HK1.out HK2.out).size)
      have HB23 := Lib.hid hb23
      clear hb3 hb23
      cases hl : lessW q false s t with
      | true =>
        rw [hl] at HCM
        go_wp2_with fail
        go_ret
        exact ⟨by rw [HCM.out]; rfl, HB23.out⟩
      | false =>
        rw [hl] at HCM
        go_wp2_with fail
        go_ret
        exact ⟨by rw [HCM.out]; rfl, HB23.out⟩
  intro hT
  have HT := Lib.hid hT
  clear hT hcm
  refine wpAnyH_take (i := 0) (v := ?_) rfl (by kernel_rfl) (by kernel_rfl) (by kernel_rfl) (fun _ _ _ h => h) (Or.inl ⟨by rfl, ?_⟩) hS ?_
  rotate_left
  · (intro W hSw; obtain ⟨hq1, hq2⟩ := hSw; go_simp; try with_reducible rfl)
  try simp only [List.getElem_toArray, List.getElem_cons_succ, List.getElem_cons_zero, Act.put, List.setIfInBounds_toArray, List.set_cons_zero, List.set_cons_succ]
  refine wpAnyH_take (i := 1) (v := ?_) rfl (by kernel_rfl) (by kernel_rfl) (by kernel_rfl) (fun _ _ _ h => h) (Or.inl ⟨by rfl, ?_⟩) hS ?_
  rotate_left
  · (intro W hSw; obtain ⟨hq1, hq2⟩ := hSw; go_simp; try with_reducible rfl)
  try simp only [List.getElem_toArray, List.getElem_cons_succ, List.getElem_cons_zero, Act.put, List.setIfInBounds_toArray, List.set_cons_zero, List.set_cons_succ]
  refine wpAnyH_take (i := 2) (v := ?_) rfl (by kernel_rfl) (by kernel_rfl) (by kernel_rfl) (fun _ _ _ h => h) (Or.inl ⟨by rfl, ?_⟩) hS ?_
  rotate_left
  · (intro W hSw; obtain ⟨hq1, hq2⟩ := hSw; go_simp; try with_reducible rfl)
  try simp only [List.getElem_toArray, List.getElem_cons_succ, List.getElem_cons_zero, Act.put, List.setIfInBounds_toArray, List.set_cons_zero, List.set_cons_succ]
  refine wpAnyH_take (i := 4) (v := ?_) rfl (by kernel_rfl) (by kernel_rfl) (by kernel_rfl) (fun _ _ _ h => h) (Or.inl ⟨by rfl, ?_⟩) hS ?_
  rotate_left
  · (intro W hSw; obtain ⟨hq1, hq2⟩ := hSw; go_simp; try with_reducible rfl)
  try simp only [List.getElem_toArray, List.getElem_cons_succ, List.getElem_cons_zero, Act.put, List.setIfInBounds_toArray, List.set_cons_zero, List.set_cons_succ]
  refine wpAnyH_take (i := 5) (v := ?_) rfl (by kernel_rfl) (by kernel_rfl) (by kernel_rfl) (fun _ _ _ h => h) (Or.inl ⟨by rfl, ?_⟩) hS ?_
  rotate_left
  · (intro W hSw; obtain ⟨hq1, hq2⟩ := hSw; go_simp; try with_reducible rfl)
  try simp only [List.getElem_toArray, List.getElem_cons_succ, List.getElem_cons_zero, Act.put, List.setIfInBounds_toArray, List.set_cons_zero, List.set_cons_succ]
  refine wpAnyH_take (i := 6) (v := ?_) rfl (by kernel_rfl) (by kernel_rfl) (by kernel_rfl) (fun _ _ _ h => h) (Or.inl ⟨by rfl, ?_⟩) hS ?_
  rotate_left
  · (intro W hSw; obtain ⟨hq1, hq2⟩ := hSw; go_simp; try with_reducible rfl)
  try simp only [List.getElem_toArray, List.getElem_cons_succ, List.getElem_cons_zero, Act.put, List.setIfInBounds_toArray, List.set_cons_zero, List.set_cons_succ]
  obtain ⟨W0, hW0⟩ : ∃ x, x = w.drew := ⟨_, rfl⟩
  rw [← hW0] at HB HP
  have hmbd : W0.heap[mb]? = some (.cells #[.iface 78 (.agg #[])] 117 (0, 0)) := by rw [hW0]; exact HMB.out
  have hpbd : W0.heap[pb]? = some (.cells #[.pointer (some ⟨pp, 0, none⟩)] 60 (0, 0)) := by rw [hW0]; exact HPB.out
  replace HMB := Lib.hid hmbd
  replace HPB := Lib.hid hpbd
  rw [← hW0] at hS ⊢
  clear hW0 hmbd hpbd
  refine wpAnyH_ready (rs := [3, 8, 9]) (by kernel_rfl) (by simp) ?_
  refine AllReadyH.cons rfl (fun K hK => ?_) ?_
  · skip
    go_simp
    refine (manyW_any q _ s (by assumption) W0).mono ?_
    rintro e W1 ⟨rfl, hbx⟩
    dsimp only
    replace HP := Lib.hid (HP.out.below hbx)
    replace HB := Lib.hid (HB.out.trans (hbx.mono HB.out.size))
    replace HMB := Lib.hid ((hbx.block mb (lt_of_block HMB.out)).trans HMB.out)
    replace HPB := Lib.hid ((hbx.block pb (lt_of_block HPB.out)).trans HPB.out)
    clear hbx hS
    try clear hb8
    try clear hb9
    refine hK.out _ _ ⟨by rw [cell_of_row _ _ _ _ _ _ HMB.out]; rfl, by rw [cell_of_row _ _ _ _ _ _ HPB.out]; rfl⟩ (fun hS => ?_)
    clear hK K
    try simp only [List.getElem_toArray, List.getElem_cons_succ, List.getElem_cons_zero, Act.put, List.setIfInBounds_toArray, List.set_cons_zero, List.set_cons_succ]
    refine wpAnyH_ready (rs := [7, 8, 9]) (by kernel_rfl) (by simp) ?_
    refine AllReadyH.cons rfl (fun K hK => ?_) ?_
    · skip
      go_simp
      refine (manyW_any q _ t (by assumption) W1).mono ?_
      rintro e W2 ⟨rfl, hbx⟩
      dsimp only
      replace HP := Lib.hid (HP.out.below hbx)
      replace HB := Lib.hid (HB.out.trans (hbx.mono HB.out.size))
      replace HMB := Lib.hid ((hbx.block mb (lt_of_block HMB.out)).trans HMB.out)
      replace HPB := Lib.hid ((hbx.block pb (lt_of_block HPB.out)).trans HPB.out)
      clear hbx hS
      try clear hb8
      try clear hb9
      refine hK.out _ _ ⟨by rw [cell_of_row _ _ _ _ _ _ HMB.out]; rfl, by rw [cell_of_row _ _ _ _ _ _ HPB.out]; rfl⟩ (fun hS => ?_)
      clear hK K
      try simp only [List.getElem_toArray, List.getElem_cons_succ, List.getElem_cons_zero, Act.put, List.setIfInBounds_toArray, List.set_cons_zero, List.set_cons_succ]
      refine wpAnyH_ready (rs := [8, 9]) (by kernel_rfl) (by simp) ?_
      refine AllReadyH.cons rfl (fun K hK => ?_) ?_
      · skip
        go_simp
        have hbx : Below W2.heap.size W2 (W2.alloc (.cells #[.int .i64 0, .int .i64 0, .int .u64 0] 120 (0, 0))) := (Below.refl _ _).alloc (Nat.le_refl _) _
        obtain ⟨b8, hb8⟩ : ∃ k, k = W2.heap.size := ⟨_, rfl⟩
        have R8 : Hid ((W2.alloc (.cells #[.int .i64 0, .int .i64 0, .int .u64 0] 120 (0, 0))).heap[b8]? = some (.cells zW 120 (0, 0))) := Lib.hid (heap_alloc_at _ _ _ hb8)
        have G8 : Hid (w.heap.size ≤ b8) := Lib.hid (by have h1 := HB.out.size; omega)
        obtain ⟨W3, hWn⟩ : ∃ x, x = W2.alloc (.cells #[.int .i64 0, .int .i64 0, .int .u64 0] 120 (0, 0)) := ⟨_, rfl⟩
        rw [← hWn] at hbx R8
        rw [← hb8, ← hWn]
        clear hWn
        replace HP := Lib.hid (HP.out.below hbx)
        replace HB := Lib.hid (HB.out.trans (hbx.mono HB.out.size))
        replace HMB := Lib.hid ((hbx.block mb (lt_of_block HMB.out)).trans HMB.out)
        replace HPB := Lib.hid ((hbx.block pb (lt_of_block HPB.out)).trans HPB.out)
        clear hbx hS
        try clear hb8
        try clear hb9
        refine hK.out _ _ ⟨by rw [cell_of_row _ _ _ _ _ _ HMB.out]; rfl, by rw [cell_of_row _ _ _ _ _ _ HPB.out]; rfl⟩ (fun hS => ?_)
        clear hK K
        try simp only [List.getElem_toArray, List.getElem_cons_succ, List.getElem_cons_zero, Act.put, List.setIfInBounds_toArray, List.set_cons_zero, List.set_cons_succ]
        refine wpAnyH_ready (rs := [9]) (by kernel_rfl) (by simp) ?_
        refine AllReadyH.cons rfl (fun K hK => ?_) AllReadyH.nil
        go_simp
        have hbx : Below W3.heap.size W3 (W3.alloc (.cells #[.int .i64 0, .int .i64 0, .int .u64 0] 120 (0, 0))) := (Below.refl _ _).alloc (Nat.le_refl _) _
        obtain ⟨b9, hb9⟩ : ∃ k, k = W3.heap.size := ⟨_, rfl⟩
        have R9 : Hid ((W3.alloc (.cells #[.int .i64 0, .int .i64 0, .int .u64 0] 120 (0, 0))).heap[b9]? = some (.cells zW 120 (0, 0))) := Lib.hid (heap_alloc_at _ _ _ hb9)
        have G9 : Hid (w.heap.size ≤ b9) := Lib.hid (by have h1 := HB.out.size; omega)
        obtain ⟨W4, hWn⟩ : ∃ x, x = W3.alloc (.cells #[.int .i64 0, .int .i64 0, .int .u64 0] 120 (0, 0)) := ⟨_, rfl⟩
        rw [← hWn] at hbx R9
        rw [← hb9, ← hWn]
        clear hWn
        have hne : b8 ≠ b9 := by have h1 := lt_of_block R8.out; omega
        replace R8 := Lib.hid ((hbx.block b8 (lt_of_block R8.out)).trans R8.out)
        replace HP := Lib.hid (HP.out.below hbx)
        replace HB := Lib.hid (HB.out.trans (hbx.mono HB.out.size))
        replace HMB := Lib.hid ((hbx.block mb (lt_of_block HMB.out)).trans HMB.out)
        replace HPB := Lib.hid ((hbx.block pb (lt_of_block HPB.out)).trans HPB.out)
        clear hbx hS
        try clear hb8
        try clear hb9
        refine hK.out _ _ ⟨by rw [cell_of_row _ _ _ _ _ _ HMB.out]; rfl, by rw [cell_of_row _ _ _ _ _ _ HPB.out]; rfl⟩ (fun hS => ?_)
        clear hK K
        try simp only [List.getElem_toArray, List.getElem_cons_succ, List.getElem_cons_zero, Act.put, List.setIfInBounds_toArray, List.set_cons_zero, List.set_cons_succ]
        refine wpAnyH_done (by kernel_rfl) ?_ _
        exact HT.out b8 b9 W4 ⟨hne, R8.out, R9.out, G8.out, G9.out, HB.out⟩
      refine AllReadyH.cons rfl (fun K hK => ?_) AllReadyH.nil
      go_simp
      have hbx : Below W2.heap.size W2 (W2.alloc (.cells #[.int .i64 0, .int .i64 0, .int .u64 0] 120 (0, 0))) := (Below.refl _ _).alloc (Nat.le_refl _) _
      obtain ⟨b9, hb9⟩ : ∃ k, k = W2.heap.size := ⟨_, rfl⟩
      have R9 : Hid ((W2.alloc (.cells #[.int .i64 0, .int .i64 0, .int .u64 0] 120 (0, 0))).heap[b9]? = some (.cells zW 120 (0, 0))) := Lib.hid (heap_alloc_at _ _ _ hb9)
      have G9 : Hid (w.heap.size ≤ b9) := Lib.hid (by have h1 := HB.out.size; omega)
      obtain ⟨W3, hWn⟩ : ∃ x, x = W2.alloc (.cells #[.int .i64 0, .int .i64 0, .int .u64 0] 120 (0, 0)) := ⟨_, rfl⟩
      rw [← hWn] at hbx R9
      rw [← hb9, ← hWn]
      clear hWn
      replace HP := Lib.hid (HP.out.below hbx)
      replace HB := Lib.hid (HB.out.trans (hbx.mono HB.out.size))
      replace HMB := Lib.hid ((hbx.block mb (lt_of_block HMB.out)).trans HMB.out)
      replace HPB := Lib.hid ((hbx.block pb (lt_of_block HPB.out)).trans HPB.out)
      clear hbx hS
      try clear hb8
      try clear hb9
      refine hK.out _ _ ⟨by rw [cell_of_row _ _ _ _ _ _ HMB.out]; rfl, by rw [cell_of_row _ _ _ _ _ _ HPB.out]; rfl⟩ (fun hS => ?_)
      clear hK K
      try simp only [List.getElem_toArray, List.getElem_cons_succ, List.getElem_cons_zero, Act.put, List.setIfInBounds_toArray, List.set_cons_zero, List.set_cons_succ]
      refine wpAnyH_ready (rs := [8]) (by kernel_rfl) (by simp) ?_
      refine AllReadyH.cons rfl (fun K hK => ?_) AllReadyH.nil
      go_simp
      have hbx : Below W3.heap.size W3 (W3.alloc (.cells #[.int .i64 0, .int .i64 0, .int .u64 0] 120 (0, 0))) := (Below.refl _ _).alloc (Nat.le_refl _) _
      obtain ⟨b8, hb8⟩ : ∃ k, k = W3.heap.size := ⟨_, rfl⟩
      have R8 : Hid ((W3.alloc (.cells #[.int .i64 0, .int .i64 0, .int .u64 0] 120 (0, 0))).heap[b8]? = some (.cells zW 120 (0, 0))) := Lib.hid (heap_alloc_at _ _ _ hb8)
      have G8 : Hid (w.heap.size ≤ b8) := Lib.hid (by have h1 := HB.out.size; omega)
      obtain ⟨W4, hWn⟩ : ∃ x, x = W3.alloc (.cells #[.int .i64 0, .int .i64 0, .int .u64 0] 120 (0, 0)) := ⟨_, rfl⟩
      rw [← hWn] at hbx R8
      rw [← hb8, ← hWn]
      clear hWn
      have hne : b8 ≠ b9 := by have h1 := lt_of_block R9.out; omega
      replace R9 := Lib.hid ((hbx.block b9 (lt_of_block R9.out)).trans R9.out)
      replace HP := Lib.hid (HP.out.below hbx)
      replace HB := Lib.hid (HB.out.trans (hbx.mono HB.out.size))
      replace HMB := Lib.hid ((hbx.block mb (lt_of_block HMB.out)).trans HMB.out)
      replace HPB := Lib.hid ((hbx.block pb (lt_of_block HPB.out)).trans HPB.out)
      clear hbx hS
      try clear hb8
      try clear hb9
      refine hK.out _ _ ⟨by rw [cell_of_row _ _ _ _ _ _ HMB.out]; rfl, by rw [cell_of_row _ _ _ _ _ _ HPB.out]; rfl⟩ (fun hS => ?_)
      clear hK K
      try simp only [List.getElem_toArray, List.getElem_cons_succ, List.getElem_cons_zero, Act.put, List.setIfInBounds_toArray, List.set_cons_zero, List.set_cons_succ]
      refine wpAnyH_done (by kernel_rfl) ?_ _
      exact HT.out b8 b9 W4 ⟨hne, R8.out, R9.out, G8.out, G9.out, HB.out⟩
    refine AllReadyH.cons rfl (fun K hK => ?_) ?_
    · skip
      go_simp
      have hbx : Below W1.heap.size W1 (W1.alloc (.cells #[.int .i64 0, .int .i64 0, .int .u64 0] 120 (0, 0))) := (Below.refl _ _).alloc (Nat.le_refl _) _
      obtain ⟨b8, hb8⟩ : ∃ k, k = W1.heap.size := ⟨_, rfl⟩
      have R8 : Hid ((W1.alloc (.cells #[.int .i64 0, .int .i64 0, .int .u64 0] 120 (0, 0))).heap[b8]? = some (.cells zW 120 (0, 0))) := Lib.hid (heap_alloc_at _ _ _ hb8)
      have G8 : Hid (w.heap.size ≤ b8) := Lib.hid (by have h1 := HB.out.size; omega)
      obtain ⟨W2, hWn⟩ : ∃ x, x = W1.alloc (.cells #[.int .i64 0, .int .i64 0, .int .u64 0] 120 (0, 0)) := ⟨_, rfl⟩
      rw [← hWn] at hbx R8
      rw [← hb8, ← hWn]
      clear hWn
      replace HP := Lib.hid (HP.out.below hbx)
      replace HB := Lib.hid (HB.out.trans (hbx.mono HB.out.size))
      replace HMB := Lib.hid ((hbx.block mb (lt_of_block HMB.out)).trans HMB.out)
      replace HPB := Lib.hid ((hbx.block pb (lt_of_block HPB.out)).trans HPB.out)
      clear hbx hS
      try clear hb8
      try clear hb9
      refine hK.out _ _ ⟨by rw [cell_of_row _ _ _ _ _ _ HMB.out]; rfl, by rw [cell_of_row _ _ _ _ _ _ HPB.out]; rfl⟩ (fun hS => ?_)
      clear hK K
      try simp only [List.getElem_toArray, List.getElem_cons_succ, List.getElem_cons_zero, Act.put, List.setIfInBounds_toArray, List.set_cons_zero, List.set_cons_succ]
      refine wpAnyH_ready (rs := [7, 9]) (by kernel_rfl) (by simp) ?_
      refine AllReadyH.cons rfl (fun K hK => ?_) ?_
      · skip
        go_simp
        refine (manyW_any q _ t (by assumption) W2).mono ?_
        rintro e W3 ⟨rfl, hbx⟩
        dsimp only
        replace R8 := Lib.hid ((hbx.block b8 (lt_of_block R8.out)).trans R8.out)
        replace HP := Lib.hid (HP.out.below hbx)
        replace HB := Lib.hid (HB.out.trans (hbx.mono HB.out.size))
        replace HMB := Lib.hid ((hbx.block mb (lt_of_block HMB.out)).trans HMB.out)
        replace HPB := Lib.hid ((hbx.block pb (lt_of_block HPB.out)).trans HPB.out)
        clear hbx hS
        try clear hb8
        try clear hb9
        refine hK.out _ _ ⟨by rw [cell_of_row _ _ _ _ _ _ HMB.out]; rfl, by rw [cell_of_row _ _ _ _ _ _ HPB.out]; rfl⟩ (fun hS => ?_)
        clear hK K
        try simp only [List.getElem_toArray, List.getElem_cons_succ, List.getElem_cons_zero, Act.put, List.setIfInBounds_toArray, List.set_cons_zero, List.set_cons_succ]
        refine wpAnyH_ready (rs := [9]) (by kernel_rfl) (by simp) ?_
        refine AllReadyH.cons rfl (fun K hK => ?_) AllReadyH.nil
        go_simp
        have hbx : Below W3.heap.size W3 (W3.alloc (.cells #[.int .i64 0, .int .i64 0, .int .u64 0] 120 (0, 0))) := (Below.refl _ _).alloc (Nat.le_refl _) _
        obtain ⟨b9, hb9⟩ : ∃ k, k = W3.heap.size := ⟨_, rfl⟩
        have R9 : Hid ((W3.alloc (.cells #[.int .i64 0, .int .i64 0, .int .u64 0] 120 (0, 0))).heap[b9]? = some (.cells zW 120 (0, 0))) := Lib.hid (heap_alloc_at _ _ _ hb9)
        have G9 : Hid (w.heap.size ≤ b9) := Lib.hid (by have h1 := HB.out.size; omega)
        obtain ⟨W4, hWn⟩ : ∃ x, x = W3.alloc (.cells #[.int .i64 0, .int .i64 0, .int .u64 0] 120 (0, 0)) := ⟨_, rfl⟩
        rw [← hWn] at hbx R9
        rw [← hb9, ← hWn]
        clear hWn
        have hne : b8 ≠ b9 := by have h1 := lt_of_block R8.out; omega
        replace R8 := Lib.hid ((hbx.block b8 (lt_of_block R8.out)).trans R8.out)
        replace HP := Lib.hid (HP.out.below hbx)
        replace HB := Lib.hid (HB.out.trans (hbx.mono HB.out.size))
        replace HMB := Lib.hid ((hbx.block mb (lt_of_block HMB.out)).trans HMB.out)
        replace HPB := Lib.hid ((hbx.block pb (lt_of_block HPB.out)).trans HPB.out)
        clear hbx hS
        try clear hb8
        try clear hb9
        refine hK.out _ _ ⟨by rw [cell_of_row _ _ _ _ _ _ HMB.out]; rfl, by rw [cell_of_row _ _ _ _ _ _ HPB.out]; rfl⟩ (fun hS => ?_)
        clear hK K
        try simp only [List.getElem_toArray, List.getElem_cons_succ, List.getElem_cons_zero, Act.put, List.setIfInBounds_toArray, List.set_cons_zero, List.set_cons_succ]
        refine wpAnyH_done (by kernel_rfl) ?_ _
        exact HT.out b8 b9 W4 ⟨hne, R8.out, R9.out, G8.out, G9.out, HB.out⟩
      refine AllReadyH.cons rfl (fun K hK => ?_) AllReadyH.nil
      go_simp
      have hbx : Below W2.heap.size W2 (W2.alloc (.cells #[.int .i64 0, .int .i64 0, .int .u64 0] 120 (0, 0))) := (Below.refl _ _).alloc (Nat.le_refl _) _
      obtain ⟨b9, hb9⟩ : ∃ k, k = W2.heap.size := ⟨_, rfl⟩
      have R9 : Hid ((W2.alloc (.cells #[.int .i64 0, .int .i64 0, .int .u64 0] 120 (0, 0))).heap[b9]? = some (.cells zW 120 (0, 0))) := Lib.hid (heap_alloc_at _ _ _ hb9)
      have G9 : Hid (w.heap.size ≤ b9) := Lib.hid (by have h1 := HB.out.size; omega)
      obtain ⟨W3, hWn⟩ : ∃ x, x = W2.alloc (.cells #[.int .i64 0, .int .i64 0, .int .u64 0] 120 (0, 0)) := ⟨_, rfl⟩
      rw [← hWn] at hbx R9
      rw [← hb9, ← hWn]
      clear hWn
      have hne : b8 ≠ b9 := by have h1 := lt_of_block R8.out; omega
      replace R8 := Lib.hid ((hbx.block b8 (lt_of_block R8.out)).trans R8.out)
      replace HP := Lib.hid (HP.out.below hbx)
      replace HB := Lib.hid (HB.out.trans (hbx.mono HB.out.size))
      replace HMB := Lib.hid ((hbx.block mb (lt_of_block HMB.out)).trans HMB.out)
      replace HPB := Lib.hid ((hbx.block pb (lt_of_block HPB.out)).trans HPB.out)
      clear hbx hS
      try clear hb8
      try clear hb9
      refine hK.out _ _ ⟨by rw [cell_of_row _ _ _ _ _ _ HMB.out]; rfl, by rw [cell_of_row _ _ _ _ _ _ HPB.out]; rfl⟩ (fun hS => ?_)
      clear hK K
      try simp only [List.getElem_toArray, List.getElem_cons_succ, List.getElem_cons_zero, Act.put, List.setIfInBounds_toArray, List.set_cons_zero, List.set_cons_succ]
      refine wpAnyH_ready (rs := [7]) (by kernel_rfl) (by simp) ?_
      refine AllReadyH.cons rfl (fun K hK => ?_) AllReadyH.nil
      go_simp
      refine (manyW_any q _ t (by assumption) W3).mono ?_
      rintro e W4 ⟨rfl, hbx⟩
      dsimp only
      replace R8 := Lib.hid ((hbx.block b8 (lt_of_block R8.out)).trans R8.out)
      replace R9 := Lib.hid ((hbx.block b9 (lt_of_block R9.out)).trans R9.out)
      replace HP := Lib.hid (HP.out.below hbx)
      replace HB := Lib.hid (HB.out.trans (hbx.mono HB.out.size))
      replace HMB := Lib.hid ((hbx.block mb (lt_of_block HMB.out)).trans HMB.out)
      replace HPB := Lib.hid ((hbx.block pb (lt_of_block HPB.out)).trans HPB.out)
      clear hbx hS
      try clear hb8
      try clear hb9
      refine hK.out _ _ ⟨by rw [cell_of_row _ _ _ _ _ _ HMB.out]; rfl, by rw [cell_of_row _ _ _ _ _ _ HPB.out]; rfl⟩ (fun hS => ?_)
      clear hK K
      try simp only [List.getElem_toArray, List.getElem_cons_succ, List.getElem_cons_zero, Act.put, List.setIfInBounds_toArray, List.set_cons_zero, List.set_cons_succ]
      refine wpAnyH_done (by kernel_rfl) ?_ _
      exact HT.out b8 b9 W4 ⟨hne, R8.out, R9.out, G8.out, G9.out, HB.out⟩
    refine AllReadyH.cons rfl (fun K hK => ?_) AllReadyH.nil
    go_simp
    have hbx : Below W1.heap.size W1 (W1.alloc (.cells #[.int .i64 0, .int .i64 0, .int .u64 0] 120 (0, 0))) := (Below.refl _ _).alloc (Nat.le_refl _) _
    obtain ⟨b9, hb9⟩ : ∃ k, k = W1.heap.size := ⟨_, rfl⟩
    have R9 : Hid ((W1.alloc (.cells #[.int .i64 0, .int .i64 0, .int .u64 0] 120 (0, 0))).heap[b9]? = some (.cells zW 120 (0, 0))) := Lib.hid (heap_alloc_at _ _ _ hb9)
    have G9 : Hid (w.heap.size ≤ b9) := Lib.hid (by have h1 := HB.out.size; omega)
    obtain ⟨W2, hWn⟩ : ∃ x, x = W1.alloc (.cells #[.int .i64 0, .int .i64 0, .int .u64 0] 120 (0, 0)) := ⟨_, rfl⟩
    rw [← hWn] at hbx R9
    rw [← hb9, ← hWn]
    clear hWn
    replace HP := Lib.hid (HP.out.below hbx)
    replace HB := Lib.hid (HB.out.trans (hbx.mono HB.out.size))
    replace HMB := Lib.hid ((hbx.block mb (lt_of_block HMB.out)).trans HMB.out)
    replace HPB := Lib.hid ((hbx.block pb (lt_of_block HPB.out)).trans HPB.out)
    clear hbx hS
    try clear hb8
    try clear hb9
    refine hK.out _ _ ⟨by rw [cell_of_row _ _ _ _ _ _ HMB.out]; rfl, by rw [cell_of_row _ _ _ _ _ _ HPB.out]; rfl⟩ (fun hS => ?_)
    clear hK K
    try simp only [List.getElem_toArray, List.getElem_cons_succ, List.getElem_cons_zero, Act.put, List.setIfInBounds_toArray, List.set_cons_zero, List.set_cons_succ]
    refine wpAnyH_ready (rs := [7, 8]) (by kernel_rfl) (by simp) ?_
    refine AllReadyH.cons rfl (fun K hK => ?_) ?_
    · skip
      go_simp
      refine (manyW_any q _ t (by assumption) W2).mono ?_
      rintro e W3 ⟨rfl, hbx⟩
      dsimp only
      replace R9 := Lib.hid ((hbx.block b9 (lt_of_block R9.out)).trans R9.out)
      replace HP := Lib.hid (HP.out.below hbx)
      replace HB := Lib.hid (HB.out.trans (hbx.mono HB.out.size))
      replace HMB := Lib.hid ((hbx.block mb (lt_of_block HMB.out)).trans HMB.out)
      replace HPB := Lib.hid ((hbx.block pb (lt_of_block HPB.out)).trans HPB.out)
      clear hbx hS
      try clear hb8
      try clear hb9
      refine hK.out _ _ ⟨by rw [cell_of_row _ _ _ _ _ _ HMB.out]; rfl, by rw [cell_of_row _ _ _ _ _ _ HPB.out]; rfl⟩ (fun hS => ?_)
      clear hK K
      try simp only [List.getElem_toArray, List.getElem_cons_succ, List.getElem_cons_zero, Act.put, List.setIfInBounds_toArray, List.set_cons_zero, List.set_cons_succ]
      refine wpAnyH_ready (rs := [8]) (by kernel_rfl) (by simp) ?_
      refine AllReadyH.cons rfl (fun K hK => ?_) AllReadyH.nil
      go_simp
      have hbx : Below W3.heap.size W3 (W3.alloc (.cells #[.int .i64 0, .int .i64 0, .int .u64 0] 120 (0, 0))) := (Below.refl _ _).alloc (Nat.le_refl _) _
      obtain ⟨b8, hb8⟩ : ∃ k, k = W3.heap.size := ⟨_, rfl⟩
      have R8 : Hid ((W3.alloc (.cells #[.int .i64 0, .int .i64 0, .int .u64 0] 120 (0, 0))).heap[b8]? = some (.cells zW 120 (0, 0))) := Lib.hid (heap_alloc_at _ _ _ hb8)
      have G8 : Hid (w.heap.size ≤ b8) := Lib.hid (by have h1 := HB.out.size; omega)
      obtain ⟨W4, hWn⟩ : ∃ x, x = W3.alloc (.cells #[.int .i64 0, .int .i64 0, .int .u64 0] 120 (0, 0)) := ⟨_, rfl⟩
      rw [← hWn] at hbx R8
      rw [← hb8, ← hWn]
      clear hWn
      have hne : b8 ≠ b9 := by have h1 := lt_of_block R9.out; omega
      replace R9 := Lib.hid ((hbx.block b9 (lt_of_block R9.out)).trans R9.out)
      replace HP := Lib.hid (HP.out.below hbx)
      replace HB := Lib.hid (HB.out.trans (hbx.mono HB.out.size))
      replace HMB := Lib.hid ((hbx.block mb (lt_of_block HMB.out)).trans HMB.out)
      replace HPB := Lib.hid ((hbx.block pb (lt_of_block HPB.out)).trans HPB.out)
      clear hbx hS
      try clear hb8
      try clear hb9
      refine hK.out _ _ ⟨by rw [cell_of_row _ _ _ _ _ _ HMB.out]; rfl, by rw [cell_of_row _ _ _ _ _ _ HPB.out]; rfl⟩ (fun hS => ?_)
      clear hK K
      try simp only [List.getElem_toArray, List.getElem_cons_succ, List.getElem_cons_zero, Act.put, List.setIfInBounds_toArray, List.set_cons_zero, List.set_cons_succ]
      refine wpAnyH_done (by kernel_rfl) ?_ _
      exact HT.out b8 b9 W4 ⟨hne, R8.out, R9.out, G8.out, G9.out, HB.out⟩
    refine AllReadyH.cons rfl (fun K hK => ?_) AllReadyH.nil
    go_simp
    have hbx : Below W2.heap.size W2 (W2.alloc (.cells #[.int .i64 0, .int .i64 0, .int .u64 0] 120 (0, 0))) := (Below.refl _ _).alloc (Nat.le_refl _) _
    obtain ⟨b8, hb8⟩ : ∃ k, k = W2.heap.size := ⟨_, rfl⟩
    have R8 : Hid ((W2.alloc (.cells #[.int .i64 0, .int .i64 0, .int .u64 0] 120 (0, 0))).heap[b8]? = some (.cells zW 120 (0, 0))) := Lib.hid (heap_alloc_at _ _ _ hb8)
    have G8 : Hid (w.heap.size ≤ b8) := Lib.hid (by have h1 := HB.out.size; omega)
    obtain ⟨W3, hWn⟩ : ∃ x, x = W2.alloc (.cells #[.int .i64 0, .int .i64 0, .int .u64 0] 120 (0, 0)) := ⟨_, rfl⟩
    rw [← hWn] at hbx R8
    rw [← hb8, ← hWn]
    clear hWn
    have hne : b8 ≠ b9 := by have h1 := lt_of_block R9.out; omega
    replace R9 := Lib.hid ((hbx.block b9 (lt_of_block R9.out)).trans R9.out)
    replace HP := Lib.hid (HP.out.below hbx)
    replace HB := Lib.hid (HB.out.trans (hbx.mono HB.out.size))
    replace HMB := Lib.hid ((hbx.block mb (lt_of_block HMB.out)).trans HMB.out)
    replace HPB := Lib.hid ((hbx.block pb (lt_of_block HPB.out)).trans HPB.out)
    clear hbx hS
    try clear hb8
    try clear hb9
    refine hK.out _ _ ⟨by rw [cell_of_row _ _ _ _ _ _ HMB.out]; rfl, by rw [cell_of_row _ _ _ _ _ _ HPB.out]; rfl⟩ (fun hS => ?_)
    clear hK K
    try simp only [List.getElem_toArray, List.getElem_cons_succ, List.getElem_cons_zero, Act.put, List.setIfInBounds_toArray, List.set_cons_zero, List.set_cons_succ]
    refine wpAnyH_ready (rs := [7]) (by kernel_rfl) (by simp) ?_
    refine AllReadyH.cons rfl (fun K hK => ?_) AllReadyH.nil
    go_simp
    refine (manyW_any q _ t (by assumption) W3).mono ?_
    rintro e W4 ⟨rfl, hbx⟩
    dsimp only
    replace R9 := Lib.hid ((hbx.block b9 (lt_of_block R9.out)).trans R9.out)
    replace R8 := Lib.hid ((hbx.block b8 (lt_of_block R8.out)).trans R8.out)
    replace HP := Lib.hid (HP.out.below hbx)
    replace HB := Lib.hid (HB.out.trans (hbx.mono HB.out.size))
    replace HMB := Lib.hid ((hbx.block mb (lt_of_block HMB.out)).trans HMB.out)
    replace HPB := Lib.hid ((hbx.block pb (lt_of_block HPB.out)).trans HPB.out)
    clear hbx hS
    try clear hb8
    try clear hb9
    refine hK.out _ _ ⟨by rw [cell_of_row _ _ _ _ _ _ HMB.out]; rfl, by rw [cell_of_row _ _ _ _ _ _ HPB.out]; rfl⟩ (fun hS => ?_)
    clear hK K
    try simp only [List.getElem_toArray, List.getElem_cons_succ, List.getElem_cons_zero, Act.put, List.setIfInBounds_toArray, List.set_cons_zero, List.set_cons_succ]
    refine wpAnyH_done (by kernel_rfl) ?_ _
    exact HT.out b8 b9 W4 ⟨hne, R8.out, R9.out, G8.out, G9.out, HB.out⟩
  refine AllReadyH.cons rfl (fun K hK => ?_) ?_
  · skip
    go_simp
    have hbx : Below W0.heap.size W0 (W0.alloc (.cells #[.int .i64 0, .int .i64 0, .int .u64 0] 120 (0, 0))) := (Below.refl _ _).alloc (Nat.le_refl _) _
    obtain ⟨b8, hb8⟩ : ∃ k, k = W0.heap.size := ⟨_, rfl⟩
    have R8 : Hid ((W0.alloc (.cells #[.int .i64 0, .int .i64 0, .int .u64 0] 120 (0, 0))).heap[b8]? = some (.cells zW 120 (0, 0))) := Lib.hid (heap_alloc_at _ _ _ hb8)
    have G8 : Hid (w.heap.size ≤ b8) := Lib.hid (by have h1 := HB.out.size; omega)
    obtain ⟨W1, hWn⟩ : ∃ x, x = W0.alloc (.cells #[.int .i64 0, .int .i64 0, .int .u64 0] 120 (0, 0)) := ⟨_, rfl⟩
    rw [← hWn] at hbx R8
    rw [← hb8, ← hWn]
    clear hWn
    replace HP := Lib.hid (HP.out.below hbx)
    replace HB := Lib.hid (HB.out.trans (hbx.mono HB.out.size))
    replace HMB := Lib.hid ((hbx.block mb (lt_of_block HMB.out)).trans HMB.out)
    replace HPB := Lib.hid ((hbx.block pb (lt_of_block HPB.out)).trans HPB.out)
    clear hbx hS
    try clear hb8
    try clear hb9
    refine hK.out _ _ ⟨by rw [cell_of_row _ _ _ _ _ _ HMB.out]; rfl, by rw [cell_of_row _ _ _ _ _ _ HPB.out]; rfl⟩ (fun hS => ?_)
    clear hK K
    try simp only [List.getElem_toArray, List.getElem_cons_succ, List.getElem_cons_zero, Act.put, List.setIfInBounds_toArray, List.set_cons_zero, List.set_cons_succ]
    refine wpAnyH_ready (rs := [3, 9]) (by kernel_rfl) (by simp) ?_
    refine AllReadyH.cons rfl (fun K hK => ?_) ?_
    · skip
      go_simp
      refine (manyW_any q _ s (by assumption) W1).mono ?_
      rintro e W2 ⟨rfl, hbx⟩
      dsimp only
      replace R8 := Lib.hid ((hbx.block b8 (lt_of_block R8.out)).trans R8.out)
      replace HP := Lib.hid (HP.out.below hbx)
      replace HB := Lib.hid (HB.out.trans (hbx.mono HB.out.size))
      replace HMB := Lib.hid ((hbx.block mb (lt_of_block HMB.out)).trans HMB.out)
      replace HPB := Lib.hid ((hbx.block pb (lt_of_block HPB.out)).trans HPB.out)
      clear hbx hS
      try clear hb8
      try clear hb9
      refine hK.out _ _ ⟨by rw [cell_of_row _ _ _ _ _ _ HMB.out]; rfl, by rw [cell_of_row _ _ _ _ _ _ HPB.out]; rfl⟩ (fun hS => ?_)
      clear hK K
      try simp only [List.getElem_toArray, List.getElem_cons_succ, List.getElem_cons_zero, Act.put, List.setIfInBounds_toArray, List.set_cons_zero, List.set_cons_succ]
      refine wpAnyH_ready (rs := [7, 9]) (by kernel_rfl) (by simp) ?_
      refine AllReadyH.cons rfl (fun K hK => ?_) ?_
      · skip
        go_simp
        refine (manyW_any q _ t (by assumption) W2).mono ?_
        rintro e W3 ⟨rfl, hbx⟩
        dsimp only
        replace R8 := Lib.hid ((hbx.block b8 (lt_of_block R8.out)).trans R8.out)
        replace HP := Lib.hid (HP.out.below hbx)
        replace HB := Lib.hid (HB.out.trans (hbx.mono HB.out.size))
        replace HMB := Lib.hid ((hbx.block mb (lt_of_block HMB.out)).trans HMB.out)
        replace HPB := Lib.hid ((hbx.block pb (lt_of_block HPB.out)).trans HPB.out)
        clear hbx hS
        try clear hb8
        try clear hb9
        refine hK.out _ _ ⟨by rw [cell_of_row _ _ _ _ _ _ HMB.out]; rfl, by rw [cell_of_row _ _ _ _ _ _ HPB.out]; rfl⟩ (fun hS => ?_)
        clear hK K
        try simp only [List.getElem_toArray, List.getElem_cons_succ, List.getElem_cons_zero, Act.put, List.setIfInBounds_toArray, List.set_cons_zero, List.set_cons_succ]
        refine wpAnyH_ready (rs := [9]) (by kernel_rfl) (by simp) ?_
        refine AllReadyH.cons rfl (fun K hK => ?_) AllReadyH.nil
        go_simp
        have hbx : Below W3.heap.size W3 (W3.alloc (.cells #[.int .i64 0, .int .i64 0, .int .u64 0] 120 (0, 0))) := (Below.refl _ _).alloc (Nat.le_refl _) _
        obtain ⟨b9, hb9⟩ : ∃ k, k = W3.heap.size := ⟨_, rfl⟩
        have R9 : Hid ((W3.alloc (.cells #[.int .i64 0, .int .i64 0, .int .u64 0] 120 (0, 0))).heap[b9]? = some (.cells zW 120 (0, 0))) := Lib.hid (heap_alloc_at _ _ _ hb9)
        have G9 : Hid (w.heap.size ≤ b9) := Lib.hid (by have h1 := HB.out.size; omega)
        obtain ⟨W4, hWn⟩ : ∃ x, x = W3.alloc (.cells #[.int .i64 0, .int .i64 0, .int .u64 0] 120 (0, 0)) := ⟨_, rfl⟩
        rw [← hWn] at hbx R9
        rw [← hb9, ← hWn]
        clear hWn
        have hne : b8 ≠ b9 := by have h1 := lt_of_block R8.out; omega
        replace R8 := Lib.hid ((hbx.block b8 (lt_of_block R8.out)).trans R8.out)
        replace HP := Lib.hid (HP.out.below hbx)
        replace HB := Lib.hid (HB.out.trans (hbx.mono HB.out.size))
        replace HMB := Lib.hid ((hbx.block mb (lt_of_block HMB.out)).trans HMB.out)
        replace HPB := Lib.hid ((hbx.block pb (lt_of_block HPB.out)).trans HPB.out)
        clear hbx hS
        try clear hb8
        try clear hb9
        refine hK.out _ _ ⟨by rw [cell_of_row _ _ _ _ _ _ HMB.out]; rfl, by rw [cell_of_row _ _ _ _ _ _ HPB.out]; rfl⟩ (fun hS => ?_)
        clear hK K
        try simp only [List.getElem_toArray, List.getElem_cons_succ, List.getElem_cons_zero, Act.put, List.setIfInBounds_toArray, List.set_cons_zero, List.set_cons_succ]
        refine wpAnyH_done (by kernel_rfl) ?_ _
        exact HT.out b8 b9 W4 ⟨hne, R8.out, R9.out, G8.out, G9.out, HB.out⟩
      refine AllReadyH.cons rfl (fun K hK => ?_) AllReadyH.nil
      go_simp
      have hbx : Below W2.heap.size W2 (W2.alloc (.cells #[.int .i64 0, .int .i64 0, .int .u64 0] 120 (0, 0))) := (Below.refl _ _).alloc (Nat.le_refl _) _
      obtain ⟨b9, hb9⟩ : ∃ k, k = W2.heap.size := ⟨_, rfl⟩
      have R9 : Hid ((W2.alloc (.cells #[.int .i64 0, .int .i64 0, .int .u64 0] 120 (0, 0))).heap[b9]? = some (.cells zW 120 (0, 0))) := Lib.hid (heap_alloc_at _ _ _ hb9)
      have G9 : Hid (w.heap.size ≤ b9) := Lib.hid (by have h1 := HB.out.size; omega)
      obtain ⟨W3, hWn⟩ : ∃ x, x = W2.alloc (.cells #[.int .i64 0, .int .i64 0, .int .u64 0] 120 (0, 0)) := ⟨_, rfl⟩
      rw [← hWn] at hbx R9
      rw [← hb9, ← hWn]
      clear hWn
      have hne : b8 ≠ b9 := by have h1 := lt_of_block R8.out; omega
      replace R8 := Lib.hid ((hbx.block b8 (lt_of_block R8.out)).trans R8.out)
      replace HP := Lib.hid (HP.out.below hbx)
      replace HB := Lib.hid (HB.out.trans (hbx.mono HB.out.size))
      replace HMB := Lib.hid ((hbx.block mb (lt_of_block HMB.out)).trans HMB.out)
      replace HPB := Lib.hid ((hbx.block pb (lt_of_block HPB.out)).trans HPB.out)
      clear hbx hS
      try clear hb8
      try clear hb9
      refine hK.out _ _ ⟨by rw [cell_of_row _ _ _ _ _ _ HMB.out]; rfl, by rw [cell_of_row _ _ _ _ _ _ HPB.out]; rfl⟩ (fun hS => ?_)
      clear hK K
      try simp only [List.getElem_toArray, List.getElem_cons_succ, List.getElem_cons_zero, Act.put, List.setIfInBounds_toArray, List.set_cons_zero, List.set_cons_succ]
      refine wpAnyH_ready (rs := [7]) (by kernel_rfl) (by simp) ?_
      refine AllReadyH.cons rfl (fun K hK => ?_) AllReadyH.nil
      go_simp
      refine (manyW_any q _ t (by assumption) W3).mono ?_
      rintro e W4 ⟨rfl, hbx⟩
      dsimp only
      replace R8 := Lib.hid ((hbx.block b8 (lt_of_block R8.out)).trans R8.out)
      replace R9 := Lib.hid ((hbx.block b9 (lt_of_block R9.out)).trans R9.out)
      replace HP := Lib.hid (HP.out.below hbx)
      replace HB := Lib.hid (HB.out.trans (hbx.mono HB.out.size))
      replace HMB := Lib.hid ((hbx.block mb (lt_of_block HMB.out)).trans HMB.out)
      replace HPB := Lib.hid ((hbx.block pb (lt_of_block HPB.out)).trans HPB.out)
      clear hbx hS
      try clear hb8
      try clear hb9
      refine hK.out _ _ ⟨by rw [cell_of_row _ _ _ _ _ _ HMB.out]; rfl, by rw [cell_of_row _ _ _ _ _ _ HPB.out]; rfl⟩ (fun hS => ?_)
      clear hK K
      try simp only [List.getElem_toArray, List.getElem_cons_succ, List.getElem_cons_zero, Act.put, List.setIfInBounds_toArray, List.set_cons_zero, List.set_cons_succ]
      refine wpAnyH_done (by kernel_rfl) ?_ _
      exact HT.out b8 b9 W4 ⟨hne, R8.out, R9.out, G8.out, G9.out, HB.out⟩
    refine AllReadyH.cons rfl (fun K hK => ?_) AllReadyH.nil
    go_simp
    have hbx : Below W1.heap.size W1 (W1.alloc (.cells #[.int .i64 0, .int .i64 0, .int .u64 0] 120 (0, 0))) := (Below.refl _ _).alloc (Nat.le_refl _) _
    obtain ⟨b9, hb9⟩ : ∃ k, k = W1.heap.size := ⟨_, rfl⟩
    have R9 : Hid ((W1.alloc (.cells #[.int .i64 0, .int .i64 0, .int .u64 0] 120 (0, 0))).heap[b9]? = some (.cells zW 120 (0, 0))) := Lib.hid (heap_alloc_at _ _ _ hb9)
    have G9 : Hid (w.heap.size ≤ b9) := Lib.hid (by have h1 := HB.out.size; omega)
    obtain ⟨W2, hWn⟩ : ∃ x, x = W1.alloc (.cells #[.int .i64 0, .int .i64 0, .int .u64 0] 120 (0, 0)) := ⟨_, rfl⟩
    rw [← hWn] at hbx R9
    rw [← hb9, ← hWn]
    clear hWn
    have hne : b8 ≠ b9 := by have h1 := lt_of_block R8.out; omega
    replace R8 := Lib.hid ((hbx.block b8 (lt_of_block R8.out)).trans R8.out)
    replace HP := Lib.hid (HP.out.below hbx)
    replace HB := Lib.hid (HB.out.trans (hbx.mono HB.out.size))
    replace HMB := Lib.hid ((hbx.block mb (lt_of_block HMB.out)).trans HMB.out)
    replace HPB := Lib.hid ((hbx.block pb (lt_of_block HPB.out)).trans HPB.out)
    clear hbx hS
    try clear hb8
    try clear hb9
    refine hK.out _ _ ⟨by rw [cell_of_row _ _ _ _ _ _ HMB.out]; rfl, by rw [cell_of_row _ _ _ _ _ _ HPB.out]; rfl⟩ (fun hS => ?_)
    clear hK K
    try simp only [List.getElem_toArray, List.getElem_cons_succ, List.getElem_cons_zero, Act.put, List.setIfInBounds_toArray, List.set_cons_zero, List.set_cons_succ]
    refine wpAnyH_ready (rs := [3]) (by kernel_rfl) (by simp) ?_
    refine AllReadyH.cons rfl (fun K hK => ?_) AllReadyH.nil
    go_simp
    refine (manyW_any q _ s (by assumption) W2).mono ?_
    rintro e W3 ⟨rfl, hbx⟩
    dsimp only
    replace R8 := Lib.hid ((hbx.block b8 (lt_of_block R8.out)).trans R8.out)
    replace R9 := Lib.hid ((hbx.block b9 (lt_of_block R9.out)).trans R9.out)
    replace HP := Lib.hid (HP.out.below hbx)
    replace HB := Lib.hid (HB.out.trans (hbx.mono HB.out.size))
    replace HMB := Lib.hid ((hbx.block mb (lt_of_block HMB.out)).trans HMB.out)
    replace HPB := Lib.hid ((hbx.block pb (lt_of_block HPB.out)).trans HPB.out)
    clear hbx hS
    try clear hb8
    try clear hb9
    refine hK.out _ _ ⟨by rw [cell_of_row _ _ _ _ _ _ HMB.out]; rfl, by rw [cell_of_row _ _ _ _ _ _ HPB.out]; rfl⟩ (fun hS => ?_)
    clear hK K
    try simp only [List.getElem_toArray, List.getElem_cons_succ, List.getElem_cons_zero, Act.put, List.setIfInBounds_toArray, List.set_cons_zero, List.set_cons_succ]
    refine wpAnyH_ready (rs := [7]) (by kernel_rfl) (by simp) ?_
    refine AllReadyH.cons rfl (fun K hK => ?_) AllReadyH.nil
    go_simp
    refine (manyW_any q _ t (by assumption) W3).mono ?_
    rintro e W4 ⟨rfl, hbx⟩
    dsimp only
    replace R8 := Lib.hid ((hbx.block b8 (lt_of_block R8.out)).trans R8.out)
    replace R9 := Lib.hid ((hbx.block b9 (lt_of_block R9.out)).trans R9.out)
    replace HP := Lib.hid (HP.out.below hbx)
    replace HB := Lib.hid (HB.out.trans (hbx.mono HB.out.size))
    replace HMB := Lib.hid ((hbx.block mb (lt_of_block HMB.out)).trans HMB.out)
    replace HPB := Lib.hid ((hbx.block pb (lt_of_block HPB.out)).trans HPB.out)
    clear hbx hS
    try clear hb8
    try clear hb9
    refine hK.out _ _ ⟨by rw [cell_of_row _ _ _ _ _ _ HMB.out]; rfl, by rw [cell_of_row _ _ _ _ _ _ HPB.out]; rfl⟩ (fun hS => ?_)
    clear hK K
    try simp only [List.getElem_toArray, List.getElem_cons_succ, List.getElem_cons_zero, Act.put, List.setIfInBounds_toArray, List.set_cons_zero, List.set_cons_succ]
    refine wpAnyH_done (by kernel_rfl) ?_ _
    exact HT.out b8 b9 W4 ⟨hne, R8.out, R9.out, G8.out, G9.out, HB.out⟩
  refine AllReadyH.cons rfl (fun K hK => ?_) AllReadyH.nil
  go_simp
  have hbx : Below W0.heap.size W0 (W0.alloc (.cells #[.int .i64 0, .int .i64 0, .int .u64 0] 120 (0, 0))) := (Below.refl _ _).alloc (Nat.le_refl _) _
  obtain ⟨b9, hb9⟩ : ∃ k, k = W0.heap.size := ⟨_, rfl⟩
  have R9 : Hid ((W0.alloc (.cells #[.int .i64 0, .int .i64 0, .int .u64 0] 120 (0, 0))).heap[b9]? = some (.cells zW 120 (0, 0))) := Lib.hid (heap_alloc_at _ _ _ hb9)
  have G9 : Hid (w.heap.size ≤ b9) := Lib.hid (by have h1 := HB.out.size; omega)
  obtain ⟨W1, hWn⟩ : ∃ x, x = W0.alloc (.cells #[.int .i64 0, .int .i64 0, .int .u64 0] 120 (0, 0)) := ⟨_, rfl⟩
  rw [← hWn] at hbx R9
  rw [← hb9, ← hWn]
  clear hWn
  replace HP := Lib.hid (HP.out.below hbx)
  replace HB := Lib.hid (HB.out.trans (hbx.mono HB.out.size))
  replace HMB := Lib.hid ((hbx.block mb (lt_of_block HMB.out)).trans HMB.out)
  replace HPB := Lib.hid ((hbx.block pb (lt_of_block HPB.out)).trans HPB.out)
  clear hbx hS
  try clear hb8
  try clear hb9
  refine hK.out _ _ ⟨by rw [cell_of_row _ _ _ _ _ _ HMB.out]; rfl, by rw [cell_of_row _ _ _ _ _ _ HPB.out]; rfl⟩ (fun hS => ?_)
  clear hK K
  try simp only [List.getElem_toArray, List.getElem_cons_succ, List.getElem_cons_zero, Act.put, List.setIfInBounds_toArray, List.set_cons_zero, List.set_cons_succ]
  refine wpAnyH_ready (rs := [3, 8]) (by kernel_rfl) (by simp) ?_
  refine AllReadyH.cons rfl (fun K hK => ?_) ?_
  · skip
    go_simp
    refine (manyW_any q _ s (by assumption) W1).mono ?_
    rintro e W2 ⟨rfl, hbx⟩
    dsimp only
    replace R9 := Lib.hid ((hbx.block b9 (lt_of_block R9.out)).trans R9.out)
    replace HP := Lib.hid (HP.out.below hbx)
    replace HB := Lib.hid (HB.out.trans (hbx.mono HB.out.size))
    replace HMB := Lib.hid ((hbx.block mb (lt_of_block HMB.out)).trans HMB.out)
    replace HPB := Lib.hid ((hbx.block pb (lt_of_block HPB.out)).trans HPB.out)
    clear hbx hS
    try clear hb8
    try clear hb9
    refine hK.out _ _ ⟨by rw [cell_of_row _ _ _ _ _ _ HMB.out]; rfl, by rw [cell_of_row _ _ _ _ _ _ HPB.out]; rfl⟩ (fun hS => ?_)
    clear hK K
    try simp only [List.getElem_toArray, List.getElem_cons_succ, List.getElem_cons_zero, Act.put, List.setIfInBounds_toArray, List.set_cons_zero, List.set_cons_succ]
    refine wpAnyH_ready (rs := [7, 8]) (by kernel_rfl) (by simp) ?_
    refine AllReadyH.cons rfl (fun K hK => ?_) ?_
    · skip
      go_simp
      refine (manyW_any q _ t (by assumption) W2).mono ?_
      rintro e W3 ⟨rfl, hbx⟩
      dsimp only
      replace R9 := Lib.hid ((hbx.block b9 (lt_of_block R9.out)).trans R9.out)
      replace HP := Lib.hid (HP.out.below hbx)
      replace HB := Lib.hid (HB.out.trans (hbx.mono HB.out.size))
      replace HMB := Lib.hid ((hbx.block mb (lt_of_block HMB.out)).trans HMB.out)
      replace HPB := Lib.hid ((hbx.block pb (lt_of_block HPB.out)).trans HPB.out)
      clear hbx hS
      try clear hb8
      try clear hb9
      refine hK.out _ _ ⟨by rw [cell_of_row _ _ _ _ _ _ HMB.out]; rfl, by rw [cell_of_row _ _ _ _ _ _ HPB.out]; rfl⟩ (fun hS => ?_)
      clear hK K
      try simp only [List.getElem_toArray, List.getElem_cons_succ, List.getElem_cons_zero, Act.put, List.setIfInBounds_toArray, List.set_cons_zero, List.set_cons_succ]
      refine wpAnyH_ready (rs := [8]) (by kernel_rfl) (by simp) ?_
      refine AllReadyH.cons rfl (fun K hK => ?_) AllReadyH.nil
      go_simp
      have hbx : Below W3.heap.size W3 (W3.alloc (.cells #[.int .i64 0, .int .i64 0, .int .u64 0] 120 (0, 0))) := (Below.refl _ _).alloc (Nat.le_refl _) _
      obtain ⟨b8, hb8⟩ : ∃ k, k = W3.heap.size := ⟨_, rfl⟩
      have R8 : Hid ((W3.alloc (.cells #[.int .i64 0, .int .i64 0, .int .u64 0] 120 (0, 0))).heap[b8]? = some (.cells zW 120 (0, 0))) := Lib.hid (heap_alloc_at _ _ _ hb8)
      have G8 : Hid (w.heap.size ≤ b8) := Lib.hid (by have h1 := HB.out.size; omega)
      obtain ⟨W4, hWn⟩ : ∃ x, x = W3.alloc (.cells #[.int .i64 0, .int .i64 0, .int .u64 0] 120 (0, 0)) := ⟨_, rfl⟩
      rw [← hWn] at hbx R8
      rw [← hb8, ← hWn]
      clear hWn
      have hne : b8 ≠ b9 := by have h1 := lt_of_block R9.out; omega
      replace R9 := Lib.hid ((hbx.block b9 (lt_of_block R9.out)).trans R9.out)
      replace HP := Lib.hid (HP.out.below hbx)
      replace HB := Lib.hid (HB.out.trans (hbx.mono HB.out.size))
      replace HMB := Lib.hid ((hbx.block mb (lt_of_block HMB.out)).trans HMB.out)
      replace HPB := Lib.hid ((hbx.block pb (lt_of_block HPB.out)).trans HPB.out)
      clear hbx hS
      try clear hb8
      try clear hb9
      refine hK.out _ _ ⟨by rw [cell_of_row _ _ _ _ _ _ HMB.out]; rfl, by rw [cell_of_row _ _ _ _ _ _ HPB.out]; rfl⟩ (fun hS => ?_)
      clear hK K
      try simp only [List.getElem_toArray, List.getElem_cons_succ, List.getElem_cons_zero, Act.put, List.setIfInBounds_toArray, List.set_cons_zero, List.set_cons_succ]
      refine wpAnyH_done (by kernel_rfl) ?_ _
      exact HT.out b8 b9 W4 ⟨hne, R8.out, R9.out, G8.out, G9.out, HB.out⟩
    refine AllReadyH.cons rfl (fun K hK => ?_) AllReadyH.nil
    go_simp
    have hbx : Below W2.heap.size W2 (W2.alloc (.cells #[.int .i64 0, .int .i64 0, .int .u64 0] 120 (0, 0))) := (Below.refl _ _).alloc (Nat.le_refl _) _
    obtain ⟨b8, hb8⟩ : ∃ k, k = W2.heap.size := ⟨_, rfl⟩
    have R8 : Hid ((W2.alloc (.cells #[.int .i64 0, .int .i64 0, .int .u64 0] 120 (0, 0))).heap[b8]? = some (.cells zW 120 (0, 0))) := Lib.hid (heap_alloc_at _ _ _ hb8)
    have G8 : Hid (w.heap.size ≤ b8) := Lib.hid (by have h1 := HB.out.size; omega)
    obtain ⟨W3, hWn⟩ : ∃ x, x = W2.alloc (.cells #[.int .i64 0, .int .i64 0, .int .u64 0] 120 (0, 0)) := ⟨_, rfl⟩
    rw [← hWn] at hbx R8
    rw [← hb8, ← hWn]
    clear hWn
    have hne : b8 ≠ b9 := by have h1 := lt_of_block R9.out; omega
    replace R9 := Lib.hid ((hbx.block b9 (lt_of_block R9.out)).trans R9.out)
    replace HP := Lib.hid (HP.out.below hbx)
    replace HB := Lib.hid (HB.out.trans (hbx.mono HB.out.size))
    replace HMB := Lib.hid ((hbx.block mb (lt_of_block HMB.out)).trans HMB.out)
    replace HPB := Lib.hid ((hbx.block pb (lt_of_block HPB.out)).trans HPB.out)
    clear hbx hS
    try clear hb8
    try clear hb9
    refine hK.out _ _ ⟨by rw [cell_of_row _ _ _ _ _ _ HMB.out]; rfl, by rw [cell_of_row _ _ _ _ _ _ HPB.out]; rfl⟩ (fun hS => ?_)
    clear hK K
    try simp only [List.getElem_toArray, List.getElem_cons_succ, List.getElem_cons_zero, Act.put, List.setIfInBounds_toArray, List.set_cons_zero, List.set_cons_succ]
    refine wpAnyH_ready (rs := [7]) (by kernel_rfl) (by simp) ?_
    refine AllReadyH.cons rfl (fun K hK => ?_) AllReadyH.nil
    go_simp
    refine (manyW_any q _ t (by assumption) W3).mono ?_
    rintro e W4 ⟨rfl, hbx⟩
    dsimp only
    replace R9 := Lib.hid ((hbx.block b9 (lt_of_block R9.out)).trans R9.out)
    replace R8 := Lib.hid ((hbx.block b8 (lt_of_block R8.out)).trans R8.out)
    replace HP := Lib.hid (HP.out.below hbx)
    replace HB := Lib.hid (HB.out.trans (hbx.mono HB.out.size))
    replace HMB := Lib.hid ((hbx.block mb (lt_of_block HMB.out)).trans HMB.out)
    replace HPB := Lib.hid ((hbx.block pb (lt_of_block HPB.out)).trans HPB.out)
    clear hbx hS
    try clear hb8
    try clear hb9
    refine hK.out _ _ ⟨by rw [cell_of_row _ _ _ _ _ _ HMB.out]; rfl, by rw [cell_of_row _ _ _ _ _ _ HPB.out]; rfl⟩ (fun hS => ?_)
    clear hK K
    try simp only [List.getElem_toArray, List.getElem_cons_succ, List.getElem_cons_zero, Act.put, List.setIfInBounds_toArray, List.set_cons_zero, List.set_cons_succ]
    refine wpAnyH_done (by kernel_rfl) ?_ _
    exact HT.out b8 b9 W4 ⟨hne, R8.out, R9.out, G8.out, G9.out, HB.out⟩
  refine AllReadyH.cons rfl (fun K hK => ?_) AllReadyH.nil
  go_simp
  have hbx : Below W1.heap.size W1 (W1.alloc (.cells #[.int .i64 0, .int .i64 0, .int .u64 0] 120 (0, 0))) := (Below.refl _ _).alloc (Nat.le_refl _) _
  obtain ⟨b8, hb8⟩ : ∃ k, k = W1.heap.size := ⟨_, rfl⟩
  have R8 : Hid ((W1.alloc (.cells #[.int .i64 0, .int .i64 0, .int .u64 0] 120 (0, 0))).heap[b8]? = some (.cells zW 120 (0, 0))) := Lib.hid (heap_alloc_at _ _ _ hb8)
  have G8 : Hid (w.heap.size ≤ b8) := Lib.hid (by have h1 := HB.out.size; omega)
  obtain ⟨W2, hWn⟩ : ∃ x, x = W1.alloc (.cells #[.int .i64 0, .int .i64 0, .int .u64 0] 120 (0, 0)) := ⟨_, rfl⟩
  rw [← hWn] at hbx R8
  rw [← hb8, ← hWn]
  clear hWn
  have hne : b8 ≠ b9 := by have h1 := lt_of_block R9.out; omega
  replace R9 := Lib.hid ((hbx.block b9 (lt_of_block R9.out)).trans R9.out)
  replace HP := Lib.hid (HP.out.below hbx)
  replace HB := Lib.hid (HB.out.trans (hbx.mono HB.out.size))
  replace HMB := Lib.hid ((hbx.block mb (lt_of_block HMB.out)).trans HMB.out)
  replace HPB := Lib.hid ((hbx.block pb (lt_of_block HPB.out)).trans HPB.out)
  clear hbx hS
  try clear hb8
  try clear hb9
  refine hK.out _ _ ⟨by rw [cell_of_row _ _ _ _ _ _ HMB.out]; rfl, by rw [cell_of_row _ _ _ _ _ _ HPB.out]; rfl⟩ (fun hS => ?_)
  clear hK K
  try simp only [List.getElem_toArray, List.getElem_cons_succ, List.getElem_cons_zero, Act.put, List.setIfInBounds_toArray, List.set_cons_zero, List.set_cons_succ]
  refine wpAnyH_ready (rs := [3]) (by kernel_rfl) (by simp) ?_
  refine AllReadyH.cons rfl (fun K hK => ?_) AllReadyH.nil
  go_simp
  refine (manyW_any q _ s (by assumption) W2).mono ?_
  rintro e W3 ⟨rfl, hbx⟩
  dsimp only
  replace R9 := Lib.hid ((hbx.block b9 (lt_of_block R9.out)).trans R9.out)
  replace R8 := Lib.hid ((hbx.block b8 (lt_of_block R8.out)).trans R8.out)
  replace HP := Lib.hid (HP.out.below hbx)
  replace HB := Lib.hid (HB.out.trans (hbx.mono HB.out.size))
  replace HMB := Lib.hid ((hbx.block mb (lt_of_block HMB.out)).trans HMB.out)
  replace HPB := Lib.hid ((hbx.block pb (lt_of_block HPB.out)).trans HPB.out)
  clear hbx hS
  try clear hb8
  try clear hb9
  refine hK.out _ _ ⟨by rw [cell_of_row _ _ _ _ _ _ HMB.out]; rfl, by rw [cell_of_row _ _ _ _ _ _ HPB.out]; rfl⟩ (fun hS => ?_)
  clear hK K
  try simp only [List.getElem_toArray, List.getElem_cons_succ, List.getElem_cons_zero, Act.put, List.setIfInBounds_toArray, List.set_cons_zero, List.set_cons_succ]
  refine wpAnyH_ready (rs := [7]) (by kernel_rfl) (by simp) ?_
  refine AllReadyH.cons rfl (fun K hK => ?_) AllReadyH.nil
  go_simp
  refine (manyW_any q _ t (by assumption) W3).mono ?_
  rintro e W4 ⟨rfl, hbx⟩
  dsimp only
  replace R9 := Lib.hid ((hbx.block b9 (lt_of_block R9.out)).trans R9.out)
  replace R8 := Lib.hid ((hbx.block b8 (lt_of_block R8.out)).trans R8.out)
  replace HP := Lib.hid (HP.out.below hbx)
  replace HB := Lib.hid (HB.out.trans (hbx.mono HB.out.size))
  replace HMB := Lib.hid ((hbx.block mb (lt_of_block HMB.out)).trans HMB.out)
  replace HPB := Lib.hid ((hbx.block pb (lt_of_block HPB.out)).trans HPB.out)
  clear hbx hS
  try clear hb8
  try clear hb9
  refine hK.out _ _ ⟨by rw [cell_of_row _ _ _ _ _ _ HMB.out]; rfl, by rw [cell_of_row _ _ _ _ _ _ HPB.out]; rfl⟩ (fun hS => ?_)
  clear hK K
  try simp only [List.getElem_toArray, List.getElem_cons_succ, List.getElem_cons_zero, Act.put, List.setIfInBounds_toArray, List.set_cons_zero, List.set_cons_succ]
  refine wpAnyH_done (by kernel_rfl) ?_ _
  exact HT.out b8 b9 W4 ⟨hne, R8.out, R9.out, G8.out, G9.out, HB.out⟩
end Go.Proofs.Ytabbmihakoeegaa

/- The comparison of sets by what they cost, walked. -/
namespace Go.Proofs.Ytabbmihakoeegaa
set_option linter.unusedVariables false
set_option linter.unusedSimpArgs false
open Go.RowKit Go.Shelf
attribute [local go_sem] Oper.semAt_some
set_option maxRecDepth 100000 in
set_option maxHeartbeats 8000000 in
theorem cmp_price {q : PlanD} (hq : OkQ q) {B pp mp : Nat} {bs rs ps : Value} {L : List Nat} (mb pb s t : Nat) (hs : s < 2 ^ q.prices.length) (ht : t < 2 ^ q.prices.length) (w : World) (hmb : w.heap[mb]? = some (.cells #[.iface 106 (.agg #[])] 117 (0, 0))) (hpb : w.heap[pb]? = some (.cells #[.pointer (some ⟨pp, 0, none⟩)] 60 (0, 0))) (h : PlanS q B pp mp bs rs ps L w) :
    Calls Try.prog 76 #[.int .u64 s, .int .u64 t, .pointer (some ⟨mb, 0, none⟩), .pointer (some ⟨pb, 0, none⟩)] w fun e w' => e = .returned (.int .i64 (cmpW q true s t)) ∧ Below w.heap.size w w' := by
  have hs256 : s < 256 := Nat.lt_of_lt_of_le hs hq.p256
  have ht256 : t < 256 := Nat.lt_of_lt_of_le ht hq.p256
  have HQ := Lib.hid hq
  have HP := Lib.hid h.drew
  have HMB := Lib.hid hmb
  have HPB := Lib.hid hpb
  have HS1 := Lib.hid hs
  have HS2 := Lib.hid ht
  have HB : Hid (Below w.heap.size w w.drew) := Lib.hid (Below.refl _ _).drew
  have d1 : w.cell? ⟨mb, 0, none⟩ = some (.iface 106 (.agg #[])) := by rw [cell_of_row _ _ _ _ _ _ hmb]; rfl
  have d2 : w.cell? ⟨pb, 0, none⟩ = some (.pointer (some ⟨pp, 0, none⟩)) := by rw [cell_of_row _ _ _ _ _ _ hpb]; rfl
  have hcm : cmpW q true s t = if s = t then 0 else if lessW q true s t then -1 else 1 := rfl
  clear hq h hmb hpb hs ht
  go_enter Try.func76, Try.ntmps76
  go_wp2_with fail
  refine wp_region_tail 10 #[false, false, false, false, false, false, false, false, false, false, true, true] (fun W' => W'.cell? ⟨mb, 0, none⟩ = some (.iface 106 (.agg #[])) ∧ W'.cell? ⟨pb, 0, none⟩ = some (.pointer (some ⟨pp, 0, none⟩))) (by kernel_rfl) (by kernel_rfl) rfl ⟨d1, d2⟩ fun hS => ?_
  clear d1 d2
  refine held_tail (fun b8 b9 => { tmps := #[.int .u64 s, .int .u64 t, .pointer (some ⟨mb, 0, none⟩), .pointer (some ⟨pb, 0, none⟩), undef, undef, .int .i64 0, .pointer (some ⟨b8, 0, none⟩), .pointer (some ⟨b9, 0, none⟩), .iface 106 (.agg #[]), .pointer (some ⟨pp, 0, none⟩), .int .u64 s, .agg (worthR q true s), .iface 106 (.agg #[]), .pointer (some ⟨pp, 0, none⟩), .int .u64 t, .agg (worthR q true t), undef, undef, undef, undef, undef, undef], defers := [] }) (fun b8 b9 W => Two w W b8 b9) ?_ ?_
  · intro b8 b9 W0 ht
    clear HP HMB HPB hS HB
    unfold TailQ
    simp only [List.drop_succ_cons, List.drop_zero]
    have hl8 := lt_of_block ht.r8
    have hl9 := lt_of_block ht.r9
    have hfin : ∀ X1 X2 : World, Keeps (fun k => k = b8) W0 X1 → Keeps (fun k => k = b9) X1 X2 → Below w.heap.size w X2 := fun X1 X2 k1 k2 => (ht.bl.trans (k1.below ht.bl.size (fun k h e => by have := ht.g8; omega))).trans (k2.below (by have := k1.size; have := ht.bl.size; omega) (fun k h e => by have := ht.g9; omega))
    have HFIN := Lib.hid hfin
    clear hfin
    by_cases hst : s = t
    · have hsd : decide (s = t) = true := decide_eq_true hst
      rw [if_pos hst] at hcm
      have HCM := Lib.hid hcm
      have HST := Lib.hid hst
      clear hcm hst
      go_wp2_with (first | (refine wpList_storeA rfl 120 _ _ rfl b8 (worthR q true s) rfl rfl 120 _ ht.r8 (sizeWorth _ _ _) rfl (worthR_one _ _ _) ?_; intro X1 hr1 hk1 hs1; have HR1 := Lib.hid hr1; have HK1 := Lib.hid hk1; have HR9 := Lib.hid ((hk1.block b9 (lt_of_block ht.r9) (fun e => ht.ne e.symm)).trans ht.r9); clear hr1 hk1) | (refine wpList_storeA rfl 120 _ _ rfl b9 (worthR q true t) rfl rfl 120 _ HR9.out (sizeWorth _ _ _) rfl (worthR_one _ _ _) ?_; intro X2 hr2 hk2 hs2; have HR2 := Lib.hid hr2; have HK2 := Lib.hid hk2; have HR12 := Lib.hid ((hk2.block b8 (lt_of_block HR1.out) ht.ne).trans HR1.out); clear hr2 hk2) | (refine wpList_load_row rfl 120 _ rfl b8 rfl 120 (worthR q true s) (0, 0) _ HR12.out underWorth rfl (sizeWorth _ _ _) ?_) | (refine wpList_load_row rfl 120 _ rfl b9 rfl 120 (worthR q true t) (0, 0) _ HR2.out underWorth rfl (sizeWorth _ _ _) ?_) | (refine wpList_eqWorth rfl (.tmp 17) (.tmp 18) rfl q true s t rfl rfl ?_))
      go_ret
      exact ⟨by rw [HCM.out]; rfl, HFIN.out _ _ HK1.out HK2.out⟩
    · have hsd : decide (s = t) = false := decide_eq_false hst
      rw [if_neg hst] at hcm
      have HCM := Lib.hid hcm
      clear hcm
      go_wp2_with (first | (refine wpList_storeA rfl 120 _ _ rfl b8 (worthR q true s) rfl rfl 120 _ ht.r8 (sizeWorth _ _ _) rfl (worthR_one _ _ _) ?_; intro X1 hr1 hk1 hs1; have HR1 := Lib.hid hr1; have HK1 := Lib.hid hk1; have HR9 := Lib.hid ((hk1.block b9 (lt_of_block ht.r9) (fun e => ht.ne e.symm)).trans ht.r9); clear hr1 hk1) | (refine wpList_storeA rfl 120 _ _ rfl b9 (worthR q true t) rfl rfl 120 _ HR9.out (sizeWorth _ _ _) rfl (worthR_one _ _ _) ?_; intro X2 hr2 hk2 hs2; have HR2 := Lib.hid hr2; have HK2 := Lib.hid hk2; have HR12 := Lib.hid ((hk2.block b8 (lt_of_block HR1.out) ht.ne).trans HR1.out); clear hr2 hk2) | (refine wpList_load_row rfl 120 _ rfl b8 rfl 120 (worthR q true s) (0, 0) _ HR12.out underWorth rfl (sizeWorth _ _ _) ?_) | (refine wpList_load_row rfl 120 _ rfl b9 rfl 120 (worthR q true t) (0, 0) _ HR2.out underWorth rfl (sizeWorth _ _ _) ?_) | (refine wpList_eqWorth rfl (.tmp 17) (.tmp 18) rfl q true s t rfl rfl ?_))
      refine (less_any q true s t _).mono ?_
      rintro e X3 ⟨rfl, hb3⟩
      dsimp only
      have hb23 := (HFIN.out _ _ HK1.out HK2.out).trans (hb3.mono (HFIN.out _ _ HK1.out HK2.out).size)
      have HB23 := Lib.hid hb23
      clear hb3 hb23
      cases hl : lessW q true s t with
      | true =>
        rw [hl] at HCM
        go_wp2_with fail
        go_ret
        exact ⟨by rw [HCM.out]; rfl, HB23.out⟩
      | false =>
        rw [hl] at HCM
        go_wp2_with fail
        go_ret
        exact ⟨by rw [HCM.out]; rfl, HB23.out⟩
  intro hT
  have HT := Lib.hid hT
  clear hT hcm
  refine wpAnyH_take (i := 0) (v := ?_) rfl (by kernel_rfl) (by kernel_rfl) (by kernel_rfl) (fun _ _ _ h => h) (Or.inl ⟨by rfl, ?_⟩) hS ?_
  rotate_left
  · (intro W hSw; obtain ⟨hq1, hq2⟩ := hSw; go_simp; try with_reducible rfl)
  try simp only [List.getElem_toArray, List.getElem_cons_succ, List.getElem_cons_zero, Act.put, List.setIfInBounds_toArray, List.set_cons_zero, List.set_cons_succ]
  refine wpAnyH_take (i := 1) (v := ?_) rfl (by kernel_rfl) (by kernel_rfl) (by kernel_rfl) (fun _ _ _ h => h) (Or.inl ⟨by rfl, ?_⟩) hS ?_
  rotate_left
  · (intro W hSw; obtain ⟨hq1, hq2⟩ := hSw; go_simp; try with_reducible rfl)
  try simp only [List.getElem_toArray, List.getElem_cons_succ, List.getElem_cons_zero, Act.put, List.setIfInBounds_toArray, List.set_cons_zero, List.set_cons_succ]
  refine wpAnyH_take (i := 2) (v := ?_) rfl (by kernel_rfl) (by kernel_rfl) (by kernel_rfl) (fun _ _ _ h => h) (Or.inl ⟨by rfl, ?_⟩) hS ?_
  rotate_left
  · (intro W hSw; obtain ⟨hq1, hq2⟩ := hSw; go_simp; try with_reducible rfl)
  try simp only [List.getElem_toArray, List.getElem_cons_succ, List.getElem_cons_zero, Act.put, List.setIfInBounds_toArray, List.set_cons_zero, List.set_cons_succ]
  refine wpAnyH_take (i := 4) (v := ?_) rfl (by kernel_rfl) (by kernel_rfl) (by kernel_rfl) (fun _ _ _ h => h) (Or.inl ⟨by rfl, ?_⟩) hS ?_
  rotate_left
  · (intro W hSw; obtain ⟨hq1, hq2⟩ := hSw; go_simp; try with_reducible rfl)
  try simp only [List.getElem_toArray, List.getElem_cons_succ, List.getElem_cons_zero, Act.put, List.setIfInBounds_toArray, List.set_cons_zero, List.set_cons_succ]
  refine wpAnyH_take (i := 5) (v := ?_) rfl (by kernel_rfl) (by kernel_rfl) (by kernel_rfl) (fun _ _ _ h => h) (Or.inl ⟨by rfl, ?_⟩) hS ?_
  rotate_left
  · (intro W hSw; obtain ⟨hq1, hq2⟩ := hSw; go_simp; try with_reducible rfl)
  try simp only [List.getElem_toArray, List.getElem_cons_succ, List.getElem_cons_zero, Act.put, List.setIfInBounds_toArray, List.set_cons_zero, List.set_cons_succ]
  refine wpAnyH_take (i := 6) (v := ?_) rfl (by kernel_rfl) (by kernel_rfl) (by kernel_rfl) (fun _ _ _ h => h) (Or.inl ⟨by rfl, ?_⟩) hS ?_
  rotate_left
  · (intro W hSw; obtain ⟨hq1, hq2⟩ := hSw; go_simp; try with_reducible rfl)
  try simp only [List.getElem_toArray, List.getElem_cons_succ, List.getElem_cons_zero, Act.put, List.setIfInBounds_toArray, List.set_cons_zero, List.set_cons_succ]
  obtain ⟨W0, hW0⟩ : ∃ x, x = w.drew := ⟨_, rfl⟩
  rw [← hW0] at HB HP
  have hmbd : W0.heap[mb]? = some (.cells #[.iface 106 (.agg #[])] 117 (0, 0)) := by rw [hW0]; exact HMB.out
  have hpbd : W0.heap[pb]? = some (.cells #[.pointer (some ⟨pp, 0, none⟩)] 60 (0, 0)) := by rw [hW0]; exact HPB.out
  replace HMB := Lib.hid hmbd
  replace HPB := Lib.hid hpbd
  rw [← hW0] at hS ⊢
  clear hW0 hmbd hpbd
  refine wpAnyH_ready (rs := [3, 8, 9]) (by kernel_rfl) (by simp) ?_
  refine AllReadyH.cons rfl (fun K hK => ?_) ?_
  · skip
    go_simp
    refine (priceW_any HQ.out s (by first | exact HS1.out | exact HS2.out) W0 HP.out).mono ?_
    rintro e W1 ⟨rfl, hbx⟩
    dsimp only
    replace HP := Lib.hid (HP.out.below hbx)
    replace HB := Lib.hid (HB.out.trans (hbx.mono HB.out.size))
    replace HMB := Lib.hid ((hbx.block mb (lt_of_block HMB.out)).trans HMB.out)
    replace HPB := Lib.hid ((hbx.block pb (lt_of_block HPB.out)).trans HPB.out)
    clear hbx hS
    try clear hb8
    try clear hb9
    refine hK.out _ _ ⟨by rw [cell_of_row _ _ _ _ _ _ HMB.out]; rfl, by rw [cell_of_row _ _ _ _ _ _ HPB.out]; rfl⟩ (fun hS => ?_)
    clear hK K
    try simp only [List.getElem_toArray, List.getElem_cons_succ, List.getElem_cons_zero, Act.put, List.setIfInBounds_toArray, List.set_cons_zero, List.set_cons_succ]
    refine wpAnyH_ready (rs := [7, 8, 9]) (by kernel_rfl) (by simp) ?_
    refine AllReadyH.cons rfl (fun K hK => ?_) ?_
    · skip
      go_simp
      refine (priceW_any HQ.out t (by first | exact HS1.out | exact HS2.out) W1 HP.out).mono ?_
      rintro e W2 ⟨rfl, hbx⟩
      dsimp only
      replace HP := Lib.hid (HP.out.below hbx)
      replace HB := Lib.hid (HB.out.trans (hbx.mono HB.out.size))
      replace HMB := Lib.hid ((hbx.block mb (lt_of_block HMB.out)).trans HMB.out)
      replace HPB := Lib.hid ((hbx.block pb (lt_of_block HPB.out)).trans HPB.out)
      clear hbx hS
      try clear hb8
      try clear hb9
      refine hK.out _ _ ⟨by rw [cell_of_row _ _ _ _ _ _ HMB.out]; rfl, by rw [cell_of_row _ _ _ _ _ _ HPB.out]; rfl⟩ (fun hS => ?_)
      clear hK K
      try simp only [List.getElem_toArray, List.getElem_cons_succ, List.getElem_cons_zero, Act.put, List.setIfInBounds_toArray, List.set_cons_zero, List.set_cons_succ]
      refine wpAnyH_ready (rs := [8, 9]) (by kernel_rfl) (by simp) ?_
      refine AllReadyH.cons rfl (fun K hK => ?_) ?_
      · skip
        go_simp
        have hbx : Below W2.heap.size W2 (W2.alloc (.cells #[.int .i64 0, .int .i64 0, .int .u64 0] 120 (0, 0))) := (Below.refl _ _).alloc (Nat.le_refl _) _
        obtain ⟨b8, hb8⟩ : ∃ k, k = W2.heap.size := ⟨_, rfl⟩
        have R8 : Hid ((W2.alloc (.cells #[.int .i64 0, .int .i64 0, .int .u64 0] 120 (0, 0))).heap[b8]? = some (.cells zW 120 (0, 0))) := Lib.hid (heap_alloc_at _ _ _ hb8)
        have G8 : Hid (w.heap.size ≤ b8) := Lib.hid (by have h1 := HB.out.size; omega)
        obtain ⟨W3, hWn⟩ : ∃ x, x = W2.alloc (.cells #[.int .i64 0, .int .i64 0, .int .u64 0] 120 (0, 0)) := ⟨_, rfl⟩
        rw [← hWn] at hbx R8
        rw [← hb8, ← hWn]
        clear hWn
        replace HP := Lib.hid (HP.out.below hbx)
        replace HB := Lib.hid (HB.out.trans (hbx.mono HB.out.size))
        replace HMB := Lib.hid ((hbx.block mb (lt_of_block HMB.out)).trans HMB.out)
        replace HPB := Lib.hid ((hbx.block pb (lt_of_block HPB.out)).trans HPB.out)
        clear hbx hS
        try clear hb8
        try clear hb9
        refine hK.out _ _ ⟨by rw [cell_of_row _ _ _ _ _ _ HMB.out]; rfl, by rw [cell_of_row _ _ _ _ _ _ HPB.out]; rfl⟩ (fun hS => ?_)
        clear hK K
        try simp only [List.getElem_toArray, List.getElem_cons_succ, List.getElem_cons_zero, Act.put, List.setIfInBounds_toArray, List.set_cons_zero, List.set_cons_succ]
        refine wpAnyH_ready (rs := [9]) (by kernel_rfl) (by simp) ?_
        refine AllReadyH.cons rfl (fun K hK => ?_) AllReadyH.nil
        go_simp
        have hbx : Below W3.heap.size W3 (W3.alloc (.cells #[.int .i64 0, .int .i64 0, .int .u64 0] 120 (0, 0))) := (Below.refl _ _).alloc (Nat.le_refl _) _
        obtain ⟨b9, hb9⟩ : ∃ k, k = W3.heap.size := ⟨_, rfl⟩
        have R9 : Hid ((W3.alloc (.cells #[.int .i64 0, .int .i64 0, .int .u64 0] 120 (0, 0))).heap[b9]? = some (.cells zW 120 (0, 0))) := Lib.hid (heap_alloc_at _ _ _ hb9)
        have G9 : Hid (w.heap.size ≤ b9) := Lib.hid (by have h1 := HB.out.size; omega)
        obtain ⟨W4, hWn⟩ : ∃ x, x = W3.alloc (.cells #[.int .i64 0, .int .i64 0, .int .u64 0] 120 (0, 0)) := ⟨_, rfl⟩
        rw [← hWn] at hbx R9
        rw [← hb9, ← hWn]
        clear hWn
        have hne : b8 ≠ b9 := by have h1 := lt_of_block R8.out; omega
        replace R8 := Lib.hid ((hbx.block b8 (lt_of_block R8.out)).trans R8.out)
        replace HP := Lib.hid (HP.out.below hbx)
        replace HB := Lib.hid (HB.out.trans (hbx.mono HB.out.size))
        replace HMB := Lib.hid ((hbx.block mb (lt_of_block HMB.out)).trans HMB.out)
        replace HPB := Lib.hid ((hbx.block pb (lt_of_block HPB.out)).trans HPB.out)
        clear hbx hS
        try clear hb8
        try clear hb9
        refine hK.out _ _ ⟨by rw [cell_of_row _ _ _ _ _ _ HMB.out]; rfl, by rw [cell_of_row _ _ _ _ _ _ HPB.out]; rfl⟩ (fun hS => ?_)
        clear hK K
        try simp only [List.getElem_toArray, List.getElem_cons_succ, List.getElem_cons_zero, Act.put, List.setIfInBounds_toArray, List.set_cons_zero, List.set_cons_succ]
        refine wpAnyH_done (by kernel_rfl) ?_ _
        exact HT.out b8 b9 W4 ⟨hne, R8.out, R9.out, G8.out, G9.out, HB.out⟩
      refine AllReadyH.cons rfl (fun K hK => ?_) AllReadyH.nil
      go_simp
      have hbx : Below W2.heap.size W2 (W2.alloc (.cells #[.int .i64 0, .int .i64 0, .int .u64 0] 120 (0, 0))) := (Below.refl _ _).alloc (Nat.le_refl _) _
      obtain ⟨b9, hb9⟩ : ∃ k, k = W2.heap.size := ⟨_, rfl⟩
      have R9 : Hid ((W2.alloc (.cells #[.int .i64 0, .int .i64 0, .int .u64 0] 120 (0, 0))).heap[b9]? = some (.cells zW 120 (0, 0))) := Lib.hid (heap_alloc_at _ _ _ hb9)
      have G9 : Hid (w.heap.size ≤ b9) := Lib.hid (by have h1 := HB.out.size; omega)
      obtain ⟨W3, hWn⟩ : ∃ x, x = W2.alloc (.cells #[.int .i64 0, .int .i64 0, .int .u64 0] 120 (0, 0)) := ⟨_, rfl⟩
      rw [← hWn] at hbx R9
      rw [← hb9, ← hWn]
      clear hWn
      replace HP := Lib.hid (HP.out.below hbx)
      replace HB := Lib.hid (HB.out.trans (hbx.mono HB.out.size))
      replace HMB := Lib.hid ((hbx.block mb (lt_of_block HMB.out)).trans HMB.out)
      replace HPB := Lib.hid ((hbx.block pb (lt_of_block HPB.out)).trans HPB.out)
      clear hbx hS
      try clear hb8
      try clear hb9
      refine hK.out _ _ ⟨by rw [cell_of_row _ _ _ _ _ _ HMB.out]; rfl, by rw [cell_of_row _ _ _ _ _ _ HPB.out]; rfl⟩ (fun hS => ?_)
      clear hK K
      try simp only [List.getElem_toArray, List.getElem_cons_succ, List.getElem_cons_zero, Act.put, List.setIfInBounds_toArray, List.set_cons_zero, List.set_cons_succ]
      refine wpAnyH_ready (rs := [8]) (by kernel_rfl) (by simp) ?_
      refine AllReadyH.cons rfl (fun K hK => ?_) AllReadyH.nil
      go_simp
      have hbx : Below W3.heap.size W3 (W3.alloc (.cells #[.int .i64 0, .int .i64 0, .int .u64 0] 120 (0, 0))) := (Below.refl _ _).alloc (Nat.le_refl _) _
      obtain ⟨b8, hb8⟩ : ∃ k, k = W3.heap.size := ⟨_, rfl⟩
      have R8 : Hid ((W3.alloc (.cells #[.int .i64 0, .int .i64 0, .int .u64 0] 120 (0, 0))).heap[b8]? = some (.cells zW 120 (0, 0))) := Lib.hid (heap_alloc_at _ _ _ hb8)
      have G8 : Hid (w.heap.size ≤ b8) := Lib.hid (by have h1 := HB.out.size; omega)
      obtain ⟨W4, hWn⟩ : ∃ x, x = W3.alloc (.cells #[.int .i64 0, .int .i64 0, .int .u64 0] 120 (0, 0)) := ⟨_, rfl⟩
      rw [← hWn] at hbx R8
      rw [← hb8, ← hWn]
      clear hWn
      have hne : b8 ≠ b9 := by have h1 := lt_of_block R9.out; omega
      replace R9 := Lib.hid ((hbx.block b9 (lt_of_block R9.out)).trans R9.out)
      replace HP := Lib.hid (HP.out.below hbx)
      replace HB := Lib.hid (HB.out.trans (hbx.mono HB.out.size))
      replace HMB := Lib.hid ((hbx.block mb (lt_of_block HMB.out)).trans HMB.out)
      replace HPB := Lib.hid ((hbx.block pb (lt_of_block HPB.out)).trans HPB.out)
      clear hbx hS
      try clear hb8
      try clear hb9
      refine hK.out _ _ ⟨by rw [cell_of_row _ _ _ _ _ _ HMB.out]; rfl, by rw [cell_of_row _ _ _ _ _ _ HPB.out]; rfl⟩ (fun hS => ?_)
      clear hK K
      try simp only [List.getElem_toArray, List.getElem_cons_succ, List.getElem_cons_zero, Act.put, List.setIfInBounds_toArray, List.set_cons_zero, List.set_cons_succ]
      refine wpAnyH_done (by kernel_rfl) ?_ _
      exact HT.out b8 b9 W4 ⟨hne, R8.out, R9.out, G8.out, G9.out, HB.out⟩
    refine AllReadyH.cons rfl (fun K hK => ?_) ?_
    · skip
      go_simp
      have hbx : Below W1.heap.size W1 (W1.alloc (.cells #[.int .i64 0, .int .i64 0, .int .u64 0] 120 (0, 0))) := (Below.refl _ _).alloc (Nat.le_refl _) _
      obtain ⟨b8, hb8⟩ : ∃ k, k = W1.heap.size := ⟨_, rfl⟩
      have R8 : Hid ((W1.alloc (.cells #[.int .i64 0, .int .i64 0, .int .u64 0] 120 (0, 0))).heap[b8]? = some (.cells zW 120 (0, 0))) := Lib.hid (heap_alloc_at _ _ _ hb8)
      have G8 : Hid (w.heap.size ≤ b8) := Lib.hid (by have h1 := HB.out.size; omega)
      obtain ⟨W2, hWn⟩ : ∃ x, x = W1.alloc (.cells #[.int .i64 0, .int .i64 0, .int .u64 0] 120 (0, 0)) := ⟨_, rfl⟩
      rw [← hWn] at hbx R8
      rw [← hb8, ← hWn]
      clear hWn
      replace HP := Lib.hid (HP.out.below hbx)
      replace HB := Lib.hid (HB.out.trans (hbx.mono HB.out.size))
      replace HMB := Lib.hid ((hbx.block mb (lt_of_block HMB.out)).trans HMB.out)
      replace HPB := Lib.hid ((hbx.block pb (lt_of_block HPB.out)).trans HPB.out)
      clear hbx hS
      try clear hb8
      try clear hb9
      refine hK.out _ _ ⟨by rw [cell_of_row _ _ _ _ _ _ HMB.out]; rfl, by rw [cell_of_row _ _ _ _ _ _ HPB.out]; rfl⟩ (fun hS => ?_)
      clear hK K
      try simp only [List.getElem_toArray, List.getElem_cons_succ, List.getElem_cons_zero, Act.put, List.setIfInBounds_toArray, List.set_cons_zero, List.set_cons_succ]
      refine wpAnyH_ready (rs := [7, 9]) (by kernel_rfl) (by simp) ?_
      refine AllReadyH.cons rfl (fun K hK => ?_) ?_
      · skip
        go_simp
        refine (priceW_any HQ.out t (by first | exact HS1.out | exact HS2.out) W2 HP.out).mono ?_
        rintro e W3 ⟨rfl, hbx⟩
        dsimp only
        replace R8 := Lib.hid ((hbx.block b8 (lt_of_block R8.out)).trans R8.out)
        replace HP := Lib.hid (HP.out.below hbx)
        replace HB := Lib.hid (HB.out.trans (hbx.mono HB.out.size))
        replace HMB := Lib.hid ((hbx.block mb (lt_of_block HMB.out)).trans HMB.out)
        replace HPB := Lib.hid ((hbx.block pb (lt_of_block HPB.out)).trans HPB.out)
        clear hbx hS
        try clear hb8
        try clear hb9
        refine hK.out _ _ ⟨by rw [cell_of_row _ _ _ _ _ _ HMB.out]; rfl, by rw [cell_of_row _ _ _ _ _ _ HPB.out]; rfl⟩ (fun hS => ?_)
        clear hK K
        try simp only [List.getElem_toArray, List.getElem_cons_succ, List.getElem_cons_zero, Act.put, List.setIfInBounds_toArray, List.set_cons_zero, List.set_cons_succ]
        refine wpAnyH_ready (rs := [9]) (by kernel_rfl) (by simp) ?_
        refine AllReadyH.cons rfl (fun K hK => ?_) AllReadyH.nil
        go_simp
        have hbx : Below W3.heap.size W3 (W3.alloc (.cells #[.int .i64 0, .int .i64 0, .int .u64 0] 120 (0, 0))) := (Below.refl _ _).alloc (Nat.le_refl _) _
        obtain ⟨b9, hb9⟩ : ∃ k, k = W3.heap.size := ⟨_, rfl⟩
        have R9 : Hid ((W3.alloc (.cells #[.int .i64 0, .int .i64 0, .int .u64 0] 120 (0, 0))).heap[b9]? = some (.cells zW 120 (0, 0))) := Lib.hid (heap_alloc_at _ _ _ hb9)
        have G9 : Hid (w.heap.size ≤ b9) := Lib.hid (by have h1 := HB.out.size; omega)
        obtain ⟨W4, hWn⟩ : ∃ x, x = W3.alloc (.cells #[.int .i64 0, .int .i64 0, .int .u64 0] 120 (0, 0)) := ⟨_, rfl⟩
        rw [← hWn] at hbx R9
        rw [← hb9, ← hWn]
        clear hWn
        have hne : b8 ≠ b9 := by have h1 := lt_of_block R8.out; omega
        replace R8 := Lib.hid ((hbx.block b8 (lt_of_block R8.out)).trans R8.out)
        replace HP := Lib.hid (HP.out.below hbx)
        replace HB := Lib.hid (HB.out.trans (hbx.mono HB.out.size))
        replace HMB := Lib.hid ((hbx.block mb (lt_of_block HMB.out)).trans HMB.out)
        replace HPB := Lib.hid ((hbx.block pb (lt_of_block HPB.out)).trans HPB.out)
        clear hbx hS
        try clear hb8
        try clear hb9
        refine hK.out _ _ ⟨by rw [cell_of_row _ _ _ _ _ _ HMB.out]; rfl, by rw [cell_of_row _ _ _ _ _ _ HPB.out]; rfl⟩ (fun hS => ?_)
        clear hK K
        try simp only [List.getElem_toArray, List.getElem_cons_succ, List.getElem_cons_zero, Act.put, List.setIfInBounds_toArray, List.set_cons_zero, List.set_cons_succ]
        refine wpAnyH_done (by kernel_rfl) ?_ _
        exact HT.out b8 b9 W4 ⟨hne, R8.out, R9.out, G8.out, G9.out, HB.out⟩
      refine AllReadyH.cons rfl (fun K hK => ?_) AllReadyH.nil
      go_simp
      have hbx : Below W2.heap.size W2 (W2.alloc (.cells #[.int .i64 0, .int .i64 0, .int .u64 0] 120 (0, 0))) := (Below.refl _ _).alloc (Nat.le_refl _) _
      obtain ⟨b9, hb9⟩ : ∃ k, k = W2.heap.size := ⟨_, rfl⟩
      have R9 : Hid ((W2.alloc (.cells #[.int .i64 0, .int .i64 0, .int .u64 0] 120 (0, 0))).heap[b9]? = some (.cells zW 120 (0, 0))) := Lib.hid (heap_alloc_at _ _ _ hb9)
      have G9 : Hid (w.heap.size ≤ b9) := Lib.hid (by have h1 := HB.out.size; omega)
      obtain ⟨W3, hWn⟩ : ∃ x, x = W2.alloc (.cells #[.int .i64 0, .int .i64 0, .int .u64 0] 120 (0, 0)) := ⟨_, rfl⟩
      rw [← hWn] at hbx R9
      rw [← hb9, ← hWn]
      clear hWn
      have hne : b8 ≠ b9 := by have h1 := lt_of_block R8.out; omega
      replace R8 := Lib.hid ((hbx.block b8 (lt_of_block R8.out)).trans R8.out)
      replace HP := Lib.hid (HP.out.below hbx)
      replace HB := Lib.hid (HB.out.trans (hbx.mono HB.out.size))
      replace HMB := Lib.hid ((hbx.block mb (lt_of_block HMB.out)).trans HMB.out)
      replace HPB := Lib.hid ((hbx.block pb (lt_of_block HPB.out)).trans HPB.out)
      clear hbx hS
      try clear hb8
      try clear hb9
      refine hK.out _ _ ⟨by rw [cell_of_row _ _ _ _ _ _ HMB.out]; rfl, by rw [cell_of_row _ _ _ _ _ _ HPB.out]; rfl⟩ (fun hS => ?_)
      clear hK K
      try simp only [List.getElem_toArray, List.getElem_cons_succ, List.getElem_cons_zero, Act.put, List.setIfInBounds_toArray, List.set_cons_zero, List.set_cons_succ]
      refine wpAnyH_ready (rs := [7]) (by kernel_rfl) (by simp) ?_
      refine AllReadyH.cons rfl (fun K hK => ?_) AllReadyH.nil
      go_simp
      refine (priceW_any HQ.out t (by first | exact HS1.out | exact HS2.out) W3 HP.out).mono ?_
      rintro e W4 ⟨rfl, hbx⟩
      dsimp only
      replace R8 := Lib.hid ((hbx.block b8 (lt_of_block R8.out)).trans R8.out)
      replace R9 := Lib.hid ((hbx.block b9 (lt_of_block R9.out)).trans R9.out)
      replace HP := Lib.hid (HP.out.below hbx)
      replace HB := Lib.hid (HB.out.trans (hbx.mono HB.out.size))
      replace HMB := Lib.hid ((hbx.block mb (lt_of_block HMB.out)).trans HMB.out)
      replace HPB := Lib.hid ((hbx.block pb (lt_of_block HPB.out)).trans HPB.out)
      clear hbx hS
      try clear hb8
      try clear hb9
      refine hK.out _ _ ⟨by rw [cell_of_row _ _ _ _ _ _ HMB.out]; rfl, by rw [cell_of_row _ _ _ _ _ _ HPB.out]; rfl⟩ (fun hS => ?_)
      clear hK K
      try simp only [List.getElem_toArray, List.getElem_cons_succ, List.getElem_cons_zero, Act.put, List.setIfInBounds_toArray, List.set_cons_zero, List.set_cons_succ]
      refine wpAnyH_done (by kernel_rfl) ?_ _
      exact HT.out b8 b9 W4 ⟨hne, R8.out, R9.out, G8.out, G9.out, HB.out⟩
    refine AllReadyH.cons rfl (fun K hK => ?_) AllReadyH.nil
    go_simp
    have hbx : Below W1.heap.size W1 (W1.alloc (.cells #[.int .i64 0, .int .i64 0, .int .u64 0] 120 (0, 0))) := (Below.refl _ _).alloc (Nat.le_refl _) _
    obtain ⟨b9, hb9⟩ : ∃ k, k = W1.heap.size := ⟨_, rfl⟩
    have R9 : Hid ((W1.alloc (.cells #[.int .i64 0, .int .i64 0, .int .u64 0] 120 (0, 0))).heap[b9]? = some (.cells zW 120 (0, 0))) := Lib.hid (heap_alloc_at _ _ _ hb9)
    have G9 : Hid (w.heap.size ≤ b9) := Lib.hid (by have h1 := HB.out.size; omega)
    obtain ⟨W2, hWn⟩ : ∃ x, x = W1.alloc (.cells #[.int .i64 0, .int .i64 0, .int .u64 0] 120 (0, 0)) := ⟨_, rfl⟩
    rw [← hWn] at hbx R9
    rw [← hb9, ← hWn]
    clear hWn
    replace HP := Lib.hid (HP.out.below hbx)
    replace HB := Lib.hid (HB.out.trans (hbx.mono HB.out.size))
    replace HMB := Lib.hid ((hbx.block mb (lt_of_block HMB.out)).trans HMB.out)
    replace HPB := Lib.hid ((hbx.block pb (lt_of_block HPB.out)).trans HPB.out)
    clear hbx hS
    try clear hb8
    try clear hb9
    refine hK.out _ _ ⟨by rw [cell_of_row _ _ _ _ _ _ HMB.out]; rfl, by rw [cell_of_row _ _ _ _ _ _ HPB.out]; rfl⟩ (fun hS => ?_)
    clear hK K
    try simp only [List.getElem_toArray, List.getElem_cons_succ, List.getElem_cons_zero, Act.put, List.setIfInBounds_toArray, List.set_cons_zero, List.set_cons_succ]
    refine wpAnyH_ready (rs := [7, 8]) (by kernel_rfl) (by simp) ?_
    refine AllReadyH.cons rfl (fun K hK => ?_) ?_
    · skip
      go_simp
      refine (priceW_any HQ.out t (by first | exact HS1.out | exact HS2.out) W2 HP.out).mono ?_
      rintro e W3 ⟨rfl, hbx⟩
      dsimp only
      replace R9 := Lib.hid ((hbx.block b9 (lt_of_block R9.out)).trans R9.out)
      replace HP := Lib.hid (HP.out.below hbx)
      replace HB := Lib.hid (HB.out.trans (hbx.mono HB.out.size))
      replace HMB := Lib.hid ((hbx.block mb (lt_of_block HMB.out)).trans HMB.out)
      replace HPB := Lib.hid ((hbx.block pb (lt_of_block HPB.out)).trans HPB.out)
      clear hbx hS
      try clear hb8
      try clear hb9
      refine hK.out _ _ ⟨by rw [cell_of_row _ _ _ _ _ _ HMB.out]; rfl, by rw [cell_of_row _ _ _ _ _ _ HPB.out]; rfl⟩ (fun hS => ?_)
      clear hK K
      try simp only [List.getElem_toArray, List.getElem_cons_succ, List.getElem_cons_zero, Act.put, List.setIfInBounds_toArray, List.set_cons_zero, List.set_cons_succ]
      refine wpAnyH_ready (rs := [8]) (by kernel_rfl) (by simp) ?_
      refine AllReadyH.cons rfl (fun K hK => ?_) AllReadyH.nil
      go_simp
      have hbx : Below W3.heap.size W3 (W3.alloc (.cells #[.int .i64 0, .int .i64 0, .int .u64 0] 120 (0, 0))) := (Below.refl _ _).alloc (Nat.le_refl _) _
      obtain ⟨b8, hb8⟩ : ∃ k, k = W3.heap.size := ⟨_, rfl⟩
      have R8 : Hid ((W3.alloc (.cells #[.int .i64 0, .int .i64 0, .int .u64 0] 120 (0, 0))).heap[b8]? = some (.cells zW 120 (0, 0))) := Lib.hid (heap_alloc_at _ _ _ hb8)
      have G8 : Hid (w.heap.size ≤ b8) := Lib.hid (by have h1 := HB.out.size; omega)
      obtain ⟨W4, hWn⟩ : ∃ x, x = W3.alloc (.cells #[.int .i64 0, .int .i64 0, .int .u64 0] 120 (0, 0)) := ⟨_, rfl⟩
      rw [← hWn] at hbx R8
      rw [← hb8, ← hWn]
      clear hWn
      have hne : b8 ≠ b9 := by have h1 := lt_of_block R9.out; omega
      replace R9 := Lib.hid ((hbx.block b9 (lt_of_block R9.out)).trans R9.out)
      replace HP := Lib.hid (HP.out.below hbx)
      replace HB := Lib.hid (HB.out.trans (hbx.mono HB.out.size))
      replace HMB := Lib.hid ((hbx.block mb (lt_of_block HMB.out)).trans HMB.out)
      replace HPB := Lib.hid ((hbx.block pb (lt_of_block HPB.out)).trans HPB.out)
      clear hbx hS
      try clear hb8
      try clear hb9
      refine hK.out _ _ ⟨by rw [cell_of_row _ _ _ _ _ _ HMB.out]; rfl, by rw [cell_of_row _ _ _ _ _ _ HPB.out]; rfl⟩ (fun hS => ?_)
      clear hK K
      try simp only [List.getElem_toArray, List.getElem_cons_succ, List.getElem_cons_zero, Act.put, List.setIfInBounds_toArray, List.set_cons_zero, List.set_cons_succ]
      refine wpAnyH_done (by kernel_rfl) ?_ _
      exact HT.out b8 b9 W4 ⟨hne, R8.out, R9.out, G8.out, G9.out, HB.out⟩
    refine AllReadyH.cons rfl (fun K hK => ?_) AllReadyH.nil
    go_simp
    have hbx : Below W2.heap.size W2 (W2.alloc (.cells #[.int .i64 0, .int .i64 0, .int .u64 0] 120 (0, 0))) := (Below.refl _ _).alloc (Nat.le_refl _) _
    obtain ⟨b8, hb8⟩ : ∃ k, k = W2.heap.size := ⟨_, rfl⟩
    have R8 : Hid ((W2.alloc (.cells #[.int .i64 0, .int .i64 0, .int .u64 0] 120 (0, 0))).heap[b8]? = some (.cells zW 120 (0, 0))) := Lib.hid (heap_alloc_at _ _ _ hb8)
    have G8 : Hid (w.heap.size ≤ b8) := Lib.hid (by have h1 := HB.out.size; omega)
    obtain ⟨W3, hWn⟩ : ∃ x, x = W2.alloc (.cells #[.int .i64 0, .int .i64 0, .int .u64 0] 120 (0, 0)) := ⟨_, rfl⟩
    rw [← hWn] at hbx R8
    rw [← hb8, ← hWn]
    clear hWn
    have hne : b8 ≠ b9 := by have h1 := lt_of_block R9.out; omega
    replace R9 := Lib.hid ((hbx.block b9 (lt_of_block R9.out)).trans R9.out)
    replace HP := Lib.hid (HP.out.below hbx)
    replace HB := Lib.hid (HB.out.trans (hbx.mono HB.out.size))
    replace HMB := Lib.hid ((hbx.block mb (lt_of_block HMB.out)).trans HMB.out)
    replace HPB := Lib.hid ((hbx.block pb (lt_of_block HPB.out)).trans HPB.out)
    clear hbx hS
    try clear hb8
    try clear hb9
    refine hK.out _ _ ⟨by rw [cell_of_row _ _ _ _ _ _ HMB.out]; rfl, by rw [cell_of_row _ _ _ _ _ _ HPB.out]; rfl⟩ (fun hS => ?_)
    clear hK K
    try simp only [List.getElem_toArray, List.getElem_cons_succ, List.getElem_cons_zero, Act.put, List.setIfInBounds_toArray, List.set_cons_zero, List.set_cons_succ]
    refine wpAnyH_ready (rs := [7]) (by kernel_rfl) (by simp) ?_
    refine AllReadyH.cons rfl (fun K hK => ?_) AllReadyH.nil
    go_simp
    refine (priceW_any HQ.out t (by first | exact HS1.out | exact HS2.out) W3 HP.out).mono ?_
    rintro e W4 ⟨rfl, hbx⟩
    dsimp only
    replace R9 := Lib.hid ((hbx.block b9 (lt_of_block R9.out)).trans R9.out)
    replace R8 := Lib.hid ((hbx.block b8 (lt_of_block R8.out)).trans R8.out)
    replace HP := Lib.hid (HP.out.below hbx)
    replace HB := Lib.hid (HB.out.trans (hbx.mono HB.out.size))
    replace HMB := Lib.hid ((hbx.block mb (lt_of_block HMB.out)).trans HMB.out)
    replace HPB := Lib.hid ((hbx.block pb (lt_of_block HPB.out)).trans HPB.out)
    clear hbx hS
    try clear hb8
    try clear hb9
    refine hK.out _ _ ⟨by rw [cell_of_row _ _ _ _ _ _ HMB.out]; rfl, by rw [cell_of_row _ _ _ _ _ _ HPB.out]; rfl⟩ (fun hS => ?_)
    clear hK K
    try simp only [List.getElem_toArray, List.getElem_cons_succ, List.getElem_cons_zero, Act.put, List.setIfInBounds_toArray, List.set_cons_zero, List.set_cons_succ]
    refine wpAnyH_done (by kernel_rfl) ?_ _
    exact HT.out b8 b9 W4 ⟨hne, R8.out, R9.out, G8.out, G9.out, HB.out⟩
  refine AllReadyH.cons rfl (fun K hK => ?_) ?_
  · skip
    go_simp
    have hbx : Below W0.heap.size W0 (W0.alloc (.cells #[.int .i64 0, .int .i64 0, .int .u64 0] 120 (0, 0))) := (Below.refl _ _).alloc (Nat.le_refl _) _
    obtain ⟨b8, hb8⟩ : ∃ k, k = W0.heap.size := ⟨_, rfl⟩
    have R8 : Hid ((W0.alloc (.cells #[.int .i64 0, .int .i64 0, .int .u64 0] 120 (0, 0))).heap[b8]? = some (.cells zW 120 (0, 0))) := Lib.hid (heap_alloc_at _ _ _ hb8)
    have G8 : Hid (w.heap.size ≤ b8) := Lib.hid (by have h1 := HB.out.size; omega)
    obtain ⟨W1, hWn⟩ : ∃ x, x = W0.alloc (.cells #[.int .i64 0, .int .i64 0, .int .u64 0] 120 (0, 0)) := ⟨_, rfl⟩
    rw [← hWn] at hbx R8
    rw [← hb8, ← hWn]
    clear hWn
    replace HP := Lib.hid (HP.out.below hbx)
    replace HB := Lib.hid (HB.out.trans (hbx.mono HB.out.size))
    replace HMB := Lib.hid ((hbx.block mb (lt_of_block HMB.out)).trans HMB.out)
    replace HPB := Lib.hid ((hbx.block pb (lt_of_block HPB.out)).trans HPB.out)
    clear hbx hS
    try clear hb8
    try clear hb9
    refine hK.out _ _ ⟨by rw [cell_of_row _ _ _ _ _ _ HMB.out]; rfl, by rw [cell_of_row _ _ _ _ _ _ HPB.out]; rfl⟩ (fun hS => ?_)
    clear hK K
    try simp only [List.getElem_toArray, List.getElem_cons_succ, List.getElem_cons_zero, Act.put, List.setIfInBounds_toArray, List.set_cons_zero, List.set_cons_succ]
    refine wpAnyH_ready (rs := [3, 9]) (by kernel_rfl) (by simp) ?_
    refine AllReadyH.cons rfl (fun K hK => ?_) ?_
    · skip
      go_simp
      refine (priceW_any HQ.out s (by first | exact HS1.out | exact HS2.out) W1 HP.out).mono ?_
      rintro e W2 ⟨rfl, hbx⟩
      dsimp only
      replace R8 := Lib.hid ((hbx.block b8 (lt_of_block R8.out)).trans R8.out)
      replace HP := Lib.hid (HP.out.below hbx)
      replace HB := Lib.hid (HB.out.trans (hbx.mono HB.out.size))
      replace HMB := Lib.hid ((hbx.block mb (lt_of_block HMB.out)).trans HMB.out)
      replace HPB := Lib.hid ((hbx.block pb (lt_of_block HPB.out)).trans HPB.out)
      clear hbx hS
      try clear hb8
      try clear hb9
      refine hK.out _ _ ⟨by rw [cell_of_row _ _ _ _ _ _ HMB.out]; rfl, by rw [cell_of_row _ _ _ _ _ _ HPB.out]; rfl⟩ (fun hS => ?_)
      clear hK K
      try simp only [List.getElem_toArray, List.getElem_cons_succ, List.getElem_cons_zero, Act.put, List.setIfInBounds_toArray, List.set_cons_zero, List.set_cons_succ]
      refine wpAnyH_ready (rs := [7, 9]) (by kernel_rfl) (by simp) ?_
      refine AllReadyH.cons rfl (fun K hK => ?_) ?_
      · skip
        go_simp
        refine (priceW_any HQ.out t (by first | exact HS1.out | exact HS2.out) W2 HP.out).mono ?_
        rintro e W3 ⟨rfl, hbx⟩
        dsimp only
        replace R8 := Lib.hid ((hbx.block b8 (lt_of_block R8.out)).trans R8.out)
        replace HP := Lib.hid (HP.out.below hbx)
        replace HB := Lib.hid (HB.out.trans (hbx.mono HB.out.size))
        replace HMB := Lib.hid ((hbx.block mb (lt_of_block HMB.out)).trans HMB.out)
        replace HPB := Lib.hid ((hbx.block pb (lt_of_block HPB.out)).trans HPB.out)
        clear hbx hS
        try clear hb8
        try clear hb9
        refine hK.out _ _ ⟨by rw [cell_of_row _ _ _ _ _ _ HMB.out]; rfl, by rw [cell_of_row _ _ _ _ _ _ HPB.out]; rfl⟩ (fun hS => ?_)
        clear hK K
        try simp only [List.getElem_toArray, List.getElem_cons_succ, List.getElem_cons_zero, Act.put, List.setIfInBounds_toArray, List.set_cons_zero, List.set_cons_succ]
        refine wpAnyH_ready (rs := [9]) (by kernel_rfl) (by simp) ?_
        refine AllReadyH.cons rfl (fun K hK => ?_) AllReadyH.nil
        go_simp
        have hbx : Below W3.heap.size W3 (W3.alloc (.cells #[.int .i64 0, .int .i64 0, .int .u64 0] 120 (0, 0))) := (Below.refl _ _).alloc (Nat.le_refl _) _
        obtain ⟨b9, hb9⟩ : ∃ k, k = W3.heap.size := ⟨_, rfl⟩
        have R9 : Hid ((W3.alloc (.cells #[.int .i64 0, .int .i64 0, .int .u64 0] 120 (0, 0))).heap[b9]? = some (.cells zW 120 (0, 0))) := Lib.hid (heap_alloc_at _ _ _ hb9)
        have G9 : Hid (w.heap.size ≤ b9) := Lib.hid (by have h1 := HB.out.size; omega)
        obtain ⟨W4, hWn⟩ : ∃ x, x = W3.alloc (.cells #[.int .i64 0, .int .i64 0, .int .u64 0] 120 (0, 0)) := ⟨_, rfl⟩
        rw [← hWn] at hbx R9
        rw [← hb9, ← hWn]
        clear hWn
        have hne : b8 ≠ b9 := by have h1 := lt_of_block R8.out; omega
        replace R8 := Lib.hid ((hbx.block b8 (lt_of_block R8.out)).trans R8.out)
        replace HP := Lib.hid (HP.out.below hbx)
        replace HB := Lib.hid (HB.out.trans (hbx.mono HB.out.size))
        replace HMB := Lib.hid ((hbx.block mb (lt_of_block HMB.out)).trans HMB.out)
        replace HPB := Lib.hid ((hbx.block pb (lt_of_block HPB.out)).trans HPB.out)
        clear hbx hS
        try clear hb8
        try clear hb9
        refine hK.out _ _ ⟨by rw [cell_of_row _ _ _ _ _ _ HMB.out]; rfl, by rw [cell_of_row _ _ _ _ _ _ HPB.out]; rfl⟩ (fun hS => ?_)
        clear hK K
        try simp only [List.getElem_toArray, List.getElem_cons_succ, List.getElem_cons_zero, Act.put, List.setIfInBounds_toArray, List.set_cons_zero, List.set_cons_succ]
        refine wpAnyH_done (by kernel_rfl) ?_ _
        exact HT.out b8 b9 W4 ⟨hne, R8.out, R9.out, G8.out, G9.out, HB.out⟩
      refine AllReadyH.cons rfl (fun K hK => ?_) AllReadyH.nil
      go_simp
      have hbx : Below W2.heap.size W2 (W2.alloc (.cells #[.int .i64 0, .int .i64 0, .int .u64 0] 120 (0, 0))) := (Below.refl _ _).alloc (Nat.le_refl _) _
      obtain ⟨b9, hb9⟩ : ∃ k, k = W2.heap.size := ⟨_, rfl⟩
      have R9 : Hid ((W2.alloc (.cells #[.int .i64 0, .int .i64 0, .int .u64 0] 120 (0, 0))).heap[b9]? = some (.cells zW 120 (0, 0))) := Lib.hid (heap_alloc_at _ _ _ hb9)
      have G9 : Hid (w.heap.size ≤ b9) := Lib.hid (by have h1 := HB.out.size; omega)
      obtain ⟨W3, hWn⟩ : ∃ x, x = W2.alloc (.cells #[.int .i64 0, .int .i64 0, .int .u64 0] 120 (0, 0)) := ⟨_, rfl⟩
      rw [← hWn] at hbx R9
      rw [← hb9, ← hWn]
      clear hWn
      have hne : b8 ≠ b9 := by have h1 := lt_of_block R8.out; omega
      replace R8 := Lib.hid ((hbx.block b8 (lt_of_block R8.out)).trans R8.out)
      replace HP := Lib.hid (HP.out.below hbx)
      replace HB := Lib.hid (HB.out.trans (hbx.mono HB.out.size))
      replace HMB := Lib.hid ((hbx.block mb (lt_of_block HMB.out)).trans HMB.out)
      replace HPB := Lib.hid ((hbx.block pb (lt_of_block HPB.out)).trans HPB.out)
      clear hbx hS
      try clear hb8
      try clear hb9
      refine hK.out _ _ ⟨by rw [cell_of_row _ _ _ _ _ _ HMB.out]; rfl, by rw [cell_of_row _ _ _ _ _ _ HPB.out]; rfl⟩ (fun hS => ?_)
      clear hK K
      try simp only [List.getElem_toArray, List.getElem_cons_succ, List.getElem_cons_zero, Act.put, List.setIfInBounds_toArray, List.set_cons_zero, List.set_cons_succ]
      refine wpAnyH_ready (rs := [7]) (by kernel_rfl) (by simp) ?_
      refine AllReadyH.cons rfl (fun K hK => ?_) AllReadyH.nil
      go_simp
      refine (priceW_any HQ.out t (by first | exact HS1.out | exact HS2.out) W3 HP.out).mono ?_
      rintro e W4 ⟨rfl, hbx⟩
      dsimp only
      replace R8 := Lib.hid ((hbx.block b8 (lt_of_block R8.out)).trans R8.out)
      replace R9 := Lib.hid ((hbx.block b9 (lt_of_block R9.out)).trans R9.out)
      replace HP := Lib.hid (HP.out.below hbx)
      replace HB := Lib.hid (HB.out.trans (hbx.mono HB.out.size))
      replace HMB := Lib.hid ((hbx.block mb (lt_of_block HMB.out)).trans HMB.out)
      replace HPB := Lib.hid ((hbx.block pb (lt_of_block HPB.out)).trans HPB.out)
      clear hbx hS
      try clear hb8
      try clear hb9
      refine hK.out _ _ ⟨by rw [cell_of_row _ _ _ _ _ _ HMB.out]; rfl, by rw [cell_of_row _ _ _ _ _ _ HPB.out]; rfl⟩ (fun hS => ?_)
      clear hK K
      try simp only [List.getElem_toArray, List.getElem_cons_succ, List.getElem_cons_zero, Act.put, List.setIfInBounds_toArray, List.set_cons_zero, List.set_cons_succ]
      refine wpAnyH_done (by kernel_rfl) ?_ _
      exact HT.out b8 b9 W4 ⟨hne, R8.out, R9.out, G8.out, G9.out, HB.out⟩
    refine AllReadyH.cons rfl (fun K hK => ?_) AllReadyH.nil
    go_simp
    have hbx : Below W1.heap.size W1 (W1.alloc (.cells #[.int .i64 0, .int .i64 0, .int .u64 0] 120 (0, 0))) := (Below.refl _ _).alloc (Nat.le_refl _) _
    obtain ⟨b9, hb9⟩ : ∃ k, k = W1.heap.size := ⟨_, rfl⟩
    have R9 : Hid ((W1.alloc (.cells #[.int .i64 0, .int .i64 0, .int .u64 0] 120 (0, 0))).heap[b9]? = some (.cells zW 120 (0, 0))) := Lib.hid (heap_alloc_at _ _ _ hb9)
    have G9 : Hid (w.heap.size ≤ b9) := Lib.hid (by have h1 := HB.out.size; omega)
    obtain ⟨W2, hWn⟩ : ∃ x, x = W1.alloc (.cells #[.int .i64 0, .int .i64 0, .int .u64 0] 120 (0, 0)) := ⟨_, rfl⟩
    rw [← hWn] at hbx R9
    rw [← hb9, ← hWn]
    clear hWn
    have hne : b8 ≠ b9 := by have h1 := lt_of_block R8.out; omega
    replace R8 := Lib.hid ((hbx.block b8 (lt_of_block R8.out)).trans R8.out)
    replace HP := Lib.hid (HP.out.below hbx)
    replace HB := Lib.hid (HB.out.trans (hbx.mono HB.out.size))
    replace HMB := Lib.hid ((hbx.block mb (lt_of_block HMB.out)).trans HMB.out)
    replace HPB := Lib.hid ((hbx.block pb (lt_of_block HPB.out)).trans HPB.out)
    clear hbx hS
    try clear hb8
    try clear hb9
    refine hK.out _ _ ⟨by rw [cell_of_row _ _ _ _ _ _ HMB.out]; rfl, by rw [cell_of_row _ _ _ _ _ _ HPB.out]; rfl⟩ (fun hS => ?_)
    clear hK K
    try simp only [List.getElem_toArray, List.getElem_cons_succ, List.getElem_cons_zero, Act.put, List.setIfInBounds_toArray, List.set_cons_zero, List.set_cons_succ]
    refine wpAnyH_ready (rs := [3]) (by kernel_rfl) (by simp) ?_
    refine AllReadyH.cons rfl (fun K hK => ?_) AllReadyH.nil
    go_simp
    refine (priceW_any HQ.out s (by first | exact HS1.out | exact HS2.out) W2 HP.out).mono ?_
    rintro e W3 ⟨rfl, hbx⟩
    dsimp only
    replace R8 := Lib.hid ((hbx.block b8 (lt_of_block R8.out)).trans R8.out)
    replace R9 := Lib.hid ((hbx.block b9 (lt_of_block R9.out)).trans R9.out)
    replace HP := Lib.hid (HP.out.below hbx)
    replace HB := Lib.hid (HB.out.trans (hbx.mono HB.out.size))
    replace HMB := Lib.hid ((hbx.block mb (lt_of_block HMB.out)).trans HMB.out)
    replace HPB := Lib.hid ((hbx.block pb (lt_of_block HPB.out)).trans HPB.out)
    clear hbx hS
    try clear hb8
    try clear hb9
    refine hK.out _ _ ⟨by rw [cell_of_row _ _ _ _ _ _ HMB.out]; rfl, by rw [cell_of_row _ _ _ _ _ _ HPB.out]; rfl⟩ (fun hS => ?_)
    clear hK K
    try simp only [List.getElem_toArray, List.getElem_cons_succ, List.getElem_cons_zero, Act.put, List.setIfInBounds_toArray, List.set_cons_zero, List.set_cons_succ]
    refine wpAnyH_ready (rs := [7]) (by kernel_rfl) (by simp) ?_
    refine AllReadyH.cons rfl (fun K hK => ?_) AllReadyH.nil
    go_simp
    refine (priceW_any HQ.out t (by first | exact HS1.out | exact HS2.out) W3 HP.out).mono ?_
    rintro e W4 ⟨rfl, hbx⟩
    dsimp only
    replace R8 := Lib.hid ((hbx.block b8 (lt_of_block R8.out)).trans R8.out)
    replace R9 := Lib.hid ((hbx.block b9 (lt_of_block R9.out)).trans R9.out)
    replace HP := Lib.hid (HP.out.below hbx)
    replace HB := Lib.hid (HB.out.trans (hbx.mono HB.out.size))
    replace HMB := Lib.hid ((hbx.block mb (lt_of_block HMB.out)).trans HMB.out)
    replace HPB := Lib.hid ((hbx.block pb (lt_of_block HPB.out)).trans HPB.out)
    clear hbx hS
    try clear hb8
    try clear hb9
    refine hK.out _ _ ⟨by rw [cell_of_row _ _ _ _ _ _ HMB.out]; rfl, by rw [cell_of_row _ _ _ _ _ _ HPB.out]; rfl⟩ (fun hS => ?_)
    clear hK K
    try simp only [List.getElem_toArray, List.getElem_cons_succ, List.getElem_cons_zero, Act.put, List.setIfInBounds_toArray, List.set_cons_zero, List.set_cons_succ]
    refine wpAnyH_done (by kernel_rfl) ?_ _
    exact HT.out b8 b9 W4 ⟨hne, R8.out, R9.out, G8.out, G9.out, HB.out⟩
  refine AllReadyH.cons rfl (fun K hK => ?_) AllReadyH.nil
  go_simp
  have hbx : Below W0.heap.size W0 (W0.alloc (.cells #[.int .i64 0, .int .i64 0, .int .u64 0] 120 (0, 0))) := (Below.refl _ _).alloc (Nat.le_refl _) _
  obtain ⟨b9, hb9⟩ : ∃ k, k = W0.heap.size := ⟨_, rfl⟩
  have R9 : Hid ((W0.alloc (.cells #[.int .i64 0, .int .i64 0, .int .u64 0] 120 (0, 0))).heap[b9]? = some (.cells zW 120 (0, 0))) := Lib.hid (heap_alloc_at _ _ _ hb9)
  have G9 : Hid (w.heap.size ≤ b9) := Lib.hid (by have h1 := HB.out.size; omega)
  obtain ⟨W1, hWn⟩ : ∃ x, x = W0.alloc (.cells #[.int .i64 0, .int .i64 0, .int .u64 0] 120 (0, 0)) := ⟨_, rfl⟩
  rw [← hWn] at hbx R9
  rw [← hb9, ← hWn]
  clear hWn
  replace HP := Lib.hid (HP.out.below hbx)
  replace HB := Lib.hid (HB.out.trans (hbx.mono HB.out.size))
  replace HMB := Lib.hid ((hbx.block mb (lt_of_block HMB.out)).trans HMB.out)
  replace HPB := Lib.hid ((hbx.block pb (lt_of_block HPB.out)).trans HPB.out)
  clear hbx hS
  try clear hb8
  try clear hb9
  refine hK.out _ _ ⟨by rw [cell_of_row _ _ _ _ _ _ HMB.out]; rfl, by rw [cell_of_row _ _ _ _ _ _ HPB.out]; rfl⟩ (fun hS => ?_)
  clear hK K
  try simp only [List.getElem_toArray, List.getElem_cons_succ, List.getElem_cons_zero, Act.put, List.setIfInBounds_toArray, List.set_cons_zero, List.set_cons_succ]
  refine wpAnyH_ready (rs := [3, 8]) (by kernel_rfl) (by simp) ?_
  refine AllReadyH.cons rfl (fun K hK => ?_) ?_
  · skip
    go_simp
    refine (priceW_any HQ.out s (by first | exact HS1.out | exact HS2.out) W1 HP.out).mono ?_
    rintro e W2 ⟨rfl, hbx⟩
    dsimp only
    replace R9 := Lib.hid ((hbx.block b9 (lt_of_block R9.out)).trans R9.out)
    replace HP := Lib.hid (HP.out.below hbx)
    replace HB := Lib.hid (HB.out.trans (hbx.mono HB.out.size))
    replace HMB := Lib.hid ((hbx.block mb (lt_of_block HMB.out)).trans HMB.out)
    replace HPB := Lib.hid ((hbx.block pb (lt_of_block HPB.out)).trans HPB.out)
    clear hbx hS
    try clear hb8
    try clear hb9
    refine hK.out _ _ ⟨by rw [cell_of_row _ _ _ _ _ _ HMB.out]; rfl, by rw [cell_of_row _ _ _ _ _ _ HPB.out]; rfl⟩ (fun hS => ?_)
    clear hK K
    try simp only [List.getElem_toArray, List.getElem_cons_succ, List.getElem_cons_zero, Act.put, List.setIfInBounds_toArray, List.set_cons_zero, List.set_cons_succ]
    refine wpAnyH_ready (rs := [7, 8]) (by kernel_rfl) (by simp) ?_
    refine AllReadyH.cons rfl (fun K hK => ?_) ?_
    · skip
      go_simp
      refine (priceW_any HQ.out t (by first | exact HS1.out | exact HS2.out) W2 HP.out).mono ?_
      rintro e W3 ⟨rfl, hbx⟩
      dsimp only
      replace R9 := Lib.hid ((hbx.block b9 (lt_of_block R9.out)).trans R9.out)
      replace HP := Lib.hid (HP.out.below hbx)
      replace HB := Lib.hid (HB.out.trans (hbx.mono HB.out.size))
      replace HMB := Lib.hid ((hbx.block mb (lt_of_block HMB.out)).trans HMB.out)
      replace HPB := Lib.hid ((hbx.block pb (lt_of_block HPB.out)).trans HPB.out)
      clear hbx hS
      try clear hb8
      try clear hb9
      refine hK.out _ _ ⟨by rw [cell_of_row _ _ _ _ _ _ HMB.out]; rfl, by rw [cell_of_row _ _ _ _ _ _ HPB.out]; rfl⟩ (fun hS => ?_)
      clear hK K
      try simp only [List.getElem_toArray, List.getElem_cons_succ, List.getElem_cons_zero, Act.put, List.setIfInBounds_toArray, List.set_cons_zero, List.set_cons_succ]
      refine wpAnyH_ready (rs := [8]) (by kernel_rfl) (by simp) ?_
      refine AllReadyH.cons rfl (fun K hK => ?_) AllReadyH.nil
      go_simp
      have hbx : Below W3.heap.size W3 (W3.alloc (.cells #[.int .i64 0, .int .i64 0, .int .u64 0] 120 (0, 0))) := (Below.refl _ _).alloc (Nat.le_refl _) _
      obtain ⟨b8, hb8⟩ : ∃ k, k = W3.heap.size := ⟨_, rfl⟩
      have R8 : Hid ((W3.alloc (.cells #[.int .i64 0, .int .i64 0, .int .u64 0] 120 (0, 0))).heap[b8]? = some (.cells zW 120 (0, 0))) := Lib.hid (heap_alloc_at _ _ _ hb8)
      have G8 : Hid (w.heap.size ≤ b8) := Lib.hid (by have h1 := HB.out.size; omega)
      obtain ⟨W4, hWn⟩ : ∃ x, x = W3.alloc (.cells #[.int .i64 0, .int .i64 0, .int .u64 0] 120 (0, 0)) := ⟨_, rfl⟩
      rw [← hWn] at hbx R8
      rw [← hb8, ← hWn]
      clear hWn
      have hne : b8 ≠ b9 := by have h1 := lt_of_block R9.out; omega
      replace R9 := Lib.hid ((hbx.block b9 (lt_of_block R9.out)).trans R9.out)
      replace HP := Lib.hid (HP.out.below hbx)
      replace HB := Lib.hid (HB.out.trans (hbx.mono HB.out.size))
      replace HMB := Lib.hid ((hbx.block mb (lt_of_block HMB.out)).trans HMB.out)
      replace HPB := Lib.hid ((hbx.block pb (lt_of_block HPB.out)).trans HPB.out)
      clear hbx hS
      try clear hb8
      try clear hb9
      refine hK.out _ _ ⟨by rw [cell_of_row _ _ _ _ _ _ HMB.out]; rfl, by rw [cell_of_row _ _ _ _ _ _ HPB.out]; rfl⟩ (fun hS => ?_)
      clear hK K
      try simp only [List.getElem_toArray, List.getElem_cons_succ, List.getElem_cons_zero, Act.put, List.setIfInBounds_toArray, List.set_cons_zero, List.set_cons_succ]
      refine wpAnyH_done (by kernel_rfl) ?_ _
      exact HT.out b8 b9 W4 ⟨hne, R8.out, R9.out, G8.out, G9.out, HB.out⟩
    refine AllReadyH.cons rfl (fun K hK => ?_) AllReadyH.nil
    go_simp
    have hbx : Below W2.heap.size W2 (W2.alloc (.cells #[.int .i64 0, .int .i64 0, .int .u64 0] 120 (0, 0))) := (Below.refl _ _).alloc (Nat.le_refl _) _
    obtain ⟨b8, hb8⟩ : ∃ k, k = W2.heap.size := ⟨_, rfl⟩
    have R8 : Hid ((W2.alloc (.cells #[.int .i64 0, .int .i64 0, .int .u64 0] 120 (0, 0))).heap[b8]? = some (.cells zW 120 (0, 0))) := Lib.hid (heap_alloc_at _ _ _ hb8)
    have G8 : Hid (w.heap.size ≤ b8) := Lib.hid (by have h1 := HB.out.size; omega)
    obtain ⟨W3, hWn⟩ : ∃ x, x = W2.alloc (.cells #[.int .i64 0, .int .i64 0, .int .u64 0] 120 (0, 0)) := ⟨_, rfl⟩
    rw [← hWn] at hbx R8
    rw [← hb8, ← hWn]
    clear hWn
    have hne : b8 ≠ b9 := by have h1 := lt_of_block R9.out; omega
    replace R9 := Lib.hid ((hbx.block b9 (lt_of_block R9.out)).trans R9.out)
    replace HP := Lib.hid (HP.out.below hbx)
    replace HB := Lib.hid (HB.out.trans (hbx.mono HB.out.size))
    replace HMB := Lib.hid ((hbx.block mb (lt_of_block HMB.out)).trans HMB.out)
    replace HPB := Lib.hid ((hbx.block pb (lt_of_block HPB.out)).trans HPB.out)
    clear hbx hS
    try clear hb8
    try clear hb9
    refine hK.out _ _ ⟨by rw [cell_of_row _ _ _ _ _ _ HMB.out]; rfl, by rw [cell_of_row _ _ _ _ _ _ HPB.out]; rfl⟩ (fun hS => ?_)
    clear hK K
    try simp only [List.getElem_toArray, List.getElem_cons_succ, List.getElem_cons_zero, Act.put, List.setIfInBounds_toArray, List.set_cons_zero, List.set_cons_succ]
    refine wpAnyH_ready (rs := [7]) (by kernel_rfl) (by simp) ?_
    refine AllReadyH.cons rfl (fun K hK => ?_) AllReadyH.nil
    go_simp
    refine (priceW_any HQ.out t (by first | exact HS1.out | exact HS2.out) W3 HP.out).mono ?_
    rintro e W4 ⟨rfl, hbx⟩
    dsimp only
    replace R9 := Lib.hid ((hbx.block b9 (lt_of_block R9.out)).trans R9.out)
    replace R8 := Lib.hid ((hbx.block b8 (lt_of_block R8.out)).trans R8.out)
    replace HP := Lib.hid (HP.out.below hbx)
    replace HB := Lib.hid (HB.out.trans (hbx.mono HB.out.size))
    replace HMB := Lib.hid ((hbx.block mb (lt_of_block HMB.out)).trans HMB.out)
    replace HPB := Lib.hid ((hbx.block pb (lt_of_block HPB.out)).trans HPB.out)
    clear hbx hS
    try clear hb8
    try clear hb9
    refine hK.out _ _ ⟨by rw [cell_of_row _ _ _ _ _ _ HMB.out]; rfl, by rw [cell_of_row _ _ _ _ _ _ HPB.out]; rfl⟩ (fun hS => ?_)
    clear hK K
    try simp only [List.getElem_toArray, List.getElem_cons_succ, List.getElem_cons_zero, Act.put, List.setIfInBounds_toArray, List.set_cons_zero, List.set_cons_succ]
    refine wpAnyH_done (by kernel_rfl) ?_ _
    exact HT.out b8 b9 W4 ⟨hne, R8.out, R9.out, G8.out, G9.out, HB.out⟩
  refine AllReadyH.cons rfl (fun K hK => ?_) AllReadyH.nil
  go_simp
  have hbx : Below W1.heap.size W1 (W1.alloc (.cells #[.int .i64 0, .int .i64 0, .int .u64 0] 120 (0, 0))) := (Below.refl _ _).alloc (Nat.le_refl _) _
  obtain ⟨b8, hb8⟩ : ∃ k, k = W1.heap.size := ⟨_, rfl⟩
  have R8 : Hid ((W1.alloc (.cells #[.int .i64 0, .int .i64 0, .int .u64 0] 120 (0, 0))).heap[b8]? = some (.cells zW 120 (0, 0))) := Lib.hid (heap_alloc_at _ _ _ hb8)
  have G8 : Hid (w.heap.size ≤ b8) := Lib.hid (by have h1 := HB.out.size; omega)
  obtain ⟨W2, hWn⟩ : ∃ x, x = W1.alloc (.cells #[.int .i64 0, .int .i64 0, .int .u64 0] 120 (0, 0)) := ⟨_, rfl⟩
  rw [← hWn] at hbx R8
  rw [← hb8, ← hWn]
  clear hWn
  have hne : b8 ≠ b9 := by have h1 := lt_of_block R9.out; omega
  replace R9 := Lib.hid ((hbx.block b9 (lt_of_block R9.out)).trans R9.out)
  replace HP := Lib.hid (HP.out.below hbx)
  replace HB := Lib.hid (HB.out.trans (hbx.mono HB.out.size))
  replace HMB := Lib.hid ((hbx.block mb (lt_of_block HMB.out)).trans HMB.out)
  replace HPB := Lib.hid ((hbx.block pb (lt_of_block HPB.out)).trans HPB.out)
  clear hbx hS
  try clear hb8
  try clear hb9
  refine hK.out _ _ ⟨by rw [cell_of_row _ _ _ _ _ _ HMB.out]; rfl, by rw [cell_of_row _ _ _ _ _ _ HPB.out]; rfl⟩ (fun hS => ?_)
  clear hK K
  try simp only [List.getElem_toArray, List.getElem_cons_succ, List.getElem_cons_zero, Act.put, List.setIfInBounds_toArray, List.set_cons_zero, List.set_cons_succ]
  refine wpAnyH_ready (rs := [3]) (by kernel_rfl) (by simp) ?_
  refine AllReadyH.cons rfl (fun K hK => ?_) AllReadyH.nil
  go_simp
  refine (priceW_any HQ.out s (by first | exact HS1.out | exact HS2.out) W2 HP.out).mono ?_
  rintro e W3 ⟨rfl, hbx⟩
  dsimp only
  replace R9 := Lib.hid ((hbx.block b9 (lt_of_block R9.out)).trans R9.out)
  replace R8 := Lib.hid ((hbx.block b8 (lt_of_block R8.out)).trans R8.out)
  replace HP := Lib.hid (HP.out.below hbx)
  replace HB := Lib.hid (HB.out.trans (hbx.mono HB.out.size))
  replace HMB := Lib.hid ((hbx.block mb (lt_of_block HMB.out)).trans HMB.out)
  replace HPB := Lib.hid ((hbx.block pb (lt_of_block HPB.out)).trans HPB.out)
  clear hbx hS
  try clear hb8
  try clear hb9
  refine hK.out _ _ ⟨by rw [cell_of_row _ _ _ _ _ _ HMB.out]; rfl, by rw [cell_of_row _ _ _ _ _ _ HPB.out]; rfl⟩ (fun hS => ?_)
  clear hK K
  try simp only [List.getElem_toArray, List.getElem_cons_succ, List.getElem_cons_zero, Act.put, List.setIfInBounds_toArray, List.set_cons_zero, List.set_cons_succ]
  refine wpAnyH_ready (rs := [7]) (by kernel_rfl) (by simp) ?_
  refine AllReadyH.cons rfl (fun K hK => ?_) AllReadyH.nil
  go_simp
  refine (priceW_any HQ.out t (by first | exact HS1.out | exact HS2.out) W3 HP.out).mono ?_
  rintro e W4 ⟨rfl, hbx⟩
  dsimp only
  replace R9 := Lib.hid ((hbx.block b9 (lt_of_block R9.out)).trans R9.out)
  replace R8 := Lib.hid ((hbx.block b8 (lt_of_block R8.out)).trans R8.out)
  replace HP := Lib.hid (HP.out.below hbx)
  replace HB := Lib.hid (HB.out.trans (hbx.mono HB.out.size))
  replace HMB := Lib.hid ((hbx.block mb (lt_of_block HMB.out)).trans HMB.out)
  replace HPB := Lib.hid ((hbx.block pb (lt_of_block HPB.out)).trans HPB.out)
  clear hbx hS
  try clear hb8
  try clear hb9
  refine hK.out _ _ ⟨by rw [cell_of_row _ _ _ _ _ _ HMB.out]; rfl, by rw [cell_of_row _ _ _ _ _ _ HPB.out]; rfl⟩ (fun hS => ?_)
  clear hK K
  try simp only [List.getElem_toArray, List.getElem_cons_succ, List.getElem_cons_zero, Act.put, List.setIfInBounds_toArray, List.set_cons_zero, List.set_cons_succ]
  refine wpAnyH_done (by kernel_rfl) ?_ _
  exact HT.out b8 b9 W4 ⟨hne, R8.out, R9.out, G8.out, G9.out, HB.out⟩
end Go.Proofs.Ytabbmihakoeegaa
