/- Texts Wn, Wo in one file; each begins with a word on what it proves. -/
import Derived.Test.YtbmfphiecllggaaDoorKh

/- A copy of a list of sets, or of numbers. -/
namespace Go.Proofs.YtbmfphiecllggaaDoor
set_option linter.unusedVariables false
set_option linter.unusedSimpArgs false
open Go.RowKit Go.Shelf
attribute [local go_sem] Oper.semAt_some
theorem wpList_append_news {P : Program} {w : World} {ops : Array Oper} {rest : List Oper} {o : Oper} {a : Act} {Q : Exit → Act → World → Prop} (hgd : o.guard = none) (s x : Operand) (t : TypeId)
    (ho : o.op = .call { callee := .builtin .append, args := #[s, x], argTypes := #[t, t] })
    (base : Nat) (e : TypeId) (size bytes : Nat) (z : Value) (ht : P.underlying t = some (.slice e)) (hinfo : (P.info? e).map (fun i => (i.zero, i.size, i.bytes)) = some (some z, size, bytes)) (hzs : z.cells.size = size) (hsz : 0 < size)
    (v : Value) (n : Nat) (xs : List Value) (hs : a.eval s = v) (hown : w.ownsRow base e size v n xs)
    (ad : Addr) (m c : Nat) (news : List Value) (hx : a.eval x = .slice (some ad) m c) (hl : news.length = m * size) (hnews : ∀ j u, news[j]? = some u → w.cell? (ad.add j) = some u) (h1 : ∀ u ∈ news, u.oneCell' = true)
    (h63 : n + m ≤ 1000001) (hbytes : bytes ≤ 1000) (hbase : base ≤ w.heap.size)
    (h : ∀ v' w', w'.ownsRow base e size v' (n + m) (xs ++ news) → w.grownBy w' v.ownBlock → (v'.ownBlock = v.ownBlock ∨ v'.ownBlock = some w.heap.size) → wpList P ops Q rest (a.put o.dst v') w') : wpList P ops Q (o :: rest) a w :=
  wpList_plain hgd fun _ hK => wp_append_here s x t ho base e size bytes z ht hinfo hzs hsz v n xs hs hown ad m c news hx hl hnews h1 h63 hbytes hbase fun v' w' h2 h3 h4 => hK _ _ (h v' w' h2 h3 h4)
set_option maxRecDepth 100000 in
theorem nil_setsY (w : World) : (binOp BinOp.eql 82 (.slice none 0 0) (.slice none 0 0)).run Tryd.prog w = .ok (.bool true) w := by kernel_rfl
set_option maxRecDepth 100000 in
theorem nil_setsN (a : Addr) (n cap : Nat) (w : World) : (binOp BinOp.eql 82 (.slice (some a) n cap) (.slice none 0 0)).run Tryd.prog w = .ok (.bool false) w := by kernel_rfl
set_option maxRecDepth 100000 in
set_option maxHeartbeats 4000000 in
theorem cloneS_any (l : List Nat) (v : Value) (Rd : Nat → Prop) (hl : l.length ≤ 1000) (hz : l = [] → v = .slice none 0 0) (w : World) (h : SetsAt w v l Rd) :
    Calls Tryd.prog 53 #[v] w fun e w' => (∃ v', e = .returned v' ∧ w'.ownsRow w.heap.size 79 1 v' l.length (l.map fun s : Nat => Value.int .u64 s)) ∧ Below w.heap.size w w' := by
  by_cases h0 : l = []
  · obtain rfl := hz h0
    subst h0
    have hy := nil_setsY
    go_enter Tryd.func53, Tryd.ntmps53
    go_wp2
    go_ret
    exact ⟨⟨_, rfl, World.ownsRow_nil _ _ _ _⟩, Below.refl _ _⟩
  · obtain ⟨ao, cap, rfl, hel⟩ := h
    obtain ⟨b, off, rfl, _⟩ := hel 0 (List.length_pos_iff.2 h0)
    obtain ⟨n, hn⟩ : ∃ n, n = l.length := ⟨_, rfl⟩
    rw [← hn]
    have HN := Lib.hid hn
    have HEL := Lib.hid hel
    clear hel hn hz
    have hy := nil_setsN
    go_enter Tryd.func53, Tryd.ntmps53
    have hnews : ∀ (j : Nat) u, (l.map fun s : Nat => Value.int .u64 s)[j]? = some u → (w.alloc (.cells #[] 79)).cell? ((⟨b, off, none⟩ : Addr).add j) = some u := by
      intro j u hj
      have hjl : j < l.length := by have := (List.getElem?_eq_some_iff.1 hj).1; simpa using this
      obtain ⟨b2, off2, he, _, hb2, e1⟩ := HEL.out j hjl
      injection he with he
      injection he with h1 h2
      subst h1 h2
      rw [List.getElem?_map, List.getElem?_eq_getElem hjl] at hj
      rw [Addr.add_mid]
      exact (World.cell?_of_block (w := w) (w' := w.alloc (.cells #[] 79)) (a := ⟨b, off + j, none⟩) (Below.heap_alloc _ _ _ hb2)).trans (e1.trans hj)
    have HNEWS := Lib.hid hnews
    clear hnews
    go_wp2_with (first | (refine wpList_append_news rfl (.tmp 5) (.tmp 6) 82 rfl w.heap.size 79 1 8 _ underSets infoSet rfl (by decide) _ 0 [] rfl (World.ownsRow_made w #[] 0 (Nat.le_refl _) (by unfold maxLen; omega) rfl) ⟨b, off, none⟩ n cap (l.map fun s : Nat => Value.int .u64 s) rfl (by simp [HN.out]) HNEWS.out (fun u hu => by obtain ⟨x, _, rfl⟩ := List.mem_map.1 hu; rfl) (by rw [HN.out]; omega) (by decide) (by simp) ?_))
    intro v1 W6 hown6 hg6 hat6
    have hb6 : Below w.heap.size w W6 := (Below.alloc' w (.cells #[] 79)).grown hg6 (by simp) (fun k e => by simp [Value.ownBlock] at e; omega)
    have H6 := Lib.hid (And.intro hown6 hb6)
    clear hown6 hg6 hat6 hb6
    go_wp2
    go_ret
    exact ⟨⟨_, rfl, H6.out.1⟩, H6.out.2⟩
set_option maxRecDepth 100000 in
theorem nil_intsY (w : World) : (binOp BinOp.eql 32 (.slice none 0 0) (.slice none 0 0)).run Tryd.prog w = .ok (.bool true) w := by kernel_rfl
set_option maxRecDepth 100000 in
theorem nil_intsN (a : Addr) (n cap : Nat) (w : World) : (binOp BinOp.eql 32 (.slice (some a) n cap) (.slice none 0 0)).run Tryd.prog w = .ok (.bool false) w := by kernel_rfl
set_option maxRecDepth 100000 in
set_option maxHeartbeats 4000000 in
theorem cloneI_any (l : List Int) (v : Value) (Rd : Nat → Prop) (hl : l.length ≤ 1000) (hz : l = [] → v = .slice none 0 0) (w : World) (h : NumsAt w v l Rd) :
    Calls Tryd.prog 56 #[v] w fun e w' => (∃ v', e = .returned v' ∧ w'.ownsRow w.heap.size 3 1 v' l.length (l.map (Value.int .i64))) ∧ Below w.heap.size w w' := by
  by_cases h0 : l = []
  · obtain rfl := hz h0
    subst h0
    have hy := nil_intsY
    go_enter Tryd.func56, Tryd.ntmps56
    go_wp2
    go_ret
    exact ⟨⟨_, rfl, World.ownsRow_nil _ _ _ _⟩, Below.refl _ _⟩
  · obtain ⟨ao, cap, rfl, _, _, hel⟩ := h
    obtain ⟨b, off, rfl, _⟩ := hel 0 (List.length_pos_iff.2 h0)
    obtain ⟨n, hn⟩ : ∃ n, n = l.length := ⟨_, rfl⟩
    rw [← hn]
    have HN := Lib.hid hn
    have HEL := Lib.hid hel
    clear hel hn hz
    have hy := nil_intsN
    go_enter Tryd.func56, Tryd.ntmps56
    have hnews : ∀ (j : Nat) u, (l.map (Value.int .i64))[j]? = some u → (w.alloc (.cells #[] 3)).cell? ((⟨b, off, none⟩ : Addr).add j) = some u := by
      intro j u hj
      have hjl : j < l.length := by have := (List.getElem?_eq_some_iff.1 hj).1; simpa using this
      obtain ⟨b2, off2, he, _, hb2, e1⟩ := HEL.out j hjl
      injection he with he
      injection he with h1 h2
      subst h1 h2
      rw [List.getElem?_map, List.getElem?_eq_getElem hjl] at hj
      rw [Addr.add_mid]
      exact (World.cell?_of_block (w := w) (w' := w.alloc (.cells #[] 3)) (a := ⟨b, off + j, none⟩) (Below.heap_alloc _ _ _ hb2)).trans (e1.trans hj)
    have HNEWS := Lib.hid hnews
    clear hnews
    go_wp2_with (first | (refine wpList_append_news rfl (.tmp 5) (.tmp 6) 32 rfl w.heap.size 3 1 8 _ underInts infoInt rfl (by decide) _ 0 [] rfl (World.ownsRow_made w #[] 0 (Nat.le_refl _) (by unfold maxLen; omega) rfl) ⟨b, off, none⟩ n cap (l.map (Value.int .i64)) rfl (by simp [HN.out]) HNEWS.out (fun u hu => by obtain ⟨x, _, rfl⟩ := List.mem_map.1 hu; rfl) (by rw [HN.out]; omega) (by decide) (by simp) ?_))
    intro v1 W6 hown6 hg6 hat6
    have hb6 : Below w.heap.size w W6 := (Below.alloc' w (.cells #[] 3)).grown hg6 (by simp) (fun k e => by simp [Value.ownBlock] at e; omega)
    have H6 := Lib.hid (And.intro hown6 hb6)
    clear hown6 hg6 hat6 hb6
    go_wp2
    go_ret
    exact ⟨⟨_, rfl, H6.out.1⟩, H6.out.2⟩
end Go.Proofs.YtbmfphiecllggaaDoor

/- The search for rounds, walked. -/
namespace Go.Proofs.YtbmfphiecllggaaDoor
set_option linter.unusedVariables false
set_option linter.unusedSimpArgs false
open Go.RowKit Go.Shelf
attribute [local go_sem] Oper.semAt_some
def onV (xb fb jb ob : Nat) : Value := .func (.func 52) #[] #[.pointer (some ⟨xb, 0, none⟩), .pointer (some ⟨fb, 0, none⟩), .pointer (some ⟨jb, 0, none⟩), .pointer (some ⟨ob, 0, none⟩)]
/-- What the search reads. -/
structure OnW (j : JobD) (B pp mp : Nat) (bs ws : Value) (r : Nat → Value) (xb fb jb ob : Nat) (W : World) : Prop where
  jk : JobK j B pp mp bs ws r W
  hx : W.heap[xb]? = some (.cells #[bs, .int .i64 j.st.film.1, .int .i64 j.st.film.2, ws] 28 (0, 0))
  hf : ∃ fv, W.heap[fb]? = some (.cells #[fv] 32 (0, 0))
  hj : W.heap[jb]? = some (.cells #[.pointer (some ⟨pp, 0, none⟩)] 74 (0, 0))
  ho : W.heap[ob]? = some (.cells #[onV xb fb jb ob] 81 (0, 0))
  nx : xb ≠ mp
  nf : fb ≠ mp
  nj : jb ≠ mp
  no : ob ≠ mp
theorem OnW.keeps {j : JobD} {B pp mp : Nat} {bs ws : Value} {r : Nat → Value} {xb fb jb ob : Nat} {W W' : World} (h : OnW j B pp mp bs ws r xb fb jb ob W) (hk : Keeps (fun k => k = mp) W W') (hkp : KeptJ j mp W') : OnW j B pp mp bs ws r xb fb jb ob W' :=
  ⟨h.jk.keeps hk hkp, (hk.block _ (lt_of_block h.hx) h.nx).trans h.hx, by obtain ⟨fv, hf⟩ := h.hf; exact ⟨fv, (hk.block _ (lt_of_block hf) h.nf).trans hf⟩, (hk.block _ (lt_of_block h.hj) h.nj).trans h.hj, (hk.block _ (lt_of_block h.ho) h.no).trans h.ho, h.nx, h.nf, h.nj, h.no⟩
/-- What the search comes to. -/
def OnR (j : JobD) (mp fb : Nat) (w : World) (res : Option (List Nat)) (e : Ending) (w' : World) : Prop :=
  match res with
  | none => e = .returned (.bool false) ∧ KeptJ j mp w' ∧ Keeps (fun k => k = mp) w w'
  | some l => e = .returned (.bool true) ∧ Keeps (fun k => k = mp ∨ k = fb) w w' ∧ ∃ v, w'.heap[fb]? = some (.cells #[v] 32 (0, 0)) ∧ NumsAt w' v (l.map fun s : Nat => (s : Int)) (fun k => k ≠ mp ∧ k ≠ fb)
/-- One step. -/
def stepO (can : Nat → Bool) (most k : Nat) (rs l : List Nat) (i : Nat) : Option (List Nat) := if can ((putJ rs i l.length).getD i 0) then onJ can most k (putJ rs i l.length) (l ++ [i]) else none
theorem on_succ (can : Nat → Bool) (most k : Nat) (rs l : List Nat) : onJ can most (k + 1) rs l = (List.range (min most (rs.length + 1))).findSome? (stepO can most k rs l) := rfl
theorem range_some {α : Type} (f : Nat → Option α) (m i : Nat) (hi : i < m) (h0 : (List.range i).findSome? f = none) (x : α) (hx : f i = some x) : (List.range m).findSome? f = some x := by
  obtain ⟨d, rfl⟩ : ∃ d, m = i + (d + 1) := ⟨m - i - 1, by omega⟩
  rw [List.range_add, List.findSome?_append, h0, List.range_succ_eq_map, List.map_cons, List.findSome?_cons]
  simp [hx]
theorem range_none {α : Type} (f : Nat → Option α) (i : Nat) (h0 : (List.range i).findSome? f = none) (hx : f i = none) : (List.range (i + 1)).findSome? f = none := by
  rw [List.range_succ, List.findSome?_append, h0]
  simp [hx]
theorem put_set (rs : List Nat) (i w : Nat) (hi : i < rs.length) : putJ rs i w = rs.set i (rs[i] ||| 2 ^ w) := by
  unfold putJ
  rw [if_neg (by omega)]
  apply List.ext_getElem?
  intro q
  rw [List.getElem?_modify, List.getElem?_set]
  by_cases h : i = q
  · subst h; simp [hi]
  · simp [h]
theorem put_new (rs : List Nat) (w : Nat) : putJ rs rs.length w = (rs ++ [0]).set rs.length (0 ||| 2 ^ w) := by
  unfold putJ
  rw [if_pos rfl]; simp
theorem wpList_min {w : World} {ops : Array Oper} {rest : List Oper} {o : Oper} {a : Act} {Q : Exit → Act → World → Prop} (hgd : o.guard = none) (x y : Operand)
    (ho : o.op = .call { callee := .builtin .min, args := #[x, y], argTypes := #[3, 3] }) (hty : o.type = 3) (p q m : Int) (hx : a.eval x = .int .i64 p) (hy : a.eval y = .int .i64 q) (hm : min p q = m)
    (h : wpList Tryd.prog ops Q rest (a.put o.dst (.int .i64 m)) w) : wpList Tryd.prog ops Q (o :: rest) a w := by
  refine wpList_plain hgd fun K hK => ?_
  unfold Oper.wp execOp
  simp only [ho, resolve, invoke, builtin, Sem.run_bind, Sem.run_pure, Result.andThen_ok, List.map_toArray, List.map_cons, List.map_nil, hx, hy, hty]
  have hr : (Builtin.min_ #[3, 3] 3 #[Value.int IntKind.i64 p, Value.int IntKind.i64 q]).run Tryd.prog w = .ok (.int .i64 m) w := by
    rw [← hm]
    simp [Builtin.min_, Builtin.min2, go_sem]
    by_cases h : q < p
    · rw [if_pos h]; omega
    · rw [if_neg h]; omega
  rw [hr]
  exact hK _ _ h
theorem cell_below {Y Y' : World} {p : Addr} {v : Value} (h : Y.cell? p = some v) (hb : Below Y.heap.size Y Y') : Y'.cell? p = some v := by
  have : p.block < Y.heap.size := by
    unfold World.cell? at h
    rcases Nat.lt_or_ge p.block Y.heap.size with h1 | h1
    · exact h1
    · rw [Array.getElem?_eq_none h1] at h; simp at h
  exact (World.cell?_of_block (w := Y) (w' := Y') (a := p) (hb.block _ this)).trans h
/-- What the last region of a step reads. -/
def SO (jb ob g i pp x1 : Nat) (ov : Value) (Y : World) : Prop := Y.cell? ⟨jb, 0, none⟩ = some (.pointer (some ⟨pp, 0, none⟩)) ∧ Y.cell? ⟨g, i, none⟩ = some (.int .u64 (x1 : Int)) ∧ Y.cell? ⟨ob, 0, none⟩ = some ov
theorem SO.below {jb ob g i pp x1 : Nat} {ov : Value} {Y Y' : World} (h : SO jb ob g i pp x1 ov Y) (hb : Below Y.heap.size Y Y') : SO jb ob g i pp x1 ov Y' := ⟨cell_below h.1 hb, cell_below h.2.1 hb, cell_below h.2.2 hb⟩
set_option maxRecDepth 100000 in
set_option maxHeartbeats 8000000 in
theorem on_any {j : JobD} (hv : validJb j = true) {B pp mp : Nat} {bs ws : Value} {r : Nat → Value} {xb fb jb ob : Nat} (most : Nat) (hmost : most ≤ 4) : ∀ (k : Nat) (rs l : List Nat) (rv lv : Value) (w : World), l.length + k = j.ws.length → rs.length ≤ l.length → (∀ x ∈ rs, x < 2 ^ j.ws.length) → (rs = [] → rv = .slice none 0 0) → (l = [] → lv = .slice none 0 0) →
    SetsAt w rv rs (fun k => k ≠ mp ∧ k ≠ fb) → NumsAt w lv (l.map fun s : Nat => (s : Int)) (fun k => k ≠ mp ∧ k ≠ fb) → OnW j B pp mp bs ws r xb fb jb ob w →
    Calls Tryd.prog 52 #[rv, .int .i64 most, lv, .pointer (some ⟨xb, 0, none⟩), .pointer (some ⟨fb, 0, none⟩), .pointer (some ⟨jb, 0, none⟩), .pointer (some ⟨ob, 0, none⟩)] w (OnR j mp fb w (onJ (canD j) most k rs l)) := by
  intro k
  induction k with
  | zero =>
    intro rs l rv lv w hlk hrl hrs hrn hln hrv hlv ho
    obtain ⟨al, cl, hle, _⟩ := id hlv
    subst hle
    rw [List.length_map] at hlv ⊢
    obtain ⟨ao2, cap2, hws, _⟩ := ho.jk.r.o.ws
    subst hws
    obtain ⟨fv, hf⟩ := ho.hf
    have hln : l.length = j.ws.length := by omega
    rw [hln] at hlv ⊢
    obtain ⟨n, hn⟩ : ∃ n, n = j.ws.length := ⟨_, rfl⟩
    rw [← hn] at hlv ⊢
    have hx3 : w.cell? ⟨xb, 3, none⟩ = some (.slice ao2 n cap2) := by rw [cell_of_row _ _ _ _ _ _ ho.hx, hn]; rfl
    have hf0 : w.cell? ⟨fb, 0, none⟩ = some fv := by rw [cell_of_row _ _ _ _ _ _ hf]; rfl
    have hff : w.frozen? ⟨fb, 0, none⟩ = false := frozen_of_row _ _ 0 _ _ hf
    have HO := Lib.hid (And.intro hf (And.intro hlv ho))
    clear hf hlv ho hn hlk hrl hrs hrn hrv
    have hval : onJ (canD j) most 0 rs l = some l := rfl
    rw [hval]
    clear hval
    go_enter Tryd.func52, Tryd.ntmps52
    go_wp2
    go_ret
    obtain ⟨hf, hlv, ho⟩ := HO.out
    refine ⟨rfl, Keeps.setCell _ _ _ (.inr rfl), .slice al n cl, by simp [World.setCell, Array.getElem?_modify, hf], ?_⟩
    exact hlv.later (by simp [World.setCell]) (fun k h1 h2 => Below.heap_setCell _ _ _ _ h2.2)
  | succ k ih =>
    intro rs l rv lv w hlk hrl hrs hrn hln hrv hlv ho
    have HIH := Lib.hid ih
    have HV := Lib.hid hv
    have hmps := ho.jk.kept.lt
    have hfbs : fb < w.heap.size := by obtain ⟨fv, hf⟩ := ho.hf; exact lt_of_block hf
    obtain ⟨al, cl, hle, _⟩ := id hlv
    subst hle
    rw [List.length_map] at hlv hln ⊢
    obtain ⟨ar, cr, hre, _⟩ := id hrv
    subst hre
    obtain ⟨ao2, cap2, hws, _⟩ := ho.jk.r.o.ws
    subst hws
    obtain ⟨nw, hnw⟩ : ∃ n, n = j.ws.length := ⟨_, rfl⟩
    have hnw4 : nw ≤ 4 := by rw [hnw]; exact (validJb_parts hv).2.1
    have hx3 : w.cell? ⟨xb, 3, none⟩ = some (.slice ao2 nw cap2) := by rw [cell_of_row _ _ _ _ _ _ ho.hx, hnw]; rfl
    obtain ⟨nl, hnl⟩ : ∃ n, n = l.length := ⟨_, rfl⟩
    obtain ⟨nr, hnr⟩ : ∃ n, n = rs.length := ⟨_, rfl⟩
    rw [on_succ]
    rw [← hnw] at hlk hrs
    rw [← hnl] at hlk hrl hlv hln ⊢
    rw [← hnr] at hrl hrv hrn ⊢
    have hne : ¬ (nl : Int) = (nw : Int) := by omega
    obtain ⟨m, hm⟩ : ∃ m, m = min most (nr + 1) := ⟨_, rfl⟩
    have hmi : min (most : Int) ((nr : Int) + 1) = (m : Int) := by omega
    have hwr : IntKind.i64.wrap ((nr : Int) + 1) = (nr : Int) + 1 := IntWalk.i64_in _ (by omega)
    rw [← hm]
    have HO := Lib.hid ho
    have HRV := Lib.hid hrv
    have HLV := Lib.hid hlv
    have HNW := Lib.hid hnw
    have HNL := Lib.hid hnl
    have HNR := Lib.hid hnr
    have HRS := Lib.hid hrs
    have HRN := Lib.hid hrn
    have HLN := Lib.hid hln
    have hm4 : m ≤ 4 := by omega
    have hmr : m ≤ nr + 1 := by omega
    clear ih hv hm ho hrv hlv hnw hnl hnr hrs hrn hln
    obtain ⟨res, hres⟩ : ∃ x, x = (List.range m).findSome? (stepO (canD j) most k rs l) := ⟨_, rfl⟩
    rw [← hres]
    have HRES := Lib.hid hres
    clear hres
    go_enter Tryd.func52, Tryd.ntmps52
    go_wp2_with (first | (refine wpList_min rfl (.tmp 20) (.tmp 23) rfl rfl most ((nr : Int) + 1) m rfl rfl hmi ?_))
    go_loopw [25] (fun iv wr => ∃ i : Nat, i ≤ m ∧ iv = .int .i64 i ∧ (List.range i).findSome? (stepO (canD j) most k rs l) = none ∧ KeptJ j mp wr ∧ Keeps (fun k => k = mp) w wr) (fun iv _ => m - (intOf iv).toNat)
    case atStart => exact ⟨0, Nat.zero_le _, rfl, rfl, HO.out.jk.kept, Keeps.refl _ _⟩
    case round =>
      obtain ⟨i, hi, rfl, hnone, hkp, hkk⟩ := hrel
      have HNO := Lib.hid hnone
      have HOR := Lib.hid (HO.out.keeps hkk hkp)
      have HKK := Lib.hid hkk
      have HKP := Lib.hid hkp
      have hkks := hkk.size
      clear hx3 hnone hkp hkk hmi
      by_cases hlt : i < m
      · have hw : IntKind.i64.wrap ((i : Int) + 1) = ((i + 1 : Nat) : Int) := by rw [IntWalk.i64_in _ (by omega)]; omega
        have hlti : (i : Int) < (m : Int) := by omega
        have hset := HRV.out.later HKK.out.size (fun k h1 h2 => HKK.out.block k h1 h2.1)
        have HSET := Lib.hid hset
        clear hset
        go_wp2_with fail
        refine (cloneS_any rs (.slice ar nr cr) (fun k => k ≠ mp ∧ k ≠ fb) (by rw [← HNR.out]; omega) (HRN.out) _ HSET.out).mono ?_
        rintro e w5 ⟨⟨v5, rfl, hown5⟩, hb5⟩
        dsimp only
        rw [← HNR.out] at hown5
        obtain ⟨a5, c5, rfl⟩ : ∃ a c, v5 = .slice a nr c := by
          rcases hown5.2 with ⟨h2, h3⟩ | ⟨g, cap, cur, h2, _⟩
          · exact ⟨none, 0, by rw [h2, h3]⟩
          · exact ⟨_, _, h2⟩
        have hb5s := hb5.size
        have H5 := Lib.hid (And.intro hown5 hb5)
        clear hown5 hb5
        have hir : i ≤ nr := by omega
        by_cases hin : i = nr
        · subst hin
          go_wp2_with (first | (refine wpList_append_here rfl (.tmp 34) (.tmp 35) 82 rfl wr.heap.size 79 1 8 _ underSets infoSet rfl (by decide) _ i _ rfl (own_block H5.out.1 (fun k e => Below.heap_alloc _ _ _ (H5.out.1.lt k e).2)) w5.heap.size 1 #[.int .u64 0] 79 (0, 0) rfl (heap_alloc_at _ _ _ rfl) rfl (by simp [Value.oneCell']) (by omega) (by decide) (by simp <;> omega) ?_))
          intro v6 W6 hown6 hg6 hat6
          have hb6 : Below wr.heap.size wr W6 := (H5.out.2.alloc hb5s _).grown hg6 (by simp <;> omega) (own_base H5.out.1)
          have hgg : ∃ g oc, v6 = .slice (some ⟨g, 0, none⟩) (i + 1) oc ∧ wr.heap.size ≤ g ∧ RowL g (rs ++ [0]) W6 := by
            rcases hown6.2 with ⟨h2, h3⟩ | ⟨g, cap, cur, h2, h3, h4, h5, h6, h7, h8⟩
            · omega
            · refine ⟨g, cap, h2, h3, cur, h4, fun q x hx => ?_⟩
              have hq : q < i + 1 := by have := (List.getElem?_eq_some_iff.1 hx).1; rw [List.length_append, ← HNR.out] at this; simpa using this
              have h9 : (cur.toList.take ((i + 1) * 1))[q]? = ((rs.map fun s : Nat => Value.int .u64 s) ++ [.int .u64 0])[q]? := by rw [h8]
              have h10 : ((rs.map fun s : Nat => Value.int .u64 s) ++ [.int .u64 0]) = (rs ++ [0]).map fun s : Nat => Value.int .u64 s := by simp
              rw [Nat.mul_one, List.getElem?_take_of_lt hq, h10, List.getElem?_map, hx] at h9
              rw [← Array.getElem?_toList]; exact h9
          obtain ⟨g, oc, rfl, hgw, hrowl⟩ := hgg
          have hos : (rs ++ [0])[i]? = some 0 := by rw [HNR.out]; simp
          have hput : putJ rs i nl = (rs ++ [0]).set i (0 ||| 2 ^ nl) := by rw [HNR.out]; exact put_new rs nl
          have hosn : ∀ x ∈ rs ++ [0], x < 2 ^ nw := fun x hx => by
            rcases List.mem_append.1 hx with h | h
            · exact HRS.out x h
            · rw [List.mem_singleton.1 h]; exact Nat.two_pow_pos _
          obtain ⟨x0, hx0⟩ : ∃ x, x = 0 := ⟨_, rfl⟩
          have hput : putJ rs i nl = (rs ++ [0]).set i (x0 ||| 2 ^ nl) := by rw [hx0]; exact hput
          have hos : (rs ++ [0])[i]? = some x0 := by rw [hx0]; exact hos
          have hx0n : x0 < 2 ^ nw := by rw [hx0]; exact Nat.two_pow_pos _
          have HLEN := Lib.hid (show (putJ rs i nl).length = i + 1 by rw [hput, List.length_set, List.length_append, ← HNR.out]; rfl)
          have HROW := Lib.hid hrowl
          have HPUT := Lib.hid hput
          have HOS := Lib.hid hos
          have HOSN := Lib.hid hosn
          have HBO := Lib.hid hb6
          have hion : i < i + 1 := by omega
          have hgl := hrowl.lt
          have hb5s := hb6.size
          clear hrowl hput hos hx0 hb6 hosn hown6 hg6 hat6
          go_wp2_with fail
          have hsh := shl_u64 nl (by omega)
          have h2n : 2 ^ nl < 2 ^ nw := Nat.pow_lt_pow_right (by decide) (by omega)
          have hnw16 : 2 ^ nw ≤ 16 := (Nat.pow_le_pow_right (by decide : 0 < 2) hnw4 : _ ≤ 2 ^ 4)
          obtain ⟨q, hq⟩ : ∃ q, q = 2 ^ nl := ⟨_, rfl⟩
          rw [← hq] at hsh h2n HPUT
          have HQ := Lib.hid hq
          clear hq
          have hiion : (i : Int) < ((i + 1) : Int) := by omega
          have d1 := HROW.out.cell HOS.out
          refine wp_region_tail 11 #[false, false, false, false, false, false, false, false, false, false, false, true, true] (fun Y => Y.cell? ⟨g, i, none⟩ = some (.int .u64 (x0 : Int))) (by kernel_rfl) (by kernel_rfl) (by rfl) d1 fun hS => ?_
          refine wpAnyH_take (i := 0) (v := ?_) rfl (by kernel_rfl) (by kernel_rfl) (by kernel_rfl) (fun _ _ _ h => h) (Or.inl ⟨by rfl, ?_⟩) hS ?_
          rotate_left
          · (intro W hSw; have hq1 := hSw; go_simp; try with_reducible rfl)
          try simp only [List.getElem_toArray, List.getElem_cons_succ, List.getElem_cons_zero, Act.put, List.setIfInBounds_toArray, List.set_cons_zero, List.set_cons_succ]
          refine wpAnyH_take (i := 1) (v := ?_) rfl (by kernel_rfl) (by kernel_rfl) (by kernel_rfl) (fun _ _ _ h => h) (Or.inl ⟨by rfl, ?_⟩) hS ?_
          rotate_left
          · (intro W hSw; have hq1 := hSw; go_simp; try with_reducible rfl)
          try simp only [List.getElem_toArray, List.getElem_cons_succ, List.getElem_cons_zero, Act.put, List.setIfInBounds_toArray, List.set_cons_zero, List.set_cons_succ]
          refine wpAnyH_take (i := 2) (v := ?_) rfl (by kernel_rfl) (by kernel_rfl) (by kernel_rfl) (fun _ _ _ h => h) (Or.inl ⟨by rfl, ?_⟩) hS ?_
          rotate_left
          · (intro W hSw; have hq1 := hSw; go_simp; try with_reducible rfl)
          try simp only [List.getElem_toArray, List.getElem_cons_succ, List.getElem_cons_zero, Act.put, List.setIfInBounds_toArray, List.set_cons_zero, List.set_cons_succ]
          refine wpAnyH_take (i := 3) (v := ?_) rfl (by kernel_rfl) (by kernel_rfl) (by kernel_rfl) (fun _ _ _ h => h) (Or.inl ⟨by rfl, ?_⟩) hS ?_
          rotate_left
          · (intro W hSw; have hq1 := hSw; go_simp; try with_reducible rfl)
          try simp only [List.getElem_toArray, List.getElem_cons_succ, List.getElem_cons_zero, Act.put, List.setIfInBounds_toArray, List.set_cons_zero, List.set_cons_succ]
          refine wpAnyH_take (i := 4) (v := ?_) rfl (by kernel_rfl) (by kernel_rfl) (by kernel_rfl) (fun _ _ _ h => h) (Or.inl ⟨by rfl, ?_⟩) hS ?_
          rotate_left
          · (intro W hSw; have hq1 := hSw; go_simp; try with_reducible rfl)
          try simp only [List.getElem_toArray, List.getElem_cons_succ, List.getElem_cons_zero, Act.put, List.setIfInBounds_toArray, List.set_cons_zero, List.set_cons_succ]
          refine wpAnyH_take (i := 5) (v := ?_) rfl (by kernel_rfl) (by kernel_rfl) (by kernel_rfl) (fun _ _ _ h => h) (Or.inl ⟨by rfl, ?_⟩) hS ?_
          rotate_left
          · (intro W hSw; have hq1 := hSw; go_simp; try with_reducible rfl)
          try simp only [List.getElem_toArray, List.getElem_cons_succ, List.getElem_cons_zero, Act.put, List.setIfInBounds_toArray, List.set_cons_zero, List.set_cons_succ]
          refine wpAnyH_take (i := 6) (v := ?_) rfl (by kernel_rfl) (by kernel_rfl) (by kernel_rfl) (fun _ _ _ h => h) (Or.inl ⟨by rfl, ?_⟩) hS ?_
          rotate_left
          · (intro W hSw; have hq1 := hSw; go_simp; try with_reducible rfl)
          try simp only [List.getElem_toArray, List.getElem_cons_succ, List.getElem_cons_zero, Act.put, List.setIfInBounds_toArray, List.set_cons_zero, List.set_cons_succ]
          refine wpAnyH_take (i := 7) (v := ?_) rfl (by kernel_rfl) (by kernel_rfl) (by kernel_rfl) (fun _ _ _ h => h) (Or.inl ⟨by rfl, ?_⟩) hS ?_
          rotate_left
          · (intro W hSw; have hq1 := hSw; go_simp; try with_reducible rfl)
          try simp only [List.getElem_toArray, List.getElem_cons_succ, List.getElem_cons_zero, Act.put, List.setIfInBounds_toArray, List.set_cons_zero, List.set_cons_succ]
          refine wpAnyH_take (i := 8) (v := ?_) rfl (by kernel_rfl) (by kernel_rfl) (by kernel_rfl) (fun _ _ _ h => h) (Or.inl ⟨by rfl, ?_⟩) hS ?_
          rotate_left
          · (intro W hSw; have hq1 := hSw; go_simp; try with_reducible rfl)
          try simp only [List.getElem_toArray, List.getElem_cons_succ, List.getElem_cons_zero, Act.put, List.setIfInBounds_toArray, List.set_cons_zero, List.set_cons_succ]
          refine wpAnyH_ready (rs := [9]) (by kernel_rfl) (by simp) ?_
          refine AllReadyH.cons rfl (fun K hK => ?_) AllReadyH.nil
          go_simp
          obtain ⟨Y, hY⟩ : ∃ Z, Z = (W6.alloc (.cells #[.int .u64 x0, .int .u64 q] 79)).drew := ⟨_, rfl⟩
          have hyb : Below W6.heap.size W6 Y := by rw [hY]; exact (Below.alloc' _ _).drew
          have hyn : Y.heap[W6.heap.size]? = some (.cells #[.int .u64 x0, .int .u64 q] 79 (0, 0)) := by rw [hY]; exact heap_alloc_at _ _ _ rfl
          rw [← hY]
          have hrowy := HROW.out.later hyb
          have hS2 : Y.cell? ⟨g, i, none⟩ = some (.int .u64 (x0 : Int)) := hrowy.cell HOS.out
          clear hY hS d1
          refine hK.out _ _ hS2 (fun hS => ?_)
          clear hK K
          try simp only [List.getElem_toArray, List.getElem_cons_succ, List.getElem_cons_zero, Act.put, List.setIfInBounds_toArray, List.set_cons_zero, List.set_cons_succ]
          refine wpAnyH_call (k := 10) (by kernel_rfl) rfl rfl (f := 54) (args := #[.slice (some ⟨W6.heap.size, 0, none⟩) 2 2]) (by simp [execOp, go_sem, Act.eval, Act.put]) ?_
          refine (junion_any x0 q W6.heap.size (by omega) (by omega) _ (by rw [cell_of_row _ _ _ _ _ _ hyn]; rfl) (by rw [cell_of_row _ _ _ _ _ _ hyn]; rfl)).mono ?_
          rintro e w' ⟨rfl, rfl⟩
          refine ⟨hS2, ?_⟩
          try simp only [List.getElem_toArray, List.getElem_cons_succ, List.getElem_cons_zero, Act.put, List.setIfInBounds_toArray, List.set_cons_zero, List.set_cons_succ]
          refine wpAnyH_done (by kernel_rfl) ?_ _
          unfold TailQ
          simp only [List.drop_succ_cons, List.drop_zero]
          have fz := hrowy.frozen i
          have HRY := Lib.hid (And.intro hrowy hyb)
          clear hrowy hyb hyn hS
          go_wp2_with fail
          refine wp_name (fun Z => RowL g (putJ rs i nl) Z ∧ Below wr.heap.size wr Z) ⟨by rw [HPUT.out]; exact HRY.out.1.set HOS.out _, ((HBO.out.trans (HRY.out.2.mono HBO.out.size)).setCell (p := ⟨g, i, none⟩) hgw _)⟩ ?_
          rintro Z ⟨hrz, hbz⟩
          clear fz hS2
          have hpl : (putJ rs i nl).length = (i + 1) := HLEN.out
          obtain ⟨x1, hx1⟩ : ∃ x, x = (putJ rs i nl).getD i 0 := ⟨_, rfl⟩
          have hx1s : (putJ rs i nl)[i]? = some x1 := by rw [hx1, List.getD_eq_getElem?_getD, List.getElem?_eq_getElem (by rw [hpl]; exact hion)]; rfl
          have hpn : ∀ x ∈ putJ rs i nl, x < 2 ^ nw := by
            intro x hx
            rw [HPUT.out] at hx
            rcases List.mem_or_eq_of_mem_set hx with h | h
            · exact HOSN.out x h
            · rw [h]; exact Nat.or_lt_two_pow hx0n h2n
          have hx1n : x1 < 2 ^ nw := hpn x1 (List.mem_of_getElem? hx1s)
          have HPN := Lib.hid hpn
          have HX1 := Lib.hid (And.intro hx1 (And.intro hx1s hpl))
          have hbzs := hbz.size
          have hjz := (hbz.block _ (lt_of_block HOR.out.hj)).trans HOR.out.hj
          have hoz := (hbz.block _ (lt_of_block HOR.out.ho)).trans HOR.out.ho
          have hjl := lt_of_block HOR.out.hj
          have hol := lt_of_block HOR.out.ho
          have hgz := hrz.lt
          have hsz : SO jb ob g i pp x1 (onV xb fb jb ob) Z := ⟨by rw [cell_of_row _ _ _ _ _ _ hjz]; rfl, hrz.cell hx1s, by rw [cell_of_row _ _ _ _ _ _ hoz]; rfl⟩
          have hjkz := HOR.out.jk.later hbz
          have HZ := Lib.hid (And.intro hrz (And.intro hbz hjkz))
          clear hrz hbz hjz hoz hjkz hpn hx1 hx1s hpl
          refine wp_region_held_drew (S := SO jb ob g i pp x1 (onV xb fb jb ob)) (by kernel_rfl) hsz fun hS => ?_
          clear hsz
          refine wpAnyH_take (i := 0) (v := ?_) rfl (by kernel_rfl) (by kernel_rfl) (by kernel_rfl) (fun _ _ _ h => h) (Or.inl ⟨by rfl, ?_⟩) hS ?_
          rotate_left
          · (intro W hSw; obtain ⟨hq1, hq2, hq3⟩ := hSw; go_simp; try with_reducible rfl)
          try simp only [List.getElem_toArray, List.getElem_cons_succ, List.getElem_cons_zero, Act.put, List.setIfInBounds_toArray, List.set_cons_zero, List.set_cons_succ]
          refine wpAnyH_take (i := 1) (v := ?_) rfl (by kernel_rfl) (by kernel_rfl) (by kernel_rfl) (fun _ _ _ h => h) (Or.inl ⟨by rfl, ?_⟩) hS ?_
          rotate_left
          · (intro W hSw; obtain ⟨hq1, hq2, hq3⟩ := hSw; go_simp; try with_reducible rfl)
          try simp only [List.getElem_toArray, List.getElem_cons_succ, List.getElem_cons_zero, Act.put, List.setIfInBounds_toArray, List.set_cons_zero, List.set_cons_succ]
          refine wpAnyH_take (i := 2) (v := ?_) rfl (by kernel_rfl) (by kernel_rfl) (by kernel_rfl) (fun _ _ _ h => h) (Or.inl ⟨by rfl, ?_⟩) hS ?_
          rotate_left
          · (intro W hSw; obtain ⟨hq1, hq2, hq3⟩ := hSw; go_simp; try with_reducible rfl)
          try simp only [List.getElem_toArray, List.getElem_cons_succ, List.getElem_cons_zero, Act.put, List.setIfInBounds_toArray, List.set_cons_zero, List.set_cons_succ]
          refine wpAnyH_take (i := 3) (v := ?_) rfl (by kernel_rfl) (by kernel_rfl) (by kernel_rfl) (fun _ _ _ h => h) (Or.inl ⟨by rfl, ?_⟩) hS ?_
          rotate_left
          · (intro W hSw; obtain ⟨hq1, hq2, hq3⟩ := hSw; go_simp; try with_reducible rfl)
          try simp only [List.getElem_toArray, List.getElem_cons_succ, List.getElem_cons_zero, Act.put, List.setIfInBounds_toArray, List.set_cons_zero, List.set_cons_succ]
          refine wpAnyH_take (i := 4) (v := ?_) rfl (by kernel_rfl) (by kernel_rfl) (by kernel_rfl) (fun _ _ _ h => h) (Or.inl ⟨by rfl, ?_⟩) hS ?_
          rotate_left
          · (intro W hSw; obtain ⟨hq1, hq2, hq3⟩ := hSw; go_simp; try with_reducible rfl)
          try simp only [List.getElem_toArray, List.getElem_cons_succ, List.getElem_cons_zero, Act.put, List.setIfInBounds_toArray, List.set_cons_zero, List.set_cons_succ]
          refine wpAnyH_call (k := 5) (by kernel_rfl) rfl rfl (f := 55) (args := #[.pointer (some ⟨pp, 0, none⟩), .int .u64 x1]) (by simp [execOp, go_sem, Act.eval, Act.put]) ?_
          refine (can_any HV.out x1 (by rw [← HNW.out]; exact hx1n) _ (HZ.out.2.2.later (Below.refl _ _).drew)).mono ?_
          rintro e Z1 ⟨rfl, hjk1, hk1⟩
          dsimp only
          have hk01 : Keeps (fun k => k = mp) Z Z1 := (Keeps.drew _ _).trans hk1
          have hS1 : SO jb ob g i pp x1 (onV xb fb jb ob) Z1 := ⟨(World.cell?_of_block (w := Z) (w' := Z1) (a := ⟨jb, 0, none⟩) (hk01.block jb (by omega) HOR.out.nj)).trans hS.1, (World.cell?_of_block (w := Z) (w' := Z1) (a := ⟨g, i, none⟩) (hk01.block g hgz (by omega))).trans hS.2.1, (World.cell?_of_block (w := Z) (w' := Z1) (a := ⟨ob, 0, none⟩) (hk01.block ob (by omega) HOR.out.no)).trans hS.2.2⟩
          have hrow1 : RowL g (putJ rs i nl) Z1 := HZ.out.1.block (hk01.block g hgz (by omega))
          have hkw1 : Keeps (fun k => k = mp) w Z1 := HKK.out.trans ((Keeps.of_below HZ.out.2.1 (fun k h1 h2 => absurd h2 (by omega))).trans hk01)
          have hs01 := hk01.size
          have H1 := Lib.hid (And.intro hrow1 (And.intro hjk1 hkw1))
          clear hk1 hk01 hrow1 hjk1 hkw1 hS
          refine ⟨hS1, ?_⟩
          have hS := hS1
          clear hS1
          try simp only [List.getElem_toArray, List.getElem_cons_succ, List.getElem_cons_zero, Act.put, List.setIfInBounds_toArray, List.set_cons_zero, List.set_cons_succ]
          cases hcan : canD j x1 with
          | false =>
            have hstep : stepO (canD j) most k rs l i = none := by
              unfold stepO
              rw [← HNL.out, ← HX1.out.1, hcan]; rfl
            have HST := Lib.hid hstep
            clear hstep hcan
            refine wpAnyH_take (i := 6) (v := ?_) rfl (by kernel_rfl) (by kernel_rfl) (by kernel_rfl) (fun _ _ _ h => h) (Or.inl ⟨by rfl, ?_⟩) hS ?_
            rotate_left
            · (intro W hSw; obtain ⟨hq1, hq2, hq3⟩ := hSw; go_simp; try with_reducible rfl)
            try simp only [List.getElem_toArray, List.getElem_cons_succ, List.getElem_cons_zero, Act.put, List.setIfInBounds_toArray, List.set_cons_zero, List.set_cons_succ]
            refine wpAnyH_take (i := 7) (v := undef) rfl (by kernel_rfl) (by kernel_rfl) (by kernel_rfl) (fun _ _ _ h => h) (.inr ⟨rfl, rfl⟩) hS ?_
            try simp only [List.getElem_toArray, List.getElem_cons_succ, List.getElem_cons_zero, Act.put, List.setIfInBounds_toArray, List.set_cons_zero, List.set_cons_succ]
            refine wpAnyH_take (i := 8) (v := undef) rfl (by kernel_rfl) (by kernel_rfl) (by kernel_rfl) (fun _ _ _ h => h) (.inr ⟨rfl, rfl⟩) hS ?_
            try simp only [List.getElem_toArray, List.getElem_cons_succ, List.getElem_cons_zero, Act.put, List.setIfInBounds_toArray, List.set_cons_zero, List.set_cons_succ]
            refine wpAnyH_take (i := 9) (v := undef) rfl (by kernel_rfl) (by kernel_rfl) (by kernel_rfl) (fun _ _ _ h => h) (.inr ⟨rfl, rfl⟩) hS ?_
            try simp only [List.getElem_toArray, List.getElem_cons_succ, List.getElem_cons_zero, Act.put, List.setIfInBounds_toArray, List.set_cons_zero, List.set_cons_succ]
            refine wpAnyH_take (i := 10) (v := undef) rfl (by kernel_rfl) (by kernel_rfl) (by kernel_rfl) (fun _ _ _ h => h) (.inr ⟨rfl, rfl⟩) hS ?_
            try simp only [List.getElem_toArray, List.getElem_cons_succ, List.getElem_cons_zero, Act.put, List.setIfInBounds_toArray, List.set_cons_zero, List.set_cons_succ]
            refine wpAnyH_take (i := 11) (v := undef) rfl (by kernel_rfl) (by kernel_rfl) (by kernel_rfl) (fun _ _ _ h => h) (.inr ⟨rfl, rfl⟩) hS ?_
            try simp only [List.getElem_toArray, List.getElem_cons_succ, List.getElem_cons_zero, Act.put, List.setIfInBounds_toArray, List.set_cons_zero, List.set_cons_succ]
            refine wpAnyH_take (i := 12) (v := undef) rfl (by kernel_rfl) (by kernel_rfl) (by kernel_rfl) (fun _ _ _ h => h) (.inr ⟨rfl, rfl⟩) hS ?_
            try simp only [List.getElem_toArray, List.getElem_cons_succ, List.getElem_cons_zero, Act.put, List.setIfInBounds_toArray, List.set_cons_zero, List.set_cons_succ]
            refine wpAnyH_take (i := 13) (v := undef) rfl (by kernel_rfl) (by kernel_rfl) (by kernel_rfl) (fun _ _ _ h => h) (.inr ⟨rfl, rfl⟩) hS ?_
            try simp only [List.getElem_toArray, List.getElem_cons_succ, List.getElem_cons_zero, Act.put, List.setIfInBounds_toArray, List.set_cons_zero, List.set_cons_succ]
            refine wpAnyH_take (i := 14) (v := undef) rfl (by kernel_rfl) (by kernel_rfl) (by kernel_rfl) (fun _ _ _ h => h) (.inr ⟨rfl, rfl⟩) hS ?_
            try simp only [List.getElem_toArray, List.getElem_cons_succ, List.getElem_cons_zero, Act.put, List.setIfInBounds_toArray, List.set_cons_zero, List.set_cons_succ]
            refine wpAnyH_take (i := 15) (v := undef) rfl (by kernel_rfl) (by kernel_rfl) (by kernel_rfl) (fun _ _ _ h => h) (.inr ⟨rfl, rfl⟩) hS ?_
            try simp only [List.getElem_toArray, List.getElem_cons_succ, List.getElem_cons_zero, Act.put, List.setIfInBounds_toArray, List.set_cons_zero, List.set_cons_succ]
            refine wpAnyH_take (i := 16) (v := ?_) rfl (by kernel_rfl) (by kernel_rfl) (by kernel_rfl) (fun _ _ _ h => h) (Or.inl ⟨by rfl, ?_⟩) hS ?_
            rotate_left
            · (intro W hSw; obtain ⟨hq1, hq2, hq3⟩ := hSw; go_simp; try with_reducible rfl)
            try simp only [List.getElem_toArray, List.getElem_cons_succ, List.getElem_cons_zero, Act.put, List.setIfInBounds_toArray, List.set_cons_zero, List.set_cons_succ]
            refine wpAnyH_done (by kernel_rfl) ?_ _
            try simp only [List.getElem_toArray, List.getElem_cons_succ, List.getElem_cons_zero, Act.put, List.setIfInBounds_toArray, List.set_cons_zero, List.set_cons_succ]
            clear hS
            go_wp2_with fail
            exact ⟨⟨i + 1, hlt, by push_cast; rfl, range_none _ _ HNO.out HST.out, H1.out.2.1.kept, H1.out.2.2⟩, by simp [intOf]; omega⟩
          | true =>
            have hstep : stepO (canD j) most k rs l i = onJ (canD j) most k (putJ rs i nl) (l ++ [i]) := by
              unfold stepO
              rw [← HNL.out, ← HX1.out.1, hcan]; rfl
            have HST := Lib.hid hstep
            clear hstep hcan
            refine wpAnyH_take (i := 6) (v := ?_) rfl (by kernel_rfl) (by kernel_rfl) (by kernel_rfl) (fun _ _ _ h => h) (Or.inl ⟨by rfl, ?_⟩) hS ?_
            rotate_left
            · (intro W hSw; obtain ⟨hq1, hq2, hq3⟩ := hSw; go_simp; try with_reducible rfl)
            try simp only [List.getElem_toArray, List.getElem_cons_succ, List.getElem_cons_zero, Act.put, List.setIfInBounds_toArray, List.set_cons_zero, List.set_cons_succ]
            refine wpAnyH_take (i := 7) (v := ?_) rfl (by kernel_rfl) (by kernel_rfl) (by kernel_rfl) (fun _ _ _ h => h) (Or.inl ⟨by rfl, ?_⟩) hS ?_
            rotate_left
            · (intro W hSw; obtain ⟨hq1, hq2, hq3⟩ := hSw; go_simp; try with_reducible rfl)
            try simp only [List.getElem_toArray, List.getElem_cons_succ, List.getElem_cons_zero, Act.put, List.setIfInBounds_toArray, List.set_cons_zero, List.set_cons_succ]
            refine wpAnyH_take (i := 8) (v := ?_) rfl (by kernel_rfl) (by kernel_rfl) (by kernel_rfl) (fun _ _ _ h => h) (Or.inl ⟨by rfl, ?_⟩) hS ?_
            rotate_left
            · (intro W hSw; obtain ⟨hq1, hq2, hq3⟩ := hSw; go_simp; try with_reducible rfl)
            try simp only [List.getElem_toArray, List.getElem_cons_succ, List.getElem_cons_zero, Act.put, List.setIfInBounds_toArray, List.set_cons_zero, List.set_cons_succ]
            refine wpAnyH_take (i := 9) (v := ?_) rfl (by kernel_rfl) (by kernel_rfl) (by kernel_rfl) (fun _ _ _ h => h) (Or.inl ⟨by rfl, ?_⟩) hS ?_
            rotate_left
            · (intro W hSw; obtain ⟨hq1, hq2, hq3⟩ := hSw; go_simp; try with_reducible rfl)
            try simp only [List.getElem_toArray, List.getElem_cons_succ, List.getElem_cons_zero, Act.put, List.setIfInBounds_toArray, List.set_cons_zero, List.set_cons_succ]
            refine wpAnyH_take (i := 10) (v := ?_) rfl (by kernel_rfl) (by kernel_rfl) (by kernel_rfl) (fun _ _ _ h => h) (Or.inl ⟨by rfl, ?_⟩) hS ?_
            rotate_left
            · (intro W hSw; obtain ⟨hq1, hq2, hq3⟩ := hSw; go_simp; try with_reducible rfl)
            try simp only [List.getElem_toArray, List.getElem_cons_succ, List.getElem_cons_zero, Act.put, List.setIfInBounds_toArray, List.set_cons_zero, List.set_cons_succ]
            refine wpAnyH_take (i := 12) (v := ?_) rfl (by kernel_rfl) (by kernel_rfl) (by kernel_rfl) (fun _ _ _ h => h) (Or.inl ⟨by rfl, ?_⟩) hS ?_
            rotate_left
            · (intro W hSw; obtain ⟨hq1, hq2, hq3⟩ := hSw; go_simp; try with_reducible rfl)
            try simp only [List.getElem_toArray, List.getElem_cons_succ, List.getElem_cons_zero, Act.put, List.setIfInBounds_toArray, List.set_cons_zero, List.set_cons_succ]
            refine wpAnyH_ready (rs := [11, 13]) (by kernel_rfl) (by simp) ?_
            refine AllReadyH.cons rfl (fun K hK => ?_) (AllReadyH.cons rfl (fun K hK => ?_) AllReadyH.nil)
            · skip
              go_simp
              go_at_call 56
              refine (cloneI_any (l.map fun s : Nat => (s : Int)) (.slice al nl cl) (fun k => k ≠ mp ∧ k ≠ fb) (by rw [List.length_map, ← HNL.out]; omega) (by intro h; exact HLN.out (List.map_eq_nil_iff.1 h)) _ (HLV.out.later H1.out.2.2.size (fun k h1 h2 => H1.out.2.2.block k h1 h2.1))).mono ?_
              rintro e Z2 ⟨⟨cv, rfl, hcv⟩, hb2⟩
              dsimp only
              rw [List.length_map, ← HNL.out] at hcv
              refine hK.out _ _ (hS.below hb2) (fun hS => ?_)
              clear hK K
              try simp only [List.getElem_toArray, List.getElem_cons_succ, List.getElem_cons_zero, Act.put, List.setIfInBounds_toArray, List.set_cons_zero, List.set_cons_succ]
              have hb2s := hb2.size
              refine wpAnyH_ready (rs := [13]) (by kernel_rfl) (by simp) ?_
              refine AllReadyH.cons rfl (fun K hK => ?_) AllReadyH.nil
              go_simp
              obtain ⟨Z3, hZ3⟩ : ∃ x, x = Z2.alloc (.cells #[.int .i64 i] 3) := ⟨_, rfl⟩
              rw [← hZ3]
              have hb3 : Below Z2.heap.size Z2 Z3 := by rw [hZ3]; exact Below.alloc' _ _
              have hn3 : Z3.heap[Z2.heap.size]? = some (.cells #[.int .i64 i] 3 (0, 0)) := by rw [hZ3]; exact heap_alloc_at _ _ _ rfl
              refine hK.out _ _ (hS.below hb3) (fun hS => ?_)
              clear hK K hZ3
              try simp only [List.getElem_toArray, List.getElem_cons_succ, List.getElem_cons_zero, Act.put, List.setIfInBounds_toArray, List.set_cons_zero, List.set_cons_succ]
              have hcv3 := own_block hcv (fun k e => hb3.block k (hcv.lt k e).2)
              have hbb3 : ∀ k, cv.ownBlock = some k → k ≠ Z2.heap.size := fun k e => by have := (hcv.lt k e).2; omega
              have hb13 := hb2.trans (hb3.mono hb2s)
              have HF := Lib.hid (And.intro hcv3 (And.intro hn3 (And.intro hbb3 hb13)))
              clear hcv hcv3 hn3 hbb3 hb13 hb2 hb3
              have hcvn := HF.out.1
              refine wpAnyH_oper (k := 14) (by kernel_rfl) rfl (by kernel_rfl) ?_
              refine wp_append_here (.tmp 60) (.tmp 62) 32 rfl Z1.heap.size 3 1 8 (.int .i64 0) underInts infoInt rfl (by decide) cv nl _ rfl hcvn ⟨Z2.heap.size, 0, none⟩ 1 1 [.int .i64 i] rfl rfl (news_block HF.out.2.1) (by simp [Value.oneCell']) (by omega) (by decide) (by have := HF.out.2.2.2.size; omega) ?_
              intro v7 V7 hown7 hg7 hat7
              have hk7 := keeps_grown hg7
              have hk7s := hk7.size
              have hV1s := HF.out.2.2.2.size
              have hobv : ∀ k, cv.ownBlock = some k → Z1.heap.size ≤ k := fun k e => by have := (hcvn.lt k e).1; omega
              have hk17 : Keeps (fun k => cv.ownBlock = some k) Z1 V7 := (Keeps.of_below HF.out.2.2.2 (fun k h1 h2 => absurd h2 (by omega))).trans hk7
              have hold : ∀ k, k < Z1.heap.size → V7.heap[k]? = Z1.heap[k]? := fun k h => hk17.block k h (fun e => by have := hobv k e; omega)
              have hS7 : SO jb ob g i pp x1 (onV xb fb jb ob) V7 := by
                have c1 := (World.cell?_of_block (w := Z3) (w' := V7) (a := ⟨jb, 0, none⟩) (hk7.block jb (by omega) (fun e => by have := hobv _ e; omega))).trans hS.1
                have c2 := (World.cell?_of_block (w := Z3) (w' := V7) (a := ⟨g, i, none⟩) (hk7.block g (by omega) (fun e => by have := hobv _ e; omega))).trans hS.2.1
                have c3 := (World.cell?_of_block (w := Z3) (w' := V7) (a := ⟨ob, 0, none⟩) (hk7.block ob (by omega) (fun e => by have := hobv _ e; omega))).trans hS.2.2
                exact ⟨c1, c2, c3⟩
              have hrow7 : RowL g (putJ rs i nl) V7 := H1.out.1.block (hold g (by omega))
              have hkw7 : Keeps (fun k => k = mp) w V7 := H1.out.2.2.transNew hk17 (fun k e => by have := hobv k e; have := H1.out.2.2.size; omega)
              have hkp7 : KeptJ j mp V7 := H1.out.2.1.kept.of (hold mp (by have := H1.out.2.1.kept.lt; omega))
              have ho7 := HO.out.keeps hkw7 hkp7
              have hset7 : SetsAt V7 (.slice (some ⟨g, 0, none⟩) (i + 1) oc) (putJ rs i nl) (fun k => k ≠ mp ∧ k ≠ fb) := by
                refine ⟨some ⟨g, 0, none⟩, oc, by rw [HX1.out.2.2], fun q hq => ⟨g, 0, rfl, ⟨by omega, by omega⟩, hrow7.lt, ?_⟩⟩
                rw [Nat.zero_add]
                exact hrow7.cell (List.getElem?_eq_getElem hq)
              have hlen7 : ((l ++ [i]).map fun s : Nat => (s : Int)).length = nl + 1 := by rw [List.length_map, List.length_append, ← HNL.out]; rfl
              have hnum7 : NumsAt V7 v7 ((l ++ [i]).map fun s : Nat => (s : Int)) (fun k => k ≠ mp ∧ k ≠ fb) := by
                refine (nums_of_own (n := nl + 1) (e := 3) (base := Z1.heap.size) hlen7.symm ?_).mono (fun k h => ⟨by omega, by omega⟩)
                rw [List.map_append, List.map_append]
                exact hown7
              obtain ⟨a7, c7, hv7, _⟩ := id hnum7
              rw [hlen7] at hv7
              subst hv7
              have hk7' := H1.out.2.2.size
              have H7 := Lib.hid (And.intro hset7 (And.intro hnum7 (And.intro ho7 (And.intro hkw7 hkp7))))
              have eg := enters_of (P := Tryd.prog) Tryd.func52 (by kernel_rfl) rfl
              clear hS hcvn hown7 hg7 hat7 hk7 hold hrow7 hkw7 hkp7 ho7 hset7 hlen7 hnum7 hk17 hobv HF
              refine ⟨hS7, ?_⟩
              have hS := hS7
              clear hS7
              try simp only [List.getElem_toArray, List.getElem_cons_succ, List.getElem_cons_zero, Act.put, List.setIfInBounds_toArray, List.set_cons_zero, List.set_cons_succ]
              refine wpAnyH_call (k := 15) (by kernel_rfl) rfl (by kernel_rfl) (f := 52) (args := #[.slice (some ⟨g, 0, none⟩) (i + 1) oc, .int .i64 most, .slice a7 (nl + 1) c7, .pointer (some ⟨xb, 0, none⟩), .pointer (some ⟨fb, 0, none⟩), .pointer (some ⟨jb, 0, none⟩), .pointer (some ⟨ob, 0, none⟩)]) (by simp [execOp, go_sem, Act.eval, Act.put, onV, eg]) ?_
              clear eg
              refine (HIH.out (putJ rs i nl) (l ++ [i]) (.slice (some ⟨g, 0, none⟩) (i + 1) oc) (.slice a7 (nl + 1) c7) V7 (by rw [List.length_append, ← HNL.out, ← HNW.out]; simp; omega) (by rw [HX1.out.2.2, List.length_append, ← HNL.out]; simp; omega) (by rw [← HNW.out]; exact HPN.out) (fun h => by have := HX1.out.2.2; rw [h] at this; simp at this <;> omega) (fun h => by simp at h) H7.out.1 H7.out.2.1 H7.out.2.2.1).mono ?_
              rintro e V8 hres8
              cases hz : onJ (canD j) most k (putJ rs i nl) (l ++ [i]) with
              | none =>
                rw [hz] at hres8
                obtain ⟨rfl, hkp8, hk8⟩ := hres8
                dsimp only
                have hS8 : SO jb ob g i pp x1 (onV xb fb jb ob) V8 := ⟨(World.cell?_of_block (w := V7) (w' := V8) (a := ⟨jb, 0, none⟩) (hk8.block jb (by omega) HO.out.nj)).trans hS.1, (World.cell?_of_block (w := V7) (w' := V8) (a := ⟨g, i, none⟩) (hk8.block g (by omega) (by omega))).trans hS.2.1, (World.cell?_of_block (w := V7) (w' := V8) (a := ⟨ob, 0, none⟩) (hk8.block ob (by omega) HO.out.no)).trans hS.2.2⟩
                have H8 := Lib.hid (And.intro hkp8 (H7.out.2.2.2.1.trans hk8))
                have HZZ := Lib.hid hz
                clear hkp8 hk8 hz hS
                refine ⟨hS8, ?_⟩
                have hS := hS8
                clear hS8
                try simp only [List.getElem_toArray, List.getElem_cons_succ, List.getElem_cons_zero, Act.put, List.setIfInBounds_toArray, List.set_cons_zero, List.set_cons_succ]
                refine wpAnyH_take (i := 16) (v := ?_) rfl (by kernel_rfl) (by kernel_rfl) (by kernel_rfl) (fun _ _ _ h => h) (Or.inl ⟨by rfl, ?_⟩) hS ?_
                rotate_left
                · (intro W hSw; obtain ⟨hq1, hq2, hq3⟩ := hSw; go_simp; try with_reducible rfl)
                try simp only [List.getElem_toArray, List.getElem_cons_succ, List.getElem_cons_zero, Act.put, List.setIfInBounds_toArray, List.set_cons_zero, List.set_cons_succ]
                refine wpAnyH_done (by kernel_rfl) ?_ _
                try simp only [List.getElem_toArray, List.getElem_cons_succ, List.getElem_cons_zero, Act.put, List.setIfInBounds_toArray, List.set_cons_zero, List.set_cons_succ]
                clear hS
                go_wp2_with fail
                exact ⟨⟨i + 1, hlt, by push_cast; rfl, range_none _ _ HNO.out (HST.out.trans HZZ.out), H8.out.1, H8.out.2⟩, by simp [intOf]; omega⟩
              | some l8 =>
                rw [hz] at hres8
                obtain ⟨rfl, hk8, v8, hf8, hn8⟩ := hres8
                dsimp only
                have hjf : jb ≠ fb := fun e => by obtain ⟨fv, hf⟩ := HO.out.hf; have := HO.out.hj; rw [e, hf] at this; simp at this
                have hof : ob ≠ fb := fun e => by obtain ⟨fv, hf⟩ := HO.out.hf; have := HO.out.ho; rw [e, hf] at this; simp at this
                have hS8 : SO jb ob g i pp x1 (onV xb fb jb ob) V8 := ⟨(World.cell?_of_block (w := V7) (w' := V8) (a := ⟨jb, 0, none⟩) (hk8.block jb (by omega) (fun h => h.elim HO.out.nj hjf))).trans hS.1, (World.cell?_of_block (w := V7) (w' := V8) (a := ⟨g, i, none⟩) (hk8.block g (by omega) (by omega))).trans hS.2.1, (World.cell?_of_block (w := V7) (w' := V8) (a := ⟨ob, 0, none⟩) (hk8.block ob (by omega) (fun h => h.elim HO.out.no hof))).trans hS.2.2⟩
                have hval : res = some l8 := by rw [HRES.out]; exact range_some _ _ _ hlt HNO.out _ (HST.out.trans hz)
                have H8 := Lib.hid (And.intro hf8 (And.intro hn8 (And.intro ((H7.out.2.2.2.1.mono (Mut' := fun k => k = mp ∨ k = fb) (fun _ _ h => .inl h)).trans hk8) hval)))
                clear hk8 hz hS hf8 hn8 hval hjf hof
                refine ⟨hS8, ?_⟩
                have hS := hS8
                clear hS8
                try simp only [List.getElem_toArray, List.getElem_cons_succ, List.getElem_cons_zero, Act.put, List.setIfInBounds_toArray, List.set_cons_zero, List.set_cons_succ]
                refine wpAnyH_take (i := 16) (v := ?_) rfl (by kernel_rfl) (by kernel_rfl) (by kernel_rfl) (fun _ _ _ h => h) (Or.inl ⟨by rfl, ?_⟩) hS ?_
                rotate_left
                · (intro W hSw; obtain ⟨hq1, hq2, hq3⟩ := hSw; go_simp; try with_reducible rfl)
                try simp only [List.getElem_toArray, List.getElem_cons_succ, List.getElem_cons_zero, Act.put, List.setIfInBounds_toArray, List.set_cons_zero, List.set_cons_succ]
                refine wpAnyH_done (by kernel_rfl) ?_ _
                try simp only [List.getElem_toArray, List.getElem_cons_succ, List.getElem_cons_zero, Act.put, List.setIfInBounds_toArray, List.set_cons_zero, List.set_cons_succ]
                clear hS
                go_wp2_with fail
                go_ret
                obtain ⟨hf8, hn8, hk8, hval⟩ := H8.out
                rw [hval]
                exact ⟨rfl, hk8, v8, hf8, hn8⟩
            · skip
              go_simp
              obtain ⟨Z2, hZ2⟩ : ∃ x, x = Z1.alloc (.cells #[.int .i64 i] 3) := ⟨_, rfl⟩
              rw [← hZ2]
              have hb3 : Below Z1.heap.size Z1 Z2 := by rw [hZ2]; exact Below.alloc' _ _
              have hn3 : Z2.heap[Z1.heap.size]? = some (.cells #[.int .i64 i] 3 (0, 0)) := by rw [hZ2]; exact heap_alloc_at _ _ _ rfl
              refine hK.out _ _ (hS.below hb3) (fun hS => ?_)
              clear hK K hZ2
              try simp only [List.getElem_toArray, List.getElem_cons_succ, List.getElem_cons_zero, Act.put, List.setIfInBounds_toArray, List.set_cons_zero, List.set_cons_succ]
              have hb2s := hb3.size
              have hb2 := hb3
              clear hb3
              refine wpAnyH_ready (rs := [11]) (by kernel_rfl) (by simp) ?_
              refine AllReadyH.cons rfl (fun K hK => ?_) AllReadyH.nil
              go_simp
              go_at_call 56
              refine (cloneI_any (l.map fun s : Nat => (s : Int)) (.slice al nl cl) (fun k => k ≠ mp ∧ k ≠ fb) (by rw [List.length_map, ← HNL.out]; omega) (by intro h; exact HLN.out (List.map_eq_nil_iff.1 h)) _ ((HLV.out.later H1.out.2.2.size (fun k h1 h2 => H1.out.2.2.block k h1 h2.1)).later hb2s (fun k h1 _ => hb2.block k h1))).mono ?_
              rintro e Z3 ⟨⟨cv, rfl, hcv⟩, hb3⟩
              dsimp only
              rw [List.length_map, ← HNL.out] at hcv
              refine hK.out _ _ (hS.below hb3) (fun hS => ?_)
              clear hK K
              try simp only [List.getElem_toArray, List.getElem_cons_succ, List.getElem_cons_zero, Act.put, List.setIfInBounds_toArray, List.set_cons_zero, List.set_cons_succ]
              have hn33 := (hb3.block _ (lt_of_block hn3)).trans hn3
              have hbb3 : ∀ k, cv.ownBlock = some k → k ≠ Z1.heap.size := fun k e => by have := (hcv.lt k e).1; have := lt_of_block hn3; omega
              have hb13 := hb2.trans (hb3.mono hb2s)
              have hb23s := hb3.size
              have HF := Lib.hid (And.intro hcv (And.intro hn33 (And.intro hbb3 hb13)))
              clear hcv hn3 hn33 hbb3 hb13 hb2 hb3
              have hcvn := HF.out.1
              refine wpAnyH_oper (k := 14) (by kernel_rfl) rfl (by kernel_rfl) ?_
              refine wp_append_here (.tmp 60) (.tmp 62) 32 rfl Z2.heap.size 3 1 8 (.int .i64 0) underInts infoInt rfl (by decide) cv nl _ rfl hcvn ⟨Z1.heap.size, 0, none⟩ 1 1 [.int .i64 i] rfl rfl (news_block HF.out.2.1) (by simp [Value.oneCell']) (by omega) (by decide) (by have := HF.out.2.2.2.size; omega) ?_
              intro v7 V7 hown7 hg7 hat7
              have hk7 := keeps_grown hg7
              have hk7s := hk7.size
              have hV1s := HF.out.2.2.2.size
              have hobv : ∀ k, cv.ownBlock = some k → Z1.heap.size ≤ k := fun k e => by have := (hcvn.lt k e).1; omega
              have hk17 : Keeps (fun k => cv.ownBlock = some k) Z1 V7 := (Keeps.of_below HF.out.2.2.2 (fun k h1 h2 => absurd h2 (by omega))).trans hk7
              have hold : ∀ k, k < Z1.heap.size → V7.heap[k]? = Z1.heap[k]? := fun k h => hk17.block k h (fun e => by have := hobv k e; omega)
              have hS7 : SO jb ob g i pp x1 (onV xb fb jb ob) V7 := by
                have c1 := (World.cell?_of_block (w := Z3) (w' := V7) (a := ⟨jb, 0, none⟩) (hk7.block jb (by omega) (fun e => by have := hobv _ e; omega))).trans hS.1
                have c2 := (World.cell?_of_block (w := Z3) (w' := V7) (a := ⟨g, i, none⟩) (hk7.block g (by omega) (fun e => by have := hobv _ e; omega))).trans hS.2.1
                have c3 := (World.cell?_of_block (w := Z3) (w' := V7) (a := ⟨ob, 0, none⟩) (hk7.block ob (by omega) (fun e => by have := hobv _ e; omega))).trans hS.2.2
                exact ⟨c1, c2, c3⟩
              have hrow7 : RowL g (putJ rs i nl) V7 := H1.out.1.block (hold g (by omega))
              have hkw7 : Keeps (fun k => k = mp) w V7 := H1.out.2.2.transNew hk17 (fun k e => by have := hobv k e; have := H1.out.2.2.size; omega)
              have hkp7 : KeptJ j mp V7 := H1.out.2.1.kept.of (hold mp (by have := H1.out.2.1.kept.lt; omega))
              have ho7 := HO.out.keeps hkw7 hkp7
              have hset7 : SetsAt V7 (.slice (some ⟨g, 0, none⟩) (i + 1) oc) (putJ rs i nl) (fun k => k ≠ mp ∧ k ≠ fb) := by
                refine ⟨some ⟨g, 0, none⟩, oc, by rw [HX1.out.2.2], fun q hq => ⟨g, 0, rfl, ⟨by omega, by omega⟩, hrow7.lt, ?_⟩⟩
                rw [Nat.zero_add]
                exact hrow7.cell (List.getElem?_eq_getElem hq)
              have hlen7 : ((l ++ [i]).map fun s : Nat => (s : Int)).length = nl + 1 := by rw [List.length_map, List.length_append, ← HNL.out]; rfl
              have hnum7 : NumsAt V7 v7 ((l ++ [i]).map fun s : Nat => (s : Int)) (fun k => k ≠ mp ∧ k ≠ fb) := by
                refine (nums_of_own (n := nl + 1) (e := 3) (base := Z2.heap.size) hlen7.symm ?_).mono (fun k h => ⟨by omega, by omega⟩)
                rw [List.map_append, List.map_append]
                exact hown7
              obtain ⟨a7, c7, hv7, _⟩ := id hnum7
              rw [hlen7] at hv7
              subst hv7
              have hk7' := H1.out.2.2.size
              have H7 := Lib.hid (And.intro hset7 (And.intro hnum7 (And.intro ho7 (And.intro hkw7 hkp7))))
              have eg := enters_of (P := Tryd.prog) Tryd.func52 (by kernel_rfl) rfl
              clear hS hcvn hown7 hg7 hat7 hk7 hold hrow7 hkw7 hkp7 ho7 hset7 hlen7 hnum7 hk17 hobv HF
              refine ⟨hS7, ?_⟩
              have hS := hS7
              clear hS7
              try simp only [List.getElem_toArray, List.getElem_cons_succ, List.getElem_cons_zero, Act.put, List.setIfInBounds_toArray, List.set_cons_zero, List.set_cons_succ]
              refine wpAnyH_call (k := 15) (by kernel_rfl) rfl (by kernel_rfl) (f := 52) (args := #[.slice (some ⟨g, 0, none⟩) (i + 1) oc, .int .i64 most, .slice a7 (nl + 1) c7, .pointer (some ⟨xb, 0, none⟩), .pointer (some ⟨fb, 0, none⟩), .pointer (some ⟨jb, 0, none⟩), .pointer (some ⟨ob, 0, none⟩)]) (by simp [execOp, go_sem, Act.eval, Act.put, onV, eg]) ?_
              clear eg
              refine (HIH.out (putJ rs i nl) (l ++ [i]) (.slice (some ⟨g, 0, none⟩) (i + 1) oc) (.slice a7 (nl + 1) c7) V7 (by rw [List.length_append, ← HNL.out, ← HNW.out]; simp; omega) (by rw [HX1.out.2.2, List.length_append, ← HNL.out]; simp; omega) (by rw [← HNW.out]; exact HPN.out) (fun h => by have := HX1.out.2.2; rw [h] at this; simp at this <;> omega) (fun h => by simp at h) H7.out.1 H7.out.2.1 H7.out.2.2.1).mono ?_
              rintro e V8 hres8
              cases hz : onJ (canD j) most k (putJ rs i nl) (l ++ [i]) with
              | none =>
                rw [hz] at hres8
                obtain ⟨rfl, hkp8, hk8⟩ := hres8
                dsimp only
                have hS8 : SO jb ob g i pp x1 (onV xb fb jb ob) V8 := ⟨(World.cell?_of_block (w := V7) (w' := V8) (a := ⟨jb, 0, none⟩) (hk8.block jb (by omega) HO.out.nj)).trans hS.1, (World.cell?_of_block (w := V7) (w' := V8) (a := ⟨g, i, none⟩) (hk8.block g (by omega) (by omega))).trans hS.2.1, (World.cell?_of_block (w := V7) (w' := V8) (a := ⟨ob, 0, none⟩) (hk8.block ob (by omega) HO.out.no)).trans hS.2.2⟩
                have H8 := Lib.hid (And.intro hkp8 (H7.out.2.2.2.1.trans hk8))
                have HZZ := Lib.hid hz
                clear hkp8 hk8 hz hS
                refine ⟨hS8, ?_⟩
                have hS := hS8
                clear hS8
                try simp only [List.getElem_toArray, List.getElem_cons_succ, List.getElem_cons_zero, Act.put, List.setIfInBounds_toArray, List.set_cons_zero, List.set_cons_succ]
                refine wpAnyH_take (i := 16) (v := ?_) rfl (by kernel_rfl) (by kernel_rfl) (by kernel_rfl) (fun _ _ _ h => h) (Or.inl ⟨by rfl, ?_⟩) hS ?_
                rotate_left
                · (intro W hSw; obtain ⟨hq1, hq2, hq3⟩ := hSw; go_simp; try with_reducible rfl)
                try simp only [List.getElem_toArray, List.getElem_cons_succ, List.getElem_cons_zero, Act.put, List.setIfInBounds_toArray, List.set_cons_zero, List.set_cons_succ]
                refine wpAnyH_done (by kernel_rfl) ?_ _
                try simp only [List.getElem_toArray, List.getElem_cons_succ, List.getElem_cons_zero, Act.put, List.setIfInBounds_toArray, List.set_cons_zero, List.set_cons_succ]
                clear hS
                go_wp2_with fail
                exact ⟨⟨i + 1, hlt, by push_cast; rfl, range_none _ _ HNO.out (HST.out.trans HZZ.out), H8.out.1, H8.out.2⟩, by simp [intOf]; omega⟩
              | some l8 =>
                rw [hz] at hres8
                obtain ⟨rfl, hk8, v8, hf8, hn8⟩ := hres8
                dsimp only
                have hjf : jb ≠ fb := fun e => by obtain ⟨fv, hf⟩ := HO.out.hf; have := HO.out.hj; rw [e, hf] at this; simp at this
                have hof : ob ≠ fb := fun e => by obtain ⟨fv, hf⟩ := HO.out.hf; have := HO.out.ho; rw [e, hf] at this; simp at this
                have hS8 : SO jb ob g i pp x1 (onV xb fb jb ob) V8 := ⟨(World.cell?_of_block (w := V7) (w' := V8) (a := ⟨jb, 0, none⟩) (hk8.block jb (by omega) (fun h => h.elim HO.out.nj hjf))).trans hS.1, (World.cell?_of_block (w := V7) (w' := V8) (a := ⟨g, i, none⟩) (hk8.block g (by omega) (by omega))).trans hS.2.1, (World.cell?_of_block (w := V7) (w' := V8) (a := ⟨ob, 0, none⟩) (hk8.block ob (by omega) (fun h => h.elim HO.out.no hof))).trans hS.2.2⟩
                have hval : res = some l8 := by rw [HRES.out]; exact range_some _ _ _ hlt HNO.out _ (HST.out.trans hz)
                have H8 := Lib.hid (And.intro hf8 (And.intro hn8 (And.intro ((H7.out.2.2.2.1.mono (Mut' := fun k => k = mp ∨ k = fb) (fun _ _ h => .inl h)).trans hk8) hval)))
                clear hk8 hz hS hf8 hn8 hval hjf hof
                refine ⟨hS8, ?_⟩
                have hS := hS8
                clear hS8
                try simp only [List.getElem_toArray, List.getElem_cons_succ, List.getElem_cons_zero, Act.put, List.setIfInBounds_toArray, List.set_cons_zero, List.set_cons_succ]
                refine wpAnyH_take (i := 16) (v := ?_) rfl (by kernel_rfl) (by kernel_rfl) (by kernel_rfl) (fun _ _ _ h => h) (Or.inl ⟨by rfl, ?_⟩) hS ?_
                rotate_left
                · (intro W hSw; obtain ⟨hq1, hq2, hq3⟩ := hSw; go_simp; try with_reducible rfl)
                try simp only [List.getElem_toArray, List.getElem_cons_succ, List.getElem_cons_zero, Act.put, List.setIfInBounds_toArray, List.set_cons_zero, List.set_cons_succ]
                refine wpAnyH_done (by kernel_rfl) ?_ _
                try simp only [List.getElem_toArray, List.getElem_cons_succ, List.getElem_cons_zero, Act.put, List.setIfInBounds_toArray, List.set_cons_zero, List.set_cons_succ]
                clear hS
                go_wp2_with fail
                go_ret
                obtain ⟨hf8, hn8, hk8, hval⟩ := H8.out
                rw [hval]
                exact ⟨rfl, hk8, v8, hf8, hn8⟩
        · have hini : ¬ (i : Int) = (nr : Int) := by omega
          have hin2 : i < nr := by omega
          have hgg : ∃ g, a5 = some ⟨g, 0, none⟩ ∧ wr.heap.size ≤ g ∧ RowL g rs w5 := by
            rcases H5.out.1.2 with ⟨h2, h3⟩ | ⟨g, cap, cur, h2, h3, h4, h5, h6, h7, h8⟩
            · omega
            · injection h2 with h2a
              refine ⟨g, h2a, h3, cur, h4, fun q x hx => ?_⟩
              have hq : q < nr := by rw [HNR.out]; exact (List.getElem?_eq_some_iff.1 hx).1
              have h9 : (cur.toList.take (nr * 1))[q]? = (rs.map fun s : Nat => Value.int .u64 s)[q]? := by rw [h8]
              rw [Nat.mul_one, List.getElem?_take_of_lt hq, List.getElem?_map, hx] at h9
              rw [← Array.getElem?_toList]; exact h9
          obtain ⟨g, rfl, hgw, hrowl⟩ := hgg
          obtain ⟨oc, hoc⟩ : ∃ x, x = c5 := ⟨_, rfl⟩
          rw [← hoc]
          clear hoc
          have hil : i < rs.length := by rw [← HNR.out]; exact hin2
          obtain ⟨x0, hx0⟩ : ∃ x, x = rs[i] := ⟨_, rfl⟩
          have hx0n : x0 < 2 ^ nw := by rw [hx0]; exact HRS.out _ (List.getElem_mem _)
          have hos : rs[i]? = some x0 := by rw [List.getElem?_eq_getElem hil, hx0]
          have hput : putJ rs i nl = rs.set i (x0 ||| 2 ^ nl) := by rw [put_set rs i nl hil, hx0]
          have HROW := Lib.hid hrowl
          have HPUT := Lib.hid hput
          have HOS := Lib.hid hos
          have HOSN := HRS
          have HLEN := Lib.hid (show (putJ rs i nl).length = nr by rw [hput, List.length_set, ← HNR.out])
          have hb5' := H5.out.2
          have HBO := Lib.hid hb5'
          have hion : i < nr := hin2
          have hgl := hrowl.lt
          clear hrowl hput hos hx0 hb5'
          go_wp2_with fail
          have hsh := shl_u64 nl (by omega)
          have h2n : 2 ^ nl < 2 ^ nw := Nat.pow_lt_pow_right (by decide) (by omega)
          have hnw16 : 2 ^ nw ≤ 16 := (Nat.pow_le_pow_right (by decide : 0 < 2) hnw4 : _ ≤ 2 ^ 4)
          obtain ⟨q, hq⟩ : ∃ q, q = 2 ^ nl := ⟨_, rfl⟩
          rw [← hq] at hsh h2n HPUT
          have HQ := Lib.hid hq
          clear hq
          have hiion : (i : Int) < (nr : Int) := by omega
          have d1 := HROW.out.cell HOS.out
          refine wp_region_tail 11 #[false, false, false, false, false, false, false, false, false, false, false, true, true] (fun Y => Y.cell? ⟨g, i, none⟩ = some (.int .u64 (x0 : Int))) (by kernel_rfl) (by kernel_rfl) (by rfl) d1 fun hS => ?_
          refine wpAnyH_take (i := 0) (v := ?_) rfl (by kernel_rfl) (by kernel_rfl) (by kernel_rfl) (fun _ _ _ h => h) (Or.inl ⟨by rfl, ?_⟩) hS ?_
          rotate_left
          · (intro W hSw; have hq1 := hSw; go_simp; try with_reducible rfl)
          try simp only [List.getElem_toArray, List.getElem_cons_succ, List.getElem_cons_zero, Act.put, List.setIfInBounds_toArray, List.set_cons_zero, List.set_cons_succ]
          refine wpAnyH_take (i := 1) (v := ?_) rfl (by kernel_rfl) (by kernel_rfl) (by kernel_rfl) (fun _ _ _ h => h) (Or.inl ⟨by rfl, ?_⟩) hS ?_
          rotate_left
          · (intro W hSw; have hq1 := hSw; go_simp; try with_reducible rfl)
          try simp only [List.getElem_toArray, List.getElem_cons_succ, List.getElem_cons_zero, Act.put, List.setIfInBounds_toArray, List.set_cons_zero, List.set_cons_succ]
          refine wpAnyH_take (i := 2) (v := ?_) rfl (by kernel_rfl) (by kernel_rfl) (by kernel_rfl) (fun _ _ _ h => h) (Or.inl ⟨by rfl, ?_⟩) hS ?_
          rotate_left
          · (intro W hSw; have hq1 := hSw; go_simp; try with_reducible rfl)
          try simp only [List.getElem_toArray, List.getElem_cons_succ, List.getElem_cons_zero, Act.put, List.setIfInBounds_toArray, List.set_cons_zero, List.set_cons_succ]
          refine wpAnyH_take (i := 3) (v := ?_) rfl (by kernel_rfl) (by kernel_rfl) (by kernel_rfl) (fun _ _ _ h => h) (Or.inl ⟨by rfl, ?_⟩) hS ?_
          rotate_left
          · (intro W hSw; have hq1 := hSw; go_simp; try with_reducible rfl)
          try simp only [List.getElem_toArray, List.getElem_cons_succ, List.getElem_cons_zero, Act.put, List.setIfInBounds_toArray, List.set_cons_zero, List.set_cons_succ]
          refine wpAnyH_take (i := 4) (v := ?_) rfl (by kernel_rfl) (by kernel_rfl) (by kernel_rfl) (fun _ _ _ h => h) (Or.inl ⟨by rfl, ?_⟩) hS ?_
          rotate_left
          · (intro W hSw; have hq1 := hSw; go_simp; try with_reducible rfl)
          try simp only [List.getElem_toArray, List.getElem_cons_succ, List.getElem_cons_zero, Act.put, List.setIfInBounds_toArray, List.set_cons_zero, List.set_cons_succ]
          refine wpAnyH_take (i := 5) (v := ?_) rfl (by kernel_rfl) (by kernel_rfl) (by kernel_rfl) (fun _ _ _ h => h) (Or.inl ⟨by rfl, ?_⟩) hS ?_
          rotate_left
          · (intro W hSw; have hq1 := hSw; go_simp; try with_reducible rfl)
          try simp only [List.getElem_toArray, List.getElem_cons_succ, List.getElem_cons_zero, Act.put, List.setIfInBounds_toArray, List.set_cons_zero, List.set_cons_succ]
          refine wpAnyH_take (i := 6) (v := ?_) rfl (by kernel_rfl) (by kernel_rfl) (by kernel_rfl) (fun _ _ _ h => h) (Or.inl ⟨by rfl, ?_⟩) hS ?_
          rotate_left
          · (intro W hSw; have hq1 := hSw; go_simp; try with_reducible rfl)
          try simp only [List.getElem_toArray, List.getElem_cons_succ, List.getElem_cons_zero, Act.put, List.setIfInBounds_toArray, List.set_cons_zero, List.set_cons_succ]
          refine wpAnyH_take (i := 7) (v := ?_) rfl (by kernel_rfl) (by kernel_rfl) (by kernel_rfl) (fun _ _ _ h => h) (Or.inl ⟨by rfl, ?_⟩) hS ?_
          rotate_left
          · (intro W hSw; have hq1 := hSw; go_simp; try with_reducible rfl)
          try simp only [List.getElem_toArray, List.getElem_cons_succ, List.getElem_cons_zero, Act.put, List.setIfInBounds_toArray, List.set_cons_zero, List.set_cons_succ]
          refine wpAnyH_take (i := 8) (v := ?_) rfl (by kernel_rfl) (by kernel_rfl) (by kernel_rfl) (fun _ _ _ h => h) (Or.inl ⟨by rfl, ?_⟩) hS ?_
          rotate_left
          · (intro W hSw; have hq1 := hSw; go_simp; try with_reducible rfl)
          try simp only [List.getElem_toArray, List.getElem_cons_succ, List.getElem_cons_zero, Act.put, List.setIfInBounds_toArray, List.set_cons_zero, List.set_cons_succ]
          refine wpAnyH_ready (rs := [9]) (by kernel_rfl) (by simp) ?_
          refine AllReadyH.cons rfl (fun K hK => ?_) AllReadyH.nil
          go_simp
          obtain ⟨Y, hY⟩ : ∃ Z, Z = (w5.alloc (.cells #[.int .u64 x0, .int .u64 q] 79)).drew := ⟨_, rfl⟩
          have hyb : Below w5.heap.size w5 Y := by rw [hY]; exact (Below.alloc' _ _).drew
          have hyn : Y.heap[w5.heap.size]? = some (.cells #[.int .u64 x0, .int .u64 q] 79 (0, 0)) := by rw [hY]; exact heap_alloc_at _ _ _ rfl
          rw [← hY]
          have hrowy := HROW.out.later hyb
          have hS2 : Y.cell? ⟨g, i, none⟩ = some (.int .u64 (x0 : Int)) := hrowy.cell HOS.out
          clear hY hS d1
          refine hK.out _ _ hS2 (fun hS => ?_)
          clear hK K
          try simp only [List.getElem_toArray, List.getElem_cons_succ, List.getElem_cons_zero, Act.put, List.setIfInBounds_toArray, List.set_cons_zero, List.set_cons_succ]
          refine wpAnyH_call (k := 10) (by kernel_rfl) rfl rfl (f := 54) (args := #[.slice (some ⟨w5.heap.size, 0, none⟩) 2 2]) (by simp [execOp, go_sem, Act.eval, Act.put]) ?_
          refine (junion_any x0 q w5.heap.size (by omega) (by omega) _ (by rw [cell_of_row _ _ _ _ _ _ hyn]; rfl) (by rw [cell_of_row _ _ _ _ _ _ hyn]; rfl)).mono ?_
          rintro e w' ⟨rfl, rfl⟩
          refine ⟨hS2, ?_⟩
          try simp only [List.getElem_toArray, List.getElem_cons_succ, List.getElem_cons_zero, Act.put, List.setIfInBounds_toArray, List.set_cons_zero, List.set_cons_succ]
          refine wpAnyH_done (by kernel_rfl) ?_ _
          unfold TailQ
          simp only [List.drop_succ_cons, List.drop_zero]
          have fz := hrowy.frozen i
          have HRY := Lib.hid (And.intro hrowy hyb)
          clear hrowy hyb hyn hS
          go_wp2_with fail
          refine wp_name (fun Z => RowL g (putJ rs i nl) Z ∧ Below wr.heap.size wr Z) ⟨by rw [HPUT.out]; exact HRY.out.1.set HOS.out _, ((HBO.out.trans (HRY.out.2.mono HBO.out.size)).setCell (p := ⟨g, i, none⟩) hgw _)⟩ ?_
          rintro Z ⟨hrz, hbz⟩
          clear fz hS2
          have hpl : (putJ rs i nl).length = nr := HLEN.out
          obtain ⟨x1, hx1⟩ : ∃ x, x = (putJ rs i nl).getD i 0 := ⟨_, rfl⟩
          have hx1s : (putJ rs i nl)[i]? = some x1 := by rw [hx1, List.getD_eq_getElem?_getD, List.getElem?_eq_getElem (by rw [hpl]; exact hion)]; rfl
          have hpn : ∀ x ∈ putJ rs i nl, x < 2 ^ nw := by
            intro x hx
            rw [HPUT.out] at hx
            rcases List.mem_or_eq_of_mem_set hx with h | h
            · exact HOSN.out x h
            · rw [h]; exact Nat.or_lt_two_pow hx0n h2n
          have hx1n : x1 < 2 ^ nw := hpn x1 (List.mem_of_getElem? hx1s)
          have HPN := Lib.hid hpn
          have HX1 := Lib.hid (And.intro hx1 (And.intro hx1s hpl))
          have hbzs := hbz.size
          have hjz := (hbz.block _ (lt_of_block HOR.out.hj)).trans HOR.out.hj
          have hoz := (hbz.block _ (lt_of_block HOR.out.ho)).trans HOR.out.ho
          have hjl := lt_of_block HOR.out.hj
          have hol := lt_of_block HOR.out.ho
          have hgz := hrz.lt
          have hsz : SO jb ob g i pp x1 (onV xb fb jb ob) Z := ⟨by rw [cell_of_row _ _ _ _ _ _ hjz]; rfl, hrz.cell hx1s, by rw [cell_of_row _ _ _ _ _ _ hoz]; rfl⟩
          have hjkz := HOR.out.jk.later hbz
          have HZ := Lib.hid (And.intro hrz (And.intro hbz hjkz))
          clear hrz hbz hjz hoz hjkz hpn hx1 hx1s hpl
          refine wp_region_held_drew (S := SO jb ob g i pp x1 (onV xb fb jb ob)) (by kernel_rfl) hsz fun hS => ?_
          clear hsz
          refine wpAnyH_take (i := 0) (v := ?_) rfl (by kernel_rfl) (by kernel_rfl) (by kernel_rfl) (fun _ _ _ h => h) (Or.inl ⟨by rfl, ?_⟩) hS ?_
          rotate_left
          · (intro W hSw; obtain ⟨hq1, hq2, hq3⟩ := hSw; go_simp; try with_reducible rfl)
          try simp only [List.getElem_toArray, List.getElem_cons_succ, List.getElem_cons_zero, Act.put, List.setIfInBounds_toArray, List.set_cons_zero, List.set_cons_succ]
          refine wpAnyH_take (i := 1) (v := ?_) rfl (by kernel_rfl) (by kernel_rfl) (by kernel_rfl) (fun _ _ _ h => h) (Or.inl ⟨by rfl, ?_⟩) hS ?_
          rotate_left
          · (intro W hSw; obtain ⟨hq1, hq2, hq3⟩ := hSw; go_simp; try with_reducible rfl)
          try simp only [List.getElem_toArray, List.getElem_cons_succ, List.getElem_cons_zero, Act.put, List.setIfInBounds_toArray, List.set_cons_zero, List.set_cons_succ]
          refine wpAnyH_take (i := 2) (v := ?_) rfl (by kernel_rfl) (by kernel_rfl) (by kernel_rfl) (fun _ _ _ h => h) (Or.inl ⟨by rfl, ?_⟩) hS ?_
          rotate_left
          · (intro W hSw; obtain ⟨hq1, hq2, hq3⟩ := hSw; go_simp; try with_reducible rfl)
          try simp only [List.getElem_toArray, List.getElem_cons_succ, List.getElem_cons_zero, Act.put, List.setIfInBounds_toArray, List.set_cons_zero, List.set_cons_succ]
          refine wpAnyH_take (i := 3) (v := ?_) rfl (by kernel_rfl) (by kernel_rfl) (by kernel_rfl) (fun _ _ _ h => h) (Or.inl ⟨by rfl, ?_⟩) hS ?_
          rotate_left
          · (intro W hSw; obtain ⟨hq1, hq2, hq3⟩ := hSw; go_simp; try with_reducible rfl)
          try simp only [List.getElem_toArray, List.getElem_cons_succ, List.getElem_cons_zero, Act.put, List.setIfInBounds_toArray, List.set_cons_zero, List.set_cons_succ]
          refine wpAnyH_take (i := 4) (v := ?_) rfl (by kernel_rfl) (by kernel_rfl) (by kernel_rfl) (fun _ _ _ h => h) (Or.inl ⟨by rfl, ?_⟩) hS ?_
          rotate_left
          · (intro W hSw; obtain ⟨hq1, hq2, hq3⟩ := hSw; go_simp; try with_reducible rfl)
          try simp only [List.getElem_toArray, List.getElem_cons_succ, List.getElem_cons_zero, Act.put, List.setIfInBounds_toArray, List.set_cons_zero, List.set_cons_succ]
          refine wpAnyH_call (k := 5) (by kernel_rfl) rfl rfl (f := 55) (args := #[.pointer (some ⟨pp, 0, none⟩), .int .u64 x1]) (by simp [execOp, go_sem, Act.eval, Act.put]) ?_
          refine (can_any HV.out x1 (by rw [← HNW.out]; exact hx1n) _ (HZ.out.2.2.later (Below.refl _ _).drew)).mono ?_
          rintro e Z1 ⟨rfl, hjk1, hk1⟩
          dsimp only
          have hk01 : Keeps (fun k => k = mp) Z Z1 := (Keeps.drew _ _).trans hk1
          have hS1 : SO jb ob g i pp x1 (onV xb fb jb ob) Z1 := ⟨(World.cell?_of_block (w := Z) (w' := Z1) (a := ⟨jb, 0, none⟩) (hk01.block jb (by omega) HOR.out.nj)).trans hS.1, (World.cell?_of_block (w := Z) (w' := Z1) (a := ⟨g, i, none⟩) (hk01.block g hgz (by omega))).trans hS.2.1, (World.cell?_of_block (w := Z) (w' := Z1) (a := ⟨ob, 0, none⟩) (hk01.block ob (by omega) HOR.out.no)).trans hS.2.2⟩
          have hrow1 : RowL g (putJ rs i nl) Z1 := HZ.out.1.block (hk01.block g hgz (by omega))
          have hkw1 : Keeps (fun k => k = mp) w Z1 := HKK.out.trans ((Keeps.of_below HZ.out.2.1 (fun k h1 h2 => absurd h2 (by omega))).trans hk01)
          have hs01 := hk01.size
          have H1 := Lib.hid (And.intro hrow1 (And.intro hjk1 hkw1))
          clear hk1 hk01 hrow1 hjk1 hkw1 hS
          refine ⟨hS1, ?_⟩
          have hS := hS1
          clear hS1
          try simp only [List.getElem_toArray, List.getElem_cons_succ, List.getElem_cons_zero, Act.put, List.setIfInBounds_toArray, List.set_cons_zero, List.set_cons_succ]
          cases hcan : canD j x1 with
          | false =>
            have hstep : stepO (canD j) most k rs l i = none := by
              unfold stepO
              rw [← HNL.out, ← HX1.out.1, hcan]; rfl
            have HST := Lib.hid hstep
            clear hstep hcan
            refine wpAnyH_take (i := 6) (v := ?_) rfl (by kernel_rfl) (by kernel_rfl) (by kernel_rfl) (fun _ _ _ h => h) (Or.inl ⟨by rfl, ?_⟩) hS ?_
            rotate_left
            · (intro W hSw; obtain ⟨hq1, hq2, hq3⟩ := hSw; go_simp; try with_reducible rfl)
            try simp only [List.getElem_toArray, List.getElem_cons_succ, List.getElem_cons_zero, Act.put, List.setIfInBounds_toArray, List.set_cons_zero, List.set_cons_succ]
            refine wpAnyH_take (i := 7) (v := undef) rfl (by kernel_rfl) (by kernel_rfl) (by kernel_rfl) (fun _ _ _ h => h) (.inr ⟨rfl, rfl⟩) hS ?_
            try simp only [List.getElem_toArray, List.getElem_cons_succ, List.getElem_cons_zero, Act.put, List.setIfInBounds_toArray, List.set_cons_zero, List.set_cons_succ]
            refine wpAnyH_take (i := 8) (v := undef) rfl (by kernel_rfl) (by kernel_rfl) (by kernel_rfl) (fun _ _ _ h => h) (.inr ⟨rfl, rfl⟩) hS ?_
            try simp only [List.getElem_toArray, List.getElem_cons_succ, List.getElem_cons_zero, Act.put, List.setIfInBounds_toArray, List.set_cons_zero, List.set_cons_succ]
            refine wpAnyH_take (i := 9) (v := undef) rfl (by kernel_rfl) (by kernel_rfl) (by kernel_rfl) (fun _ _ _ h => h) (.inr ⟨rfl, rfl⟩) hS ?_
            try simp only [List.getElem_toArray, List.getElem_cons_succ, List.getElem_cons_zero, Act.put, List.setIfInBounds_toArray, List.set_cons_zero, List.set_cons_succ]
            refine wpAnyH_take (i := 10) (v := undef) rfl (by kernel_rfl) (by kernel_rfl) (by kernel_rfl) (fun _ _ _ h => h) (.inr ⟨rfl, rfl⟩) hS ?_
            try simp only [List.getElem_toArray, List.getElem_cons_succ, List.getElem_cons_zero, Act.put, List.setIfInBounds_toArray, List.set_cons_zero, List.set_cons_succ]
            refine wpAnyH_take (i := 11) (v := undef) rfl (by kernel_rfl) (by kernel_rfl) (by kernel_rfl) (fun _ _ _ h => h) (.inr ⟨rfl, rfl⟩) hS ?_
            try simp only [List.getElem_toArray, List.getElem_cons_succ, List.getElem_cons_zero, Act.put, List.setIfInBounds_toArray, List.set_cons_zero, List.set_cons_succ]
            refine wpAnyH_take (i := 12) (v := undef) rfl (by kernel_rfl) (by kernel_rfl) (by kernel_rfl) (fun _ _ _ h => h) (.inr ⟨rfl, rfl⟩) hS ?_
            try simp only [List.getElem_toArray, List.getElem_cons_succ, List.getElem_cons_zero, Act.put, List.setIfInBounds_toArray, List.set_cons_zero, List.set_cons_succ]
            refine wpAnyH_take (i := 13) (v := undef) rfl (by kernel_rfl) (by kernel_rfl) (by kernel_rfl) (fun _ _ _ h => h) (.inr ⟨rfl, rfl⟩) hS ?_
            try simp only [List.getElem_toArray, List.getElem_cons_succ, List.getElem_cons_zero, Act.put, List.setIfInBounds_toArray, List.set_cons_zero, List.set_cons_succ]
            refine wpAnyH_take (i := 14) (v := undef) rfl (by kernel_rfl) (by kernel_rfl) (by kernel_rfl) (fun _ _ _ h => h) (.inr ⟨rfl, rfl⟩) hS ?_
            try simp only [List.getElem_toArray, List.getElem_cons_succ, List.getElem_cons_zero, Act.put, List.setIfInBounds_toArray, List.set_cons_zero, List.set_cons_succ]
            refine wpAnyH_take (i := 15) (v := undef) rfl (by kernel_rfl) (by kernel_rfl) (by kernel_rfl) (fun _ _ _ h => h) (.inr ⟨rfl, rfl⟩) hS ?_
            try simp only [List.getElem_toArray, List.getElem_cons_succ, List.getElem_cons_zero, Act.put, List.setIfInBounds_toArray, List.set_cons_zero, List.set_cons_succ]
            refine wpAnyH_take (i := 16) (v := ?_) rfl (by kernel_rfl) (by kernel_rfl) (by kernel_rfl) (fun _ _ _ h => h) (Or.inl ⟨by rfl, ?_⟩) hS ?_
            rotate_left
            · (intro W hSw; obtain ⟨hq1, hq2, hq3⟩ := hSw; go_simp; try with_reducible rfl)
            try simp only [List.getElem_toArray, List.getElem_cons_succ, List.getElem_cons_zero, Act.put, List.setIfInBounds_toArray, List.set_cons_zero, List.set_cons_succ]
            refine wpAnyH_done (by kernel_rfl) ?_ _
            try simp only [List.getElem_toArray, List.getElem_cons_succ, List.getElem_cons_zero, Act.put, List.setIfInBounds_toArray, List.set_cons_zero, List.set_cons_succ]
            clear hS
            go_wp2_with fail
            exact ⟨⟨i + 1, hlt, by push_cast; rfl, range_none _ _ HNO.out HST.out, H1.out.2.1.kept, H1.out.2.2⟩, by simp [intOf]; omega⟩
          | true =>
            have hstep : stepO (canD j) most k rs l i = onJ (canD j) most k (putJ rs i nl) (l ++ [i]) := by
              unfold stepO
              rw [← HNL.out, ← HX1.out.1, hcan]; rfl
            have HST := Lib.hid hstep
            clear hstep hcan
            refine wpAnyH_take (i := 6) (v := ?_) rfl (by kernel_rfl) (by kernel_rfl) (by kernel_rfl) (fun _ _ _ h => h) (Or.inl ⟨by rfl, ?_⟩) hS ?_
            rotate_left
            · (intro W hSw; obtain ⟨hq1, hq2, hq3⟩ := hSw; go_simp; try with_reducible rfl)
            try simp only [List.getElem_toArray, List.getElem_cons_succ, List.getElem_cons_zero, Act.put, List.setIfInBounds_toArray, List.set_cons_zero, List.set_cons_succ]
            refine wpAnyH_take (i := 7) (v := ?_) rfl (by kernel_rfl) (by kernel_rfl) (by kernel_rfl) (fun _ _ _ h => h) (Or.inl ⟨by rfl, ?_⟩) hS ?_
            rotate_left
            · (intro W hSw; obtain ⟨hq1, hq2, hq3⟩ := hSw; go_simp; try with_reducible rfl)
            try simp only [List.getElem_toArray, List.getElem_cons_succ, List.getElem_cons_zero, Act.put, List.setIfInBounds_toArray, List.set_cons_zero, List.set_cons_succ]
            refine wpAnyH_take (i := 8) (v := ?_) rfl (by kernel_rfl) (by kernel_rfl) (by kernel_rfl) (fun _ _ _ h => h) (Or.inl ⟨by rfl, ?_⟩) hS ?_
            rotate_left
            · (intro W hSw; obtain ⟨hq1, hq2, hq3⟩ := hSw; go_simp; try with_reducible rfl)
            try simp only [List.getElem_toArray, List.getElem_cons_succ, List.getElem_cons_zero, Act.put, List.setIfInBounds_toArray, List.set_cons_zero, List.set_cons_succ]
            refine wpAnyH_take (i := 9) (v := ?_) rfl (by kernel_rfl) (by kernel_rfl) (by kernel_rfl) (fun _ _ _ h => h) (Or.inl ⟨by rfl, ?_⟩) hS ?_
            rotate_left
            · (intro W hSw; obtain ⟨hq1, hq2, hq3⟩ := hSw; go_simp; try with_reducible rfl)
            try simp only [List.getElem_toArray, List.getElem_cons_succ, List.getElem_cons_zero, Act.put, List.setIfInBounds_toArray, List.set_cons_zero, List.set_cons_succ]
            refine wpAnyH_take (i := 10) (v := ?_) rfl (by kernel_rfl) (by kernel_rfl) (by kernel_rfl) (fun _ _ _ h => h) (Or.inl ⟨by rfl, ?_⟩) hS ?_
            rotate_left
            · (intro W hSw; obtain ⟨hq1, hq2, hq3⟩ := hSw; go_simp; try with_reducible rfl)
            try simp only [List.getElem_toArray, List.getElem_cons_succ, List.getElem_cons_zero, Act.put, List.setIfInBounds_toArray, List.set_cons_zero, List.set_cons_succ]
            refine wpAnyH_take (i := 12) (v := ?_) rfl (by kernel_rfl) (by kernel_rfl) (by kernel_rfl) (fun _ _ _ h => h) (Or.inl ⟨by rfl, ?_⟩) hS ?_
            rotate_left
            · (intro W hSw; obtain ⟨hq1, hq2, hq3⟩ := hSw; go_simp; try with_reducible rfl)
            try simp only [List.getElem_toArray, List.getElem_cons_succ, List.getElem_cons_zero, Act.put, List.setIfInBounds_toArray, List.set_cons_zero, List.set_cons_succ]
            refine wpAnyH_ready (rs := [11, 13]) (by kernel_rfl) (by simp) ?_
            refine AllReadyH.cons rfl (fun K hK => ?_) (AllReadyH.cons rfl (fun K hK => ?_) AllReadyH.nil)
            · skip
              go_simp
              go_at_call 56
              refine (cloneI_any (l.map fun s : Nat => (s : Int)) (.slice al nl cl) (fun k => k ≠ mp ∧ k ≠ fb) (by rw [List.length_map, ← HNL.out]; omega) (by intro h; exact HLN.out (List.map_eq_nil_iff.1 h)) _ (HLV.out.later H1.out.2.2.size (fun k h1 h2 => H1.out.2.2.block k h1 h2.1))).mono ?_
              rintro e Z2 ⟨⟨cv, rfl, hcv⟩, hb2⟩
              dsimp only
              rw [List.length_map, ← HNL.out] at hcv
              refine hK.out _ _ (hS.below hb2) (fun hS => ?_)
              clear hK K
              try simp only [List.getElem_toArray, List.getElem_cons_succ, List.getElem_cons_zero, Act.put, List.setIfInBounds_toArray, List.set_cons_zero, List.set_cons_succ]
              have hb2s := hb2.size
              refine wpAnyH_ready (rs := [13]) (by kernel_rfl) (by simp) ?_
              refine AllReadyH.cons rfl (fun K hK => ?_) AllReadyH.nil
              go_simp
              obtain ⟨Z3, hZ3⟩ : ∃ x, x = Z2.alloc (.cells #[.int .i64 i] 3) := ⟨_, rfl⟩
              rw [← hZ3]
              have hb3 : Below Z2.heap.size Z2 Z3 := by rw [hZ3]; exact Below.alloc' _ _
              have hn3 : Z3.heap[Z2.heap.size]? = some (.cells #[.int .i64 i] 3 (0, 0)) := by rw [hZ3]; exact heap_alloc_at _ _ _ rfl
              refine hK.out _ _ (hS.below hb3) (fun hS => ?_)
              clear hK K hZ3
              try simp only [List.getElem_toArray, List.getElem_cons_succ, List.getElem_cons_zero, Act.put, List.setIfInBounds_toArray, List.set_cons_zero, List.set_cons_succ]
              have hcv3 := own_block hcv (fun k e => hb3.block k (hcv.lt k e).2)
              have hbb3 : ∀ k, cv.ownBlock = some k → k ≠ Z2.heap.size := fun k e => by have := (hcv.lt k e).2; omega
              have hb13 := hb2.trans (hb3.mono hb2s)
              have HF := Lib.hid (And.intro hcv3 (And.intro hn3 (And.intro hbb3 hb13)))
              clear hcv hcv3 hn3 hbb3 hb13 hb2 hb3
              have hcvn := HF.out.1
              refine wpAnyH_oper (k := 14) (by kernel_rfl) rfl (by kernel_rfl) ?_
              refine wp_append_here (.tmp 60) (.tmp 62) 32 rfl Z1.heap.size 3 1 8 (.int .i64 0) underInts infoInt rfl (by decide) cv nl _ rfl hcvn ⟨Z2.heap.size, 0, none⟩ 1 1 [.int .i64 i] rfl rfl (news_block HF.out.2.1) (by simp [Value.oneCell']) (by omega) (by decide) (by have := HF.out.2.2.2.size; omega) ?_
              intro v7 V7 hown7 hg7 hat7
              have hk7 := keeps_grown hg7
              have hk7s := hk7.size
              have hV1s := HF.out.2.2.2.size
              have hobv : ∀ k, cv.ownBlock = some k → Z1.heap.size ≤ k := fun k e => by have := (hcvn.lt k e).1; omega
              have hk17 : Keeps (fun k => cv.ownBlock = some k) Z1 V7 := (Keeps.of_below HF.out.2.2.2 (fun k h1 h2 => absurd h2 (by omega))).trans hk7
              have hold : ∀ k, k < Z1.heap.size → V7.heap[k]? = Z1.heap[k]? := fun k h => hk17.block k h (fun e => by have := hobv k e; omega)
              have hS7 : SO jb ob g i pp x1 (onV xb fb jb ob) V7 := by
                have c1 := (World.cell?_of_block (w := Z3) (w' := V7) (a := ⟨jb, 0, none⟩) (hk7.block jb (by omega) (fun e => by have := hobv _ e; omega))).trans hS.1
                have c2 := (World.cell?_of_block (w := Z3) (w' := V7) (a := ⟨g, i, none⟩) (hk7.block g (by omega) (fun e => by have := hobv _ e; omega))).trans hS.2.1
                have c3 := (World.cell?_of_block (w := Z3) (w' := V7) (a := ⟨ob, 0, none⟩) (hk7.block ob (by omega) (fun e => by have := hobv _ e; omega))).trans hS.2.2
                exact ⟨c1, c2, c3⟩
              have hrow7 : RowL g (putJ rs i nl) V7 := H1.out.1.block (hold g (by omega))
              have hkw7 : Keeps (fun k => k = mp) w V7 := H1.out.2.2.transNew hk17 (fun k e => by have := hobv k e; have := H1.out.2.2.size; omega)
              have hkp7 : KeptJ j mp V7 := H1.out.2.1.kept.of (hold mp (by have := H1.out.2.1.kept.lt; omega))
              have ho7 := HO.out.keeps hkw7 hkp7
              have hset7 : SetsAt V7 (.slice (some ⟨g, 0, none⟩) nr oc) (putJ rs i nl) (fun k => k ≠ mp ∧ k ≠ fb) := by
                refine ⟨some ⟨g, 0, none⟩, oc, by rw [HX1.out.2.2], fun q hq => ⟨g, 0, rfl, ⟨by omega, by omega⟩, hrow7.lt, ?_⟩⟩
                rw [Nat.zero_add]
                exact hrow7.cell (List.getElem?_eq_getElem hq)
              have hlen7 : ((l ++ [i]).map fun s : Nat => (s : Int)).length = nl + 1 := by rw [List.length_map, List.length_append, ← HNL.out]; rfl
              have hnum7 : NumsAt V7 v7 ((l ++ [i]).map fun s : Nat => (s : Int)) (fun k => k ≠ mp ∧ k ≠ fb) := by
                refine (nums_of_own (n := nl + 1) (e := 3) (base := Z1.heap.size) hlen7.symm ?_).mono (fun k h => ⟨by omega, by omega⟩)
                rw [List.map_append, List.map_append]
                exact hown7
              obtain ⟨a7, c7, hv7, _⟩ := id hnum7
              rw [hlen7] at hv7
              subst hv7
              have hk7' := H1.out.2.2.size
              have H7 := Lib.hid (And.intro hset7 (And.intro hnum7 (And.intro ho7 (And.intro hkw7 hkp7))))
              have eg := enters_of (P := Tryd.prog) Tryd.func52 (by kernel_rfl) rfl
              clear hS hcvn hown7 hg7 hat7 hk7 hold hrow7 hkw7 hkp7 ho7 hset7 hlen7 hnum7 hk17 hobv HF
              refine ⟨hS7, ?_⟩
              have hS := hS7
              clear hS7
              try simp only [List.getElem_toArray, List.getElem_cons_succ, List.getElem_cons_zero, Act.put, List.setIfInBounds_toArray, List.set_cons_zero, List.set_cons_succ]
              refine wpAnyH_call (k := 15) (by kernel_rfl) rfl (by kernel_rfl) (f := 52) (args := #[.slice (some ⟨g, 0, none⟩) nr oc, .int .i64 most, .slice a7 (nl + 1) c7, .pointer (some ⟨xb, 0, none⟩), .pointer (some ⟨fb, 0, none⟩), .pointer (some ⟨jb, 0, none⟩), .pointer (some ⟨ob, 0, none⟩)]) (by simp [execOp, go_sem, Act.eval, Act.put, onV, eg]) ?_
              clear eg
              refine (HIH.out (putJ rs i nl) (l ++ [i]) (.slice (some ⟨g, 0, none⟩) nr oc) (.slice a7 (nl + 1) c7) V7 (by rw [List.length_append, ← HNL.out, ← HNW.out]; simp; omega) (by rw [HX1.out.2.2, List.length_append, ← HNL.out]; simp; omega) (by rw [← HNW.out]; exact HPN.out) (fun h => by have := HX1.out.2.2; rw [h] at this; simp at this <;> omega) (fun h => by simp at h) H7.out.1 H7.out.2.1 H7.out.2.2.1).mono ?_
              rintro e V8 hres8
              cases hz : onJ (canD j) most k (putJ rs i nl) (l ++ [i]) with
              | none =>
                rw [hz] at hres8
                obtain ⟨rfl, hkp8, hk8⟩ := hres8
                dsimp only
                have hS8 : SO jb ob g i pp x1 (onV xb fb jb ob) V8 := ⟨(World.cell?_of_block (w := V7) (w' := V8) (a := ⟨jb, 0, none⟩) (hk8.block jb (by omega) HO.out.nj)).trans hS.1, (World.cell?_of_block (w := V7) (w' := V8) (a := ⟨g, i, none⟩) (hk8.block g (by omega) (by omega))).trans hS.2.1, (World.cell?_of_block (w := V7) (w' := V8) (a := ⟨ob, 0, none⟩) (hk8.block ob (by omega) HO.out.no)).trans hS.2.2⟩
                have H8 := Lib.hid (And.intro hkp8 (H7.out.2.2.2.1.trans hk8))
                have HZZ := Lib.hid hz
                clear hkp8 hk8 hz hS
                refine ⟨hS8, ?_⟩
                have hS := hS8
                clear hS8
                try simp only [List.getElem_toArray, List.getElem_cons_succ, List.getElem_cons_zero, Act.put, List.setIfInBounds_toArray, List.set_cons_zero, List.set_cons_succ]
                refine wpAnyH_take (i := 16) (v := ?_) rfl (by kernel_rfl) (by kernel_rfl) (by kernel_rfl) (fun _ _ _ h => h) (Or.inl ⟨by rfl, ?_⟩) hS ?_
                rotate_left
                · (intro W hSw; obtain ⟨hq1, hq2, hq3⟩ := hSw; go_simp; try with_reducible rfl)
                try simp only [List.getElem_toArray, List.getElem_cons_succ, List.getElem_cons_zero, Act.put, List.setIfInBounds_toArray, List.set_cons_zero, List.set_cons_succ]
                refine wpAnyH_done (by kernel_rfl) ?_ _
                try simp only [List.getElem_toArray, List.getElem_cons_succ, List.getElem_cons_zero, Act.put, List.setIfInBounds_toArray, List.set_cons_zero, List.set_cons_succ]
                clear hS
                go_wp2_with fail
                exact ⟨⟨i + 1, hlt, by push_cast; rfl, range_none _ _ HNO.out (HST.out.trans HZZ.out), H8.out.1, H8.out.2⟩, by simp [intOf]; omega⟩
              | some l8 =>
                rw [hz] at hres8
                obtain ⟨rfl, hk8, v8, hf8, hn8⟩ := hres8
                dsimp only
                have hjf : jb ≠ fb := fun e => by obtain ⟨fv, hf⟩ := HO.out.hf; have := HO.out.hj; rw [e, hf] at this; simp at this
                have hof : ob ≠ fb := fun e => by obtain ⟨fv, hf⟩ := HO.out.hf; have := HO.out.ho; rw [e, hf] at this; simp at this
                have hS8 : SO jb ob g i pp x1 (onV xb fb jb ob) V8 := ⟨(World.cell?_of_block (w := V7) (w' := V8) (a := ⟨jb, 0, none⟩) (hk8.block jb (by omega) (fun h => h.elim HO.out.nj hjf))).trans hS.1, (World.cell?_of_block (w := V7) (w' := V8) (a := ⟨g, i, none⟩) (hk8.block g (by omega) (by omega))).trans hS.2.1, (World.cell?_of_block (w := V7) (w' := V8) (a := ⟨ob, 0, none⟩) (hk8.block ob (by omega) (fun h => h.elim HO.out.no hof))).trans hS.2.2⟩
                have hval : res = some l8 := by rw [HRES.out]; exact range_some _ _ _ hlt HNO.out _ (HST.out.trans hz)
                have H8 := Lib.hid (And.intro hf8 (And.intro hn8 (And.intro ((H7.out.2.2.2.1.mono (Mut' := fun k => k = mp ∨ k = fb) (fun _ _ h => .inl h)).trans hk8) hval)))
                clear hk8 hz hS hf8 hn8 hval hjf hof
                refine ⟨hS8, ?_⟩
                have hS := hS8
                clear hS8
                try simp only [List.getElem_toArray, List.getElem_cons_succ, List.getElem_cons_zero, Act.put, List.setIfInBounds_toArray, List.set_cons_zero, List.set_cons_succ]
                refine wpAnyH_take (i := 16) (v := ?_) rfl (by kernel_rfl) (by kernel_rfl) (by kernel_rfl) (fun _ _ _ h => h) (Or.inl ⟨by rfl, ?_⟩) hS ?_
                rotate_left
                · (intro W hSw; obtain ⟨hq1, hq2, hq3⟩ := hSw; go_simp; try with_reducible rfl)
                try simp only [List.getElem_toArray, List.getElem_cons_succ, List.getElem_cons_zero, Act.put, List.setIfInBounds_toArray, List.set_cons_zero, List.set_cons_succ]
                refine wpAnyH_done (by kernel_rfl) ?_ _
                try simp only [List.getElem_toArray, List.getElem_cons_succ, List.getElem_cons_zero, Act.put, List.setIfInBounds_toArray, List.set_cons_zero, List.set_cons_succ]
                clear hS
                go_wp2_with fail
                go_ret
                obtain ⟨hf8, hn8, hk8, hval⟩ := H8.out
                rw [hval]
                exact ⟨rfl, hk8, v8, hf8, hn8⟩
            · skip
              go_simp
              obtain ⟨Z2, hZ2⟩ : ∃ x, x = Z1.alloc (.cells #[.int .i64 i] 3) := ⟨_, rfl⟩
              rw [← hZ2]
              have hb3 : Below Z1.heap.size Z1 Z2 := by rw [hZ2]; exact Below.alloc' _ _
              have hn3 : Z2.heap[Z1.heap.size]? = some (.cells #[.int .i64 i] 3 (0, 0)) := by rw [hZ2]; exact heap_alloc_at _ _ _ rfl
              refine hK.out _ _ (hS.below hb3) (fun hS => ?_)
              clear hK K hZ2
              try simp only [List.getElem_toArray, List.getElem_cons_succ, List.getElem_cons_zero, Act.put, List.setIfInBounds_toArray, List.set_cons_zero, List.set_cons_succ]
              have hb2s := hb3.size
              have hb2 := hb3
              clear hb3
              refine wpAnyH_ready (rs := [11]) (by kernel_rfl) (by simp) ?_
              refine AllReadyH.cons rfl (fun K hK => ?_) AllReadyH.nil
              go_simp
              go_at_call 56
              refine (cloneI_any (l.map fun s : Nat => (s : Int)) (.slice al nl cl) (fun k => k ≠ mp ∧ k ≠ fb) (by rw [List.length_map, ← HNL.out]; omega) (by intro h; exact HLN.out (List.map_eq_nil_iff.1 h)) _ ((HLV.out.later H1.out.2.2.size (fun k h1 h2 => H1.out.2.2.block k h1 h2.1)).later hb2s (fun k h1 _ => hb2.block k h1))).mono ?_
              rintro e Z3 ⟨⟨cv, rfl, hcv⟩, hb3⟩
              dsimp only
              rw [List.length_map, ← HNL.out] at hcv
              refine hK.out _ _ (hS.below hb3) (fun hS => ?_)
              clear hK K
              try simp only [List.getElem_toArray, List.getElem_cons_succ, List.getElem_cons_zero, Act.put, List.setIfInBounds_toArray, List.set_cons_zero, List.set_cons_succ]
              have hn33 := (hb3.block _ (lt_of_block hn3)).trans hn3
              have hbb3 : ∀ k, cv.ownBlock = some k → k ≠ Z1.heap.size := fun k e => by have := (hcv.lt k e).1; have := lt_of_block hn3; omega
              have hb13 := hb2.trans (hb3.mono hb2s)
              have hb23s := hb3.size
              have HF := Lib.hid (And.intro hcv (And.intro hn33 (And.intro hbb3 hb13)))
              clear hcv hn3 hn33 hbb3 hb13 hb2 hb3
              have hcvn := HF.out.1
              refine wpAnyH_oper (k := 14) (by kernel_rfl) rfl (by kernel_rfl) ?_
              refine wp_append_here (.tmp 60) (.tmp 62) 32 rfl Z2.heap.size 3 1 8 (.int .i64 0) underInts infoInt rfl (by decide) cv nl _ rfl hcvn ⟨Z1.heap.size, 0, none⟩ 1 1 [.int .i64 i] rfl rfl (news_block HF.out.2.1) (by simp [Value.oneCell']) (by omega) (by decide) (by have := HF.out.2.2.2.size; omega) ?_
              intro v7 V7 hown7 hg7 hat7
              have hk7 := keeps_grown hg7
              have hk7s := hk7.size
              have hV1s := HF.out.2.2.2.size
              have hobv : ∀ k, cv.ownBlock = some k → Z1.heap.size ≤ k := fun k e => by have := (hcvn.lt k e).1; omega
              have hk17 : Keeps (fun k => cv.ownBlock = some k) Z1 V7 := (Keeps.of_below HF.out.2.2.2 (fun k h1 h2 => absurd h2 (by omega))).trans hk7
              have hold : ∀ k, k < Z1.heap.size → V7.heap[k]? = Z1.heap[k]? := fun k h => hk17.block k h (fun e => by have := hobv k e; omega)
              have hS7 : SO jb ob g i pp x1 (onV xb fb jb ob) V7 := by
                have c1 := (World.cell?_of_block (w := Z3) (w' := V7) (a := ⟨jb, 0, none⟩) (hk7.block jb (by omega) (fun e => by have := hobv _ e; omega))).trans hS.1
                have c2 := (World.cell?_of_block (w := Z3) (w' := V7) (a := ⟨g, i, none⟩) (hk7.block g (by omega) (fun e => by have := hobv _ e; omega))).trans hS.2.1
                have c3 := (World.cell?_of_block (w := Z3) (w' := V7) (a := ⟨ob, 0, none⟩) (hk7.block ob (by omega) (fun e => by have := hobv _ e; omega))).trans hS.2.2
                exact ⟨c1, c2, c3⟩
              have hrow7 : RowL g (putJ rs i nl) V7 := H1.out.1.block (hold g (by omega))
              have hkw7 : Keeps (fun k => k = mp) w V7 := H1.out.2.2.transNew hk17 (fun k e => by have := hobv k e; have := H1.out.2.2.size; omega)
              have hkp7 : KeptJ j mp V7 := H1.out.2.1.kept.of (hold mp (by have := H1.out.2.1.kept.lt; omega))
              have ho7 := HO.out.keeps hkw7 hkp7
              have hset7 : SetsAt V7 (.slice (some ⟨g, 0, none⟩) nr oc) (putJ rs i nl) (fun k => k ≠ mp ∧ k ≠ fb) := by
                refine ⟨some ⟨g, 0, none⟩, oc, by rw [HX1.out.2.2], fun q hq => ⟨g, 0, rfl, ⟨by omega, by omega⟩, hrow7.lt, ?_⟩⟩
                rw [Nat.zero_add]
                exact hrow7.cell (List.getElem?_eq_getElem hq)
              have hlen7 : ((l ++ [i]).map fun s : Nat => (s : Int)).length = nl + 1 := by rw [List.length_map, List.length_append, ← HNL.out]; rfl
              have hnum7 : NumsAt V7 v7 ((l ++ [i]).map fun s : Nat => (s : Int)) (fun k => k ≠ mp ∧ k ≠ fb) := by
                refine (nums_of_own (n := nl + 1) (e := 3) (base := Z2.heap.size) hlen7.symm ?_).mono (fun k h => ⟨by omega, by omega⟩)
                rw [List.map_append, List.map_append]
                exact hown7
              obtain ⟨a7, c7, hv7, _⟩ := id hnum7
              rw [hlen7] at hv7
              subst hv7
              have hk7' := H1.out.2.2.size
              have H7 := Lib.hid (And.intro hset7 (And.intro hnum7 (And.intro ho7 (And.intro hkw7 hkp7))))
              have eg := enters_of (P := Tryd.prog) Tryd.func52 (by kernel_rfl) rfl
              clear hS hcvn hown7 hg7 hat7 hk7 hold hrow7 hkw7 hkp7 ho7 hset7 hlen7 hnum7 hk17 hobv HF
              refine ⟨hS7, ?_⟩
              have hS := hS7
              clear hS7
              try simp only [List.getElem_toArray, List.getElem_cons_succ, List.getElem_cons_zero, Act.put, List.setIfInBounds_toArray, List.set_cons_zero, List.set_cons_succ]
              refine wpAnyH_call (k := 15) (by kernel_rfl) rfl (by kernel_rfl) (f := 52) (args := #[.slice (some ⟨g, 0, none⟩) nr oc, .int .i64 most, .slice a7 (nl + 1) c7, .pointer (some ⟨xb, 0, none⟩), .pointer (some ⟨fb, 0, none⟩), .pointer (some ⟨jb, 0, none⟩), .pointer (some ⟨ob, 0, none⟩)]) (by simp [execOp, go_sem, Act.eval, Act.put, onV, eg]) ?_
              clear eg
              refine (HIH.out (putJ rs i nl) (l ++ [i]) (.slice (some ⟨g, 0, none⟩) nr oc) (.slice a7 (nl + 1) c7) V7 (by rw [List.length_append, ← HNL.out, ← HNW.out]; simp; omega) (by rw [HX1.out.2.2, List.length_append, ← HNL.out]; simp; omega) (by rw [← HNW.out]; exact HPN.out) (fun h => by have := HX1.out.2.2; rw [h] at this; simp at this <;> omega) (fun h => by simp at h) H7.out.1 H7.out.2.1 H7.out.2.2.1).mono ?_
              rintro e V8 hres8
              cases hz : onJ (canD j) most k (putJ rs i nl) (l ++ [i]) with
              | none =>
                rw [hz] at hres8
                obtain ⟨rfl, hkp8, hk8⟩ := hres8
                dsimp only
                have hS8 : SO jb ob g i pp x1 (onV xb fb jb ob) V8 := ⟨(World.cell?_of_block (w := V7) (w' := V8) (a := ⟨jb, 0, none⟩) (hk8.block jb (by omega) HO.out.nj)).trans hS.1, (World.cell?_of_block (w := V7) (w' := V8) (a := ⟨g, i, none⟩) (hk8.block g (by omega) (by omega))).trans hS.2.1, (World.cell?_of_block (w := V7) (w' := V8) (a := ⟨ob, 0, none⟩) (hk8.block ob (by omega) HO.out.no)).trans hS.2.2⟩
                have H8 := Lib.hid (And.intro hkp8 (H7.out.2.2.2.1.trans hk8))
                have HZZ := Lib.hid hz
                clear hkp8 hk8 hz hS
                refine ⟨hS8, ?_⟩
                have hS := hS8
                clear hS8
                try simp only [List.getElem_toArray, List.getElem_cons_succ, List.getElem_cons_zero, Act.put, List.setIfInBounds_toArray, List.set_cons_zero, List.set_cons_succ]
                refine wpAnyH_take (i := 16) (v := ?_) rfl (by kernel_rfl) (by kernel_rfl) (by kernel_rfl) (fun _ _ _ h => h) (Or.inl ⟨by rfl, ?_⟩) hS ?_
                rotate_left
                · (intro W hSw; obtain ⟨hq1, hq2, hq3⟩ := hSw; go_simp; try with_reducible rfl)
                try simp only [List.getElem_toArray, List.getElem_cons_succ, List.getElem_cons_zero, Act.put, List.setIfInBounds_toArray, List.set_cons_zero, List.set_cons_succ]
                refine wpAnyH_done (by kernel_rfl) ?_ _
                try simp only [List.getElem_toArray, List.getElem_cons_succ, List.getElem_cons_zero, Act.put, List.setIfInBounds_toArray, List.set_cons_zero, List.set_cons_succ]
                clear hS
                go_wp2_with fail
                exact ⟨⟨i + 1, hlt, by push_cast; rfl, range_none _ _ HNO.out (HST.out.trans HZZ.out), H8.out.1, H8.out.2⟩, by simp [intOf]; omega⟩
              | some l8 =>
                rw [hz] at hres8
                obtain ⟨rfl, hk8, v8, hf8, hn8⟩ := hres8
                dsimp only
                have hjf : jb ≠ fb := fun e => by obtain ⟨fv, hf⟩ := HO.out.hf; have := HO.out.hj; rw [e, hf] at this; simp at this
                have hof : ob ≠ fb := fun e => by obtain ⟨fv, hf⟩ := HO.out.hf; have := HO.out.ho; rw [e, hf] at this; simp at this
                have hS8 : SO jb ob g i pp x1 (onV xb fb jb ob) V8 := ⟨(World.cell?_of_block (w := V7) (w' := V8) (a := ⟨jb, 0, none⟩) (hk8.block jb (by omega) (fun h => h.elim HO.out.nj hjf))).trans hS.1, (World.cell?_of_block (w := V7) (w' := V8) (a := ⟨g, i, none⟩) (hk8.block g (by omega) (by omega))).trans hS.2.1, (World.cell?_of_block (w := V7) (w' := V8) (a := ⟨ob, 0, none⟩) (hk8.block ob (by omega) (fun h => h.elim HO.out.no hof))).trans hS.2.2⟩
                have hval : res = some l8 := by rw [HRES.out]; exact range_some _ _ _ hlt HNO.out _ (HST.out.trans hz)
                have H8 := Lib.hid (And.intro hf8 (And.intro hn8 (And.intro ((H7.out.2.2.2.1.mono (Mut' := fun k => k = mp ∨ k = fb) (fun _ _ h => .inl h)).trans hk8) hval)))
                clear hk8 hz hS hf8 hn8 hval hjf hof
                refine ⟨hS8, ?_⟩
                have hS := hS8
                clear hS8
                try simp only [List.getElem_toArray, List.getElem_cons_succ, List.getElem_cons_zero, Act.put, List.setIfInBounds_toArray, List.set_cons_zero, List.set_cons_succ]
                refine wpAnyH_take (i := 16) (v := ?_) rfl (by kernel_rfl) (by kernel_rfl) (by kernel_rfl) (fun _ _ _ h => h) (Or.inl ⟨by rfl, ?_⟩) hS ?_
                rotate_left
                · (intro W hSw; obtain ⟨hq1, hq2, hq3⟩ := hSw; go_simp; try with_reducible rfl)
                try simp only [List.getElem_toArray, List.getElem_cons_succ, List.getElem_cons_zero, Act.put, List.setIfInBounds_toArray, List.set_cons_zero, List.set_cons_succ]
                refine wpAnyH_done (by kernel_rfl) ?_ _
                try simp only [List.getElem_toArray, List.getElem_cons_succ, List.getElem_cons_zero, Act.put, List.setIfInBounds_toArray, List.set_cons_zero, List.set_cons_succ]
                clear hS
                go_wp2_with fail
                go_ret
                obtain ⟨hf8, hn8, hk8, hval⟩ := H8.out
                rw [hval]
                exact ⟨rfl, hk8, v8, hf8, hn8⟩
      · obtain rfl : i = m := by omega
        have hlti : ¬ (i : Int) < (i : Int) := by omega
        have hval : res = none := by rw [HRES.out]; exact HNO.out
        have HVAL := Lib.hid hval
        clear hval
        go_wp2_with fail
        go_ret
        rw [HVAL.out]
        exact ⟨rfl, HKP.out, HKK.out⟩
end Go.Proofs.YtbmfphiecllggaaDoor
