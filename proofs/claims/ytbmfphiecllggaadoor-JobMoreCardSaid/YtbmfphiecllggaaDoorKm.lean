/- Texts Cc, Ce, Hw, Cd, Ck, Co, Ca in one file; each begins with a word on what it proves. -/
import Derived.Test.YtbmfphiecllggaaDoorKl
import Derived.Test.YtbmfphiecllggaaDoorKe
import Derived.Test.YtbmfphiecllggaaDoorKg

/- JobMore$1: how many blocks a plan has. -/
namespace Go.Proofs.YtbmfphiecllggaaDoor
set_option linter.unusedVariables false
set_option linter.unusedSimpArgs false
open Go.RowKit Go.Shelf
attribute [local go_sem] Oper.semAt_some

set_option maxRecDepth 100000 in
set_option maxHeartbeats 4000000 in
theorem msum_any (p : List Nat) (hp : ∀ s ∈ p, s < 256) (np c : Nat) (ap : Option Addr) (hl : np = p.length) (h4 : np ≤ 1000) (fb : Nat) (w : World) (hf : w.heap[fb]? = some (.cells #[.func (.func 24) #[] #[]] 47 (0, 0)))
    (hlv : NumsAt w (.slice ap np c) (p.map fun s : Nat => (s : Int)) (fun k => k < w.heap.size)) :
    Calls Tryd.prog 39 #[.slice ap np c, .pointer (some ⟨fb, 0, none⟩)] w fun e w' => e = .returned (.int .i64 (costJ 8 p : Nat)) ∧ w = w' := by
  have HL := Lib.hid hl
  have HP := Lib.hid hp
  have HLV := Lib.hid hlv
  have c0 : w.cell? ⟨fb, 0, none⟩ = some (.func (.func 24) #[] #[]) := by rw [cell_of_row _ _ _ _ _ _ hf]; rfl
  have eg := enters_of (P := Tryd.prog) Tryd.func24 (by kernel_rfl) rfl
  clear hl hp hlv hf
  go_enter Tryd.func39, Tryd.ntmps39
  go_wp2_with fail
  go_loopw [3, 8] (fun uv kv wr => ∃ k : Nat, k ≤ np ∧ kv = .int .i64 k ∧ uv = .int .i64 (costJ 8 (p.take k) : Nat) ∧ w = wr) (fun _ kv _ => np - (intOf kv).toNat)
  case atStart => exact ⟨0, Nat.zero_le _, rfl, rfl, rfl⟩
  case round =>
    obtain ⟨k, hk, rfl, rfl, hwr⟩ := hrel
    subst hwr
    have hcl := cost_le (p.take k) (fun s hs => HP.out s (List.mem_of_mem_take hs))
    have hcl2 : costJ 8 (p.take k) ≤ 8 * k := Nat.le_trans hcl (Nat.mul_le_mul_left 8 (List.length_take_le _ _))
    clear hcl
    by_cases hlt : k < np
    · obtain ⟨cs, hcs⟩ : ∃ x, x = costJ 8 (p.take k) := ⟨_, rfl⟩
      rw [← hcs] at hcl2 ⊢
      have hwk : IntKind.i64.wrap ((k : Int) + 1) = ((k + 1 : Nat) : Int) := by rw [IntWalk.i64_in _ (by omega)]; omega
      have hlti : (k : Int) < (np : Int) := by omega
      have hkp : k < p.length := by rw [← HL.out]; exact hlt
      obtain ⟨a9, c9, e9, _, _, hel⟩ := HLV.out
      rw [List.length_map, ← HL.out] at e9
      injection e9 with e1 e2 e3
      subst e1 e3
      clear e2
      obtain ⟨pb, po, rfl, _, _, e3⟩ := hel k (by rw [List.length_map]; exact hkp)
      rw [List.getElem_map] at e3
      obtain ⟨s, hs⟩ : ∃ x, x = p[k] := ⟨_, rfl⟩
      have hs256 : s < 256 := by rw [hs]; exact HP.out _ (List.getElem_mem hkp)
      rw [← hs] at e3
      have hun : costJ 8 (p.take (k + 1)) = cs + sizeJ 8 s := by rw [cost_take p k hkp, ← hcs, ← hs]
      have HUN := Lib.hid hun
      have hmx : max (0 : Int) (s : Int) = (s : Int) := by omega
      clear hcs hs hel hun
      go_wp2_with (first | (refine wpList_maxJ rfl (.const (.int .i64 0)) (.tmp 14) rfl rfl (0 : Int) (s : Int) _ rfl rfl hmx ?_))
      refine (r4size_any s hs256 _).mono ?_
      rintro e w' ⟨rfl, rfl⟩
      dsimp only
      have hz := size_le8 s hs256
      obtain ⟨z, hze⟩ : ∃ z, z = sizeJ 8 s := ⟨_, rfl⟩
      rw [← hze] at hz ⊢
      have HZ := Lib.hid hze
      have hwz : IntKind.i64.wrap ((cs : Int) + (z : Int)) = ((cs + z : Nat) : Int) := by rw [IntWalk.i64_in _ (by omega)]; omega
      clear hze hmx
      go_wp2_with fail
      exact ⟨⟨k + 1, hlt, by push_cast; rfl, by rw [HUN.out, ← HZ.out]; push_cast; rfl, trivial⟩, by simp [intOf]; omega⟩
    · have hkn : np = k := by omega
      subst hkn
      have hlti : ¬ (np : Int) < (np : Int) := by omega
      rw [show p.take np = p by rw [HL.out]; exact List.take_length]
      clear hcl2 hlt
      go_wp2_with fail
      go_ret
      exact ⟨rfl, rfl⟩
end Go.Proofs.YtbmfphiecllggaaDoor

/- Copies of lists of spans and of numbers: append([]T{}, l...). -/
namespace Go.Proofs.YtbmfphiecllggaaDoor
set_option linter.unusedVariables false
set_option linter.unusedSimpArgs false
open Go.RowKit Go.Shelf
attribute [local go_sem] Oper.semAt_some

def spM (s : Int × Int) : List Value := [.int .i64 s.1, .int .i64 s.2]
theorem spM_length : ∀ (l : List (Int × Int)), (l.flatMap spM).length = l.length * 2
  | [] => rfl
  | r :: l => by rw [List.flatMap_cons, List.length_append, spM_length l, List.length_cons]; simp [spM]; omega
theorem spM_ones (l : List (Int × Int)) : ∀ u ∈ l.flatMap spM, u.oneCell' = true := by
  intro u hu
  obtain ⟨s, _, hs⟩ := List.mem_flatMap.1 hu
  simp [spM] at hs
  rcases hs with rfl | rfl <;> rfl
theorem spM_at : ∀ (l : List (Int × Int)) (i q : Nat) (hi : i < l.length), q < 2 → (l.flatMap spM)[i * 2 + q]? = (spM l[i])[q]?
  | [], i, q, hi, _ => by simp at hi
  | r :: l, 0, q, _, hq => by
    rw [List.flatMap_cons, List.getElem?_append_left (by simp [spM]; omega)]
    simp
  | r :: l, i + 1, q, hi, hq => by
    have h5 : (spM r).length = 2 := rfl
    rw [List.flatMap_cons, List.getElem?_append_right (by rw [h5]; omega), h5, show (i + 1) * 2 + q - 2 = i * 2 + q by omega]
    simpa using spM_at l i q (by simpa using hi) hq
theorem own_emptyM {w : World} {base g : Nat} {e : TypeId} {size : Nat} (h : w.heap[g]? = some (.cells #[] e (0, 0))) (hb : base ≤ g) : w.ownsRow base e size (.slice (some ⟨g, 0, none⟩) 0 0) 0 [] :=
  ⟨by simp, .inr ⟨g, 0, #[], rfl, hb, h, Nat.le_refl _, by simp, by simp, by simp⟩⟩
theorem SpansAt.newsM {W : World} {ad : Addr} {cap : Nat} {l : List (Int × Int)} {Rd : Nat → Prop} (h : SpansAt W (.slice (some ad) l.length cap) l Rd) : ∀ (j : Nat) u, (l.flatMap spM)[j]? = some u → W.cell? (ad.add j) = some u := by
  intro j u hu
  have hj : j < l.length * 2 := by rw [← spM_length]; exact (List.getElem?_eq_some_iff.1 hu).1
  obtain ⟨ao, cap', h1, _, _, h4⟩ := h
  obtain ⟨b, off, e1, _, _, e2, e3⟩ := h4 (j / 2) (by omega)
  have e0 : some ad = ao := by injection h1
  rw [e1] at e0
  have e0 := Option.some.inj e0
  subst e0
  have hf := spM_at l (j / 2) (j % 2) (by omega) (by omega)
  rw [show j / 2 * 2 + j % 2 = j by omega, hu] at hf
  rw [show ((⟨b, off, none⟩ : Addr).add j) = ⟨b, off + j, none⟩ by simp [Addr.add]]
  rcases Nat.mod_two_eq_zero_or_one j with h0 | h0 <;> rw [h0] at hf <;> rw [hf]
  · rw [show off + j = off + j / 2 * 2 by omega, e2]; rfl
  · rw [show off + j = off + j / 2 * 2 + 1 by omega, e3]; rfl
theorem spans_of_ownM {w : World} {base : Nat} {e : TypeId} {v : Value} {l : List (Int × Int)} {n : Nat} (hn : n = l.length) (h : w.ownsRow base e 2 v n (l.flatMap spM)) : SpansAt w v l (fun k => base ≤ k) := by
  subst hn
  rcases h.2 with ⟨h1, h2⟩ | ⟨g, cap, cur, h1, h2, h3, h4, h5, _, _⟩
  · have : l = [] := by simpa using h2
    subst this
    exact ⟨none, 0, h1, by simp, by simp, fun i hi => absurd hi (by simp)⟩
  · subst h1
    refine ⟨_, cap, rfl, h4, h5, fun i hi => ⟨g, 0, rfl, h2, lt_of_block h3, ?_⟩⟩
    have hc : ∀ q, q < 2 → w.cell? ⟨g, 0 + i * 2 + q, none⟩ = (spM l[i])[q]? := fun q hq => by
      rw [Nat.zero_add, h.cellAt _ (by omega)]
      exact spM_at l i q hi hq
    exact ⟨hc 0 (by omega), hc 1 (by omega)⟩
theorem infoSpanM : (Tryd.prog.info? 24).map (fun i => (i.zero, i.size, i.bytes)) = some (some (.agg #[.int .i64 0, .int .i64 0]), 2, 16) := by kernel_rfl
/-- append([]Span{}, l...) -/
theorem wp_copy_spM {o : Oper} {a : Act} {K : Act → World → Prop} {Q : Exit → Act → World → Prop} {w : World} (s x : Operand)
    (ho : o.op = .call { callee := .builtin .append, args := #[s, x], argTypes := #[22, 22] })
    (base g : Nat) (hs : a.eval s = .slice (some ⟨g, 0, none⟩) 0 0) (hg : w.heap[g]? = some (.cells #[] 24 (0, 0))) (hbg : base ≤ g) (ao : Option Addr) (cap n : Nat) (l : List (Int × Int)) (hn : n = l.length) (hx : a.eval x = .slice ao n cap) (Rd : Nat → Prop) (hr : SpansAt w (.slice ao n cap) l Rd) (hl : n ≤ 1000) (hb : base ≤ w.heap.size)
    (h : ∀ v' w', w'.ownsRow base 24 2 v' n (l.flatMap spM) → w.grownBy w' (some g) → (v'.ownBlock = some g ∨ v'.ownBlock = some w.heap.size) → K (a.put o.dst v') w') : o.wp Tryd.prog a w K Q := by
  subst hn
  cases ao with
  | none =>
    have hnil : l = [] := by
      obtain ⟨ao', cap', h1, _, _, h4⟩ := hr
      rcases Nat.eq_zero_or_pos l.length with k | k
      · exact List.length_eq_zero_iff.1 k
      · obtain ⟨b, off, e1, _⟩ := h4 0 k
        have e0 : none = ao' := by injection h1
        rw [e1] at e0; cases e0
    subst hnil
    exact wp_append_nilJ s x _ ho 24 2 16 _ underSpansJ infoSpanM g 0 0 (Nat.le_refl _) hs _ hx (h _ _ (own_emptyM hg hbg) ⟨rfl, rfl, rfl, Nat.le_refl _, fun _ _ _ => rfl⟩ (.inl rfl))
  | some ad =>
    refine wp_append_here s x _ ho base 24 2 16 _ underSpansJ infoSpanM rfl (by decide) _ 0 [] hs (own_emptyM hg hbg) ad l.length cap (l.flatMap spM) hx (spM_length l) hr.newsM (spM_ones l) (by omega) (by decide) hb ?_
    intro v' w' h1 h2 h3
    rw [Nat.zero_add, List.nil_append] at h1
    exact h v' w' h1 h2 h3
/-- append([]int{}, l...) -/
theorem wp_copy_nuM {o : Oper} {a : Act} {K : Act → World → Prop} {Q : Exit → Act → World → Prop} {w : World} (s x : Operand)
    (ho : o.op = .call { callee := .builtin .append, args := #[s, x], argTypes := #[32, 32] })
    (base g : Nat) (hs : a.eval s = .slice (some ⟨g, 0, none⟩) 0 0) (hg : w.heap[g]? = some (.cells #[] 3 (0, 0))) (hbg : base ≤ g) (ao : Option Addr) (cap n : Nat) (l : List Int) (hn : n = l.length) (hx : a.eval x = .slice ao n cap) (Rd : Nat → Prop) (hr : NumsAt w (.slice ao n cap) l Rd) (hl : n ≤ 1000) (hb : base ≤ w.heap.size)
    (h : ∀ v' w', w'.ownsRow base 3 1 v' n (l.map (Value.int .i64)) → w.grownBy w' (some g) → (v'.ownBlock = some g ∨ v'.ownBlock = some w.heap.size) → K (a.put o.dst v') w') : o.wp Tryd.prog a w K Q := by
  subst hn
  obtain ⟨ao', cap', h1, _, _, h4⟩ := hr
  have e0 : ao = ao' := by injection h1
  subst e0
  cases ao with
  | none =>
    have hnil : l = [] := by
      rcases Nat.eq_zero_or_pos l.length with k | k
      · exact List.length_eq_zero_iff.1 k
      · obtain ⟨b, off, e1, _⟩ := h4 0 k
        cases e1
    subst hnil
    exact wp_append_nilJ s x _ ho 3 1 8 _ underInts infoInt g 0 0 (Nat.le_refl _) hs _ hx (h _ _ (own_emptyM hg hbg) ⟨rfl, rfl, rfl, Nat.le_refl _, fun _ _ _ => rfl⟩ (.inl rfl))
  | some ad =>
    refine wp_append_here s x _ ho base 3 1 8 _ underInts infoInt rfl (by decide) _ 0 [] hs (own_emptyM hg hbg) ad l.length cap (l.map (Value.int .i64)) hx (by simp) (fun k u hu => ?_) (fun u hu => ?_) (by omega) (by decide) hb ?_
    · obtain ⟨hk, rfl⟩ := List.getElem?_eq_some_iff.1 hu
      rw [List.length_map] at hk
      obtain ⟨b, off, e, _, _, hcell⟩ := h4 k hk
      injection e with e
      subst e
      rw [Addr.add_lit, List.getElem_map]
      exact hcell
    · obtain ⟨y, _, rfl⟩ := List.mem_map.1 hu; rfl
    · intro v' w' h1 h2 h3
      rw [Nat.zero_add, List.nil_append] at h1
      exact h v' w' h1 h2 h3
end Go.Proofs.YtbmfphiecllggaaDoor

/- General: a drawn region whose orders come together again. And what JobCheck asks, in plain words. -/
namespace Go.Proofs.YtbmfphiecllggaaDoor
set_option linter.unusedVariables false
set_option linter.unusedSimpArgs false
open Go.RowKit Go.Shelf

section
variable {P : Program} {ops : Array Oper} {md : Region.Mode} {S : World → Prop}
def PutAll (a : Act) : List (Option Nat) → List Value → Act
  | d :: ds, v :: vs => PutAll (a.put d v) ds vs
  | _, _ => a
/-- Behind a region: its values, and what holds of them and of the world. -/
def CutQ (ds : List (Option Nat)) (a : Act) (R : List Value → World → Prop) : Exit → Act → World → Prop :=
  fun e a' w' => e = .normal ∧ ∃ xs, a' = PutAll a ds xs ∧ R xs w'
theorem region_cut {id : Nat} {d : Bool} (ds : List (Option Nat)) (R : List Value → World → Prop) {Q : Exit → Act → World → Prop} {a : Act} {w : World} (h1 : (Code.region id ops d).wp P (CutQ ds a R) a w)
    (h2 : ∀ xs w', R xs w' → Q .normal (PutAll a ds xs) w') : (Code.region id ops d).wp P Q a w :=
  wp_mono h1 fun e a' w' h => by
    obtain ⟨rfl, xs, rfl, hr⟩ := h
    exact h2 xs w' hr
theorem wpOp_of {Q : Exit → Act → World → Prop} {i : Nat} {o : Oper} {K : Act → World → Prop} {a : Act} {w : World} (ho : ops[i]? = some o) (hg : Region.wanted o (yielded ops a.tmps) = true) (h : o.wp P a w K Q) : wpOp P ops Q i K a w := by
  unfold wpOp
  rw [ho]
  simp only [hg, if_true]
  exact .inl h
theorem oper_value {Q : Exit → Act → World → Prop} {o : Oper} {K : Act → World → Prop} {a : Act} {w w' : World} {v : Value} (hrun : (execOp a.eval o).run P w = .ok (.value v) w') (h : K (a.put o.dst v) w') : o.wp P a w K Q := by
  unfold Oper.wp
  rw [hrun]
  exact h
end

/-! ### what Check tells -/
end Go.Proofs.YtbmfphiecllggaaDoor

/- JobMore, walked: what the parts have in common. -/
namespace Go.Proofs.YtbmfphiecllggaaDoor
set_option linter.unusedVariables false
set_option linter.unusedSimpArgs false
open Go.RowKit Go.Shelf
attribute [local go_sem] Oper.semAt_some

/-- The text of JobMore behind its first statements, and with something else there. -/
def dropM : Nat → Code → Code
  | 0, c => c
  | n + 1, .seq _ b => dropM n b
  | _ + 1, _ => .skip
def cutM : Nat → Code → Code → Code
  | 0, _, t => t
  | n + 1, .seq a b, t => .seq a (cutM n b t)
  | _ + 1, c, _ => c
noncomputable def moreM (n : Nat) : Code := dropM n (Tryd.f10.body.getD .skip)
/-- What is read of a job. -/
def SMM (x : Nat) (v0 v3 : Value) (f1 f2 : Int) (Y : World) : Prop :=
  Y.cell? ⟨x, 0, none⟩ = some v0 ∧ Y.cell? ⟨x, 1, none⟩ = some (.int .i64 f1) ∧ Y.cell? ⟨x, 2, none⟩ = some (.int .i64 f2) ∧ Y.cell? ⟨x, 3, none⟩ = some v3
theorem oper_store {P : Program} {o : Oper} {a : Act} {w w' : World} {K : Act → World → Prop} {Q : Exit → Act → World → Prop} (ty : TypeId) (x y : Operand) (ho : o.op = .store ty x y) (p v : Value) (hx : a.eval x = p) (hy : a.eval y = v)
    (hrun : (Instr.storeAt ty p v).run P w = .ok () w') (h : K (a.put o.dst undef) w') : o.wp P a w K Q := by
  unfold Oper.wp execOp
  simp only [ho, hx, hy, Sem.run_bind, Sem.run_pure, Result.andThen_ok, hrun]
  exact h
theorem cells_setM {w : World} {g k : Nat} {v : Value} {row : Array Value} {t : TypeId} {fr : Nat × Nat} (h : w.heap[g]? = some (.cells row t fr)) : (w.setCell ⟨g, k, none⟩ v).heap[g]? = some (.cells (row.setIfInBounds k v) t fr) := by
  simp [World.setCell, Array.getElem?_modify, h]
theorem wp_cutM {P : Program} (n : Nat) {c t : Code} {Q : Exit → Act → World → Prop} {a : Act} {w : World} (h : c = cutM n c t) (hw : Code.wp P (cutM n c t) Q a w) : Code.wp P c Q a w := by rw [h]; exact hw
end Go.Proofs.YtbmfphiecllggaaDoor

/- JobMore, walked: the last two loops: no argument is changed. -/
namespace Go.Proofs.YtbmfphiecllggaaDoor
set_option linter.unusedVariables false
set_option linter.unusedSimpArgs false
open Go.RowKit Go.Shelf
attribute [local go_sem] Oper.semAt_some
set_option maxRecDepth 100000 in
set_option maxHeartbeats 8000000 in
theorem jm_l (j : JobD) (B nb nw cap cap2 k14 k15 : Nat) (ao ao2 a14 a15 : Option Addr) (fl fh : Int) (w : World) (hn8 : nb ≤ 8) (hn4 : nw ≤ 4)
    (hB : w.heap[B]? = some (.cells #[.slice ao nb cap, .int .i64 fl, .int .i64 fh, .slice ao2 nw cap2] 28 (0, 0)))
    (hnb : nb = j.st.bs.length) (hnw : nw = j.ws.length)
    (hbs : SpansAt w (.slice ao nb cap) j.st.bs (fun k => k < w.heap.size)) (hws : SpansAt w (.slice ao2 nw cap2) j.ws (fun k => k < w.heap.size))
    (h14 : SpansAt w (.slice a14 nb k14) j.st.bs (fun k => k < w.heap.size)) (h15 : SpansAt w (.slice a15 nw k15) j.ws (fun k => k < w.heap.size))
    (htz : TabZ w) (R : Ending → World → Prop) (hR : ∀ w', Below w.heap.size w w' → R (.returned (.bool true)) w') (u0 u1 u2 u3 u5 u6 u7 u8 u9 u10 u11 u12 u13 u16 u17 u18 u19 u20 u21 u22 u23 u24 u25 u26 u27 u28 u29 u30 u31 u32 u33 u34 u35 u36 u37 u38 u39 u40 u41 u42 u43 u44 u45 u46 u47 u48 u49 u50 u51 u52 u53 u54 u55 u56 u57 u58 u59 u60 u61 u62 u63 u64 u65 u66 u67 u68 u69 u70 u71 u72 u73 u74 u75 u76 u77 u78 u79 u80 u81 u82 u83 u84 u85 u86 u87 u88 u89 u90 u91 u92 u93 u94 u95 u96 u97 u98 u99 u100 u101 u102 u103 u104 u105 u106 u107 u108 u109 u110 u111 u112 u113 u114 u115 u116 u117 u118 u119 u120 u121 u122 u123 u124 u125 u126 u127 u128 u129 u130 u131 u132 u133 u134 u135 u136 u137 u138 u139 u140 u141 u142 u143 u144 u145 u146 u147 u148 u149 u150 u151 u152 u153 u154 u155 u156 u157 u158 u159 u160 u161 u162 u163 u164 u165 u166 u167 u168 u169 u170 u171 u172 u173 u174 u175 u176 u177 u178 u179 u180 u181 u182 u183 u184 u185 u186 u187 u188 u189 u190 u191 u192 u193 u194 u195 u196 u197 u198 u199 u200 u201 u202 u203 u204 u205 u206 u207 u208 u209 u210 u211 u212 u213 u214 u215 u216 u217 u218 u219 u220 u221 u222 u223 u224 u225 u226 u227 u228 u229 u230 u231 u232 u233 u234 u235 u236 u237 u238 u239 u240 u241 u242 u243 u244 u245 u246 u247 u248 u249 u250 u251 u252 u253 u254 u255 u256 u257 u258 u259 u260 u261 u262 u263 u264 u265 u266 u267 u268 u269 u270 u271 u272 u273 u274 u275 u276 u277 u278 u279 u280 u281 u282 u283 u284 u285 u286 u287 u288 u289 u290 u291 u292 u293 u294 u295 u296 u297 u298 u299 u300 u301 u302 u303 u304 u305 : Value) :
    Code.wp Tryd.prog (moreM 19) (bodyPost Tryd.prog Tryd.f10 R) ⟨#[u0, u1, u2, u3, .pointer (some ⟨B, 0, none⟩), u5, u6, u7, u8, u9, u10, u11, u12, u13, .slice a14 nb k14, .slice a15 nw k15, u16, u17, u18, u19, u20, u21, u22, u23, u24, u25, u26, u27, u28, u29, u30, u31, u32, u33, u34, u35, u36, u37, u38, u39, u40, u41, u42, u43, u44, u45, u46, u47, u48, u49, u50, u51, u52, u53, u54, u55, u56, u57, u58, u59, u60, u61, u62, u63, u64, u65, u66, u67, u68, u69, u70, u71, u72, u73, u74, u75, u76, u77, u78, u79, u80, u81, u82, u83, u84, u85, u86, u87, u88, u89, u90, u91, u92, u93, u94, u95, u96, u97, u98, u99, u100, u101, u102, u103, u104, u105, u106, u107, u108, u109, u110, u111, u112, u113, u114, u115, u116, u117, u118, u119, u120, u121, u122, u123, u124, u125, u126, u127, u128, u129, u130, u131, u132, u133, u134, u135, u136, u137, u138, u139, u140, u141, u142, u143, u144, u145, u146, u147, u148, u149, u150, u151, u152, u153, u154, u155, u156, u157, u158, u159, u160, u161, u162, u163, u164, u165, u166, u167, u168, u169, u170, u171, u172, u173, u174, u175, u176, u177, u178, u179, u180, u181, u182, u183, u184, u185, u186, u187, u188, u189, u190, u191, u192, u193, u194, u195, u196, u197, u198, u199, u200, u201, u202, u203, u204, u205, u206, u207, u208, u209, u210, u211, u212, u213, u214, u215, u216, u217, u218, u219, u220, u221, u222, u223, u224, u225, u226, u227, u228, u229, u230, u231, u232, u233, u234, u235, u236, u237, u238, u239, u240, u241, u242, u243, u244, u245, u246, u247, u248, u249, u250, u251, u252, u253, u254, u255, u256, u257, u258, u259, u260, u261, u262, u263, u264, u265, u266, u267, u268, u269, u270, u271, u272, u273, u274, u275, u276, u277, u278, u279, u280, u281, u282, u283, u284, u285, u286, u287, u288, u289, u290, u291, u292, u293, u294, u295, u296, u297, u298, u299, u300, u301, u302, u303, u304, u305, undef, undef, undef, undef, undef, undef, undef, undef, undef, undef, undef, undef, undef, undef, undef, undef, undef, undef, undef, undef, undef, undef, undef, undef, undef, undef, undef, undef, undef, undef, undef, undef, undef, undef], []⟩ w := by
  conv => arg 2; whnf
  have HJR := Lib.hid hB
  have HNB := Lib.hid hnb
  have HNW := Lib.hid hnw
  have HBS := Lib.hid hbs
  have HWS := Lib.hid hws
  have H14 := Lib.hid h14
  have H15 := Lib.hid h15
  have HTZ := Lib.hid htz
  have h1z := htz.lt
  have HRR := Lib.hid hR
  have HLT := Lib.hid (lt_of_block hB)
  clear hB hnb hnw hbs hws h14 h15 htz hR
  go_wp2_with fail
  go_loopw [308] (fun iv wr => ∃ i : Nat, i ≤ nb ∧ iv = .int .i64 i ∧ Below w.heap.size w wr) (fun iv _ => nb - (intOf iv).toNat)
  case atStart => exact ⟨0, Nat.zero_le _, rfl, Below.refl _ _⟩
  case round =>
    obtain ⟨i, hi, rfl, hb⟩ := hrel
    have HBwr := Lib.hid hb
    clear hb
    have q9 := (HBwr.out.block B HLT.out).trans HJR.out
    have c0 : wr.cell? ⟨B, 0, none⟩ = some (.slice ao nb cap) := by rw [cell_of_row _ _ _ _ _ _ q9]; rfl
    have c1 : wr.cell? ⟨B, 1, none⟩ = some (.int .i64 fl) := by rw [cell_of_row _ _ _ _ _ _ q9]; rfl
    have c2 : wr.cell? ⟨B, 2, none⟩ = some (.int .i64 fh) := by rw [cell_of_row _ _ _ _ _ _ q9]; rfl
    have c3 : wr.cell? ⟨B, 3, none⟩ = some (.slice ao2 nw cap2) := by rw [cell_of_row _ _ _ _ _ _ q9]; rfl
    clear q9
    by_cases hlt : i < nb
    · have hw : IntKind.i64.wrap ((i : Int) + 1) = ((i + 1 : Nat) : Int) := by rw [IntWalk.i64_in _ (by omega)]; omega
      have hlti : (i : Int) < (nb : Int) := by omega
      have hi0 : 0 ≤ (i : Int) := by omega
      obtain ⟨ae, ce, e1, _, _, e2⟩ := H14.out.later HBwr.out.size (fun k h1 _ => HBwr.out.block k h1)
      obtain ⟨b5, o5, e3, _, _, d1, d2⟩ := e2 i (by rw [← HNB.out]; exact hlt)
      injection e1 with e1 e0 e4
      subst e1 e4 e3
      clear e0
      obtain ⟨ae, ce, e1, _, _, e5⟩ := HBS.out.later HBwr.out.size (fun k h1 _ => HBwr.out.block k h1)
      obtain ⟨b6, o6, e3, _, _, d3, d4⟩ := e5 i (by rw [← HNB.out]; exact hlt)
      injection e1 with e1 e0 e4
      subst e1 e4 e3
      clear e0
      clear e2 e5
      obtain ⟨⟨x1, x2⟩, hx⟩ : ∃ x, x = j.st.bs[i]'(by rw [← HNB.out]; exact hlt) := ⟨_, rfl⟩
      rw [← hx] at d1 d2 d3 d4
      clear hx
      go_wp2_with fail
      go_quiet (fail)
      go_wp2_with fail
      exact ⟨⟨i + 1, hlt, by push_cast; rfl, ⟨HBwr.out.os, HBwr.out.tape, HBwr.out.output, HBwr.out.size, HBwr.out.block⟩⟩, by simp [intOf]; omega⟩
    · have hin : nb = i := by omega
      subst hin
      have hlti : ¬ (nb : Int) < (nb : Int) := by omega
      clear hlt hi c0 c1 c2 c3
      go_wp2_with fail
      have HBwq := Lib.hid HBwr.out
      clear HBwr
      obtain ⟨wq, hwq⟩ : ∃ W, W = wr := ⟨_, rfl⟩
      rw [← hwq] at HBwq ⊢
      clear hwq
      go_loopw [325] (fun iv wr => ∃ i : Nat, i ≤ nw ∧ iv = .int .i64 i ∧ Below w.heap.size w wr) (fun iv _ => nw - (intOf iv).toNat)
      case atStart => exact ⟨0, Nat.zero_le _, rfl, HBwq.out⟩
      case round =>
        obtain ⟨i, hi, rfl, hb⟩ := hrel
        have HBwr := Lib.hid hb
        clear hb
        have q9 := (HBwr.out.block B HLT.out).trans HJR.out
        have c0 : wr.cell? ⟨B, 0, none⟩ = some (.slice ao nb cap) := by rw [cell_of_row _ _ _ _ _ _ q9]; rfl
        have c1 : wr.cell? ⟨B, 1, none⟩ = some (.int .i64 fl) := by rw [cell_of_row _ _ _ _ _ _ q9]; rfl
        have c2 : wr.cell? ⟨B, 2, none⟩ = some (.int .i64 fh) := by rw [cell_of_row _ _ _ _ _ _ q9]; rfl
        have c3 : wr.cell? ⟨B, 3, none⟩ = some (.slice ao2 nw cap2) := by rw [cell_of_row _ _ _ _ _ _ q9]; rfl
        clear q9
        by_cases hlt : i < nw
        · have hw : IntKind.i64.wrap ((i : Int) + 1) = ((i + 1 : Nat) : Int) := by rw [IntWalk.i64_in _ (by omega)]; omega
          have hlti : (i : Int) < (nw : Int) := by omega
          have hi0 : 0 ≤ (i : Int) := by omega
          obtain ⟨ae, ce, e1, _, _, e2⟩ := H15.out.later HBwr.out.size (fun k h1 _ => HBwr.out.block k h1)
          obtain ⟨b5, o5, e3, _, _, d1, d2⟩ := e2 i (by rw [← HNW.out]; exact hlt)
          injection e1 with e1 e0 e4
          subst e1 e4 e3
          clear e0
          obtain ⟨ae, ce, e1, _, _, e5⟩ := HWS.out.later HBwr.out.size (fun k h1 _ => HBwr.out.block k h1)
          obtain ⟨b6, o6, e3, _, _, d3, d4⟩ := e5 i (by rw [← HNW.out]; exact hlt)
          injection e1 with e1 e0 e4
          subst e1 e4 e3
          clear e0
          clear e2 e5
          obtain ⟨⟨x1, x2⟩, hx⟩ : ∃ x, x = j.ws[i]'(by rw [← HNW.out]; exact hlt) := ⟨_, rfl⟩
          rw [← hx] at d1 d2 d3 d4
          clear hx
          go_wp2_with fail
          go_quiet (fail)
          go_wp2_with fail
          exact ⟨⟨i + 1, hlt, by push_cast; rfl, ⟨HBwr.out.os, HBwr.out.tape, HBwr.out.output, HBwr.out.size, HBwr.out.block⟩⟩, by simp [intOf]; omega⟩
        · have hin : nw = i := by omega
          subst hin
          have hlti : ¬ (nw : Int) < (nw : Int) := by omega
          clear hlt hi c0 c1 c2 c3
          go_wp2_with fail
          refine (lawake_any _ (HTZ.out.below HBwr.out h1z)).mono ?_
          rintro e w9 ⟨rfl, hb9⟩
          dsimp only
          have HB9 := Lib.hid (HBwr.out.trans (hb9.mono HBwr.out.size))
          clear hb9
          go_wp2_with fail
          exact HRR.out _ HB9.out
end Go.Proofs.YtbmfphiecllggaaDoor

/- JobMore, walked: the two regions that compare what is told of both jobs. -/
namespace Go.Proofs.YtbmfphiecllggaaDoor
set_option linter.unusedVariables false
set_option linter.unusedSimpArgs false
open Go.RowKit Go.Shelf
attribute [local go_sem] Oper.semAt_some
def findR (n : Nat) : Code → Option Code
  | .region id ops d => bif Nat.beq id n then some (.region id ops d) else none
  | .seq a b => match findR n a with
    | some c => some c
    | none => findR n b
  | .cond _ a b => match findR n a with
    | some c => some c
    | none => findR n b
  | .block _ b => findR n b
  | .loop b => findR n b
  | _ => none
noncomputable def regM (n : Nat) : Code := (findR n (moreM 18)).getD .skip
def Rcut (xs : (Nat → Value) → List Value) (w0 : World) (l : List Value) (Y : World) : Prop := ∃ f : Nat → Value, l = xs f ∧ Y = w0
theorem cutq {ds : List (Option Nat)} {a a' : Act} {w w0 : World} (xs : (Nat → Value) → List Value) (h : a' = PutAll a ds (xs fun i => a'.tmps.getD i undef)) (hw : w = w0) : CutQ ds a (Rcut xs w0) .normal a' w := ⟨rfl, _, h, _, rfl, hw⟩
def xs39 (f : Nat → Value) : List Value := [f 223, f 224, f 225, f 226, f 227, f 228, f 229, f 230, f 231, f 232, f 233, f 234, f 235, f 236, f 237, f 238, f 239, f 240, f 241, f 242, f 243, f 244, f 245, f 246, f 247, f 248, f 249, f 250, f 251, f 252, f 253, f 254, f 255, f 256, f 257, f 258, f 259, f 260, .bool false]
def xs41 (f : Nat → Value) : List Value := [f 262, f 263, f 264, f 265, f 266, f 267, f 268, f 269, f 270, f 271, f 272, f 273, f 274, f 275, f 276, f 277, f 278, f 279, f 280, f 281, f 282, f 283, f 284, f 285, f 286, f 287, f 288, f 289, f 290, f 291, f 292, f 293, f 294, f 295, f 296, f 297, f 298, f 299, f 300, f 301, f 302, f 303, .bool false]
set_option maxRecDepth 100000 in
set_option maxHeartbeats 8000000 in
theorem jm_39 (pl p2 rl r2 : List Nat) (fb np n33 nq n38 c20 c33 c27 c38 : Nat) (a20 a33 a27 a38 : Option Addr) (pe pe2 mb mb2 re re2 : Int) (w : World)
    (hf : w.heap[fb]? = some (.cells #[.func (.func 24) #[] #[]] 47 (0, 0)))
    (h1 : np = pl.length) (h2 : n33 = p2.length) (h3 : nq = rl.length) (h4 : n38 = r2.length) (s1 : np ≤ 4 ∧ ∀ s ∈ pl, s < 256) (s2 : n33 ≤ 4 ∧ ∀ s ∈ p2, s < 256) (s3 : rl.length ≤ 4 ∧ ∀ s ∈ rl, s ≤ 4) (s4 : r2.length ≤ 4 ∧ ∀ s ∈ r2, s ≤ 4)
    (v1 : NumsAt w (.slice a20 np c20) (pl.map fun s : Nat => (s : Int)) (fun k => k < w.heap.size)) (v2 : NumsAt w (.slice a33 n33 c33) (p2.map fun s : Nat => (s : Int)) (fun k => k < w.heap.size))
    (v3 : NumsAt w (.slice a27 nq c27) (rl.map fun s : Nat => (s : Int)) (fun k => k < w.heap.size)) (v4 : NumsAt w (.slice a38 n38 c38) (r2.map fun s : Nat => (s : Int)) (fun k => k < w.heap.size))
    (hm : mb ≤ mb2) (hp : pe = 0 → pe2 = 0 ∧ costJ 8 p2 ≤ costJ 8 pl) (hr : re = 0 → re2 = 0 ∧ numbersJ r2 ≤ numbersJ rl) (c : Code) (hc : c = regM 39) (u0 u1 u2 u3 u4 u5 u6 u7 u8 u9 u10 u11 u12 u13 u14 u15 u16 u18 u21 u22 u23 u25 u26 u29 u30 u31 u32 u36 u40 u41 u42 u43 u44 u45 u46 u47 u48 u49 u50 u51 u52 u53 u54 u55 u56 u57 u58 u59 u60 u61 u62 u63 u64 u65 u66 u67 u68 u69 u70 u71 u72 u73 u74 u75 u76 u77 u78 u79 u80 u81 u82 u83 u84 u85 u86 u87 u88 u89 u90 u91 u92 u93 u94 u95 u96 u97 u98 u99 u100 u101 u102 u103 u104 u105 u106 u107 u108 u109 u110 u111 u112 u113 u114 u115 u116 u117 u118 u119 u120 u121 u122 u123 u124 u125 u126 u127 u128 u129 u130 u131 u132 u133 u134 u135 u136 u137 u138 u139 u140 u141 u142 u143 u144 u145 u146 u147 u148 u149 u150 u151 u152 u153 u154 u155 u156 u157 u158 u159 u160 u161 u162 u163 u164 u165 u166 u167 u168 u169 u170 u171 u172 u173 u174 u175 u176 u177 u178 u179 u180 u181 u182 u183 u184 u185 u186 u187 u188 u189 u190 u191 u192 u193 u194 u195 u196 u197 u198 u199 u200 u201 u202 u203 u204 u205 u206 u207 u208 u209 u210 u211 u212 u213 u214 u215 u216 u217 u218 u219 u220 u221 u222 u223 u224 u225 u226 u227 u228 u229 u230 u231 u232 u233 u234 u235 u236 u237 u238 u239 u240 u241 u242 u243 u244 u245 u246 u247 u248 u249 u250 u251 u252 u253 u254 u255 u256 u257 u258 u259 u260 u261 u262 u263 u264 u265 u266 u267 u268 u269 u270 u271 u272 u273 u274 u275 u276 u277 u278 u279 u280 u281 u282 u283 u284 u285 u286 u287 u288 u289 u290 u291 u292 u293 u294 u295 u296 u297 u298 u299 u300 u301 u302 u303 u304 u305 u306 u307 u308 u309 u310 u311 u312 u313 u314 u315 u316 u317 u318 u319 u320 u321 u322 u323 u324 u325 u326 u327 u328 u329 u330 u331 u332 u333 u334 u335 u336 u337 u338 u339 : Value) :
    Code.wp Tryd.prog c (CutQ [some 223, some 224, some 225, some 226, some 227, some 228, some 229, some 230, some 231, some 232, some 233, some 234, some 235, some 236, some 237, some 238, some 239, some 240, some 241, some 242, some 243, some 244, some 245, some 246, some 247, some 248, some 249, some 250, some 251, some 252, some 253, some 254, some 255, some 256, some 257, some 258, some 259, some 260, some 261] ⟨#[u0, u1, u2, u3, u4, u5, u6, u7, u8, u9, u10, u11, u12, u13, u14, u15, u16, .func (.func 39) #[] #[.pointer (some ⟨fb, 0, none⟩)], u18, .int .i64 pe, .slice a20 np c20, u21, u22, u23, .int .i64 mb, u25, u26, .slice a27 nq c27, .int .i64 re, u29, u30, u31, u32, .slice a33 n33 c33, .int .i64 pe2, .int .i64 mb2, u36, .int .i64 0, .slice a38 n38 c38, .int .i64 re2, u40, u41, u42, u43, u44, u45, u46, u47, u48, u49, u50, u51, u52, u53, u54, u55, u56, u57, u58, u59, u60, u61, u62, u63, u64, u65, u66, u67, u68, u69, u70, u71, u72, u73, u74, u75, u76, u77, u78, u79, u80, u81, u82, u83, u84, u85, u86, u87, u88, u89, u90, u91, u92, u93, u94, u95, u96, u97, u98, u99, u100, u101, u102, u103, u104, u105, u106, u107, u108, u109, u110, u111, u112, u113, u114, u115, u116, u117, u118, u119, u120, u121, u122, u123, u124, u125, u126, u127, u128, u129, u130, u131, u132, u133, u134, u135, u136, u137, u138, u139, u140, u141, u142, u143, u144, u145, u146, u147, u148, u149, u150, u151, u152, u153, u154, u155, u156, u157, u158, u159, u160, u161, u162, u163, u164, u165, u166, u167, u168, u169, u170, u171, u172, u173, u174, u175, u176, u177, u178, u179, u180, u181, u182, u183, u184, u185, u186, u187, u188, u189, u190, u191, u192, u193, u194, u195, u196, u197, u198, u199, u200, u201, u202, u203, u204, u205, u206, u207, u208, u209, u210, u211, u212, u213, u214, u215, u216, u217, u218, u219, u220, u221, u222, u223, u224, u225, u226, u227, u228, u229, u230, u231, u232, u233, u234, u235, u236, u237, u238, u239, u240, u241, u242, u243, u244, u245, u246, u247, u248, u249, u250, u251, u252, u253, u254, u255, u256, u257, u258, u259, u260, u261, u262, u263, u264, u265, u266, u267, u268, u269, u270, u271, u272, u273, u274, u275, u276, u277, u278, u279, u280, u281, u282, u283, u284, u285, u286, u287, u288, u289, u290, u291, u292, u293, u294, u295, u296, u297, u298, u299, u300, u301, u302, u303, u304, u305, u306, u307, u308, u309, u310, u311, u312, u313, u314, u315, u316, u317, u318, u319, u320, u321, u322, u323, u324, u325, u326, u327, u328, u329, u330, u331, u332, u333, u334, u335, u336, u337, u338, u339], []⟩ (Rcut xs39 w))
      ⟨#[u0, u1, u2, u3, u4, u5, u6, u7, u8, u9, u10, u11, u12, u13, u14, u15, u16, .func (.func 39) #[] #[.pointer (some ⟨fb, 0, none⟩)], u18, .int .i64 pe, .slice a20 np c20, u21, u22, u23, .int .i64 mb, u25, u26, .slice a27 nq c27, .int .i64 re, u29, u30, u31, u32, .slice a33 n33 c33, .int .i64 pe2, .int .i64 mb2, u36, .int .i64 0, .slice a38 n38 c38, .int .i64 re2, u40, u41, u42, u43, u44, u45, u46, u47, u48, u49, u50, u51, u52, u53, u54, u55, u56, u57, u58, u59, u60, u61, u62, u63, u64, u65, u66, u67, u68, u69, u70, u71, u72, u73, u74, u75, u76, u77, u78, u79, u80, u81, u82, u83, u84, u85, u86, u87, u88, u89, u90, u91, u92, u93, u94, u95, u96, u97, u98, u99, u100, u101, u102, u103, u104, u105, u106, u107, u108, u109, u110, u111, u112, u113, u114, u115, u116, u117, u118, u119, u120, u121, u122, u123, u124, u125, u126, u127, u128, u129, u130, u131, u132, u133, u134, u135, u136, u137, u138, u139, u140, u141, u142, u143, u144, u145, u146, u147, u148, u149, u150, u151, u152, u153, u154, u155, u156, u157, u158, u159, u160, u161, u162, u163, u164, u165, u166, u167, u168, u169, u170, u171, u172, u173, u174, u175, u176, u177, u178, u179, u180, u181, u182, u183, u184, u185, u186, u187, u188, u189, u190, u191, u192, u193, u194, u195, u196, u197, u198, u199, u200, u201, u202, u203, u204, u205, u206, u207, u208, u209, u210, u211, u212, u213, u214, u215, u216, u217, u218, u219, u220, u221, u222, u223, u224, u225, u226, u227, u228, u229, u230, u231, u232, u233, u234, u235, u236, u237, u238, u239, u240, u241, u242, u243, u244, u245, u246, u247, u248, u249, u250, u251, u252, u253, u254, u255, u256, u257, u258, u259, u260, u261, u262, u263, u264, u265, u266, u267, u268, u269, u270, u271, u272, u273, u274, u275, u276, u277, u278, u279, u280, u281, u282, u283, u284, u285, u286, u287, u288, u289, u290, u291, u292, u293, u294, u295, u296, u297, u298, u299, u300, u301, u302, u303, u304, u305, u306, u307, u308, u309, u310, u311, u312, u313, u314, u315, u316, u317, u318, u319, u320, u321, u322, u323, u324, u325, u326, u327, u328, u329, u330, u331, u332, u333, u334, u335, u336, u337, u338, u339], []⟩ w := by
  subst hc
  conv => arg 2; whnf
  have hm2 : ¬ mb2 < mb := by omega
  have HF := Lib.hid hf
  have H1 := Lib.hid h1
  have H2 := Lib.hid h2
  have H3 := Lib.hid h3
  have H4 := Lib.hid h4
  have S1 := Lib.hid s1
  have S2 := Lib.hid s2
  have S3 := Lib.hid s3
  have S4 := Lib.hid s4
  have V1 := Lib.hid v1
  have V2 := Lib.hid v2
  have V3 := Lib.hid v3
  have V4 := Lib.hid v4
  have HP := Lib.hid hp
  have HR := Lib.hid hr
  clear hf h1 h2 h3 h4 s1 s2 s3 s4 v1 v2 v3 v4 hp hr hm
  by_cases h0 : pe = 0
  · subst h0
    obtain ⟨hp2, hle⟩ := HP.out rfl
    subst hp2
    clear HP
    obtain ⟨x2, hx2⟩ : ∃ x, x = costJ 8 p2 := ⟨_, rfl⟩
    obtain ⟨x1, hx1⟩ : ∃ x, x = costJ 8 pl := ⟨_, rfl⟩
    rw [← hx2, ← hx1] at hle
    have HX := Lib.hid (And.intro hx2 hx1)
    have hg : ¬ x1 < x2 := by omega
    clear hle hx1 hx2
    by_cases k0 : re = 0
    · subst k0
      obtain ⟨hr2, hle2⟩ := HR.out rfl
      subst hr2
      clear HR
      obtain ⟨x4, hx4⟩ : ∃ x, x = numbersJ r2 := ⟨_, rfl⟩
      obtain ⟨x3, hx3⟩ : ∃ x, x = numbersJ rl := ⟨_, rfl⟩
      rw [← hx4, ← hx3] at hle2
      have HN := Lib.hid (And.intro hx4 hx3)
      have hg2 : ¬ x3 < x4 := by omega
      clear hle2 hx3 hx4
      go_wp2_with fail
      refine (msum_any p2 S2.out.2 n33 c33 a33 H2.out (by have := S2.out.1; omega) fb w HF.out V2.out).mono ?_
      rintro e w' ⟨rfl, rfl⟩
      dsimp only
      rw [← HX.out.1]
      go_wp2_with fail
      refine (msum_any pl S1.out.2 np c20 a20 H1.out (by have := S1.out.1; omega) fb w HF.out V1.out).mono ?_
      rintro e w' ⟨rfl, rfl⟩
      dsimp only
      rw [← HX.out.2]
      go_wp2_with fail
      refine (r12numbers_any r2 (.slice a38 n38 c38) _ (by have := S4.out.1; omega) (fun x hx => by have := S4.out.2 x hx; omega) w V4.out).mono ?_
      rintro e w' ⟨rfl, rfl⟩
      dsimp only
      rw [← HN.out.1]
      go_wp2_with fail
      refine (r12numbers_any rl (.slice a27 nq c27) _ (by have := S3.out.1; omega) (fun x hx => by have := S3.out.2 x hx; omega) w V3.out).mono ?_
      rintro e w' ⟨rfl, rfl⟩
      dsimp only
      rw [← HN.out.2]
      go_wp2_with fail
      exact cutq _ (by kernel_rfl) rfl
    · have hk0 : (re == 0) = false := by rw [beq_eq_false_iff_ne]; exact k0
      clear HR
      go_wp2_with fail
      refine (msum_any p2 S2.out.2 n33 c33 a33 H2.out (by have := S2.out.1; omega) fb w HF.out V2.out).mono ?_
      rintro e w' ⟨rfl, rfl⟩
      dsimp only
      rw [← HX.out.1]
      go_wp2_with fail
      refine (msum_any pl S1.out.2 np c20 a20 H1.out (by have := S1.out.1; omega) fb w HF.out V1.out).mono ?_
      rintro e w' ⟨rfl, rfl⟩
      dsimp only
      rw [← HX.out.2]
      go_wp2_with fail
      exact cutq _ (by kernel_rfl) rfl
  · have hh0 : (pe == 0) = false := by rw [beq_eq_false_iff_ne]; exact h0
    clear HP
    by_cases k0 : re = 0
    · subst k0
      obtain ⟨hr2, hle2⟩ := HR.out rfl
      subst hr2
      clear HR
      obtain ⟨x4, hx4⟩ : ∃ x, x = numbersJ r2 := ⟨_, rfl⟩
      obtain ⟨x3, hx3⟩ : ∃ x, x = numbersJ rl := ⟨_, rfl⟩
      rw [← hx4, ← hx3] at hle2
      have HN := Lib.hid (And.intro hx4 hx3)
      have hg2 : ¬ x3 < x4 := by omega
      clear hle2 hx3 hx4
      go_wp2_with fail
      refine (r12numbers_any r2 (.slice a38 n38 c38) _ (by have := S4.out.1; omega) (fun x hx => by have := S4.out.2 x hx; omega) w V4.out).mono ?_
      rintro e w' ⟨rfl, rfl⟩
      dsimp only
      rw [← HN.out.1]
      go_wp2_with fail
      refine (r12numbers_any rl (.slice a27 nq c27) _ (by have := S3.out.1; omega) (fun x hx => by have := S3.out.2 x hx; omega) w V3.out).mono ?_
      rintro e w' ⟨rfl, rfl⟩
      dsimp only
      rw [← HN.out.2]
      go_wp2_with fail
      exact cutq _ (by kernel_rfl) rfl
    · have hk0 : (re == 0) = false := by rw [beq_eq_false_iff_ne]; exact k0
      clear HR
      go_wp2_with fail
      exact cutq _ (by kernel_rfl) rfl
set_option maxRecDepth 100000 in
set_option maxHeartbeats 8000000 in
theorem jm_41 (pl p2 rl r2 : List Nat) (fb np n33 nq n38 c20 c33 c27 c38 : Nat) (a20 a33 a27 a38 : Option Addr) (pe mb re l1 l2 : Int) (w : World)
    (hf : w.heap[fb]? = some (.cells #[.func (.func 24) #[] #[]] 47 (0, 0)))
    (h1 : np = pl.length) (h2 : n33 = p2.length) (h3 : nq = rl.length) (h4 : n38 = r2.length) (s1 : np ≤ 4 ∧ ∀ s ∈ pl, s < 256) (s2 : n33 ≤ 4 ∧ ∀ s ∈ p2, s < 256) (s3 : rl.length ≤ 4 ∧ ∀ s ∈ rl, s ≤ 4) (s4 : r2.length ≤ 4 ∧ ∀ s ∈ r2, s ≤ 4)
    (v1 : NumsAt w (.slice a20 np c20) (pl.map fun s : Nat => (s : Int)) (fun k => k < w.heap.size)) (v2 : NumsAt w (.slice a33 n33 c33) (p2.map fun s : Nat => (s : Int)) (fun k => k < w.heap.size))
    (v3 : NumsAt w (.slice a27 nq c27) (rl.map fun s : Nat => (s : Int)) (fun k => k < w.heap.size)) (v4 : NumsAt w (.slice a38 n38 c38) (r2.map fun s : Nat => (s : Int)) (fun k => k < w.heap.size))
    (hp : costJ 8 p2 = costJ 8 pl) (hr : numbersJ r2 = numbersJ rl) (k : Nat) (hk : k = 1) (c : Code) (hc : c = regM 41) (u0 u1 u2 u3 u4 u5 u6 u7 u8 u9 u10 u11 u12 u13 u14 u15 u16 u18 u21 u22 u23 u25 u26 u32 u36 u37 u42 u43 u44 u45 u46 u47 u48 u49 u50 u51 u52 u53 u54 u55 u56 u57 u58 u59 u60 u61 u62 u63 u64 u65 u66 u67 u68 u69 u70 u71 u72 u73 u74 u75 u76 u77 u78 u79 u80 u81 u82 u83 u84 u85 u86 u87 u88 u89 u90 u91 u92 u93 u94 u95 u96 u97 u98 u99 u100 u101 u102 u103 u104 u105 u106 u107 u108 u109 u110 u111 u112 u113 u114 u115 u116 u117 u118 u119 u120 u121 u122 u123 u124 u125 u126 u127 u128 u129 u130 u131 u132 u133 u134 u135 u136 u137 u138 u139 u140 u141 u142 u143 u144 u145 u146 u147 u148 u149 u150 u151 u152 u153 u154 u155 u156 u157 u158 u159 u160 u161 u162 u163 u164 u165 u166 u167 u168 u169 u170 u171 u172 u173 u174 u175 u176 u177 u178 u179 u180 u181 u182 u183 u184 u185 u186 u187 u188 u189 u190 u191 u192 u193 u194 u195 u196 u197 u198 u199 u200 u201 u202 u203 u204 u205 u206 u207 u208 u209 u210 u211 u212 u213 u214 u215 u216 u217 u218 u219 u220 u221 u222 u223 u224 u225 u226 u227 u228 u229 u230 u231 u232 u233 u234 u235 u236 u237 u238 u239 u240 u241 u242 u243 u244 u245 u246 u247 u248 u249 u250 u251 u252 u253 u254 u255 u256 u257 u258 u259 u260 u261 u262 u263 u264 u265 u266 u267 u268 u269 u270 u271 u272 u273 u274 u275 u276 u277 u278 u279 u280 u281 u282 u283 u284 u285 u286 u287 u288 u289 u290 u291 u292 u293 u294 u295 u296 u297 u298 u299 u300 u301 u302 u303 u304 u305 u306 u307 u308 u309 u310 u311 u312 u313 u314 u315 u316 u317 u318 u319 u320 u321 u322 u323 u324 u325 u326 u327 u328 u329 u330 u331 u332 u333 u334 u335 u336 u337 u338 u339 : Value) :
    Code.wp Tryd.prog c (CutQ [some 262, some 263, some 264, some 265, some 266, some 267, some 268, some 269, some 270, some 271, some 272, some 273, some 274, some 275, some 276, some 277, some 278, some 279, some 280, some 281, some 282, some 283, some 284, some 285, some 286, some 287, some 288, some 289, some 290, some 291, some 292, some 293, some 294, some 295, some 296, some 297, some 298, some 299, some 300, some 301, some 302, some 303, some 304] ⟨#[u0, u1, u2, u3, u4, u5, u6, u7, u8, u9, u10, u11, u12, u13, u14, u15, u16, .func (.func 39) #[] #[.pointer (some ⟨fb, 0, none⟩)], u18, .int .i64 pe, .slice a20 np c20, u21, u22, u23, .int .i64 mb, u25, u26, .slice a27 nq c27, .int .i64 re, .int .i64 l1, .int .i64 l2, .int .i64 (k : Int), u32, .slice a33 n33 c33, .int .i64 pe, .int .i64 mb, u36, u37, .slice a38 n38 c38, .int .i64 re, .int .i64 l1, .int .i64 l2, u42, u43, u44, u45, u46, u47, u48, u49, u50, u51, u52, u53, u54, u55, u56, u57, u58, u59, u60, u61, u62, u63, u64, u65, u66, u67, u68, u69, u70, u71, u72, u73, u74, u75, u76, u77, u78, u79, u80, u81, u82, u83, u84, u85, u86, u87, u88, u89, u90, u91, u92, u93, u94, u95, u96, u97, u98, u99, u100, u101, u102, u103, u104, u105, u106, u107, u108, u109, u110, u111, u112, u113, u114, u115, u116, u117, u118, u119, u120, u121, u122, u123, u124, u125, u126, u127, u128, u129, u130, u131, u132, u133, u134, u135, u136, u137, u138, u139, u140, u141, u142, u143, u144, u145, u146, u147, u148, u149, u150, u151, u152, u153, u154, u155, u156, u157, u158, u159, u160, u161, u162, u163, u164, u165, u166, u167, u168, u169, u170, u171, u172, u173, u174, u175, u176, u177, u178, u179, u180, u181, u182, u183, u184, u185, u186, u187, u188, u189, u190, u191, u192, u193, u194, u195, u196, u197, u198, u199, u200, u201, u202, u203, u204, u205, u206, u207, u208, u209, u210, u211, u212, u213, u214, u215, u216, u217, u218, u219, u220, u221, u222, u223, u224, u225, u226, u227, u228, u229, u230, u231, u232, u233, u234, u235, u236, u237, u238, u239, u240, u241, u242, u243, u244, u245, u246, u247, u248, u249, u250, u251, u252, u253, u254, u255, u256, u257, u258, u259, u260, u261, u262, u263, u264, u265, u266, u267, u268, u269, u270, u271, u272, u273, u274, u275, u276, u277, u278, u279, u280, u281, u282, u283, u284, u285, u286, u287, u288, u289, u290, u291, u292, u293, u294, u295, u296, u297, u298, u299, u300, u301, u302, u303, u304, u305, u306, u307, u308, u309, u310, u311, u312, u313, u314, u315, u316, u317, u318, u319, u320, u321, u322, u323, u324, u325, u326, u327, u328, u329, u330, u331, u332, u333, u334, u335, u336, u337, u338, u339], []⟩ (Rcut xs41 w))
      ⟨#[u0, u1, u2, u3, u4, u5, u6, u7, u8, u9, u10, u11, u12, u13, u14, u15, u16, .func (.func 39) #[] #[.pointer (some ⟨fb, 0, none⟩)], u18, .int .i64 pe, .slice a20 np c20, u21, u22, u23, .int .i64 mb, u25, u26, .slice a27 nq c27, .int .i64 re, .int .i64 l1, .int .i64 l2, .int .i64 (k : Int), u32, .slice a33 n33 c33, .int .i64 pe, .int .i64 mb, u36, u37, .slice a38 n38 c38, .int .i64 re, .int .i64 l1, .int .i64 l2, u42, u43, u44, u45, u46, u47, u48, u49, u50, u51, u52, u53, u54, u55, u56, u57, u58, u59, u60, u61, u62, u63, u64, u65, u66, u67, u68, u69, u70, u71, u72, u73, u74, u75, u76, u77, u78, u79, u80, u81, u82, u83, u84, u85, u86, u87, u88, u89, u90, u91, u92, u93, u94, u95, u96, u97, u98, u99, u100, u101, u102, u103, u104, u105, u106, u107, u108, u109, u110, u111, u112, u113, u114, u115, u116, u117, u118, u119, u120, u121, u122, u123, u124, u125, u126, u127, u128, u129, u130, u131, u132, u133, u134, u135, u136, u137, u138, u139, u140, u141, u142, u143, u144, u145, u146, u147, u148, u149, u150, u151, u152, u153, u154, u155, u156, u157, u158, u159, u160, u161, u162, u163, u164, u165, u166, u167, u168, u169, u170, u171, u172, u173, u174, u175, u176, u177, u178, u179, u180, u181, u182, u183, u184, u185, u186, u187, u188, u189, u190, u191, u192, u193, u194, u195, u196, u197, u198, u199, u200, u201, u202, u203, u204, u205, u206, u207, u208, u209, u210, u211, u212, u213, u214, u215, u216, u217, u218, u219, u220, u221, u222, u223, u224, u225, u226, u227, u228, u229, u230, u231, u232, u233, u234, u235, u236, u237, u238, u239, u240, u241, u242, u243, u244, u245, u246, u247, u248, u249, u250, u251, u252, u253, u254, u255, u256, u257, u258, u259, u260, u261, u262, u263, u264, u265, u266, u267, u268, u269, u270, u271, u272, u273, u274, u275, u276, u277, u278, u279, u280, u281, u282, u283, u284, u285, u286, u287, u288, u289, u290, u291, u292, u293, u294, u295, u296, u297, u298, u299, u300, u301, u302, u303, u304, u305, u306, u307, u308, u309, u310, u311, u312, u313, u314, u315, u316, u317, u318, u319, u320, u321, u322, u323, u324, u325, u326, u327, u328, u329, u330, u331, u332, u333, u334, u335, u336, u337, u338, u339], []⟩ w := by
  subst hc
  conv => arg 2; whnf
  have hk1 : ((k : Int) == 1) = true := by rw [beq_iff_eq]; omega
  clear hk
  obtain ⟨x1, hx1⟩ : ∃ x, x = costJ 8 pl := ⟨_, rfl⟩
  obtain ⟨x3, hx3⟩ : ∃ x, x = numbersJ rl := ⟨_, rfl⟩
  rw [← hx1] at hp
  rw [← hx3] at hr
  have HX := Lib.hid (And.intro hp hx1.symm)
  have HN := Lib.hid (And.intro hr hx3.symm)
  have HF := Lib.hid hf
  have H1 := Lib.hid h1
  have H2 := Lib.hid h2
  have H3 := Lib.hid h3
  have H4 := Lib.hid h4
  have S1 := Lib.hid s1
  have S2 := Lib.hid s2
  have S3 := Lib.hid s3
  have S4 := Lib.hid s4
  have V1 := Lib.hid v1
  have V2 := Lib.hid v2
  have V3 := Lib.hid v3
  have V4 := Lib.hid v4
  clear hf h1 h2 h3 h4 s1 s2 s3 s4 v1 v2 v3 v4 hp hr hx1 hx3
  go_wp2_with fail
  refine (msum_any p2 S2.out.2 n33 c33 a33 H2.out (by have := S2.out.1; omega) fb w HF.out V2.out).mono ?_
  rintro e w' ⟨rfl, rfl⟩
  dsimp only
  rw [HX.out.1]
  go_wp2_with fail
  refine (msum_any pl S1.out.2 np c20 a20 H1.out (by have := S1.out.1; omega) fb w HF.out V1.out).mono ?_
  rintro e w' ⟨rfl, rfl⟩
  dsimp only
  rw [HX.out.2]
  go_wp2_with fail
  refine (r12numbers_any r2 (.slice a38 n38 c38) _ (by have := S4.out.1; omega) (fun x hx => by have := S4.out.2 x hx; omega) w V4.out).mono ?_
  rintro e w' ⟨rfl, rfl⟩
  dsimp only
  rw [HN.out.1]
  go_wp2_with fail
  refine (r12numbers_any rl (.slice a27 nq c27) _ (by have := S3.out.1; omega) (fun x hx => by have := S3.out.2 x hx; omega) w V3.out).mono ?_
  rintro e w' ⟨rfl, rfl⟩
  dsimp only
  rw [HN.out.2]
  go_wp2_with fail
  exact cutq _ (by kernel_rfl) rfl
set_option maxRecDepth 100000 in
set_option maxHeartbeats 8000000 in
theorem jm_40 (k : Nat) (hk : k ≠ 1) (w : World) (c : Code) (hc : c = regM 41) (u0 u1 u2 u3 u4 u5 u6 u7 u8 u9 u10 u11 u12 u13 u14 u15 u16 u17 u18 u19 u20 u21 u22 u23 u24 u25 u26 u27 u28 u29 u30 u32 u33 u34 u35 u36 u37 u38 u39 u40 u41 u42 u43 u44 u45 u46 u47 u48 u49 u50 u51 u52 u53 u54 u55 u56 u57 u58 u59 u60 u61 u62 u63 u64 u65 u66 u67 u68 u69 u70 u71 u72 u73 u74 u75 u76 u77 u78 u79 u80 u81 u82 u83 u84 u85 u86 u87 u88 u89 u90 u91 u92 u93 u94 u95 u96 u97 u98 u99 u100 u101 u102 u103 u104 u105 u106 u107 u108 u109 u110 u111 u112 u113 u114 u115 u116 u117 u118 u119 u120 u121 u122 u123 u124 u125 u126 u127 u128 u129 u130 u131 u132 u133 u134 u135 u136 u137 u138 u139 u140 u141 u142 u143 u144 u145 u146 u147 u148 u149 u150 u151 u152 u153 u154 u155 u156 u157 u158 u159 u160 u161 u162 u163 u164 u165 u166 u167 u168 u169 u170 u171 u172 u173 u174 u175 u176 u177 u178 u179 u180 u181 u182 u183 u184 u185 u186 u187 u188 u189 u190 u191 u192 u193 u194 u195 u196 u197 u198 u199 u200 u201 u202 u203 u204 u205 u206 u207 u208 u209 u210 u211 u212 u213 u214 u215 u216 u217 u218 u219 u220 u221 u222 u223 u224 u225 u226 u227 u228 u229 u230 u231 u232 u233 u234 u235 u236 u237 u238 u239 u240 u241 u242 u243 u244 u245 u246 u247 u248 u249 u250 u251 u252 u253 u254 u255 u256 u257 u258 u259 u260 u261 u262 u263 u264 u265 u266 u267 u268 u269 u270 u271 u272 u273 u274 u275 u276 u277 u278 u279 u280 u281 u282 u283 u284 u285 u286 u287 u288 u289 u290 u291 u292 u293 u294 u295 u296 u297 u298 u299 u300 u301 u302 u303 u304 u305 u306 u307 u308 u309 u310 u311 u312 u313 u314 u315 u316 u317 u318 u319 u320 u321 u322 u323 u324 u325 u326 u327 u328 u329 u330 u331 u332 u333 u334 u335 u336 u337 u338 u339 : Value) :
    Code.wp Tryd.prog c (CutQ [some 262, some 263, some 264, some 265, some 266, some 267, some 268, some 269, some 270, some 271, some 272, some 273, some 274, some 275, some 276, some 277, some 278, some 279, some 280, some 281, some 282, some 283, some 284, some 285, some 286, some 287, some 288, some 289, some 290, some 291, some 292, some 293, some 294, some 295, some 296, some 297, some 298, some 299, some 300, some 301, some 302, some 303, some 304] ⟨#[u0, u1, u2, u3, u4, u5, u6, u7, u8, u9, u10, u11, u12, u13, u14, u15, u16, u17, u18, u19, u20, u21, u22, u23, u24, u25, u26, u27, u28, u29, u30, .int .i64 (k : Int), u32, u33, u34, u35, u36, u37, u38, u39, u40, u41, u42, u43, u44, u45, u46, u47, u48, u49, u50, u51, u52, u53, u54, u55, u56, u57, u58, u59, u60, u61, u62, u63, u64, u65, u66, u67, u68, u69, u70, u71, u72, u73, u74, u75, u76, u77, u78, u79, u80, u81, u82, u83, u84, u85, u86, u87, u88, u89, u90, u91, u92, u93, u94, u95, u96, u97, u98, u99, u100, u101, u102, u103, u104, u105, u106, u107, u108, u109, u110, u111, u112, u113, u114, u115, u116, u117, u118, u119, u120, u121, u122, u123, u124, u125, u126, u127, u128, u129, u130, u131, u132, u133, u134, u135, u136, u137, u138, u139, u140, u141, u142, u143, u144, u145, u146, u147, u148, u149, u150, u151, u152, u153, u154, u155, u156, u157, u158, u159, u160, u161, u162, u163, u164, u165, u166, u167, u168, u169, u170, u171, u172, u173, u174, u175, u176, u177, u178, u179, u180, u181, u182, u183, u184, u185, u186, u187, u188, u189, u190, u191, u192, u193, u194, u195, u196, u197, u198, u199, u200, u201, u202, u203, u204, u205, u206, u207, u208, u209, u210, u211, u212, u213, u214, u215, u216, u217, u218, u219, u220, u221, u222, u223, u224, u225, u226, u227, u228, u229, u230, u231, u232, u233, u234, u235, u236, u237, u238, u239, u240, u241, u242, u243, u244, u245, u246, u247, u248, u249, u250, u251, u252, u253, u254, u255, u256, u257, u258, u259, u260, u261, u262, u263, u264, u265, u266, u267, u268, u269, u270, u271, u272, u273, u274, u275, u276, u277, u278, u279, u280, u281, u282, u283, u284, u285, u286, u287, u288, u289, u290, u291, u292, u293, u294, u295, u296, u297, u298, u299, u300, u301, u302, u303, u304, u305, u306, u307, u308, u309, u310, u311, u312, u313, u314, u315, u316, u317, u318, u319, u320, u321, u322, u323, u324, u325, u326, u327, u328, u329, u330, u331, u332, u333, u334, u335, u336, u337, u338, u339], []⟩ (Rcut xs41 w))
      ⟨#[u0, u1, u2, u3, u4, u5, u6, u7, u8, u9, u10, u11, u12, u13, u14, u15, u16, u17, u18, u19, u20, u21, u22, u23, u24, u25, u26, u27, u28, u29, u30, .int .i64 (k : Int), u32, u33, u34, u35, u36, u37, u38, u39, u40, u41, u42, u43, u44, u45, u46, u47, u48, u49, u50, u51, u52, u53, u54, u55, u56, u57, u58, u59, u60, u61, u62, u63, u64, u65, u66, u67, u68, u69, u70, u71, u72, u73, u74, u75, u76, u77, u78, u79, u80, u81, u82, u83, u84, u85, u86, u87, u88, u89, u90, u91, u92, u93, u94, u95, u96, u97, u98, u99, u100, u101, u102, u103, u104, u105, u106, u107, u108, u109, u110, u111, u112, u113, u114, u115, u116, u117, u118, u119, u120, u121, u122, u123, u124, u125, u126, u127, u128, u129, u130, u131, u132, u133, u134, u135, u136, u137, u138, u139, u140, u141, u142, u143, u144, u145, u146, u147, u148, u149, u150, u151, u152, u153, u154, u155, u156, u157, u158, u159, u160, u161, u162, u163, u164, u165, u166, u167, u168, u169, u170, u171, u172, u173, u174, u175, u176, u177, u178, u179, u180, u181, u182, u183, u184, u185, u186, u187, u188, u189, u190, u191, u192, u193, u194, u195, u196, u197, u198, u199, u200, u201, u202, u203, u204, u205, u206, u207, u208, u209, u210, u211, u212, u213, u214, u215, u216, u217, u218, u219, u220, u221, u222, u223, u224, u225, u226, u227, u228, u229, u230, u231, u232, u233, u234, u235, u236, u237, u238, u239, u240, u241, u242, u243, u244, u245, u246, u247, u248, u249, u250, u251, u252, u253, u254, u255, u256, u257, u258, u259, u260, u261, u262, u263, u264, u265, u266, u267, u268, u269, u270, u271, u272, u273, u274, u275, u276, u277, u278, u279, u280, u281, u282, u283, u284, u285, u286, u287, u288, u289, u290, u291, u292, u293, u294, u295, u296, u297, u298, u299, u300, u301, u302, u303, u304, u305, u306, u307, u308, u309, u310, u311, u312, u313, u314, u315, u316, u317, u318, u319, u320, u321, u322, u323, u324, u325, u326, u327, u328, u329, u330, u331, u332, u333, u334, u335, u336, u337, u338, u339], []⟩ w := by
  subst hc
  conv => arg 2; whnf
  have hk1 : ((k : Int) == 1) = false := by rw [beq_eq_false_iff_ne]; omega
  go_wp2_with fail
  exact cutq _ (by kernel_rfl) rfl
end Go.Proofs.YtbmfphiecllggaaDoor

/- The plan that is told, and that the list is new and may be written. -/
namespace Go.Proofs.YtbmfphiecllggaaDoor
set_option linter.unusedVariables false
set_option linter.unusedSimpArgs false
open Go.RowKit Go.Shelf
attribute [local go_sem] Oper.semAt_some
theorem copy_nums9 (l : List Int) (ao : Option Addr) (cap : Nat) (Rd : Nat → Prop) (W : World) (h : NumsAt W (.slice ao l.length cap) l Rd) (ob : Nat) (cur : Array Value) (hl : l.length ≤ 1000) (hob : W.heap[ob]? = some (.cells cur 3 (0, 0))) (hsz : cur.size = l.length) :
    ∃ W2, (Builtin.copy_ #[32, 32] 3 #[.slice (some ⟨ob, 0, none⟩) l.length l.length, .slice ao l.length cap]).run Tryd.prog W = .ok (.int .i64 l.length) W2 ∧
      NumsAt W2 (.slice (some ⟨ob, 0, none⟩) l.length l.length) l (fun k => k = ob) ∧ Keeps (fun k => k = ob) W W2 ∧ W2.heap.size = W.heap.size ∧ ∃ row, W2.heap[ob]? = some (.cells row 3 (0, 0)) := by
  obtain ⟨ao', cap', he, _, _, hel⟩ := h
  cases he
  by_cases h0 : l = []
  · subst h0
    refine ⟨W, ?_, ⟨_, _, rfl, Nat.le_refl _, by unfold maxLen; omega, fun i hi => by simp at hi⟩, Keeps.refl _ _, rfl, _, hob⟩
    obtain ⟨i0, hi0, hz0, hz1, hz2⟩ := info_parts infoInt
    have hl0 : (loadCells ⟨0, 0, none⟩ 0).run Tryd.prog W = .ok #[] W := by rfl
    cases ao with
    | none => simp [Builtin.copy_, run_underlying underInts, Builtin.lenOf, Builtin.firstCells, sizeOf, typeInfo, hi0, hz1, goInt, storeCells]
    | some a =>
      have hla := run_loadCells_list (P := Tryd.prog) W a [] (fun j v h => by simp at h)
      simp at hla
      simp [Builtin.copy_, run_underlying underInts, Builtin.lenOf, Builtin.firstCells, sizeOf, typeInfo, hi0, hz1, goInt, storeCells, hla]
  · obtain ⟨b, off, rfl, _⟩ := hel 0 (List.length_pos_iff.2 h0)
    have hln : (l.map (Value.int .i64)).length = l.length := by simp
    have hrow : (W.setRow ob (cur.toList.take 0 ++ l.map (Value.int .i64) ++ cur.toList.drop (0 + (l.map (Value.int .i64)).length)).toArray).heap[ob]? = some (.cells (l.map (Value.int .i64)).toArray 3 (0, 0)) := by
      rw [setRow_heap _ _ _ _ _ _ hob]
      rw [List.take_zero, List.nil_append, Nat.zero_add, hln, List.drop_of_length_le (by simp [hsz]), List.append_nil]
    refine ⟨W.setRow ob (cur.toList.take 0 ++ l.map (Value.int .i64) ++ cur.toList.drop (0 + (l.map (Value.int .i64)).length)).toArray, (run_copy_rows W _ _ _ 3 1 ob 0 _ _ ⟨b, off, none⟩ _ _ cur 3 (l.map (Value.int .i64)) underInts (by kernel_rfl) hob (by rw [hln]; simp) ?_ (by rw [hln]; omega) ?_).trans ?_, ?_, keeps_setRow _ _ _, by simp, _, hrow⟩
    · intro j v hj
      have hjl : j < l.length := by have := (List.getElem?_eq_some_iff.1 hj).1; rwa [hln] at this
      obtain ⟨b2, off2, he2, _, _, e1⟩ := hel j hjl
      cases he2
      rw [List.getElem?_map, List.getElem?_eq_getElem hjl] at hj
      rw [Addr.add_mid]
      exact e1.trans hj
    · intro v hv
      obtain ⟨x, _, rfl⟩ := List.mem_map.1 hv
      rfl
    · simp; rfl
    · refine ⟨_, _, rfl, Nat.le_refl _, by unfold maxLen; omega, fun i hi => ⟨ob, 0, rfl, rfl, lt_of_block hrow, ?_⟩⟩
      rw [cell_of_row _ _ _ _ _ _ hrow, Nat.zero_add]
      simp [hi]
/-- What Plan comes to: the list is new, and can be written. -/
def PlanO (j : JobD) (w : World) (e : Ending) (w' : World) : Prop :=
  ∃ v, e = .returned (.tuple #[v, .int .i64 (planD j).2]) ∧ NumsAt w' v ((planD j).1.map fun s : Nat => (s : Int)) (fun k => w.heap.size ≤ k) ∧ ((planD j).1 = [] ∨ ∃ b row, v = .slice (some ⟨b, 0, none⟩) (planD j).1.length (planD j).1.length ∧ w.heap.size ≤ b ∧ w'.heap[b]? = some (.cells row 3 (0, 0))) ∧ Below w.heap.size w w'
set_option maxRecDepth 100000 in
set_option maxHeartbeats 8000000 in
theorem Plan_own9 (j : JobD) (bs ws : Value) (w : World) (hbs : SpansAt w bs j.st.bs (fun k => k < w.heap.size)) (hws : SpansAt w ws j.ws (fun k => k < w.heap.size)) (htz : TabZ w) :
    Calls Tryd.prog 20 #[jobV j bs ws] w (PlanO j w) := by
  have HTZ := Lib.hid htz
  have h1z := htz.lt
  clear htz
  have HBS := Lib.hid hbs
  have HWS := Lib.hid hws
  obtain ⟨ao, cap, hv1, _⟩ := id hbs
  obtain ⟨ao2, cap2, hv2, _⟩ := id hws
  subst hv1 hv2
  obtain ⟨nb, hnb⟩ : ∃ n, n = j.st.bs.length := ⟨_, rfl⟩
  obtain ⟨nw, hnw⟩ : ∃ n, n = j.ws.length := ⟨_, rfl⟩
  rw [← hnb] at HBS
  rw [← hnw] at HWS
  unfold jobV
  rw [← hnb, ← hnw]
  have HNB := Lib.hid hnb
  have HNW := Lib.hid hnw
  clear hbs hws hnb hnw
  go_enter_defers Tryd.func20, Tryd.ntmps20
  go_wp2_with fail
  refine (open_always j (.slice ao nb cap) (.slice ao2 nw cap2) _ (by rw [HNB.out] at HBS ⊢; exact (HBS.out.later (by simp <;> omega) (fun k h1 h2 => (hget_old _ _ _ (by simp; omega)).trans (hget_old _ _ _ (by omega)))).low) (by rw [HNW.out] at HWS ⊢; exact (HWS.out.later (by simp <;> omega) (fun k h1 h2 => (hget_old _ _ _ (by simp; omega)).trans (hget_old _ _ _ (by omega)))).low)).mono ?_
  rintro e w1 ⟨hb1, hres⟩
  have he1 := (hb1.block (w.heap.size + 1) (by simp <;> omega)).trans (heap_alloc_at _ (.cells #[.int .i64 0] 33) _ (by simp))
  have hx1 := (hb1.block w.heap.size (by simp <;> omega)).trans ((hget_old _ _ _ (by simp)).trans (heap_alloc_at w (.cells #[.slice ao nb cap, .int .i64 j.st.film.1, .int .i64 j.st.film.2, .slice ao2 nw cap2] 28) _ rfl))
  have hbw : Below w.heap.size w w1 := (((Below.refl _ _).alloc (Nat.le_refl _) _).alloc (by simp) _).trans (hb1.mono (by simp <;> omega))
  have HE1 := Lib.hid he1
  have HX1 := Lib.hid hx1
  have HBW := Lib.hid hbw
  clear hb1 he1 hx1 hbw
  rcases hres with ⟨hne, rfl⟩ | ⟨he, pp, mp, r, rfl, hj, hm⟩
  · obtain ⟨er, her⟩ : ∃ x, x = errD j true := ⟨_, rfl⟩
    rw [← her] at hne ⊢
    have HNE := Lib.hid (And.intro hne her)
    clear hne her
    dsimp only
    go_wp2_with fail
    refine jleaf_stop er (w.heap.size + 1) 0 _ w1 HE1.out (fun W' hkE heE => ?_)
    have e9 : W'.cell? ⟨w.heap.size + 1, 0, none⟩ = some (.int .i64 er) := by rw [cell_of_row _ _ _ _ _ _ heE]; rfl
    have hval : planD j = ([], er) := by unfold planD; rw [← HNE.out.2, if_pos HNE.out.1]
    exact ⟨_, by simp [results, Tryd.results20, go_sem, e9]; rfl, _, by rw [hval], by rw [hval]; exact NumsAt.nil _ _, .inl (by rw [hval]), HBW.out.trans (hkE.below HBW.out.size (fun k h e => by omega))⟩
  · skip
    dsimp only
    have hv := (errD_valid he).1
    have HV := Lib.hid hv
    have HERR := Lib.hid he
    obtain ⟨B, hBB⟩ : ∃ B, B = w.heap.size + 1 + 1 := ⟨_, rfl⟩
    have hsz : ((w.alloc (.cells #[.slice ao nb cap, .int .i64 j.st.film.1, .int .i64 j.st.film.2, .slice ao2 nw cap2] 28)).alloc (.cells #[.int .i64 0] 33)).heap.size = B := by rw [hBB]; simp
    rw [hsz] at hj
    have HJ := Lib.hid hj
    have HM := Lib.hid hm
    clear he hj hm hv hsz
    have hjk : JobK j B pp mp (.slice ao nb cap) (.slice ao2 nw cap2) r w1 := ⟨HJ.out, KeptJ.nil HM.out, HTZ.out.below HBW.out h1z, by omega⟩
    have HJK := Lib.hid hjk
    have hlm := hjk.r.o.lm
    clear hjk HJ HM
    have hnb8 : nb ≤ 8 := by rw [HNB.out]; exact (validSt_parts (validJb_parts HV.out).1).1
    have hnw4 : nw ≤ 4 := by rw [HNW.out]; exact (validJb_parts HV.out).2.1
    go_wp2_with fail
    refine (jevery_any (validJb_parts HV.out).2.1 _ HJK.out.r.o).mono ?_
    rintro e w2 ⟨rfl, rfl⟩
    go_wp2_with fail
    refine (can_any HV.out (everyD j) (everyD_lt j) _ HJK.out).mono ?_
    rintro e w2 ⟨rfl, hjk2, hk2⟩
    dsimp only
    have he2 := (hk2.block _ (lt_of_block HE1.out) (by omega)).trans HE1.out
    have hx2 := (hk2.block _ (lt_of_block HX1.out) (by omega)).trans HX1.out
    have hbw2 := HBW.out.trans (hk2.below HBW.out.size (fun k h e => by omega))
    have HJ2 := Lib.hid hjk2
    have HE2 := Lib.hid he2
    have HX2 := Lib.hid hx2
    have HB2 := Lib.hid hbw2
    clear hjk2 hk2 he2 hx2 hbw2
    cases hcan : canD j (everyD j) with
    | false =>
      have HCAN := Lib.hid hcan
      clear hcan
      go_wp2_with fail
      refine (jask_no 4 _).mono ?_
      rintro e w' ⟨rfl, rfl⟩
      dsimp only
      go_wp2_with fail
      refine jleaf_stop 4 (w.heap.size + 1) 0 _ w2 HE2.out (fun W' hkE heE => ?_)
      have e9 : W'.cell? ⟨w.heap.size + 1, 0, none⟩ = some (.int .i64 4) := by rw [cell_of_row _ _ _ _ _ _ heE]; rfl
      have hval : planD j = ([], (4 : Int)) := by unfold planD; rw [HERR.out, HCAN.out]; rfl
      exact ⟨_, by simp [results, Tryd.results20, go_sem, e9]; rfl, _, by rw [hval], by rw [hval]; exact NumsAt.nil _ _, .inl (by rw [hval]), HB2.out.trans (hkE.below HB2.out.size (fun k h e => by omega))⟩
    | true =>
      have hval : planD j = (toldJ 8 (rightsD j) (allD j), (0 : Int)) := by unfold planD; rw [HERR.out, hcan]; rfl
      have HVAL := Lib.hid hval
      have HT0 := Lib.hid (ToldJ.zero hcan)
      clear hval hcan
      have c3 : ∀ o, (w2.alloc o).cell? ⟨w.heap.size, 3, none⟩ = some (.slice ao2 nw cap2) := fun o => by rw [cell_of_row _ _ _ _ _ _ ((hget_old _ _ _ (by have := lt_of_block HX2.out; omega)).trans HX2.out)]; rfl
      go_wp2_with fail
      refine (jask_ok 4 _).mono ?_
      rintro e w' ⟨rfl, rfl⟩
      dsimp only
      go_wp2_with fail
      refine (jevery_any (validJb_parts HV.out).2.1 _ HJ2.out.r.o).mono ?_
      rintro e w' ⟨rfl, rfl⟩
      go_wp2_with fail
      refine (jall_any (by rw [← HNB.out]; exact hnb8) _ HJ2.out.r.o).mono ?_
      rintro e w' ⟨rfl, rfl⟩
      go_wp2_with fail
      clear c3
      obtain ⟨A, hA⟩ : ∃ A, A = w2.heap.size := ⟨_, rfl⟩
      have hsA : (w2.alloc (.cells #[.int .u64 (everyD j), .int .u64 (allD j)] 90)).heap.size = A + 1 := by rw [hA]; simp
      have hrowA : (w2.alloc (.cells #[.int .u64 (everyD j), .int .u64 (allD j)] 90)).heap[A]? = some (.cells #[.int .u64 ((2 ^ nw - 2 ^ 0 : Nat) : Int), .int .u64 (allD j)] 90 (0, 0)) := by rw [show 2 ^ nw - 2 ^ 0 = everyD j by rw [HNW.out]; rfl]; exact heap_alloc_at _ _ _ hA
      have hbA := Below.alloc' w2 (.cells #[.int .u64 (everyD j), .int .u64 (allD j)] 90)
      have hkA : Keeps (fun k => k = mp) w2 (w2.alloc (.cells #[.int .u64 (everyD j), .int .u64 (allD j)] 90)) := Keeps.alloc _ _ _
      have hmp2 := HJ2.out.kept.lt
      rw [← hA] at hmp2 ⊢
      have HA := Lib.hid hA
      clear hA
      go_loopw [6, 25] (fun sv iv wr => ∃ (i av : Nat) (pre : List Nat), i ≤ nw ∧ iv = .int .i64 i ∧ ToldJ j i av pre ∧ wr.heap[A]? = some (.cells #[.int .u64 ((2 ^ nw - 2 ^ i : Nat) : Int), .int .u64 av] 90 (0, 0)) ∧
          wr.ownsRow (A + 1) 3 1 sv i ((pre.map fun s : Nat => (s : Int)).map (Value.int .i64)) ∧ KeptJ j mp wr ∧ Keeps (fun k => k = mp) w2 wr) (fun _ iv _ => nw - (intOf iv).toNat)
      case atStart => exact ⟨0, allD j, [], Nat.zero_le _, rfl, HT0.out, hrowA, World.ownsRow_nil _ _ _ _, HJ2.out.kept.of (hbA.block _ HJ2.out.kept.lt), hkA⟩
      case round =>
        clear hrowA hbA hkA hsA
        obtain ⟨i, av, pre, hi, rfl, htold, hrow, hown, hkept, hk⟩ := hrel
        have HTL := Lib.hid htold
        have HROW := Lib.hid hrow
        have HOWN := Lib.hid hown
        have HKEPT := Lib.hid hkept
        have HKR := Lib.hid hk
        have hAlt := lt_of_block hrow
        have l0 : wr.cell? ⟨A, 0, none⟩ = some (.int .u64 ((2 ^ nw - 2 ^ i : Nat) : Int)) := by rw [cell_of_row _ _ _ _ _ _ hrow]; rfl
        have l1 : wr.cell? ⟨A, 1, none⟩ = some (.int .u64 av) := by rw [cell_of_row _ _ _ _ _ _ hrow]; rfl
        clear htold hrow hown hkept hk
        by_cases hlt : i < nw
        · have hw : IntKind.i64.wrap ((i : Int) + 1) = ((i + 1 : Nat) : Int) := by rw [IntWalk.i64_in _ (by omega)]; omega
          have hlti : (i : Int) < (nw : Int) := by omega
          obtain ⟨⟨x1, x2⟩, hsc, hx1, hnext⟩ := HTL.out.next (by rw [← HNW.out]; exact hlt)
          rw [← HNW.out] at hsc
          have HSC := Lib.hid hsc
          have HNEXT := Lib.hid hnext
          have hwl : 2 ^ nw - 2 ^ i < 2 ^ j.ws.length := by rw [← HNW.out]; have := Nat.two_pow_pos i; have := Nat.two_pow_pos nw; omega
          have haf := after_wants nw (by omega) i hlt
          have h256 : av < 256 := Nat.lt_of_lt_of_le HTL.out.avl (Nat.pow_le_pow_right (by decide : 0 < 2) (by rw [← HNB.out]; exact hnb8) : _ ≤ 2 ^ 8)
          have hx256 : x1 < 256 := Nat.lt_of_lt_of_le hx1 (Nat.pow_le_pow_right (by decide : 0 < 2) (by rw [← HNB.out]; exact hnb8) : _ ≤ 2 ^ 8)
          obtain ⟨wk, hwk⟩ : ∃ q, q = 2 ^ nw - 2 ^ i := ⟨_, rfl⟩
          have hwk16 : wk < 256 := by rw [hwk]; exact Nat.lt_of_le_of_lt (Nat.sub_le _ _) (Nat.lt_of_le_of_lt (Nat.pow_le_pow_right (by decide) hnw4) (by decide : 2 ^ 4 < 256))
          rw [← hwk] at l0 haf hwl HSC
          have HWK := Lib.hid hwk
          have HAF := Lib.hid haf
          clear hsc hnext hwk haf
          go_wp2_with fail
          refine (scoreO HV.out wk hwl av HTL.out.avl _ (HJ2.out.keeps HKR.out HKEPT.out)).mono ?_
          rintro e w5 ⟨rfl, hjk5, hk5⟩
          rw [HSC.out]
          have hsv : scoreV (some (x1, x2)) = .iface 94 (.agg #[.int .u64 x1, .int .i64 x2]) := rfl
          rw [hsv]
          clear hsv
          dsimp only
          have hta : ∀ W : World, (Instr.typeAssert (.iface 94 (.agg #[.int .u64 (x1 : Int), .int .i64 (x2 : Int)])) 96 94 false).run Tryd.prog W = .ok (.agg #[.int .u64 x1, .int .i64 x2]) W := fun W => by kernel_rfl
          have hs5 := hk5.size
          have hown5 : w5.ownsRow (A + 1) 3 1 u6 i ((pre.map fun s : Nat => (s : Int)).map (Value.int .i64)) := own_block HOWN.out (fun k e => hk5.block k (HOWN.out.lt k e).2 (fun hn => by have := (HOWN.out.lt k e).1; omega))
          have hrow5 := (hk5.block A hAlt (by omega)).trans HROW.out
          have H5 := Lib.hid (And.intro hjk5 (And.intro hk5 (And.intro hown5 hrow5)))
          have hcx : IntKind.i64.wrap (x1 : Int) = (x1 : Int) := IntWalk.i64_in _ (by omega)
          clear hjk5 hk5 hown5 hrow5 l0 l1
          go_wp2_with (first | (refine wpList_append_here rfl (.tmp 32) (.tmp 36) 32 rfl (A + 1) 3 1 8 _ underInts infoInt rfl (by decide) u6 i _ rfl (own_block (own_block H5.out.2.2.1 (fun k e => Below.heap_alloc _ _ _ (H5.out.2.2.1.lt k e).2)) (fun k e => Below.heap_alloc _ _ _ (by have := (H5.out.2.2.1.lt k e).2; simp; omega))) (w5.heap.size + 1) 1 #[.int .i64 x1] 3 (0, 0) rfl (heap_alloc_at _ _ _ (by simp)) rfl (by simp [Value.oneCell']) (by omega) (by decide) (by simp <;> omega) ?_))
          intro v1 W6 hown6 hg6 hat6
          have hk6 := keeps_grown hg6
          have hs6 : w5.heap.size + 2 ≤ W6.heap.size := by have := hk6.size; simp at this; omega
          have hob : ∀ k, u6.ownBlock = some k → A + 1 ≤ k ∧ k < w5.heap.size := fun k e => ⟨(H5.out.2.2.1.lt k e).1, (H5.out.2.2.1.lt k e).2⟩
          have hold : ∀ k, k ≤ A → W6.heap[k]? = w5.heap[k]? := fun k h => (hk6.block k (by simp; omega) (fun e => by have := hob k e; omega)).trans ((Below.heap_alloc _ _ _ (by simp; omega)).trans (Below.heap_alloc _ _ _ (by omega)))
          have hk56 : Keeps (fun k => u6.ownBlock = some k) w5 W6 := ((Keeps.alloc _ _ _).trans (Keeps.alloc _ _ _)).trans (hk6.mono (fun _ _ h => h))
          have hp6 := (hk6.block w5.heap.size (by simp; omega) (fun e => by have := hob _ e; omega)).trans ((Below.heap_alloc _ _ _ (by simp)).trans (heap_alloc_at w5 (.cells #[.int .u64 x1, .int .i64 x2] 94) _ rfl))
          have hr6 := (hold A (Nat.le_refl _)).trans H5.out.2.2.2
          have l0 : W6.cell? ⟨A, 0, none⟩ = some (.int .u64 wk) := by rw [cell_of_row _ _ _ _ _ _ hr6, HWK.out]; rfl
          have l1 : W6.cell? ⟨A, 1, none⟩ = some (.int .u64 av) := by rw [cell_of_row _ _ _ _ _ _ hr6]; rfl
          have p0 : W6.cell? ⟨w5.heap.size, 0, none⟩ = some (.int .u64 x1) := by rw [cell_of_row _ _ _ _ _ _ hp6]; rfl
          have H6 := Lib.hid (And.intro hown6 (And.intro hr6 (And.intro hold hk56)))
          have HOB := Lib.hid hob
          clear hown6 hr6 hp6 hold hg6 hat6 hk6 hk56 hob
          go_wp2_with fail
          refine (jafter_any wk av x1 i hwk16 h256 hx256 (by omega) _).mono ?_
          rintro e w7 ⟨rfl, hb7⟩
          dsimp only
          have hs7 := hb7.size
          have hr7 := (hb7.block A (by omega)).trans H6.out.2.1
          have f0 : w7.frozen? ⟨A, 0, none⟩ = false := frozen_of_row _ _ 0 _ _ hr7
          have f1 : w7.frozen? ⟨A, 1, none⟩ = false := frozen_of_row _ _ 1 _ _ hr7
          have m0 : w7.cell? ⟨A, 0, none⟩ = some (.int .u64 wk) := by rw [cell_of_row _ _ _ _ _ _ hr7, HWK.out]; rfl
          have m1 : w7.cell? ⟨A, 1, none⟩ = some (.int .u64 av) := by rw [cell_of_row _ _ _ _ _ _ hr7]; rfl
          have H7 := Lib.hid (And.intro hr7 hb7)
          clear hr7 hb7 l0 l1 p0
          go_wp2_with fail
          obtain ⟨hr7, hb7⟩ := H7.out
          obtain ⟨hown6, hr6, hold, hk56⟩ := H6.out
          have hA := HA.out
          have hkf : Keeps (fun k => k = A) w7 ((w7.setCell ⟨A, 0, none⟩ (.int .u64 (afterJ wk (2 ^ i) : Nat))).setCell ⟨A, 1, none⟩ (.int .u64 (afterJ av x1 : Nat))) := (Keeps.setCell (Mut := fun k => k = A) _ _ _ rfl).trans (Keeps.setCell (Mut := fun k => k = A) _ _ _ rfl)
          refine ⟨⟨i + 1, afterJ av x1, pre ++ [x1], hlt, by push_cast; rfl, HNEXT.out, ?_, ?_, ?_, ?_⟩, by simp [intOf]; omega⟩
          · rw [two_setCell2 hr7, HAF.out]
          · have h7 := own_block hown6 (fun k e => hb7.block k (hown6.lt k e).2)
            have := ownsRow_setCell_below (ownsRow_setCell_below h7 (a := ⟨A, 0, none⟩) (by show A < A + 1; omega) (.int .u64 (afterJ wk (2 ^ i) : Nat))) (a := ⟨A, 1, none⟩) (by show A < A + 1; omega) (.int .u64 (afterJ av x1 : Nat))
            rw [List.map_append, List.map_append, List.map_map]
            exact this
          · exact H5.out.1.kept.of ((hkf.block mp (by omega) (by omega)).trans ((hb7.block mp (by omega)).trans (hold mp (by omega))))
          · exact (((HKR.out.trans H5.out.2.1).transNew hk56 (fun k e => by have := HOB.out k e; omega)).trans (Keeps.of_below hb7 (fun k h1 h2 => absurd h2 (by omega)))).transNew hkf (fun k e => by omega)
        · obtain rfl : i = nw := by omega
          have hlti : ¬ (i : Int) < (i : Int) := by omega
          have hdone : pre = toldJ 8 (rightsD j) (allD j) := (HNW.out ▸ HTL.out).done
          have hlen : (pre.map fun s : Nat => (s : Int)).length = i := by rw [List.length_map, HTL.out.len]
          have hnum := nums_of_own hlen.symm HOWN.out
          obtain ⟨av6, cap6, hv6, _⟩ := id hnum
          subst hv6
          rw [hlen] at hnum ⊢
          have he3 := (HKR.out.block _ (lt_of_block HE2.out) (by omega)).trans HE2.out
          obtain ⟨cur0, hcur0⟩ : ∃ c, c = madeCells #[.int .i64 0] (i * 1) := ⟨_, rfl⟩
          have hmk : (Instr.makeSlice 32 (.int .i64 i) (.int .i64 i)).run Tryd.prog wr = .ok (.slice (some ⟨wr.heap.size, 0, none⟩) i i) (wr.alloc (.cells cur0 3)) := by
            obtain ⟨i0, hi0, hz0, hz1, hz2⟩ := info_parts infoInt
            have := run_makeSlice (P := Tryd.prog) (w := wr) 32 3 i0 _ underInts hi0 hz0 .i64 .i64 i i (by omega) (by omega) (by rw [hz1]; simp; omega) (by rw [hz2]; omega) (by omega)
            rw [hz1] at this
            rw [hcur0]
            simpa [Value.cells] using this
          have hsz0 : cur0.size = (pre.map fun s : Nat => (s : Int)).length := by rw [hcur0, size_madeCells, hlen, Nat.mul_one]
          obtain ⟨W1, hW1⟩ : ∃ W, W = wr.alloc (.cells cur0 3) := ⟨_, rfl⟩
          rw [← hW1] at hmk
          have hb1 : Below wr.heap.size wr W1 := by rw [hW1]; exact Below.alloc' _ _
          have hs1 : W1.heap.size = wr.heap.size + 1 := by rw [hW1]; simp
          have hob : W1.heap[wr.heap.size]? = some (.cells cur0 3 (0, 0)) := by rw [hW1]; exact heap_alloc_at _ _ _ rfl
          have hn1 : NumsAt W1 (.slice av6 (pre.map fun s : Nat => (s : Int)).length cap6) (pre.map fun s : Nat => (s : Int)) (fun k => A + 1 ≤ k) := by
            rw [hlen]
            exact hnum.later (by omega) (fun k hk _ => hb1.block k hk)
          obtain ⟨W2, hcp, hn2, hk2, hs2, row, hrow9⟩ := copy_nums9 _ av6 cap6 _ W1 hn1 wr.heap.size cur0 (by omega) hob hsz0
          rw [hlen] at hcp hn2
          have hrlt := lt_of_block he3
          have he4 := (hk2.block _ (by omega) (by omega)).trans ((hb1.block _ hrlt).trans he3)
          have hc4 : W2.cell? ⟨w.heap.size + 1, 0, none⟩ = some (.int .i64 0) := by rw [cell_of_row _ _ _ _ _ _ he4]; rfl
          have hf4 : W2.frozen? ⟨w.heap.size + 1, 0, none⟩ = false := frozen_of_row _ _ 0 _ _ he4
          have hbr : Below w.heap.size w wr := HB2.out.trans (HKR.out.below HB2.out.size (fun k h e => by omega))
          have hbW : Below w.heap.size w W2 := hbr.trans ((hb1.mono hbr.size).trans (hk2.below (by have := hbr.size; omega) (fun k h1 h2 => by have := hbr.size; omega)))
          have hrs := hbr.size
          have HF := Lib.hid (And.intro he4 (And.intro hbW hn2))
          have HR9 := Lib.hid hrow9
          clear hrow9 hW1 hb1 hob hn1 hk2 hs2 he4 hbr hbW hn2 hsz0 hcur0 hnum he3 l0 l1
          go_wp2_with fail
          have e9 := err_set (y := 0) HF.out.1
          have hkE : Keeps (fun k => k = w.heap.size + 1) W2 (W2.setCell ⟨w.heap.size + 1, 0, none⟩ (.int .i64 0)) := Keeps.setCell _ _ _ rfl
          refine jleaf_ret (w.heap.size + 1) _ _ ⟨_, by simp [results, Tryd.results20, go_sem, e9]; rfl, .slice (some ⟨wr.heap.size, 0, none⟩) i i, by rw [HVAL.out], ?_, .inr ⟨wr.heap.size, row, by rw [HVAL.out, ← hdone]; dsimp only; rw [show pre.length = i from HTL.out.len], by omega, (hkE.block wr.heap.size (lt_of_block HR9.out) (by omega)).trans HR9.out⟩, HF.out.2.1.trans (hkE.below HF.out.2.1.size (fun k h e => by omega))⟩
          rw [HVAL.out, ← hdone]
          exact (HF.out.2.2.later hkE.size (fun k hk e => hkE.block k hk (by omega))).mono (fun k e => by omega)
end Go.Proofs.YtbmfphiecllggaaDoor
