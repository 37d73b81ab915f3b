/- Texts Vj, Vk, Vl, Vm, Vn, Vo, Vp in one file; each begins with a word on what it proves. -/
import Derived.Recover
import Derived.Test.YtabbmihakoeegaaKk
import Derived.Test.YtabbmihakoeegaaKh

/- All sets, those that are worth least first; the first of which something is so. -/
namespace Go.Proofs.Ytabbmihakoeegaa
set_option linter.unusedVariables false
set_option linter.unusedSimpArgs false
open Go.RowKit Go.Shelf
attribute [local go_sem] Oper.semAt_some
open Stab

def mV (pr : Bool) : Value := .iface (if pr then 106 else 78) (.agg #[])
theorem cmpB_any {q : PlanD} (hq : OkQ q) {B pp mp : Nat} {bs rs ps : Value} {L : List Nat} (pr : Bool) (mb pb s t : Nat) (hs : s < 2 ^ q.prices.length) (ht : t < 2 ^ q.prices.length) (w : World) (hmb : w.heap[mb]? = some (.cells #[mV pr] 117 (0, 0))) (hpb : w.heap[pb]? = some (.cells #[.pointer (some ⟨pp, 0, none⟩)] 60 (0, 0))) (h : PlanS q B pp mp bs rs ps L w) :
    Calls Try.prog 76 #[.int .u64 s, .int .u64 t, .pointer (some ⟨mb, 0, none⟩), .pointer (some ⟨pb, 0, none⟩)] w fun e w' => e = .returned (.int .i64 (cmpW q pr s t)) ∧ Below w.heap.size w w' := by
  cases pr with
  | false => exact cmp_many hq mb pb s t hs ht w hmb hpb h
  | true => exact cmp_price hq mb pb s t hs ht w hmb hpb h
def encU (xs : List Nat) : List Value := List.map (fun x : Nat => Value.int .u64 (x : Int)) xs
theorem encU_next (k : Nat) : encU (List.range (k + 1)) = encU (List.range k) ++ [Value.int .u64 (k : Int)] := by unfold encU; rw [List.range_succ, List.map_append]; rfl
theorem underSets : Try.prog.underlying 75 = some (.slice 70) := by kernel_rfl
theorem infoSet : (Try.prog.info? 70).map (fun i => (i.zero, i.size, i.bytes)) = some (some (.int .u64 0), 1, 8) := by kernel_rfl
theorem rowL_of_own {w : World} {base : Nat} {v : Value} {n : Nat} {l : List Nat} (hn : n = l.length) (h0 : 0 < n) (h : w.ownsRow base 70 1 v n (encU l)) : ∃ g cap, v = .slice (some ⟨g, 0, none⟩) n cap ∧ base ≤ g ∧ RowL g l w := by
  rcases h.2 with ⟨h2, h3⟩ | ⟨g, cap, cur, h2, h3, h4, h5, h6, h7, h8⟩
  · omega
  · refine ⟨g, cap, h2, h3, cur, h4, fun i x hx => ?_⟩
    have hi := (List.getElem?_eq_some_iff.1 hx).1
    have h9 : (cur.toList.take (n * 1))[i]? = (encU l)[i]? := by rw [h8]
    rw [List.getElem?_take_of_lt (by omega)] at h9
    unfold encU at h9
    rw [List.getElem?_map, hx] at h9
    simpa using h9
set_option maxRecDepth 100000 in
set_option maxHeartbeats 4000000 in
theorem sets_any {q : PlanD} (hq : OkQ q) {B pp mp : Nat} {bs rs ps : Value} {L : List Nat} (pr : Bool) (w : World) (h : PlanS q B pp mp bs rs ps L w) :
    Calls Try.prog 41 #[.pointer (some ⟨pp, 0, none⟩), mV pr] w fun e w' => ∃ g cap, e = .returned (.slice (some ⟨g, 0, none⟩) (2 ^ q.prices.length) cap) ∧ w.heap.size ≤ g ∧ RowL g (setsV q pr) w' ∧ Below w.heap.size w w' := by
  have HQ := Lib.hid hq
  have H := Lib.hid h
  have hpl := lt_of_block h.obj
  have hml := lt_of_block h.map
  have hBl := h.lp
  have h256 := hq.p256
  have hpos := Nat.two_pow_pos q.prices.length
  obtain ⟨n, hn⟩ : ∃ n, n = 2 ^ q.prices.length := ⟨_, rfl⟩
  have hev : everyV q = n - 1 := by rw [hn]; rfl
  rw [← hn] at h256 hpos ⊢
  have HN := Lib.hid hn
  have hmf : ∀ (fn : Fn) (first cap : Array Value) (w : World), (Instr.makeFunc fn first cap).run Try.prog w = .ok (.func fn first cap) w := fun _ _ _ _ => rfl
  have hwn : IntKind.u64.wrap (((n - 1 : Nat) : Int) + 1) = (n : Int) := by rw [IntWalk.u64_in _ (by omega)]; omega
  have hm1 : (mV pr).oneCell' = true := by cases pr <;> rfl
  obtain ⟨mv, hmv⟩ : ∃ v, v = mV pr := ⟨_, rfl⟩
  have HMV := Lib.hid hmv
  rw [← hmv] at hm1 ⊢
  obtain ⟨ty, hty⟩ : ∃ t, mv = .iface t (.agg #[]) := ⟨_, hmv⟩
  subst hty
  clear hn h hq hmv
  go_enter Try.func41, Try.ntmps41
  go_wp2_with fail
  obtain ⟨W1, hW1⟩ : ∃ x, x = (w.alloc (.cells #[.pointer (some ⟨pp, 0, none⟩)] 60)).alloc (.cells #[.iface ty (.agg #[])] 117) := ⟨_, rfl⟩
  have hb1 : Below w.heap.size w W1 := by rw [hW1]; exact ((Below.refl _ _).alloc (Nat.le_refl _) _).alloc (by simp) _
  have hz1 : W1.heap.size = w.heap.size + 2 := by rw [hW1]; simp
  have x0 : W1.heap[w.heap.size]? = some (.cells #[.pointer (some ⟨pp, 0, none⟩)] 60 (0, 0)) := by rw [hW1]; exact (by repeat (first | (refine heap_alloc_at _ _ _ ?_; (simp <;> omega); done) | (refine (hget_old _ _ _ ?_).trans ?_; · (simp <;> omega))))
  have x1 : W1.heap[w.heap.size + 1]? = some (.cells #[.iface ty (.agg #[])] 117 (0, 0)) := by rw [hW1]; exact (by repeat (first | (refine heap_alloc_at _ _ _ ?_; (simp <;> omega); done) | (refine (hget_old _ _ _ ?_).trans ?_; · (simp <;> omega))))
  have HB1 := Lib.hid hb1
  have X0 := Lib.hid x0
  have X1 := Lib.hid x1
  rw [← hW1]
  clear hW1 hb1 x0 x1
  refine (pevery_any HQ.out W1 (H.out.below HB1.out)).mono ?_
  rintro e w' ⟨rfl, rfl⟩
  dsimp only
  rw [hev]
  go_wp2_with fail
  clear hwn
  go_loopw [5, 10] (fun v kv wr => ∃ k : Nat, k ≤ n ∧ kv = .int .u64 k ∧ wr.ownsRow (w.heap.size + 2) 70 1 v k (encU (List.range k)) ∧ Below (w.heap.size + 2) W1 wr) (fun _ kv _ => n - (intOf kv).toNat)
  case atStart => exact ⟨0, Nat.zero_le _, rfl, (World.ownsRow_nil _ _ _ _), Below.refl _ _⟩
  case round =>

    obtain ⟨k, hk, rfl, hown, hb⟩ := hrel
    have HO := Lib.hid hown
    have HB := Lib.hid hb
    clear hown hb
    by_cases hlt : k < n
    · have hw1 : IntKind.u64.wrap ((k : Int) + 1) = ((k + 1 : Nat) : Int) := by rw [IntWalk.u64_in _ (by omega)]; omega
      go_wp2_with (first | (refine wpList_append_here rfl (.tmp 13) (.tmp 15) 75 rfl (w.heap.size + 2) 70 1 8 (.int .u64 0) underSets infoSet rfl (by decide) _ k _ rfl (HO.out.alloc _) wr.heap.size 1 #[.int .u64 k] 70 (0, 0) rfl (heap_alloc_at _ _ _ rfl) rfl (by simp [Value.oneCell']) (by omega) (by decide) (by have := HB.out.size; simp; omega) ?_; intro v1 W5 hown5 hg5 hat5))
      have hb5 : Below (w.heap.size + 2) W1 W5 := (HB.out.alloc (by have := HB.out.size; omega) _).trans ((Below.refl _ _).grown hg5 (by have := HB.out.size; simp; omega) (own_base HO.out))
      exact ⟨⟨k + 1, by omega, rfl, by rw [encU_next]; exact hown5, hb5⟩, by simp [intOf]; omega⟩
    · obtain rfl : k = n := by omega
      obtain ⟨g, cap, hv, hg, hrow⟩ := rowL_of_own (by simp) (by omega) HO.out
      subst hv
      have HG := Lib.hid hg
      have HR := Lib.hid hrow
      clear hg hrow
      go_wp2_with fail
      have hb := HB.out
      have hbw : Below w.heap.size w wr := HB1.out.trans (hb.mono (by omega))
      have y0 := (hb.block _ (by omega)).trans X0.out
      have y1 := (hb.block _ (by omega)).trans X1.out
      have hP := H.out.below hbw
      have hg := HG.out
      have hc : CmpOk 76 #[.pointer (some ⟨w.heap.size + 1, 0, none⟩), .pointer (some ⟨w.heap.size, 0, none⟩)] (cmpW q pr) (fun s t => lessW q pr s t = true) g (List.range k) wr :=
        { call := fun W hk x y hx hy => by
            rw [List.mem_range, HN.out] at hx hy
            have hP2 : PlanS q B pp mp bs rs ps L W := hP.keep hk (fun j hj _ => by subst hj; exact ⟨by omega, by omega, by omega⟩)
            have hz := hb.size
            exact cmpB_any HQ.out pr _ _ x y hx hy W ((hk.block _ (by omega) (by omega)).trans (by rw [← HMV.out]; exact y1)) ((hk.block _ (by omega) (by omega)).trans y0) hP2
          ord := fun x y _ _ _ => cmpW_neg q pr x y
          sto := lessW_sto q pr
          enter := enters_of Try.func76 (by kernel_rfl) rfl }
      have HC := Lib.hid hc
      have HBW := Lib.hid hbw
      clear hc hb hbw y0 y1 hP hg
      refine (sort_any _ _ _ _ g k cap (List.range k) wr HC.out (by omega) (by simp) List.pairwise_lt_range HR.out).mono ?_
      rintro e w5 ⟨rfl, ⟨M, hp, hsr, hrow⟩, hk5⟩
      dsimp only
      have hM : M = setsV q pr := by
        unfold setsV
        rw [← HN.out]
        exact sortV_is (lessW_sto q pr) List.nodup_range hp hsr
      subst hM
      have HROW := Lib.hid hrow
      have HK5 := Lib.hid hk5
      clear hp hsr hrow hk5
      go_wp2_with fail
      go_ret
      have hg := HG.out
      exact ⟨g, cap, rfl, by omega, HROW.out, HBW.out.trans (HK5.out.below HBW.out.size (fun j h e => by omega))⟩
theorem find_take {is : Nat → Bool} {l : List Nat} {i x : Nat} (h : ∀ y ∈ l.take i, is y = false) (hx : l[i]? = some x) (hi : is x = true) : firstV is l = x := by
  have hlt := (List.getElem?_eq_some_iff.1 hx).1
  have h1 : l = l.take i ++ x :: l.drop (i + 1) := by
    rw [List.getElem?_eq_getElem hlt] at hx
    rw [← Option.some.inj hx, List.getElem_cons_drop, List.take_append_drop]
  unfold firstV
  rw [h1, List.find?_append, List.find?_eq_none.2 (fun y hy => by rw [h y hy]; decide)]
  simp [hi]
theorem find_no {is : Nat → Bool} {l : List Nat} (h : ∀ y ∈ l, is y = false) : firstV is l = 0 := by
  unfold firstV
  rw [List.find?_eq_none.2 (fun y hy => by rw [h y hy]; decide)]; rfl
set_option maxRecDepth 100000 in
set_option maxHeartbeats 4000000 in
theorem first_any (g : Nat) (fs cs : Array Value) (is : Nat → Bool) (Inv : World → Prop) (M : Nat → Prop) (l : List Nat) (blk n cap : Nat) (hn : n = l.length) (hn2 : n < 1000000) (hM : ¬ M blk) (w : World) (hMl : ∀ k, M k → k < w.heap.size)
    (hf : ∀ W, Inv W → ∀ x ∈ l, Calls Try.prog g (fs ++ #[.int .u64 (x : Int)] ++ cs) W fun e w' => e = .returned (.bool (is x)) ∧ Inv w' ∧ Keeps M W w') (hI : ∀ W W', Inv W → Below W.heap.size W W' → Inv W') (eg : ∀ args w, (callFunc g args).run Try.prog w = .ok (.enter g args) w)
    (h0 : Inv w) (hr : RowL blk l w) :
    Calls Try.prog 53 #[.slice (some ⟨blk, 0, none⟩) n cap, .agg #[.func (.func g) fs cs]] w fun e w' => e = .returned (.int .u64 (firstV is l : Nat)) ∧ Inv w' ∧ Keeps M w w' := by
  have HF := Lib.hid hf
  have HI := Lib.hid hI
  have HN := Lib.hid hn
  have H0 := Lib.hid h0
  have HR := Lib.hid hr
  clear hf hI hn h0 hr
  go_enter Try.func53, Try.ntmps53
  go_wp2_with fail
  obtain ⟨W1, hW1⟩ : ∃ x, x = w.alloc (.cells #[.func (.func g) fs cs] 89) := ⟨_, rfl⟩
  have hb1 : Below w.heap.size w W1 := by rw [hW1]; exact (Below.refl _ _).alloc (Nat.le_refl _) _
  have x1 : W1.heap[w.heap.size]? = some (.cells #[.func (.func g) fs cs] 89 (0, 0)) := by rw [hW1]; exact heap_alloc_at _ _ _ rfl
  have HB1 := Lib.hid hb1
  have X1 := Lib.hid x1
  rw [← hW1]
  clear hW1 hb1 x1
  go_loopw [4, 9] (fun xv iv wr => ∃ i : Nat, i ≤ n ∧ xv = .int .u64 0 ∧ iv = .int .i64 i ∧ (∀ y ∈ l.take i, is y = false) ∧ Inv wr ∧ RowL blk l wr ∧ Keeps M w wr ∧ wr.cell? ⟨w.heap.size, 0, none⟩ = some (.func (.func g) fs cs)) (fun _ iv _ => n - (intOf iv).toNat)
  case atStart => exact ⟨0, Nat.zero_le _, rfl, rfl, (fun y hy => by cases hy), HI.out _ _ H0.out HB1.out, HR.out.later HB1.out, Keeps.of_below HB1.out (fun k h1 h2 => by omega), by rw [cell_of_row _ _ _ _ _ _ X1.out]; rfl⟩
  case round =>
    obtain ⟨i, hi, rfl, rfl, hno, hinv, hrow, hk, hc⟩ := hrel
    have HNO := Lib.hid hno
    have HINV := Lib.hid hinv
    have HROW := Lib.hid hrow
    have HK := Lib.hid hk
    have hzr : w.heap.size < wr.heap.size := World.block_lt_of_cell? wr _ hc
    clear hno hinv hrow hk
    by_cases hlt : i < n
    · obtain ⟨x, hx⟩ : ∃ x, l[i]? = some x := ⟨l[i]'(by rw [← HN.out]; exact hlt), List.getElem?_eq_getElem _⟩
      have hcx := HROW.out.cell hx
      have HX := Lib.hid hx
      have HCALL := Lib.hid (HF.out wr HINV.out x (List.mem_of_getElem? hx))
      have hlti : (i : Int) < (n : Int) := by omega
      have hwi : IntKind.i64.wrap ((i : Int) + 1) = ((i + 1 : Nat) : Int) := by rw [IntWalk.i64_in _ (by omega)]; omega
      clear hx
      go_wp2_with fail
      refine (HCALL.out).mono ?_
      rintro e w5 ⟨rfl, hinv5, hk5⟩
      dsimp only
      have HINV5 := Lib.hid hinv5
      have HK5 := Lib.hid hk5
      have hc5 : w5.cell? ⟨w.heap.size, 0, none⟩ = some (.func (.func g) fs cs) := (World.cell?_of_block (w := wr) (w' := w5) (a := ⟨w.heap.size, 0, none⟩) (hk5.block w.heap.size hzr (fun e => by have := hMl _ e; omega))).trans hc
      clear hinv5 hk5 hc hcx
      cases hix : is x with
      | true =>
        go_wp2_with fail
        go_ret
        exact ⟨by rw [find_take HNO.out HX.out hix]; rfl, HINV5.out, HK.out.trans HK5.out⟩
      | false =>
        have hnx : ∀ y ∈ l.take (i + 1), is y = false := by
          intro y hy
          have hil := (List.getElem?_eq_some_iff.1 HX.out).1
          rw [List.take_succ_eq_append_getElem hil] at hy
          rcases List.mem_append.1 hy with h | h
          · exact HNO.out y h
          · have h1 := HX.out
            rw [List.getElem?_eq_getElem hil] at h1
            rw [List.mem_singleton.1 h, Option.some.inj h1]; exact hix
        have HNX := Lib.hid hnx
        clear hnx
        go_wp2_with fail
        exact ⟨⟨i + 1, by omega, rfl, rfl, HNX.out, HINV5.out, HROW.out.block (HK5.out.block blk HROW.out.lt hM), HK.out.trans HK5.out, hc5⟩, by simp [intOf]; omega⟩
    · obtain rfl : i = n := by omega
      go_wp2_with fail
      go_ret
      exact ⟨by rw [find_no (l := l) (is := is) (fun y hy => HNO.out y (by rw [HN.out, List.take_length]; exact hy))]; rfl, HINV.out, HK.out⟩
end Go.Proofs.Ytabbmihakoeegaa

/- A plan is looked at; a refusal is answered. -/
namespace Go.Proofs.Ytabbmihakoeegaa
set_option linter.unusedVariables false
set_option linter.unusedSimpArgs false
open Go.RowKit Go.Shelf
attribute [local go_sem] Oper.semAt_some

theorem open1_any (n : Int) (w : World) : Calls Try.prog 73 #[.int .i64 n] w fun e w' => e = .returned (.bool (!inB n 0 20)) ∧ w = w' := by
  go_enter Try.func73, Try.ntmps73
  go_wp2_with (first | (go_at_call 40; refine (pwithin_any _ _ _ _).mono ?_; rintro e w' ⟨rfl, rfl⟩))
  go_ret
  exact ⟨rfl, rfl⟩
set_option maxHeartbeats 1000000 in
theorem index_prices (l : List Int) (hl : l.length ≤ 1000000) (v : Value) (Rd : Nat → Prop) (w : World) (hv : NumsAt w v l Rd) :
    Calls Try.prog 91 #[v, .func (.func 73) #[] #[]] w fun e w' => (∃ n : Int, e = .returned (.int .i64 n) ∧ (decide (0 ≤ n) = l.any fun n => !inB n 0 20)) ∧ w = w' := by
  obtain ⟨ao, cap, rfl, hc1, hc2, hel⟩ := hv
  have HE := Lib.hid hel
  clear hel
  go_enter Try.func91, Try.ntmps91
  go_wp2
  go_loopw [8] (fun iv wr => ∃ i : Nat, i ≤ l.length ∧ iv = .int .i64 i ∧ (∀ x ∈ l.take i, inB x 0 20 = true) ∧ w = wr) (fun iv _ => l.length - (intOf iv).toNat)
  case atStart => exact ⟨0, Nat.zero_le _, rfl, (fun x hx => by cases hx), rfl⟩
  case round =>
    obtain ⟨i, hi, rfl, hno, rfl⟩ := hrel
    have HNO := Lib.hid hno
    clear hno
    by_cases hlt : i < l.length
    · obtain ⟨b, off, rfl, _, hbs, he⟩ := HE.out i hlt
      obtain ⟨x, hx⟩ : ∃ x, x = l[i] := ⟨_, rfl⟩
      rw [← hx] at he
      have HX := Lib.hid hx
      have hw : IntKind.i64.wrap ((i : Int) + 1) = ((i + 1 : Nat) : Int) := by rw [IntWalk.i64_in _ (by omega)]; omega
      clear hx
      cases hin : inB x 0 20 with
      | true =>
        go_wp2_with (first | (go_at_call 73; refine (open1_any _ _).mono ?_; rintro e w' ⟨rfl, rfl⟩; rw [hin]))
        refine ⟨⟨i + 1, by omega, rfl, fun y hy => ?_, trivial⟩, by simp [intOf]; omega⟩
        rw [List.take_succ_eq_append_getElem hlt] at hy
        rcases List.mem_append.1 hy with h | h
        · exact HNO.out y h
        · rw [List.mem_singleton.1 h, ← HX.out]; exact hin
      | false =>
        go_wp2_with (first | (go_at_call 73; refine (open1_any _ _).mono ?_; rintro e w' ⟨rfl, rfl⟩; rw [hin]))
        go_ret
        refine ⟨⟨(i : Int), rfl, ?_⟩, rfl⟩
        have : (l.any fun n => !inB n 0 20) = true := List.any_eq_true.2 ⟨l[i], List.getElem_mem hlt, by rw [← HX.out, hin]; rfl⟩
        rw [this]; simp
    · obtain rfl : i = l.length := by omega
      go_wp2
      go_ret
      refine ⟨⟨-1, rfl, ?_⟩, rfl⟩
      have : (l.any fun n => !inB n 0 20) = false := by
        rw [List.any_eq_false]
        intro x hx
        have := HNO.out x (by rw [List.take_length]; exact hx)
        simp [this]
      rw [this]; rfl
theorem contains_any (l : List Int) (hl : l.length ≤ 1000000) (v : Value) (Rd : Nat → Prop) (w : World) (hv : NumsAt w v l Rd) :
    Calls Try.prog 72 #[v, .func (.func 73) #[] #[]] w fun e w' => e = .returned (.bool (l.any fun n => !inB n 0 20)) ∧ w = w' := by
  have HV := Lib.hid hv
  clear hv
  go_enter Try.func72, Try.ntmps72
  go_wp2_with fail
  refine (index_prices l hl v Rd _ HV.out).mono ?_
  rintro e w' ⟨⟨n, rfl, hn⟩, rfl⟩
  dsimp only
  go_wp2
  go_ret
  exact ⟨by rw [← hn]; rfl, rfl⟩

/-! ### a plan that comes in -/
def planRow (q : PlanD) (bs rs ps : Value) : Array Value := #[bs, .int .i64 q.pr.zl, .int .i64 q.pr.zh, .int .i64 q.pr.rl, .int .i64 q.pr.rh, rs, .int .i64 q.wide, ps]
structure PlanAt (w : World) (q : PlanD) (bs rs ps : Value) : Prop where
  p : PairAt w q.pr bs rs
  n : NumsAt w ps q.prices (fun k => k < w.heap.size)
theorem NumsAt.low {W : World} {v : Value} {l : List Int} {Rd : Nat → Prop} (h : NumsAt W v l Rd) : NumsAt W v l (fun k => k < W.heap.size) := by
  obtain ⟨ao, cap, h1, h2, h3, h4⟩ := h
  exact ⟨ao, cap, h1, h2, h3, fun i hi => by obtain ⟨b, off, e1, e2, e3⟩ := h4 i hi; exact ⟨b, off, e1, e3.1, e3⟩⟩
theorem PlanAt.later {w W : World} {q : PlanD} {bs rs ps : Value} (h : PlanAt w q bs rs ps) (hb : Below w.heap.size w W) : PlanAt W q bs rs ps :=
  ⟨h.p.later hb, (h.n.later hb.size (fun k hk _ => hb.block k hk)).low⟩
theorem groups_valid (p : PairD) : (groupsV p).2 = if validB p then 0 else 1 := by
  unfold groupsV
  cases validB p <;> simp
/-- What open comes to. -/
def OpenR (q : PlanD) (ok : Bool) (B : Nat) (bs rs ps : Value) (w : World) (e : Ending) (w' : World) : Prop :=
  (validP q = false ∧ e = .panicked [{ v := refV 1, recovered := false }] ∧ Below w.heap.size w w') ∨ (validP q = true ∧ ok = false ∧ e = .panicked [{ v := refV 2, recovered := false }] ∧ Below w.heap.size w w') ∨
    (validP q = true ∧ ok = true ∧ ∃ pp mp, e = .returned (.pointer (some ⟨pp, 0, none⟩)) ∧ PlanS q B pp mp bs rs ps [] w' ∧ Below w.heap.size w w' ∧ w.heap.size ≤ pp ∧ w.heap.size ≤ mp)
set_option maxRecDepth 100000 in
set_option maxHeartbeats 4000000 in
theorem popen_any (q : PlanD) (bs rs ps : Value) (B : Nat) (w : World) (hB : B ≤ w.heap.size) (hb : SpansAt w bs q.pr.bs (fun k => k < B)) (hr : ReadsAt w rs q.pr.rs (fun k => k < B)) (hp : NumsAt w ps q.prices (fun k => k < B)) (f : Nat) (caps : Array Value) (ok : Bool)
    (eg : ∀ args w, (callFunc f args).run Try.prog w = .ok (.enter f args) w)
    (hf : validP q = true → ∀ W pp mp, PlanS q B pp mp bs rs ps [] W → Below w.heap.size w W → Calls Try.prog f (#[.pointer (some ⟨pp, 0, none⟩)] ++ caps) W fun e W' => e = .returned (.bool ok) ∧ W = W') :
    Calls Try.prog 30 #[.agg (planRow q bs rs ps), .func (.func f) #[] caps] w (OpenR q ok B bs rs ps w) := by
  have HF := Lib.hid hf
  have HBS := Lib.hid hb
  have HRS := Lib.hid hr
  have HPS := Lib.hid hp
  obtain ⟨aob, capb, hbv, _⟩ := id hb
  obtain ⟨aor, capr, hrv, _⟩ := id hr
  obtain ⟨aop, capp, hpv, hpl1, hpl2, _⟩ := id hp
  subst hbv hrv hpv
  have hmm := @run_makeMap Try.prog
  obtain ⟨np, hnp⟩ : ∃ n, n = q.prices.length := ⟨_, rfl⟩
  obtain ⟨nr, hnr⟩ : ∃ n, n = q.pr.rs.length := ⟨_, rfl⟩
  rw [← hnp] at HPS HF
  rw [← hnr] at HRS HF
  rw [← hnp, ← hnr]
  have HV : Hid (validP q = (validB q.pr && inB q.wide 0 40 && decide (q.prices.length = q.pr.rs.length) && q.prices.all fun n => inB n 0 20)) := Lib.hid rfl
  have HGV := Lib.hid (groups_valid q.pr)
  rw [← hnp, ← hnr] at HV
  have HNP := Lib.hid hnp
  have HNR := Lib.hid hnr
  clear hf hb hr hp hnp hnr hpl1 hpl2
  unfold planRow
  go_enter Try.func30, Try.ntmps30
  go_wp2_with fail
  have hpa : PairAt (w.alloc (.cells #[.slice aob q.pr.bs.length capb, .int .i64 q.pr.zl, .int .i64 q.pr.zh, .int .i64 q.pr.rl, .int .i64 q.pr.rh, .slice aor nr capr, .int .i64 q.wide, .slice aop np capp] 30)) q.pr (.slice aob q.pr.bs.length capb) (.slice aor nr capr) := PairAt.of (HBS.out.later (by simp) (fun k h1 h2 => hget_old _ _ _ (by omega))) (HRS.out.later (by simp) (fun k h1 h2 => hget_old _ _ _ (by omega)))
  refine (groupsV_any hpa).mono ?_
  clear hpa
  rintro e w1 ⟨rfl, hb1⟩
  dsimp only
  have hz1 : w.heap.size + 1 ≤ w1.heap.size := by have := hb1.size; simpa using this
  have hrow := (hb1.block w.heap.size (by simp)).trans (heap_alloc_at w (.cells #[.slice aob q.pr.bs.length capb, .int .i64 q.pr.zl, .int .i64 q.pr.zh, .int .i64 q.pr.rl, .int .i64 q.pr.rh, .slice aor nr capr, .int .i64 q.wide, .slice aop np capp] 30 (0, 0)) _ rfl)
  have hbw : Below w.heap.size w w1 := ((Below.refl _ _).alloc (Nat.le_refl _) _).trans (hb1.mono (by simp))
  have c0 : w1.cell? ⟨w.heap.size, 0, none⟩ = some (.slice aob q.pr.bs.length capb) := by rw [cell_of_row _ _ _ _ _ _ hrow]; rfl
  have c1 : w1.cell? ⟨w.heap.size, 1, none⟩ = some (.int .i64 q.pr.zl) := by rw [cell_of_row _ _ _ _ _ _ hrow]; rfl
  have c2 : w1.cell? ⟨w.heap.size, 2, none⟩ = some (.int .i64 q.pr.zh) := by rw [cell_of_row _ _ _ _ _ _ hrow]; rfl
  have c3 : w1.cell? ⟨w.heap.size, 3, none⟩ = some (.int .i64 q.pr.rl) := by rw [cell_of_row _ _ _ _ _ _ hrow]; rfl
  have c4 : w1.cell? ⟨w.heap.size, 4, none⟩ = some (.int .i64 q.pr.rh) := by rw [cell_of_row _ _ _ _ _ _ hrow]; rfl
  have c5 : w1.cell? ⟨w.heap.size, 5, none⟩ = some (.slice aor nr capr) := by rw [cell_of_row _ _ _ _ _ _ hrow]; rfl
  have c6 : w1.cell? ⟨w.heap.size, 6, none⟩ = some (.int .i64 q.wide) := by rw [cell_of_row _ _ _ _ _ _ hrow]; rfl
  have c7 : w1.cell? ⟨w.heap.size, 7, none⟩ = some (.slice aop np capp) := by rw [cell_of_row _ _ _ _ _ _ hrow]; rfl
  have HBW := Lib.hid hbw
  clear hb1 hrow hbw
  obtain ⟨gn, hgn⟩ : ∃ n, n = (groupsV q.pr).1 := ⟨_, rfl⟩
  rw [HGV.out, ← hgn]
  clear hgn HGV
  cases hv : validB q.pr with
  | false =>
    rw [hv] at HV
    simp only [Bool.false_eq_true, if_false]
    go_wp2_with (first | (go_at_call 40; refine (pwithin_any _ _ _ _).mono ?_; rintro e w' ⟨rfl, rfl⟩; rw [hin]))
    refine (ask_no 1 _).mono ?_
    rintro e w' ⟨rfl, rfl⟩
    dsimp only
    go_wp2_with fail
    exact ⟨by simp, .inl ⟨by rw [HV.out]; rfl, rfl, HBW.out⟩⟩
  | true =>
    rw [hv] at HV
    simp only [if_true]
    have hrl8 : nr ≤ 8 := by rw [HNR.out]; exact (OkP.of _ hv).m8
    cases hin : inB q.wide 0 40 with
    | false =>
      rw [hin] at HV
      go_wp2_with (first | (go_at_call 40; refine (pwithin_any _ _ _ _).mono ?_; rintro e w' ⟨rfl, rfl⟩; rw [hin]))
      refine (ask_no 1 _).mono ?_
      rintro e w' ⟨rfl, rfl⟩
      dsimp only
      go_wp2_with fail
      exact ⟨by simp, .inl ⟨by rw [HV.out]; rfl, rfl, HBW.out⟩⟩
    | true =>
      rw [hin] at HV
      by_cases hlen : np = nr
      · subst hlen
        have hld : decide (np = np) = true := decide_eq_true rfl
        rw [hld] at HV
        have hnot : (q.prices.any fun n => !inB n 0 20) = !(q.prices.all fun n => inB n 0 20) := by rw [List.any_eq_not_all_not]; simp
        have HNOT := Lib.hid hnot
        have hpl8 : q.prices.length ≤ 1000000 := by rw [← HNP.out]; omega
        clear hnot hld
        cases hall : q.prices.all fun n => inB n 0 20 with
        | false =>
          rw [hall] at HV HNOT
          go_wp2_with (first | (go_at_call 40; refine (pwithin_any _ _ _ _).mono ?_; rintro e w' ⟨rfl, rfl⟩; rw [hin]))
          refine (ask_ok 1 _).mono ?_
          rintro e w' ⟨rfl, rfl⟩
          dsimp only
          go_wp2_with fail
          refine (contains_any q.prices hpl8 _ _ _ (HPS.out.later HBW.out.size (fun k h1 h2 => HBW.out.block k h1))).mono ?_
          rintro e w' ⟨rfl, rfl⟩
          dsimp only
          rw [HNOT.out]
          go_wp2_with fail
          refine (ask_no 1 _).mono ?_
          rintro e w' ⟨rfl, rfl⟩
          dsimp only
          go_wp2_with fail
          exact ⟨by simp, .inl ⟨by rw [HV.out]; rfl, rfl, HBW.out⟩⟩
        | true =>
          rw [hall] at HV HNOT
          go_wp2_with (first | (go_at_call 40; refine (pwithin_any _ _ _ _).mono ?_; rintro e w' ⟨rfl, rfl⟩; rw [hin]))
          refine (ask_ok 1 _).mono ?_
          rintro e w' ⟨rfl, rfl⟩
          dsimp only
          go_wp2_with fail
          refine (contains_any q.prices hpl8 _ _ _ (HPS.out.later HBW.out.size (fun k h1 h2 => HBW.out.block k h1))).mono ?_
          rintro e w' ⟨rfl, rfl⟩
          dsimp only
          rw [HNOT.out]
          go_wp2_with fail
          refine (ask_ok 1 _).mono ?_
          rintro e w' ⟨rfl, rfl⟩
          dsimp only
          go_wp2_with fail
          obtain ⟨W2, hW2⟩ : ∃ x, x = (w1.alloc (.map #[] 0)).alloc (.cells #[.slice aob q.pr.bs.length capb, .int .i64 q.pr.zl, .int .i64 q.pr.zh, .int .i64 q.pr.rl, .int .i64 q.pr.rh, .slice aor np capr, .int .i64 q.wide, .slice aop np capp, .map (some w1.heap.size)] 113) := ⟨_, rfl⟩
          have hb2 : Below w.heap.size w W2 := by rw [hW2]; exact (HBW.out.alloc (by omega) _).alloc (by simp; omega) _
          have hz2 : W2.heap.size = w1.heap.size + 2 := by rw [hW2]; simp
          have hP2 : PlanS q B (w1.heap.size + 1) w1.heap.size (.slice aob q.pr.bs.length capb) (.slice aor np capr) (.slice aop np capp) [] W2 :=
            { obj := by rw [hW2]; exact heap_alloc_at _ _ _ (by simp)
              map := by rw [hW2]; exact (hget_old _ _ _ (by simp)).trans (heap_alloc_at _ _ _ rfl)
              hb := HBS.out.later hb2.size (fun k h1 h2 => hb2.block k h1)
              hr := HRS.out.later hb2.size (fun k h1 h2 => hb2.block k h1)
              hp := HPS.out.later hb2.size (fun k h1 h2 => hb2.block k h1)
              lp := by omega
              lm := by omega
              ne := by omega
              nd := List.nodup_nil
              lt := fun s hs => by cases hs }
          have HB2 := Lib.hid hb2
          have HP2 := Lib.hid hP2
          rw [← hW2]
          clear hW2 hb2 hP2
          have hvv : validP q = true := by rw [HV.out]; rfl
          refine (HF.out hvv W2 (w1.heap.size + 1) w1.heap.size HP2.out HB2.out).mono ?_
          rintro e w' ⟨rfl, rfl⟩
          dsimp only
          cases ok with
          | false =>
            go_wp2_with fail
            refine (ask_no 2 _).mono ?_
            rintro e w' ⟨rfl, rfl⟩
            dsimp only
            go_wp2_with fail
            exact ⟨by simp, .inr (.inl ⟨hvv, rfl, rfl, HB2.out⟩)⟩
          | true =>
            go_wp2_with fail
            refine (ask_ok 2 _).mono ?_
            rintro e w' ⟨rfl, rfl⟩
            dsimp only
            go_wp2_with fail
            go_ret
            exact .inr (.inr ⟨hvv, rfl, _, _, rfl, HP2.out, HB2.out, by omega, by omega⟩)
      · have hld : decide (np = nr) = false := decide_eq_false hlen
        rw [hld] at HV
        have hli : ((np : Int) == (nr : Int)) = false := by rw [beq_eq_false_iff_ne]; omega
        clear hld
        go_wp2_with (first | (go_at_call 40; refine (pwithin_any _ _ _ _).mono ?_; rintro e w' ⟨rfl, rfl⟩; rw [hin]))
        refine (ask_no 1 _).mono ?_
        rintro e w' ⟨rfl, rfl⟩
        dsimp only
        go_wp2_with fail
        exact ⟨by simp, .inl ⟨by rw [HV.out]; rfl, rfl, HBW.out⟩⟩
end Go.Proofs.Ytabbmihakoeegaa

/- A refusal is answered: the deferred call. -/
namespace Go.Proofs.Ytabbmihakoeegaa
set_option linter.unusedVariables false
set_option linter.unusedSimpArgs false
open Go.RowKit Go.Shelf
attribute [local go_sem] Oper.semAt_some

set_option maxRecDepth 100000 in
set_option maxHeartbeats 2000000 in
theorem answer_idle (ep : Nat) (w : World) :
    CallsD Try.prog 29 #[.pointer (some ⟨ep, 0, none⟩)] .returning w fun e u' w' => e = .returned (.tuple #[]) ∧ u' = .returning ∧ w' = w := by
  refine callsD_of_wpS Try.func29 rfl fun c₀ cs hu => ?_
  have hm : c₀ = { c₀ with mode := .returning } := by cases c₀; simp_all
  simp only [Try.ntmps29, List.size_toArray, List.length_cons, List.length_nil, Nat.reduceAdd, Nat.reduceSub, Array.replicate_succ, Array.replicate_zero, List.push_toArray, List.append_toArray, List.nil_append, List.cons_append]
  refine wpS_seq ?_
  apply wpS_region
  simp [wpOpsS, go_sem, recoverD, hu, Oper.upon, Exit.thenS]
  refine wpS_of_wp ?_
  go_wp2
  simp only [bodyPostS]
  exact ⟨trivial, .returning, by rw [← hm], .tuple #[], by simp [results, Try.results29, go_sem], by first | exact ⟨rfl, rfl, rfl⟩ | exact ⟨trivial, rfl, rfl⟩ | simp⟩
set_option maxRecDepth 100000 in
set_option maxHeartbeats 2000000 in
theorem answer_stop (n : Int) (ep : Nat) (x : Int) (w : World) (hep : w.heap[ep]? = some (.cells #[.int .i64 x] 33 (0, 0))) :
    CallsD Try.prog 29 #[.pointer (some ⟨ep, 0, none⟩)] (.panicking [{ v := refV n, recovered := false }]) w fun e u' w' => e = .returned (.tuple #[]) ∧ u' = .panicking [{ v := refV n, recovered := true }] ∧ Keeps (fun k => k = ep) w w' ∧ w'.heap[ep]? = some (.cells #[.int .i64 n] 33 (0, 0)) := by
  have hlt := lt_of_block hep
  have hta : ∀ W : World, (Instr.typeAssert (.iface 107 (.int .i64 n)) 20 107 true).run Try.prog W = .ok (.tuple #[.int .i64 n, .bool true]) W := fun W => by kernel_rfl
  have c0 : w.cell? ⟨ep, 0, none⟩ = some (.int .i64 x) := by rw [cell_of_row _ _ _ _ _ _ hep]; rfl
  have c1 : w.frozen? ⟨ep, 0, none⟩ = false := frozen_of_row _ _ _ _ _ hep
  refine callsD_of_wpS Try.func29 rfl fun c₀ cs hu => ?_
  simp only [Try.ntmps29, List.size_toArray, List.length_cons, List.length_nil, Nat.reduceAdd, Nat.reduceSub, Array.replicate_succ, Array.replicate_zero, List.push_toArray, List.append_toArray, List.nil_append, List.cons_append]
  refine wpS_seq ?_
  apply wpS_region
  simp [wpOpsS, go_sem, recoverD, hu, Oper.upon, Exit.thenS]
  refine wpS_of_wp ?_
  unfold refV
  have c2 : (w.setCell ⟨ep, 0, none⟩ (.int .i64 n)).heap[ep]? = some (.cells #[.int .i64 n] 33 (0, 0)) := by
    simp [World.setCell, Array.getElem?_modify, hep]
  have C2 := Lib.hid c2
  have HT := Lib.hid hta
  clear c2
  go_wp2
  simp only [bodyPostS]
  exact ⟨trivial, _, rfl, .tuple #[], by simp [results, Try.results29, go_sem], by first | exact ⟨rfl, rfl, Keeps.setCell (Mut := fun k => k = ep) _ _ _ rfl, C2.out⟩ | exact ⟨trivial, rfl, Keeps.setCell (Mut := fun k => k = ep) _ _ _ rfl, C2.out⟩⟩
end Go.Proofs.Ytabbmihakoeegaa

/- The fewest readings, and the cheapest ones, walked. -/
namespace Go.Proofs.Ytabbmihakoeegaa
set_option linter.unusedVariables false
set_option linter.unusedSimpArgs false
open Go.RowKit Go.Shelf
attribute [local go_sem] Oper.semAt_some

/-- A refusal that is answered. -/
theorem leaf_stop {fn : Func} (n : Int) {R : Ending → World → Prop} (E : Nat) (x : Int) (tmps : Array Value) (w5 : World) (he : w5.heap[E]? = some (.cells #[.int .i64 x] 33 (0, 0)))
    (hR : ∀ W', Keeps (fun k => k = E) w5 W' → W'.heap[E]? = some (.cells #[.int .i64 n] 33 (0, 0)) → ∃ v, (results fn tmps).run Try.prog W' = .ok v W' ∧ R (.returned v) W') :
    Leaves Try.prog fn tmps R [{ target := .fn (.func 29) #[], args := #[.pointer (some ⟨E, 0, none⟩)] }] (.panicking [{ v := refV n, recovered := false }]) w5 := by
  refine leaves_cons (f := 29) (args := #[.pointer (some ⟨E, 0, none⟩)]) (by simp) (by simp [go_sem, invoke]) ?_
  refine (answer_stop n E x w5 he).mono ?_
  rintro e u' w' ⟨rfl, rfl, hk, he'⟩
  exact hR _ hk he'
theorem leaf_ret {fn : Func} {R : Ending → World → Prop} (E : Nat) (tmps : Array Value) (w5 : World) (hR : ∃ v, (results fn tmps).run Try.prog w5 = .ok v w5 ∧ R (.returned v) w5) :
    Leaves Try.prog fn tmps R [{ target := .fn (.func 29) #[], args := #[.pointer (some ⟨E, 0, none⟩)] }] .returning w5 := by
  refine leaves_cons (f := 29) (args := #[.pointer (some ⟨E, 0, none⟩)]) (by simp) (by simp [go_sem, invoke]) ?_
  refine (answer_idle E w5).mono ?_
  rintro e u' w' ⟨rfl, rfl, rfl⟩
  exact hR
theorem errE_bad {q : PlanD} (h : validP q = false) : errE q = 1 := by simp [errE, errP, h]
theorem errE_no {q : PlanD} (h : validP q = true) (ht : truA q.pr = []) : errE q = 10 := by simp [errE, errP, h, ht]
theorem errE_none {q : PlanD} (h : validP q = true) (ht : truA q.pr ≠ []) (he : enoughV q (everyV q) = false) : errE q = 4 := by simp [errE, errP, h, ht, he]
theorem errE_ok {q : PlanD} (h : validP q = true) (ht : truA q.pr ≠ []) (he : enoughV q (everyV q) = true) : errE q = 0 := by simp [errE, errP, h, ht, he]
theorem fewest_err {q : PlanD} {n : Int} (h : errE q = n) (hn : n ≠ 0) : fewestV q = (0, n) := by unfold fewestV; rw [if_pos (by rw [h]; exact hn), h]
theorem fewest_ok {q : PlanD} (h : errE q = 0) : fewestV q = (((firstV (enoughV q) (setsV q false) : Nat) : Int), 0) := by unfold fewestV; rw [if_neg (by rw [h]; decide)]
theorem cheap_err {q : PlanD} {n : Int} (h : errE q = n) (hn : n ≠ 0) : cheapestV q = ((0, 0), n) := by unfold cheapestV; rw [if_pos (by rw [h]; exact hn), h]
theorem cheap_ok {q : PlanD} (h : errE q = 0) : cheapestV q = ((((cheapSetV q : Nat) : Int), costV q (cheapSetV q)), 0) := by unfold cheapestV; rw [if_neg (by rw [h]; decide)]
theorem setsV_mem {q : PlanD} (pr : Bool) {s : Nat} : s ∈ setsV q pr ↔ s < 2 ^ q.prices.length := by
  unfold setsV
  rw [(sortV_perm _ _).mem_iff, List.mem_range]
theorem setsV_len {q : PlanD} (pr : Bool) : (setsV q pr).length = 2 ^ q.prices.length := by
  unfold setsV
  rw [(sortV_perm _ _).length_eq, List.length_range]
theorem firstV_lt {q : PlanD} (is : Nat → Bool) (pr : Bool) : firstV is (setsV q pr) < 2 ^ q.prices.length := by
  unfold firstV
  cases h : (setsV q pr).find? is with
  | none => exact Nat.two_pow_pos _
  | some x => exact (setsV_mem pr).1 (List.mem_of_find?_eq_some h)
set_option maxRecDepth 100000 in
set_option maxHeartbeats 4000000 in
theorem fewestV_any {q : PlanD} {bs rs ps : Value} {w : World} (h : PlanAt w q bs rs ps) :
    Calls Try.prog 17 #[.agg (planRow q bs rs ps)] w fun e w' => e = .returned (.tuple #[.int .i64 (fewestV q).1, .int .i64 (fewestV q).2]) ∧ Below w.heap.size w w' := by
  obtain ⟨aob, capb, hbv, _⟩ := id h.p.b
  obtain ⟨aor, capr, hrv, _⟩ := id h.p.r
  obtain ⟨aop, capp, hpv, _⟩ := id h.n
  subst hbv hrv hpv
  have H := Lib.hid h
  have hmf : ∀ (fn : Fn) (first cap : Array Value) (w : World), (Instr.makeFunc fn first cap).run Try.prog w = .ok (.func fn first cap) w := fun _ _ _ _ => rfl
  clear h
  unfold planRow
  have eg := enters_of Try.func51 (by kernel_rfl) rfl
  obtain ⟨W0, hW0⟩ : ∃ x, x = (w.alloc (.cells #[.slice aob q.pr.bs.length capb, .int .i64 q.pr.zl, .int .i64 q.pr.zh, .int .i64 q.pr.rl, .int .i64 q.pr.rh, .slice aor q.pr.rs.length capr, .int .i64 q.wide, .slice aop q.prices.length capp] 30)).alloc (.cells #[.int .i64 0] 33) := ⟨_, rfl⟩
  have hb0 : Below w.heap.size w W0 := by rw [hW0]; exact ((Below.refl _ _).alloc (Nat.le_refl _) _).alloc (by simp) _
  have hz0 : W0.heap.size = w.heap.size + 2 := by rw [hW0]; simp
  have x0 : W0.heap[w.heap.size]? = some (.cells #[.slice aob q.pr.bs.length capb, .int .i64 q.pr.zl, .int .i64 q.pr.zh, .int .i64 q.pr.rl, .int .i64 q.pr.rh, .slice aor q.pr.rs.length capr, .int .i64 q.wide, .slice aop q.prices.length capp] 30 (0, 0)) := by rw [hW0]; exact (hget_old _ _ _ (by simp)).trans (heap_alloc_at _ _ _ rfl)
  have xe : W0.heap[w.heap.size + 1]? = some (.cells #[.int .i64 0] 33 (0, 0)) := by rw [hW0]; exact heap_alloc_at _ _ _ (by simp)
  have HB0 := Lib.hid hb0
  have XE := Lib.hid xe
  have X0 := Lib.hid x0
  go_enter_defers Try.func17, Try.ntmps17
  have c0 : W0.cell? ⟨w.heap.size, 0, none⟩ = some (.slice aob q.pr.bs.length capb) := by rw [cell_of_row _ _ _ _ _ _ x0]; rfl
  have c1 : W0.cell? ⟨w.heap.size, 1, none⟩ = some (.int .i64 q.pr.zl) := by rw [cell_of_row _ _ _ _ _ _ x0]; rfl
  have c2 : W0.cell? ⟨w.heap.size, 2, none⟩ = some (.int .i64 q.pr.zh) := by rw [cell_of_row _ _ _ _ _ _ x0]; rfl
  have c3 : W0.cell? ⟨w.heap.size, 3, none⟩ = some (.int .i64 q.pr.rl) := by rw [cell_of_row _ _ _ _ _ _ x0]; rfl
  have c4 : W0.cell? ⟨w.heap.size, 4, none⟩ = some (.int .i64 q.pr.rh) := by rw [cell_of_row _ _ _ _ _ _ x0]; rfl
  have c5 : W0.cell? ⟨w.heap.size, 5, none⟩ = some (.slice aor q.pr.rs.length capr) := by rw [cell_of_row _ _ _ _ _ _ x0]; rfl
  have c6 : W0.cell? ⟨w.heap.size, 6, none⟩ = some (.int .i64 q.wide) := by rw [cell_of_row _ _ _ _ _ _ x0]; rfl
  have c7 : W0.cell? ⟨w.heap.size, 7, none⟩ = some (.slice aop q.prices.length capp) := by rw [cell_of_row _ _ _ _ _ _ x0]; rfl
  clear hb0 x0 xe
  go_wp2_with fail
  rw [← hW0]
  clear hW0 c0 c1 c2 c3 c4 c5 c6 c7
  refine (popen_any q (.slice aob q.pr.bs.length capb) (.slice aor q.pr.rs.length capr) (.slice aop q.prices.length capp) w.heap.size W0 HB0.out.size (H.out.p.b.later HB0.out.size (fun k h1 h2 => HB0.out.block k h1)) (H.out.p.r.later HB0.out.size (fun k h1 h2 => HB0.out.block k h1)) (H.out.n.later HB0.out.size (fun k h1 h2 => HB0.out.block k h1)) 51 #[] true eg (fun _ W pp mp _ _ => palways_any _ _)).mono ?_
  rintro e w5 hor
  have HXE5 : ∀ W, Below W0.heap.size W0 W → W.heap[w.heap.size + 1]? = some (.cells #[.int .i64 0] 33 (0, 0)) := fun W hb => (hb.block _ (by omega)).trans XE.out
  have HXE := Lib.hid HXE5
  clear HXE5
  rcases hor with ⟨hv, rfl, hb5⟩ | ⟨hv, ho, rfl, hb5⟩ | ⟨hv, ho, pp, mp, rfl, hP, hb5, hpp, hmp⟩
  · dsimp only
    refine leaf_stop 1 (w.heap.size + 1) 0 _ w5 (HXE.out w5 hb5) (fun W' hkE heE => ?_)
    have e9 : W'.cell? ⟨w.heap.size + 1, 0, none⟩ = some (.int .i64 1) := by rw [cell_of_row _ _ _ _ _ _ heE]; rfl
    exact ⟨_, by simp [results, Try.results17, go_sem, e9]; rfl, by rw [fewest_err (errE_bad hv) (by decide)], ((HB0.out.trans (hb5.mono HB0.out.size))).trans (hkE.below ((HB0.out.trans (hb5.mono HB0.out.size))).size (fun k h e => by omega))⟩
  · cases ho
  have hq := OkQ.of hv
  have HQ := Lib.hid hq
  have HV := Lib.hid hv
  have HP := Lib.hid hP
  have HB5 := Lib.hid hb5
  have hz5 := hb5.size
  clear hq hv ho hP hb5
  dsimp only
  go_wp2_with fail
  refine (can_any HQ.out w5 HP.out).mono ?_
  rintro e w6 (⟨ht, rfl, hk⟩ | ⟨ht, hen, rfl, hk⟩ | ⟨ht, hen, rfl, L1, hP1, hk⟩)
  · dsimp only
    refine leaf_stop 10 (w.heap.size + 1) 0 _ w6 ((hk.block (w.heap.size + 1) (by omega) (by omega)).trans (HXE.out w5 HB5.out)) (fun W' hkE heE => ?_)
    have e9 : W'.cell? ⟨w.heap.size + 1, 0, none⟩ = some (.int .i64 10) := by rw [cell_of_row _ _ _ _ _ _ heE]; rfl
    exact ⟨_, by simp [results, Try.results17, go_sem, e9]; rfl, by rw [fewest_err (errE_no HV.out ht) (by decide)], (((HB0.out.trans (HB5.out.mono HB0.out.size)).trans (hk.below (by omega) (fun k h e => by omega)))).trans (hkE.below (((HB0.out.trans (HB5.out.mono HB0.out.size)).trans (hk.below (by omega) (fun k h e => by omega)))).size (fun k h e => by omega))⟩
  · dsimp only
    refine leaf_stop 4 (w.heap.size + 1) 0 _ w6 ((hk.block (w.heap.size + 1) (by omega) (by omega)).trans (HXE.out w5 HB5.out)) (fun W' hkE heE => ?_)
    have e9 : W'.cell? ⟨w.heap.size + 1, 0, none⟩ = some (.int .i64 4) := by rw [cell_of_row _ _ _ _ _ _ heE]; rfl
    exact ⟨_, by simp [results, Try.results17, go_sem, e9]; rfl, by rw [fewest_err (errE_none HV.out ht hen) (by decide)], (((HB0.out.trans (HB5.out.mono HB0.out.size)).trans (hk.below (by omega) (fun k h e => by omega)))).trans (hkE.below (((HB0.out.trans (HB5.out.mono HB0.out.size)).trans (hk.below (by omega) (fun k h e => by omega)))).size (fun k h e => by omega))⟩
  have HVAL := Lib.hid (fewest_ok (errE_ok HV.out ht hen))
  have HT := Lib.hid ht
  have HP1 := Lib.hid hP1
  have HB6 := Lib.hid ((HB0.out.trans (HB5.out.mono HB0.out.size)).trans (hk.below (by omega) (fun k h e => by omega)))
  have HXE6 := Lib.hid ((hk.block (w.heap.size + 1) (by omega) (by omega)).trans (HXE.out w5 HB5.out))
  have hz6 := hk.size
  clear ht hen hP1 hk
  dsimp only
  go_wp2_with fail
  refine (sets_any HQ.out false w6 HP1.out).mono ?_
  rintro e w7 ⟨g, cap, rfl, hg, hrow, hb7⟩
  have HP7 := Lib.hid (HP1.out.below hb7)
  have HB7 := Lib.hid (HB6.out.trans (hb7.mono HB6.out.size))
  have HXE7 := Lib.hid ((hb7.block _ (by omega)).trans HXE6.out)
  have HROW := Lib.hid hrow
  have hz7 := hb7.size
  have hml := lt_of_block HP1.out.map
  have h256 := HQ.out.p256
  have hpos := Nat.two_pow_pos q.prices.length
  clear hrow hb7
  dsimp only
  go_wp2_with fail
  refine (first_any 54 #[.pointer (some ⟨pp, 0, none⟩)] #[] (enoughV q) (fun W => ∃ L, PlanS q w.heap.size pp mp (.slice aob q.pr.bs.length capb) (.slice aor q.pr.rs.length capr) (.slice aop q.prices.length capp) L W) (fun k => k = mp) (setsV q false) g (2 ^ q.prices.length) cap (setsV_len false).symm (by omega) (by omega) w7 (fun k hk => by omega)
    (fun W hW x hx => by
      obtain ⟨L, hL⟩ := hW
      refine (enough_any HQ.out HT.out x ((setsV_mem false).1 hx) W hL).mono ?_
      rintro e W' ⟨rfl, L', h1, h2⟩
      exact ⟨rfl, ⟨L', h1⟩, h2⟩)
    (fun W W' ⟨L, hL⟩ hb => ⟨L, hL.below hb⟩) (enters_of Try.func54 (by kernel_rfl) rfl) ⟨_, HP7.out⟩ HROW.out).mono ?_
  rintro e w8 ⟨rfl, _, hk8⟩
  have hlt := firstV_lt (q := q) (enoughV q) false
  obtain ⟨res, hres⟩ : ∃ r, r = firstV (enoughV q) (setsV q false) := ⟨_, rfl⟩
  rw [← hres] at hlt HVAL
  rw [← hres]
  have hwr : IntKind.i64.wrap (res : Int) = (res : Int) := IntWalk.i64_in _ (by omega)
  have xe8 := (hk8.block (w.heap.size + 1) (by omega) (by omega)).trans HXE7.out
  have d8 : w8.cell? ⟨w.heap.size + 1, 0, none⟩ = some (.int .i64 0) := by rw [cell_of_row _ _ _ _ _ _ xe8]; rfl
  have f8 : w8.frozen? ⟨w.heap.size + 1, 0, none⟩ = false := frozen_of_row _ _ 0 _ _ xe8
  have HB8 := Lib.hid (HB7.out.trans (hk8.below HB7.out.size (fun k h e => by omega)))
  have XE8 := Lib.hid xe8
  clear hres hk8 xe8
  dsimp only
  go_wp2_with fail
  refine leaf_ret (w.heap.size + 1) _ _ ?_
  have x9 : (w8.setCell ⟨w.heap.size + 1, 0, none⟩ (.int .i64 0)).heap[w.heap.size + 1]? = some (.cells #[.int .i64 0] 33 (0, 0)) := by
    have := XE8.out
    simp [World.setCell, Array.getElem?_modify, this]
  have e9 : (w8.setCell ⟨w.heap.size + 1, 0, none⟩ (.int .i64 0)).cell? ⟨w.heap.size + 1, 0, none⟩ = some (.int .i64 0) := by rw [cell_of_row _ _ _ _ _ _ x9]; rfl
  exact ⟨_, by simp [results, Try.results17, go_sem, e9]; rfl, by rw [HVAL.out], (HB8.out).setCell (by simp; try omega) _⟩
set_option maxRecDepth 100000 in
set_option maxHeartbeats 4000000 in
theorem cheapestV_any {q : PlanD} {bs rs ps : Value} {w : World} (h : PlanAt w q bs rs ps) :
    Calls Try.prog 26 #[.agg (planRow q bs rs ps)] w fun e w' => e = .returned (.tuple #[.int .i64 (cheapestV q).1.1, .int .i64 (cheapestV q).1.2, .int .i64 (cheapestV q).2]) ∧ Below w.heap.size w w' := by
  obtain ⟨aob, capb, hbv, _⟩ := id h.p.b
  obtain ⟨aor, capr, hrv, _⟩ := id h.p.r
  obtain ⟨aop, capp, hpv, _⟩ := id h.n
  subst hbv hrv hpv
  have H := Lib.hid h
  have hmf : ∀ (fn : Fn) (first cap : Array Value) (w : World), (Instr.makeFunc fn first cap).run Try.prog w = .ok (.func fn first cap) w := fun _ _ _ _ => rfl
  clear h
  unfold planRow
  have eg := enters_of Try.func51 (by kernel_rfl) rfl
  obtain ⟨W0, hW0⟩ : ∃ x, x = (w.alloc (.cells #[.slice aob q.pr.bs.length capb, .int .i64 q.pr.zl, .int .i64 q.pr.zh, .int .i64 q.pr.rl, .int .i64 q.pr.rh, .slice aor q.pr.rs.length capr, .int .i64 q.wide, .slice aop q.prices.length capp] 30)).alloc (.cells #[.int .i64 0] 33) := ⟨_, rfl⟩
  have hb0 : Below w.heap.size w W0 := by rw [hW0]; exact ((Below.refl _ _).alloc (Nat.le_refl _) _).alloc (by simp) _
  have hz0 : W0.heap.size = w.heap.size + 2 := by rw [hW0]; simp
  have x0 : W0.heap[w.heap.size]? = some (.cells #[.slice aob q.pr.bs.length capb, .int .i64 q.pr.zl, .int .i64 q.pr.zh, .int .i64 q.pr.rl, .int .i64 q.pr.rh, .slice aor q.pr.rs.length capr, .int .i64 q.wide, .slice aop q.prices.length capp] 30 (0, 0)) := by rw [hW0]; exact (hget_old _ _ _ (by simp)).trans (heap_alloc_at _ _ _ rfl)
  have xe : W0.heap[w.heap.size + 1]? = some (.cells #[.int .i64 0] 33 (0, 0)) := by rw [hW0]; exact heap_alloc_at _ _ _ (by simp)
  have HB0 := Lib.hid hb0
  have XE := Lib.hid xe
  have X0 := Lib.hid x0
  go_enter_defers Try.func26, Try.ntmps26
  have c0 : W0.cell? ⟨w.heap.size, 0, none⟩ = some (.slice aob q.pr.bs.length capb) := by rw [cell_of_row _ _ _ _ _ _ x0]; rfl
  have c1 : W0.cell? ⟨w.heap.size, 1, none⟩ = some (.int .i64 q.pr.zl) := by rw [cell_of_row _ _ _ _ _ _ x0]; rfl
  have c2 : W0.cell? ⟨w.heap.size, 2, none⟩ = some (.int .i64 q.pr.zh) := by rw [cell_of_row _ _ _ _ _ _ x0]; rfl
  have c3 : W0.cell? ⟨w.heap.size, 3, none⟩ = some (.int .i64 q.pr.rl) := by rw [cell_of_row _ _ _ _ _ _ x0]; rfl
  have c4 : W0.cell? ⟨w.heap.size, 4, none⟩ = some (.int .i64 q.pr.rh) := by rw [cell_of_row _ _ _ _ _ _ x0]; rfl
  have c5 : W0.cell? ⟨w.heap.size, 5, none⟩ = some (.slice aor q.pr.rs.length capr) := by rw [cell_of_row _ _ _ _ _ _ x0]; rfl
  have c6 : W0.cell? ⟨w.heap.size, 6, none⟩ = some (.int .i64 q.wide) := by rw [cell_of_row _ _ _ _ _ _ x0]; rfl
  have c7 : W0.cell? ⟨w.heap.size, 7, none⟩ = some (.slice aop q.prices.length capp) := by rw [cell_of_row _ _ _ _ _ _ x0]; rfl
  clear hb0 x0 xe
  go_wp2_with fail
  rw [← hW0]
  clear hW0 c0 c1 c2 c3 c4 c5 c6 c7
  refine (popen_any q (.slice aob q.pr.bs.length capb) (.slice aor q.pr.rs.length capr) (.slice aop q.prices.length capp) w.heap.size W0 HB0.out.size (H.out.p.b.later HB0.out.size (fun k h1 h2 => HB0.out.block k h1)) (H.out.p.r.later HB0.out.size (fun k h1 h2 => HB0.out.block k h1)) (H.out.n.later HB0.out.size (fun k h1 h2 => HB0.out.block k h1)) 51 #[] true eg (fun _ W pp mp _ _ => palways_any _ _)).mono ?_
  rintro e w5 hor
  have HXE5 : ∀ W, Below W0.heap.size W0 W → W.heap[w.heap.size + 1]? = some (.cells #[.int .i64 0] 33 (0, 0)) := fun W hb => (hb.block _ (by omega)).trans XE.out
  have HXE := Lib.hid HXE5
  clear HXE5
  rcases hor with ⟨hv, rfl, hb5⟩ | ⟨hv, ho, rfl, hb5⟩ | ⟨hv, ho, pp, mp, rfl, hP, hb5, hpp, hmp⟩
  · dsimp only
    refine leaf_stop 1 (w.heap.size + 1) 0 _ w5 (HXE.out w5 hb5) (fun W' hkE heE => ?_)
    have e9 : W'.cell? ⟨w.heap.size + 1, 0, none⟩ = some (.int .i64 1) := by rw [cell_of_row _ _ _ _ _ _ heE]; rfl
    exact ⟨_, by simp [results, Try.results26, go_sem, e9]; rfl, by rw [cheap_err (errE_bad hv) (by decide)], ((HB0.out.trans (hb5.mono HB0.out.size))).trans (hkE.below ((HB0.out.trans (hb5.mono HB0.out.size))).size (fun k h e => by omega))⟩
  · cases ho
  have hq := OkQ.of hv
  have HQ := Lib.hid hq
  have HV := Lib.hid hv
  have HP := Lib.hid hP
  have HB5 := Lib.hid hb5
  have hz5 := hb5.size
  clear hq hv ho hP hb5
  dsimp only
  go_wp2_with fail
  refine (can_any HQ.out w5 HP.out).mono ?_
  rintro e w6 (⟨ht, rfl, hk⟩ | ⟨ht, hen, rfl, hk⟩ | ⟨ht, hen, rfl, L1, hP1, hk⟩)
  · dsimp only
    refine leaf_stop 10 (w.heap.size + 1) 0 _ w6 ((hk.block (w.heap.size + 1) (by omega) (by omega)).trans (HXE.out w5 HB5.out)) (fun W' hkE heE => ?_)
    have e9 : W'.cell? ⟨w.heap.size + 1, 0, none⟩ = some (.int .i64 10) := by rw [cell_of_row _ _ _ _ _ _ heE]; rfl
    exact ⟨_, by simp [results, Try.results26, go_sem, e9]; rfl, by rw [cheap_err (errE_no HV.out ht) (by decide)], (((HB0.out.trans (HB5.out.mono HB0.out.size)).trans (hk.below (by omega) (fun k h e => by omega)))).trans (hkE.below (((HB0.out.trans (HB5.out.mono HB0.out.size)).trans (hk.below (by omega) (fun k h e => by omega)))).size (fun k h e => by omega))⟩
  · dsimp only
    refine leaf_stop 4 (w.heap.size + 1) 0 _ w6 ((hk.block (w.heap.size + 1) (by omega) (by omega)).trans (HXE.out w5 HB5.out)) (fun W' hkE heE => ?_)
    have e9 : W'.cell? ⟨w.heap.size + 1, 0, none⟩ = some (.int .i64 4) := by rw [cell_of_row _ _ _ _ _ _ heE]; rfl
    exact ⟨_, by simp [results, Try.results26, go_sem, e9]; rfl, by rw [cheap_err (errE_none HV.out ht hen) (by decide)], (((HB0.out.trans (HB5.out.mono HB0.out.size)).trans (hk.below (by omega) (fun k h e => by omega)))).trans (hkE.below (((HB0.out.trans (HB5.out.mono HB0.out.size)).trans (hk.below (by omega) (fun k h e => by omega)))).size (fun k h e => by omega))⟩
  have HVAL := Lib.hid (cheap_ok (errE_ok HV.out ht hen))
  have HT := Lib.hid ht
  have HP1 := Lib.hid hP1
  have HB6 := Lib.hid ((HB0.out.trans (HB5.out.mono HB0.out.size)).trans (hk.below (by omega) (fun k h e => by omega)))
  have HXE6 := Lib.hid ((hk.block (w.heap.size + 1) (by omega) (by omega)).trans (HXE.out w5 HB5.out))
  have hz6 := hk.size
  clear ht hen hP1 hk
  dsimp only
  go_wp2_with fail
  refine (sets_any HQ.out true w6 HP1.out).mono ?_
  rintro e w7 ⟨g, cap, rfl, hg, hrow, hb7⟩
  have HP7 := Lib.hid (HP1.out.below hb7)
  have HB7 := Lib.hid (HB6.out.trans (hb7.mono HB6.out.size))
  have HXE7 := Lib.hid ((hb7.block _ (by omega)).trans HXE6.out)
  have HROW := Lib.hid hrow
  have hz7 := hb7.size
  have hml := lt_of_block HP1.out.map
  have h256 := HQ.out.p256
  have hpos := Nat.two_pow_pos q.prices.length
  clear hrow hb7
  dsimp only
  go_wp2_with fail
  refine (first_any 54 #[.pointer (some ⟨pp, 0, none⟩)] #[] (enoughV q) (fun W => ∃ L, PlanS q w.heap.size pp mp (.slice aob q.pr.bs.length capb) (.slice aor q.pr.rs.length capr) (.slice aop q.prices.length capp) L W) (fun k => k = mp) (setsV q true) g (2 ^ q.prices.length) cap (setsV_len true).symm (by omega) (by omega) w7 (fun k hk => by omega)
    (fun W hW x hx => by
      obtain ⟨L, hL⟩ := hW
      refine (enough_any HQ.out HT.out x ((setsV_mem true).1 hx) W hL).mono ?_
      rintro e W' ⟨rfl, L', h1, h2⟩
      exact ⟨rfl, ⟨L', h1⟩, h2⟩)
    (fun W W' ⟨L, hL⟩ hb => ⟨L, hL.below hb⟩) (enters_of Try.func54 (by kernel_rfl) rfl) ⟨_, HP7.out⟩ HROW.out).mono ?_
  rintro e w8 ⟨rfl, ⟨L8, hP8⟩, hk8⟩
  have hun : cheapSetV q = firstV (enoughV q) (setsV q true) := rfl
  rw [hun] at HVAL
  clear hun
  have hlt := firstV_lt (q := q) (enoughV q) true
  obtain ⟨res, hres⟩ : ∃ r, r = firstV (enoughV q) (setsV q true) := ⟨_, rfl⟩
  rw [← hres] at hlt HVAL
  rw [← hres]
  have hwr : IntKind.i64.wrap (res : Int) = (res : Int) := IntWalk.i64_in _ (by omega)
  have xe8 := (hk8.block (w.heap.size + 1) (by omega) (by omega)).trans HXE7.out
  have d8 : w8.cell? ⟨w.heap.size + 1, 0, none⟩ = some (.int .i64 0) := by rw [cell_of_row _ _ _ _ _ _ xe8]; rfl
  have f8 : w8.frozen? ⟨w.heap.size + 1, 0, none⟩ = false := frozen_of_row _ _ 0 _ _ xe8
  have HB8 := Lib.hid (HB7.out.trans (hk8.below HB7.out.size (fun k h e => by omega)))
  have XE8 := Lib.hid xe8
  have HP8 := Lib.hid hP8
  have hz8 := hk8.size
  clear hres hk8 xe8 hP8 d8 f8
  dsimp only
  go_wp2_with fail
  refine (costs_any HQ.out res hlt w8 HP8.out).mono ?_
  rintro e w9 ⟨rfl, hb9⟩
  have xe9 := (hb9.block (w.heap.size + 1) (by omega)).trans XE8.out
  have d9 : w9.cell? ⟨w.heap.size + 1, 0, none⟩ = some (.int .i64 0) := by rw [cell_of_row _ _ _ _ _ _ xe9]; rfl
  have f9 : w9.frozen? ⟨w.heap.size + 1, 0, none⟩ = false := frozen_of_row _ _ 0 _ _ xe9
  have HB9 := Lib.hid (HB8.out.trans (hb9.mono HB8.out.size))
  have XE9 := Lib.hid xe9
  clear hb9 xe9
  dsimp only
  go_wp2_with fail
  refine leaf_ret (w.heap.size + 1) _ _ ?_
  have x9 : (w9.setCell ⟨w.heap.size + 1, 0, none⟩ (.int .i64 0)).heap[w.heap.size + 1]? = some (.cells #[.int .i64 0] 33 (0, 0)) := by
    have := XE9.out
    simp [World.setCell, Array.getElem?_modify, this]
  have e9 : (w9.setCell ⟨w.heap.size + 1, 0, none⟩ (.int .i64 0)).cell? ⟨w.heap.size + 1, 0, none⟩ = some (.int .i64 0) := by rw [cell_of_row _ _ _ _ _ _ x9]; rfl
  exact ⟨_, by simp [results, Try.results26, go_sem, e9]; rfl, by rw [HVAL.out], (HB9.out).setCell (by simp; try omega) _⟩
end Go.Proofs.Ytabbmihakoeegaa

/- By which fewest readings blocks hang together, walked. -/
namespace Go.Proofs.Ytabbmihakoeegaa
set_option linter.unusedVariables false
set_option linter.unusedSimpArgs false
open Go.RowKit Go.Shelf
attribute [local go_sem] Oper.semAt_some

theorem closed_bad {q : PlanD} (h : validP q = false) : closedV q = (0, 1) := by unfold closedV; rw [if_pos h]
theorem closed_ok {q : PlanD} (h : validP q = true) : closedV q = (((firstV (fun s => decide (groupsS q.pr s = groupsS q.pr (everyV q))) (setsV q false) : Nat) : Int), 0) := by unfold closedV; rw [if_neg (by rw [h]; decide)]
set_option maxRecDepth 100000 in
set_option maxHeartbeats 2000000 in
theorem closed1_any {q : PlanD} (hq : OkQ q) {B pp mp : Nat} {bs rs ps : Value} {L : List Nat} (pb s : Nat) (hs : s < 2 ^ q.prices.length) (w : World) (hpb : w.heap[pb]? = some (.cells #[.pointer (some ⟨pp, 0, none⟩)] 60 (0, 0))) (h : PlanS q B pp mp bs rs ps L w) :
    Calls Try.prog 57 #[.int .u64 s, .pointer (some ⟨pb, 0, none⟩)] w fun e w' => e = .returned (.int .i64 (groupsS q.pr s)) ∧ Below w.heap.size w w' := by
  have d1 : w.cell? ⟨pb, 0, none⟩ = some (.pointer (some ⟨pp, 0, none⟩)) := by rw [cell_of_row _ _ _ _ _ _ hpb]; rfl
  have HQ := Lib.hid hq
  have H := Lib.hid h
  clear h hq hpb
  go_enter Try.func57, Try.ntmps57
  go_wp2_with fail
  refine (ponly_any HQ.out s hs w H.out).mono ?_
  rintro e w1 ⟨rs', rfl, hb1, hrs⟩
  have hbs1 := H.out.hb.later hb1.size (fun k h1 h2 => hb1.block k h1)
  have HB1 := Lib.hid hb1
  have hpa : PairAt w1 (onlyP q.pr s) bs rs' := PairAt.of hbs1 hrs
  clear hb1 hrs hbs1
  dsimp only
  go_wp2_with fail
  refine (groupsV_any hpa).mono ?_
  rintro e w2 ⟨rfl, hb2⟩
  dsimp only
  clear hpa d1
  go_wp2_with fail
  go_ret
  exact ⟨rfl, HB1.out.trans (hb2.mono HB1.out.size)⟩
def clo1 (pb : Nat) : Value := .func (.func 57) #[] #[.pointer (some ⟨pb, 0, none⟩)]
set_option maxRecDepth 100000 in
set_option maxHeartbeats 2000000 in
theorem closed2_any {q : PlanD} (hq : OkQ q) {B pp mp : Nat} {bs rs ps : Value} {L : List Nat} (pb gb ab s : Nat) (a : Int) (hs : s < 2 ^ q.prices.length) (w : World) (hpb : w.heap[pb]? = some (.cells #[.pointer (some ⟨pp, 0, none⟩)] 60 (0, 0)))
    (hgb : w.heap[gb]? = some (.cells #[clo1 pb] 95 (0, 0))) (hab : w.heap[ab]? = some (.cells #[.int .i64 a] 3 (0, 0))) (h : PlanS q B pp mp bs rs ps L w) :
    Calls Try.prog 59 #[.int .u64 s, .pointer (some ⟨gb, 0, none⟩), .pointer (some ⟨ab, 0, none⟩)] w fun e w' => e = .returned (.bool (decide (groupsS q.pr s = a))) ∧ Below w.heap.size w w' := by
  have d1 : w.cell? ⟨gb, 0, none⟩ = some (clo1 pb) := by rw [cell_of_row _ _ _ _ _ _ hgb]; rfl
  have d2 : w.cell? ⟨ab, 0, none⟩ = some (.int .i64 a) := by rw [cell_of_row _ _ _ _ _ _ hab]; rfl
  have HQ := Lib.hid hq
  have H := Lib.hid h.drew
  have HPB := Lib.hid hpb
  have HGB := Lib.hid hgb
  have HAB := Lib.hid hab
  have eg := enters_of Try.func57 (by kernel_rfl) rfl
  unfold clo1 at d1
  clear h hq hpb hgb hab
  go_enter Try.func59, Try.ntmps59
  go_wp2_with fail
  refine wp_region_held_drew (S := fun W' => W'.cell? ⟨gb, 0, none⟩ = some (.func (.func 57) #[] #[.pointer (some ⟨pb, 0, none⟩)]) ∧ W'.cell? ⟨ab, 0, none⟩ = some (.int .i64 a)) (by kernel_rfl) ⟨d1, d2⟩ fun hS => ?_
  clear d1 d2
  refine wpAnyH_take (i := 0) (v := ?_) rfl (by kernel_rfl) (by kernel_rfl) (by kernel_rfl) (fun _ _ _ h => h) (Or.inl ⟨by rfl, ?_⟩) hS ?_
  rotate_left
  · (intro W hSw; obtain ⟨hq1, hq2⟩ := hSw; go_simp; try with_reducible rfl)
  try simp only [List.getElem_toArray, List.getElem_cons_succ, List.getElem_cons_zero, Act.put, List.setIfInBounds_toArray, List.set_cons_zero, List.set_cons_succ]
  refine wpAnyH_take (i := 1) (v := ?_) rfl (by kernel_rfl) (by kernel_rfl) (by kernel_rfl) (fun _ _ _ h => h) (Or.inl ⟨by rfl, ?_⟩) hS ?_
  rotate_left
  · (intro W hSw; obtain ⟨hq1, hq2⟩ := hSw; go_simp; try with_reducible rfl)
  try simp only [List.getElem_toArray, List.getElem_cons_succ, List.getElem_cons_zero, Act.put, List.setIfInBounds_toArray, List.set_cons_zero, List.set_cons_succ]
  refine wpAnyH_take (i := 3) (v := ?_) rfl (by kernel_rfl) (by kernel_rfl) (by kernel_rfl) (fun _ _ _ h => h) (Or.inl ⟨by rfl, ?_⟩) hS ?_
  rotate_left
  · (intro W hSw; obtain ⟨hq1, hq2⟩ := hSw; go_simp; try with_reducible rfl)
  try simp only [List.getElem_toArray, List.getElem_cons_succ, List.getElem_cons_zero, Act.put, List.setIfInBounds_toArray, List.set_cons_zero, List.set_cons_succ]
  refine wpAnyH_ready (rs := [2]) (by kernel_rfl) (by simp) ?_
  refine AllReadyH.cons rfl (fun K hK => ?_) AllReadyH.nil
  go_simp
  refine (closed1_any HQ.out pb s hs w.drew HPB.out H.out).mono ?_
  rintro e w1 ⟨rfl, hb1⟩
  dsimp only
  have HB1 := Lib.hid hb1
  have g1 := (hb1.block gb (lt_of_block HGB.out)).trans HGB.out
  have g2 := (hb1.block ab (lt_of_block HAB.out)).trans HAB.out
  clear hb1 hS
  refine hK.out _ _ ⟨by rw [cell_of_row _ _ _ _ _ _ g1]; rfl, by rw [cell_of_row _ _ _ _ _ _ g2]; rfl⟩ (fun hS => ?_)
  clear hK K
  try simp only [List.getElem_toArray, List.getElem_cons_succ, List.getElem_cons_zero, Act.put, List.setIfInBounds_toArray, List.set_cons_zero, List.set_cons_succ]
  clear g1 g2
  refine wpAnyH_take (i := 4) (v := ?_) rfl (by kernel_rfl) (by kernel_rfl) (by kernel_rfl) (fun _ _ _ h => h) (Or.inl ⟨by rfl, ?_⟩) hS ?_
  rotate_left
  · (intro W hSw; obtain ⟨hq1, hq2⟩ := hSw; go_simp; try with_reducible rfl)
  try simp only [List.getElem_toArray, List.getElem_cons_succ, List.getElem_cons_zero, Act.put, List.setIfInBounds_toArray, List.set_cons_zero, List.set_cons_succ]
  refine wpAnyH_take (i := 5) (v := ?_) rfl (by kernel_rfl) (by kernel_rfl) (by kernel_rfl) (fun _ _ _ h => h) (Or.inl ⟨by rfl, ?_⟩) hS ?_
  rotate_left
  · (intro W hSw; obtain ⟨hq1, hq2⟩ := hSw; go_simp; try with_reducible rfl)
  try simp only [List.getElem_toArray, List.getElem_cons_succ, List.getElem_cons_zero, Act.put, List.setIfInBounds_toArray, List.set_cons_zero, List.set_cons_succ]
  refine wpAnyH_done (by kernel_rfl) ?_ _
  clear hS
  go_wp2
  go_ret
  refine ⟨?_, (Below.refl _ _).drew.trans HB1.out⟩
  rw [Bool.beq_eq_decide_eq]; rfl
theorem closed_put {R : Ending → World → Prop} {c : List PanicEntry} {d : Nat} {v : Value} {a : Act} {w : World} (h2 : d ≠ 2) (h3 : d ≠ 3)
    (h : bodyPostD Try.prog Try.f21 R (.panic c) (a.put (some d) v) w) : bodyPostD Try.prog Try.f21 R (.panic c) a w := by
  refine Leaves.congr (fun w v hh => ?_) _ _ _ h
  have hr : Try.f21.results = #[.tmp 2, .cell 3 33] := rfl
  unfold results at hh ⊢
  rw [hr] at hh ⊢
  simpa [Act.put, Array.getD_eq_getD_getElem?, Array.getElem?_setIfInBounds, h2, h3] using hh
set_option maxRecDepth 100000 in
set_option maxHeartbeats 4000000 in
theorem closedV_any {q : PlanD} {bs rs ps : Value} {w : World} (h : PlanAt w q bs rs ps) :
    Calls Try.prog 21 #[.agg (planRow q bs rs ps)] w fun e w' => e = .returned (.tuple #[.int .i64 (closedV q).1, .int .i64 (closedV q).2]) ∧ Below w.heap.size w w' := by
  obtain ⟨aob, capb, hbv, _⟩ := id h.p.b
  obtain ⟨aor, capr, hrv, _⟩ := id h.p.r
  obtain ⟨aop, capp, hpv, _⟩ := id h.n
  subst hbv hrv hpv
  have H := Lib.hid h
  have hmf : ∀ (fn : Fn) (first cap : Array Value) (w : World), (Instr.makeFunc fn first cap).run Try.prog w = .ok (.func fn first cap) w := fun _ _ _ _ => rfl
  clear h
  unfold planRow
  have eg := enters_of Try.func51 (by kernel_rfl) rfl
  obtain ⟨W0, hW0⟩ : ∃ x, x = (w.alloc (.cells #[.slice aob q.pr.bs.length capb, .int .i64 q.pr.zl, .int .i64 q.pr.zh, .int .i64 q.pr.rl, .int .i64 q.pr.rh, .slice aor q.pr.rs.length capr, .int .i64 q.wide, .slice aop q.prices.length capp] 30)).alloc (.cells #[.int .i64 0] 33) := ⟨_, rfl⟩
  have hb0 : Below w.heap.size w W0 := by rw [hW0]; exact ((Below.refl _ _).alloc (Nat.le_refl _) _).alloc (by simp) _
  have hz0 : W0.heap.size = w.heap.size + 2 := by rw [hW0]; simp
  have x0 : W0.heap[w.heap.size]? = some (.cells #[.slice aob q.pr.bs.length capb, .int .i64 q.pr.zl, .int .i64 q.pr.zh, .int .i64 q.pr.rl, .int .i64 q.pr.rh, .slice aor q.pr.rs.length capr, .int .i64 q.wide, .slice aop q.prices.length capp] 30 (0, 0)) := by rw [hW0]; exact (hget_old _ _ _ (by simp)).trans (heap_alloc_at _ _ _ rfl)
  have xe : W0.heap[w.heap.size + 1]? = some (.cells #[.int .i64 0] 33 (0, 0)) := by rw [hW0]; exact heap_alloc_at _ _ _ (by simp)
  have HB0 := Lib.hid hb0
  have XE := Lib.hid xe
  have X0 := Lib.hid x0
  go_enter_defers Try.func21, Try.ntmps21
  have c0 : W0.cell? ⟨w.heap.size, 0, none⟩ = some (.slice aob q.pr.bs.length capb) := by rw [cell_of_row _ _ _ _ _ _ x0]; rfl
  have c1 : W0.cell? ⟨w.heap.size, 1, none⟩ = some (.int .i64 q.pr.zl) := by rw [cell_of_row _ _ _ _ _ _ x0]; rfl
  have c2 : W0.cell? ⟨w.heap.size, 2, none⟩ = some (.int .i64 q.pr.zh) := by rw [cell_of_row _ _ _ _ _ _ x0]; rfl
  have c3 : W0.cell? ⟨w.heap.size, 3, none⟩ = some (.int .i64 q.pr.rl) := by rw [cell_of_row _ _ _ _ _ _ x0]; rfl
  have c4 : W0.cell? ⟨w.heap.size, 4, none⟩ = some (.int .i64 q.pr.rh) := by rw [cell_of_row _ _ _ _ _ _ x0]; rfl
  have c5 : W0.cell? ⟨w.heap.size, 5, none⟩ = some (.slice aor q.pr.rs.length capr) := by rw [cell_of_row _ _ _ _ _ _ x0]; rfl
  have c6 : W0.cell? ⟨w.heap.size, 6, none⟩ = some (.int .i64 q.wide) := by rw [cell_of_row _ _ _ _ _ _ x0]; rfl
  have c7 : W0.cell? ⟨w.heap.size, 7, none⟩ = some (.slice aop q.prices.length capp) := by rw [cell_of_row _ _ _ _ _ _ x0]; rfl
  clear hb0 x0 xe
  go_wp2_with fail
  rw [← hW0]
  clear hW0 c0 c1 c2 c3 c4 c5 c6 c7
  refine (popen_any q (.slice aob q.pr.bs.length capb) (.slice aor q.pr.rs.length capr) (.slice aop q.prices.length capp) w.heap.size W0 HB0.out.size (H.out.p.b.later HB0.out.size (fun k h1 h2 => HB0.out.block k h1)) (H.out.p.r.later HB0.out.size (fun k h1 h2 => HB0.out.block k h1)) (H.out.n.later HB0.out.size (fun k h1 h2 => HB0.out.block k h1)) 51 #[] true eg (fun _ W pp mp _ _ => palways_any _ _)).mono ?_
  rintro e w5 hor
  have HXE5 : ∀ W, Below W0.heap.size W0 W → W.heap[w.heap.size + 1]? = some (.cells #[.int .i64 0] 33 (0, 0)) := fun W hb => (hb.block _ (by omega)).trans XE.out
  have HXE := Lib.hid HXE5
  clear HXE5
  rcases hor with ⟨hv, rfl, hb5⟩ | ⟨hv, ho, rfl, hb5⟩ | ⟨hv, ho, pp, mp, rfl, hP, hb5, hpp, hmp⟩
  · dsimp only
    refine leaf_stop 1 (w.heap.size + 1) 0 _ w5 (HXE.out w5 hb5) (fun W' hkE heE => ?_)
    have e9 : W'.cell? ⟨w.heap.size + 1, 0, none⟩ = some (.int .i64 1) := by rw [cell_of_row _ _ _ _ _ _ heE]; rfl
    exact ⟨_, by simp [results, Try.results21, go_sem, e9]; rfl, by rw [closed_bad hv], ((HB0.out.trans (hb5.mono HB0.out.size))).trans (hkE.below ((HB0.out.trans (hb5.mono HB0.out.size))).size (fun k h e => by omega))⟩
  · cases ho
  have hq := OkQ.of hv
  have HQ := Lib.hid hq
  have HV := Lib.hid hv
  have HP := Lib.hid hP
  have HB5 := Lib.hid hb5
  have hz5 := hb5.size
  clear hq hv ho hP hb5
  dsimp only
  go_wp2_with fail
  obtain ⟨Wa, hWa⟩ : ∃ x, x = (w5.alloc (.cells #[.pointer (some ⟨pp, 0, none⟩)] 60)).alloc (.cells #[Value.nilFunc] 95) := ⟨_, rfl⟩
  have ya1 : Wa.heap[w5.heap.size]? = some (.cells #[.pointer (some ⟨pp, 0, none⟩)] 60 (0, 0)) := by rw [hWa]; exact (hget_old _ _ _ (by simp)).trans (heap_alloc_at _ _ _ rfl)
  have ya2 : Wa.heap[w5.heap.size + 1]? = some (.cells #[Value.nilFunc] 95 (0, 0)) := by rw [hWa]; exact heap_alloc_at _ _ _ (by simp)
  have hba : Below w5.heap.size w5 Wa := by rw [hWa]; exact ((Below.refl _ _).alloc (Nat.le_refl _) _).alloc (by simp) _
  have hza : Wa.heap.size = w5.heap.size + 2 := by rw [hWa]; simp
  have k1 : Wa.cell? ⟨w5.heap.size + 1, 0, none⟩ = some Value.nilFunc := by rw [cell_of_row _ _ _ _ _ _ ya2]; rfl
  have k2 : Wa.frozen? ⟨w5.heap.size + 1, 0, none⟩ = false := frozen_of_row _ _ 0 _ _ ya2
  rw [← hWa]
  clear hWa
  have hst : ∀ f a b, (store ⟨w5.heap.size + 1, 0, none⟩ (.func f a b)).run Try.prog Wa = .ok () (Wa.setCell ⟨w5.heap.size + 1, 0, none⟩ (.func f a b)) := fun f a b => (run_store Try.prog Wa _ _ _ rfl).trans (by simp [stored, k1, k2])
  rw [hst]
  clear hst
  go_wp2_with fail
  obtain ⟨W6, hW6⟩ : ∃ x, x = Wa.setCell ⟨w5.heap.size + 1, 0, none⟩ (clo1 w5.heap.size) := ⟨_, rfl⟩
  have hz6 : W6.heap.size = w5.heap.size + 2 := by rw [hW6]; simp [World.setCell, hza]
  have hb6 : Below w5.heap.size w5 W6 := by rw [hW6]; exact hba.setCell (by simp) _
  have y1 : W6.heap[w5.heap.size]? = some (.cells #[.pointer (some ⟨pp, 0, none⟩)] 60 (0, 0)) := by rw [hW6]; exact (Below.heap_setCell _ _ _ _ (by simp)).trans ya1
  have y2 : W6.heap[w5.heap.size + 1]? = some (.cells #[clo1 w5.heap.size] 95 (0, 0)) := by
    rw [hW6]
    simp only [World.setCell, Array.getElem?_modify, ya2]
    simp
  have HP6 := Lib.hid (HP.out.below hb6)
  have HB6 := Lib.hid hb6
  have Y1 := Lib.hid y1
  have Y2 := Lib.hid y2
  have eg1 := enters_of Try.func57 (by kernel_rfl) rfl
  have d1 : W6.cell? ⟨w5.heap.size + 1, 0, none⟩ = some (.func (.func 57) #[] #[.pointer (some ⟨w5.heap.size, 0, none⟩)]) := by rw [cell_of_row _ _ _ _ _ _ y2]; rfl
  have d2 : W6.cell? ⟨w5.heap.size, 0, none⟩ = some (.pointer (some ⟨pp, 0, none⟩)) := by rw [cell_of_row _ _ _ _ _ _ y1]; rfl
  unfold clo1 at hW6
  rw [← hW6]
  clear hW6 hb6 y1 y2 k1 k2 ya1 ya2 hba
  refine wp_region_tail 5 #[false, false, false, false, false, true] (fun W' => W'.cell? ⟨w5.heap.size + 1, 0, none⟩ = some (.func (.func 57) #[] #[.pointer (some ⟨w5.heap.size, 0, none⟩)]) ∧ W'.cell? ⟨w5.heap.size, 0, none⟩ = some (.pointer (some ⟨pp, 0, none⟩))) (by kernel_rfl) (by kernel_rfl) rfl ⟨d1, d2⟩ fun hS => ?_
  clear d1 d2
  refine wpAnyH_take (i := 0) (v := ?_) rfl (by kernel_rfl) (by kernel_rfl) (by kernel_rfl) (fun c a w h => closed_put (by decide) (by decide) h) (Or.inl ⟨by rfl, ?_⟩) hS ?_
  rotate_left
  · (intro W hSw; obtain ⟨hq1, hq2⟩ := hSw; go_simp; try with_reducible rfl)
  try simp only [List.getElem_toArray, List.getElem_cons_succ, List.getElem_cons_zero, Act.put, List.setIfInBounds_toArray, List.set_cons_zero, List.set_cons_succ]
  refine wpAnyH_take (i := 1) (v := ?_) rfl (by kernel_rfl) (by kernel_rfl) (by kernel_rfl) (fun c a w h => closed_put (by decide) (by decide) h) (Or.inl ⟨by rfl, ?_⟩) hS ?_
  rotate_left
  · (intro W hSw; obtain ⟨hq1, hq2⟩ := hSw; go_simp; try with_reducible rfl)
  try simp only [List.getElem_toArray, List.getElem_cons_succ, List.getElem_cons_zero, Act.put, List.setIfInBounds_toArray, List.set_cons_zero, List.set_cons_succ]
  have hzz5 := HB5.out.size
  refine held_tail (fun b8 _ => { tmps := #[.agg #[.slice aob q.pr.bs.length capb, .int .i64 q.pr.zl, .int .i64 q.pr.zh, .int .i64 q.pr.rl, .int .i64 q.pr.rh, .slice aor q.pr.rs.length capr, .int .i64 q.wide, .slice aop q.prices.length capp], .pointer (some ⟨w.heap.size, 0, none⟩), .int .i64 0, .pointer (some ⟨w.heap.size + 1, 0, none⟩), .pointer (some ⟨w5.heap.size, 0, none⟩), .pointer (some ⟨w5.heap.size + 1, 0, none⟩), .pointer (some ⟨b8, 0, none⟩), .agg #[.slice aob q.pr.bs.length capb, .int .i64 q.pr.zl, .int .i64 q.pr.zh, .int .i64 q.pr.rl, .int .i64 q.pr.rh, .slice aor q.pr.rs.length capr, .int .i64 q.wide, .slice aop q.prices.length capp], .pointer (some ⟨pp, 0, none⟩), .func (.func 57) #[] #[.pointer (some ⟨w5.heap.size, 0, none⟩)], .func (.func 57) #[] #[.pointer (some ⟨w5.heap.size, 0, none⟩)], .pointer (some ⟨pp, 0, none⟩), .int .u64 (everyV q : Nat), .int .i64 (groupsS q.pr (everyV q)), undef, undef, undef, undef, undef, undef, undef, undef], defers := [{ target := .fn (.func 29) #[], args := #[.pointer (some ⟨w.heap.size + 1, 0, none⟩)] }] }) (fun b8 _ W => Below W6.heap.size W6 W ∧ W.heap[b8]? = some (.cells #[.int .i64 0] 3 (0, 0)) ∧ W6.heap.size ≤ b8) ?_ ?_
  · rintro b8 b9 W7 ⟨hb7, hb8, hb8l⟩
    have HB7 := Lib.hid hb7
    have HR8 := Lib.hid hb8
    have d8 : W7.cell? ⟨b8, 0, none⟩ = some (.int .i64 0) := by rw [cell_of_row _ _ _ _ _ _ hb8]; rfl
    have f8 : W7.frozen? ⟨b8, 0, none⟩ = false := frozen_of_row _ _ 0 _ _ hb8
    have p7 : W7.cell? ⟨w5.heap.size, 0, none⟩ = some (.pointer (some ⟨pp, 0, none⟩)) := by rw [cell_of_row _ _ _ _ _ _ ((hb7.block _ (by omega)).trans Y1.out)]; rfl
    have p8 : ∀ v, (W7.setCell ⟨b8, 0, none⟩ v).cell? ⟨w5.heap.size, 0, none⟩ = some (.pointer (some ⟨pp, 0, none⟩)) := fun v => by rw [cell_of_row _ _ _ _ _ _ ((Below.heap_setCell _ _ _ _ (by simp; omega)).trans ((hb7.block _ (by omega)).trans Y1.out))]; rfl
    clear hb7 hb8 hS
    unfold TailQ
    simp only [List.drop_succ_cons, List.drop_zero]
    go_wp2_with fail
    obtain ⟨W8, hW8⟩ : ∃ x, x = W7.setCell ⟨b8, 0, none⟩ (.int .i64 (groupsS q.pr (everyV q))) := ⟨_, rfl⟩
    have hb78 : Below W6.heap.size W6 W8 := by rw [hW8]; exact HB7.out.setCell (by simp; omega) _
    have r8 : W8.heap[b8]? = some (.cells #[.int .i64 (groupsS q.pr (everyV q))] 3 (0, 0)) := by
      rw [hW8]
      have := HR8.out
      simp [World.setCell, Array.getElem?_modify, this]
    rw [← hW8]
    have HB8 := Lib.hid hb78
    have R8 := Lib.hid r8
    clear hW8 hb78 r8 p8 d8 f8 p7
    have hbt : Below W0.heap.size W0 W8 := HB5.out.trans ((HB6.out.trans (HB8.out.mono HB6.out.size)).mono hzz5)
    have HBT := Lib.hid hbt
    clear hbt
    refine (sets_any HQ.out false W8 (HP6.out.below HB8.out)).mono ?_
    rintro e W9 ⟨g, cap, rfl, hg, hrow, hb9⟩
    have hz8 := HB8.out.size
    have HP9 := Lib.hid ((HP6.out.below HB8.out).below hb9)
    have HBT9 := Lib.hid (HBT.out.trans (hb9.mono HBT.out.size))
    have R89 := Lib.hid ((hb9.block _ (lt_of_block R8.out)).trans R8.out)
    have Y19 := Lib.hid ((hb9.block _ (by omega)).trans ((HB8.out.block _ (by omega)).trans Y1.out))
    have Y29 := Lib.hid ((hb9.block _ (by omega)).trans ((HB8.out.block _ (by omega)).trans Y2.out))
    have HROW := Lib.hid hrow
    have h256 := HQ.out.p256
    have hpos := Nat.two_pow_pos q.prices.length
    clear hrow hb9
    dsimp only
    go_wp2_with fail
    refine (first_any 59 #[] #[.pointer (some ⟨w5.heap.size + 1, 0, none⟩), .pointer (some ⟨b8, 0, none⟩)] (fun s => decide (groupsS q.pr s = groupsS q.pr (everyV q))) (fun W => PlanS q w.heap.size pp mp (.slice aob q.pr.bs.length capb) (.slice aor q.pr.rs.length capr) (.slice aop q.prices.length capp) [] W ∧ W.heap[b8]? = some (.cells #[.int .i64 (groupsS q.pr (everyV q))] 3 (0, 0)) ∧ W.heap[w5.heap.size]? = some (.cells #[.pointer (some ⟨pp, 0, none⟩)] 60 (0, 0)) ∧ W.heap[w5.heap.size + 1]? = some (.cells #[clo1 w5.heap.size] 95 (0, 0))) (fun _ => False) (setsV q false) g (2 ^ q.prices.length) cap (setsV_len false).symm (by omega) (fun h => h) W9 (fun k hk => hk.elim)
      (fun W ⟨h1, h2, h3, h4⟩ x hx => by
        refine (closed2_any HQ.out w5.heap.size (w5.heap.size + 1) b8 x _ ((setsV_mem false).1 hx) W h3 h4 h2 h1).mono ?_
        rintro e W' ⟨rfl, hb⟩
        exact ⟨rfl, ⟨h1.below hb, (hb.block _ (lt_of_block h2)).trans h2, (hb.block _ (lt_of_block h3)).trans h3, (hb.block _ (lt_of_block h4)).trans h4⟩, Keeps.of_below hb (fun k h1 h2 => by omega)⟩)
      (fun W W' ⟨h1, h2, h3, h4⟩ hb => ⟨h1.below hb, (hb.block _ (lt_of_block h2)).trans h2, (hb.block _ (lt_of_block h3)).trans h3, (hb.block _ (lt_of_block h4)).trans h4⟩) (enters_of Try.func59 (by kernel_rfl) rfl) ⟨HP9.out, R89.out, Y19.out, Y29.out⟩ HROW.out).mono ?_
    rintro e WA ⟨rfl, _, hkA⟩
    have hlt := firstV_lt (q := q) (fun s => decide (groupsS q.pr s = groupsS q.pr (everyV q))) false
    have HVAL := Lib.hid (closed_ok HV.out)
    obtain ⟨res, hres⟩ : ∃ r, r = firstV (fun s => decide (groupsS q.pr s = groupsS q.pr (everyV q))) (setsV q false) := ⟨_, rfl⟩
    rw [← hres] at hlt HVAL
    rw [← hres]
    have hwr : IntKind.i64.wrap (res : Int) = (res : Int) := IntWalk.i64_in _ (by omega)
    have HBA := Lib.hid (HBT9.out.trans (hkA.below HBT9.out.size (fun k h e => e)))
    have xeA := HXE.out WA HBA.out
    have dA : WA.cell? ⟨w.heap.size + 1, 0, none⟩ = some (.int .i64 0) := by rw [cell_of_row _ _ _ _ _ _ xeA]; rfl
    have fA : WA.frozen? ⟨w.heap.size + 1, 0, none⟩ = false := frozen_of_row _ _ 0 _ _ xeA
    have XEA := Lib.hid xeA
    have HBW := Lib.hid (HB0.out.trans (HBA.out.mono HB0.out.size))
    clear hres hkA xeA
    dsimp only
    go_wp2_with fail
    refine leaf_ret (w.heap.size + 1) _ _ ?_
    have x9 : (WA.setCell ⟨w.heap.size + 1, 0, none⟩ (.int .i64 0)).heap[w.heap.size + 1]? = some (.cells #[.int .i64 0] 33 (0, 0)) := by
      have := XEA.out
      simp [World.setCell, Array.getElem?_modify, this]
    have e9 : (WA.setCell ⟨w.heap.size + 1, 0, none⟩ (.int .i64 0)).cell? ⟨w.heap.size + 1, 0, none⟩ = some (.int .i64 0) := by rw [cell_of_row _ _ _ _ _ _ x9]; rfl
    exact ⟨_, by simp [results, Try.results21, go_sem, e9]; rfl, by rw [HVAL.out], (HBW.out).setCell (by simp; try omega) _⟩
  intro hT
  have HT := Lib.hid hT
  clear hT
  have HPx := Lib.hid HP6.out.drew
  have HBx : Hid (Below W6.heap.size W6 W6.drew) := Lib.hid (Below.refl _ _).drew
  obtain ⟨V0, hV0⟩ : ∃ x, x = W6.drew := ⟨_, rfl⟩
  rw [← hV0] at HPx HBx hS ⊢
  clear hV0
  refine wpAnyH_ready (rs := [2, 4]) (by kernel_rfl) (by simp) ?_
  refine AllReadyH.cons rfl (fun K hK => ?_) ?_
  · skip
    go_simp
    refine (pevery_any HQ.out V0 HPx.out).mono ?_
    rintro e w' ⟨rfl, rfl⟩
    dsimp only
    refine hK.out _ _ hS (fun hS => ?_)
    clear hK K
    try simp only [List.getElem_toArray, List.getElem_cons_succ, List.getElem_cons_zero, Act.put, List.setIfInBounds_toArray, List.set_cons_zero, List.set_cons_succ]
    refine wpAnyH_ready (rs := [3, 4]) (by kernel_rfl) (by simp) ?_
    refine AllReadyH.cons rfl (fun K hK => ?_) ?_
    · skip
      go_simp
      refine (closed1_any HQ.out w5.heap.size (everyV q) everyV_lt V0 (show V0.heap[w5.heap.size]? = _ from (HBx.out.block _ (by omega)).trans Y1.out) HPx.out).mono ?_
      rintro e V1 ⟨rfl, hbn⟩
      dsimp only
      replace HPx := Lib.hid (HPx.out.below hbn)
      replace HBx := Lib.hid (HBx.out.trans (hbn.mono HBx.out.size))
      have hS2 := And.intro (show V1.cell? ⟨w5.heap.size + 1, 0, none⟩ = some (.func (.func 57) #[] #[.pointer (some ⟨w5.heap.size, 0, none⟩)]) by rw [cell_of_row _ _ _ _ _ _ ((HBx.out.block _ (by omega)).trans Y2.out)]; rfl) (show V1.cell? ⟨w5.heap.size, 0, none⟩ = some (.pointer (some ⟨pp, 0, none⟩)) by rw [cell_of_row _ _ _ _ _ _ ((HBx.out.block _ (by omega)).trans Y1.out)]; rfl)
      clear hS
      refine hK.out _ _ hS2 (fun hS => ?_)
      clear hK K
      try simp only [List.getElem_toArray, List.getElem_cons_succ, List.getElem_cons_zero, Act.put, List.setIfInBounds_toArray, List.set_cons_zero, List.set_cons_succ]
      refine wpAnyH_ready (rs := [4]) (by kernel_rfl) (by simp) ?_
      refine AllReadyH.cons rfl (fun K hK => ?_) AllReadyH.nil
      go_simp
      have hbn : Below V1.heap.size V1 (V1.alloc (.cells #[.int .i64 0] 3)) := (Below.refl _ _).alloc (Nat.le_refl _) _
      obtain ⟨b8, hb8⟩ : ∃ k, k = V1.heap.size := ⟨_, rfl⟩
      have R8 : Hid ((V1.alloc (.cells #[.int .i64 0] 3)).heap[b8]? = some (.cells #[.int .i64 0] 3 (0, 0))) := Lib.hid (heap_alloc_at _ _ _ hb8)
      have G8 : W6.heap.size ≤ b8 := by have := HBx.out.size; omega
      obtain ⟨V2, hWn⟩ : ∃ x, x = V1.alloc (.cells #[.int .i64 0] 3) := ⟨_, rfl⟩
      rw [← hWn] at hbn R8
      rw [← hb8, ← hWn]
      replace HPx := Lib.hid (HPx.out.below hbn)
      replace HBx := Lib.hid (HBx.out.trans (hbn.mono HBx.out.size))
      have hS2 := And.intro (show V2.cell? ⟨w5.heap.size + 1, 0, none⟩ = some (.func (.func 57) #[] #[.pointer (some ⟨w5.heap.size, 0, none⟩)]) by rw [cell_of_row _ _ _ _ _ _ ((HBx.out.block _ (by omega)).trans Y2.out)]; rfl) (show V2.cell? ⟨w5.heap.size, 0, none⟩ = some (.pointer (some ⟨pp, 0, none⟩)) by rw [cell_of_row _ _ _ _ _ _ ((HBx.out.block _ (by omega)).trans Y1.out)]; rfl)
      clear hWn hb8 hbn hS
      refine hK.out _ _ hS2 (fun hS => ?_)
      clear hK K
      try simp only [List.getElem_toArray, List.getElem_cons_succ, List.getElem_cons_zero, Act.put, List.setIfInBounds_toArray, List.set_cons_zero, List.set_cons_succ]
      refine wpAnyH_done (by kernel_rfl) ?_ _
      exact HT.out b8 0 V2 ⟨HBx.out, R8.out, G8⟩
    refine AllReadyH.cons rfl (fun K hK => ?_) AllReadyH.nil
    go_simp
    have hbn : Below V0.heap.size V0 (V0.alloc (.cells #[.int .i64 0] 3)) := (Below.refl _ _).alloc (Nat.le_refl _) _
    obtain ⟨b8, hb8⟩ : ∃ k, k = V0.heap.size := ⟨_, rfl⟩
    have R8 : Hid ((V0.alloc (.cells #[.int .i64 0] 3)).heap[b8]? = some (.cells #[.int .i64 0] 3 (0, 0))) := Lib.hid (heap_alloc_at _ _ _ hb8)
    have G8 : W6.heap.size ≤ b8 := by have := HBx.out.size; omega
    obtain ⟨V1, hWn⟩ : ∃ x, x = V0.alloc (.cells #[.int .i64 0] 3) := ⟨_, rfl⟩
    rw [← hWn] at hbn R8
    rw [← hb8, ← hWn]
    replace HPx := Lib.hid (HPx.out.below hbn)
    replace HBx := Lib.hid (HBx.out.trans (hbn.mono HBx.out.size))
    have hS2 := And.intro (show V1.cell? ⟨w5.heap.size + 1, 0, none⟩ = some (.func (.func 57) #[] #[.pointer (some ⟨w5.heap.size, 0, none⟩)]) by rw [cell_of_row _ _ _ _ _ _ ((HBx.out.block _ (by omega)).trans Y2.out)]; rfl) (show V1.cell? ⟨w5.heap.size, 0, none⟩ = some (.pointer (some ⟨pp, 0, none⟩)) by rw [cell_of_row _ _ _ _ _ _ ((HBx.out.block _ (by omega)).trans Y1.out)]; rfl)
    clear hWn hb8 hbn hS
    refine hK.out _ _ hS2 (fun hS => ?_)
    clear hK K
    try simp only [List.getElem_toArray, List.getElem_cons_succ, List.getElem_cons_zero, Act.put, List.setIfInBounds_toArray, List.set_cons_zero, List.set_cons_succ]
    refine wpAnyH_ready (rs := [3]) (by kernel_rfl) (by simp) ?_
    refine AllReadyH.cons rfl (fun K hK => ?_) AllReadyH.nil
    go_simp
    refine (closed1_any HQ.out w5.heap.size (everyV q) everyV_lt V1 (show V1.heap[w5.heap.size]? = _ from (HBx.out.block _ (by omega)).trans Y1.out) HPx.out).mono ?_
    rintro e V2 ⟨rfl, hbn⟩
    dsimp only
    replace HPx := Lib.hid (HPx.out.below hbn)
    replace HBx := Lib.hid (HBx.out.trans (hbn.mono HBx.out.size))
    have hS2 := And.intro (show V2.cell? ⟨w5.heap.size + 1, 0, none⟩ = some (.func (.func 57) #[] #[.pointer (some ⟨w5.heap.size, 0, none⟩)]) by rw [cell_of_row _ _ _ _ _ _ ((HBx.out.block _ (by omega)).trans Y2.out)]; rfl) (show V2.cell? ⟨w5.heap.size, 0, none⟩ = some (.pointer (some ⟨pp, 0, none⟩)) by rw [cell_of_row _ _ _ _ _ _ ((HBx.out.block _ (by omega)).trans Y1.out)]; rfl)
    clear hS
    replace R8 := Lib.hid ((hbn.block b8 (lt_of_block R8.out)).trans R8.out)
    refine hK.out _ _ hS2 (fun hS => ?_)
    clear hK K
    try simp only [List.getElem_toArray, List.getElem_cons_succ, List.getElem_cons_zero, Act.put, List.setIfInBounds_toArray, List.set_cons_zero, List.set_cons_succ]
    refine wpAnyH_done (by kernel_rfl) ?_ _
    exact HT.out b8 0 V2 ⟨HBx.out, R8.out, G8⟩
  refine AllReadyH.cons rfl (fun K hK => ?_) AllReadyH.nil
  go_simp
  have hbn : Below V0.heap.size V0 (V0.alloc (.cells #[.int .i64 0] 3)) := (Below.refl _ _).alloc (Nat.le_refl _) _
  obtain ⟨b8, hb8⟩ : ∃ k, k = V0.heap.size := ⟨_, rfl⟩
  have R8 : Hid ((V0.alloc (.cells #[.int .i64 0] 3)).heap[b8]? = some (.cells #[.int .i64 0] 3 (0, 0))) := Lib.hid (heap_alloc_at _ _ _ hb8)
  have G8 : W6.heap.size ≤ b8 := by have := HBx.out.size; omega
  obtain ⟨V1, hWn⟩ : ∃ x, x = V0.alloc (.cells #[.int .i64 0] 3) := ⟨_, rfl⟩
  rw [← hWn] at hbn R8
  rw [← hb8, ← hWn]
  replace HPx := Lib.hid (HPx.out.below hbn)
  replace HBx := Lib.hid (HBx.out.trans (hbn.mono HBx.out.size))
  have hS2 := And.intro (show V1.cell? ⟨w5.heap.size + 1, 0, none⟩ = some (.func (.func 57) #[] #[.pointer (some ⟨w5.heap.size, 0, none⟩)]) by rw [cell_of_row _ _ _ _ _ _ ((HBx.out.block _ (by omega)).trans Y2.out)]; rfl) (show V1.cell? ⟨w5.heap.size, 0, none⟩ = some (.pointer (some ⟨pp, 0, none⟩)) by rw [cell_of_row _ _ _ _ _ _ ((HBx.out.block _ (by omega)).trans Y1.out)]; rfl)
  clear hWn hb8 hbn hS
  refine hK.out _ _ hS2 (fun hS => ?_)
  clear hK K
  try simp only [List.getElem_toArray, List.getElem_cons_succ, List.getElem_cons_zero, Act.put, List.setIfInBounds_toArray, List.set_cons_zero, List.set_cons_succ]
  refine wpAnyH_ready (rs := [2]) (by kernel_rfl) (by simp) ?_
  refine AllReadyH.cons rfl (fun K hK => ?_) AllReadyH.nil
  go_simp
  refine (pevery_any HQ.out V1 HPx.out).mono ?_
  rintro e w' ⟨rfl, rfl⟩
  dsimp only
  refine hK.out _ _ hS (fun hS => ?_)
  clear hK K
  try simp only [List.getElem_toArray, List.getElem_cons_succ, List.getElem_cons_zero, Act.put, List.setIfInBounds_toArray, List.set_cons_zero, List.set_cons_succ]
  refine wpAnyH_ready (rs := [3]) (by kernel_rfl) (by simp) ?_
  refine AllReadyH.cons rfl (fun K hK => ?_) AllReadyH.nil
  go_simp
  refine (closed1_any HQ.out w5.heap.size (everyV q) everyV_lt V1 (show V1.heap[w5.heap.size]? = _ from (HBx.out.block _ (by omega)).trans Y1.out) HPx.out).mono ?_
  rintro e V2 ⟨rfl, hbn⟩
  dsimp only
  replace HPx := Lib.hid (HPx.out.below hbn)
  replace HBx := Lib.hid (HBx.out.trans (hbn.mono HBx.out.size))
  have hS2 := And.intro (show V2.cell? ⟨w5.heap.size + 1, 0, none⟩ = some (.func (.func 57) #[] #[.pointer (some ⟨w5.heap.size, 0, none⟩)]) by rw [cell_of_row _ _ _ _ _ _ ((HBx.out.block _ (by omega)).trans Y2.out)]; rfl) (show V2.cell? ⟨w5.heap.size, 0, none⟩ = some (.pointer (some ⟨pp, 0, none⟩)) by rw [cell_of_row _ _ _ _ _ _ ((HBx.out.block _ (by omega)).trans Y1.out)]; rfl)
  clear hS
  replace R8 := Lib.hid ((hbn.block b8 (lt_of_block R8.out)).trans R8.out)
  refine hK.out _ _ hS2 (fun hS => ?_)
  clear hK K
  try simp only [List.getElem_toArray, List.getElem_cons_succ, List.getElem_cons_zero, Act.put, List.setIfInBounds_toArray, List.set_cons_zero, List.set_cons_succ]
  refine wpAnyH_done (by kernel_rfl) ?_ _
  exact HT.out b8 0 V2 ⟨HBx.out, R8.out, G8⟩
end Go.Proofs.Ytabbmihakoeegaa

/- How well blocks are known, walked. -/
namespace Go.Proofs.Ytabbmihakoeegaa
set_option linter.unusedVariables false
set_option linter.unusedSimpArgs false
open Go.RowKit Go.Shelf
attribute [local go_sem] Oper.semAt_some

theorem errP_bad {q : PlanD} {ok : Bool} (h : validP q = false) : errP q ok = 1 := by simp [errP, h]
theorem errP_range {q : PlanD} {ok : Bool} (h : validP q = true) (ho : ok = false) : errP q ok = 2 := by simp [errP, h, ho]
theorem errP_no {q : PlanD} {ok : Bool} (h : validP q = true) (ho : ok = true) (ht : truA q.pr = []) : errP q ok = 10 := by simp [errP, h, ho, ht]
theorem errP_ok {q : PlanD} {ok : Bool} (h : validP q = true) (ho : ok = true) (ht : truA q.pr ≠ []) : errP q ok = 0 := by simp [errP, h, ho, ht]
theorem blocks_err {q : PlanD} {n e : Int} (h : errP q (isSetV q n) = e) (hn : e ≠ 0) : blocksV q n = ((0, 0), e) := by unfold blocksV; rw [if_pos (by rw [h]; exact hn), h]
theorem blocks_ok {q : PlanD} {n : Int} (h : errP q (isSetV q n) = 0) : blocksV q n = ((((setN (fun b => decide (widB q.pr n.toNat b ≤ q.wide)) q.pr.bs.length : Nat) : Int), widestV q.pr n.toNat), 0) := by unfold blocksV; rw [if_neg (by rw [h]; decide)]
theorem setN_next (f : Nat → Bool) (i : Nat) : setN f (i + 1) = if f i then setN f i ||| 2 ^ i else setN f i := by
  have h1 : setN f (i + 1) = if f i then setN f i + 2 ^ i else setN f i := rfl
  rw [h1]
  split
  · have := Nat.two_pow_add_eq_or_of_lt (setN_lt f i) 1
    rw [Nat.mul_one] at this
    rw [Nat.add_comm, this, Nat.or_comm]
  · rfl
theorem blocks1_any {q : PlanD} (hq : OkQ q) {B pp mp : Nat} {bs rs ps : Value} {L : List Nat} (nb : Nat) (n : Int) (w : World) (hnb : w.heap[nb]? = some (.cells #[.int .i64 n] 3 (0, 0))) (h : PlanS q B pp mp bs rs ps L w) :
    Calls Try.prog 31 #[.pointer (some ⟨pp, 0, none⟩), .pointer (some ⟨nb, 0, none⟩)] w fun e w' => e = .returned (.bool (isSetV q n)) ∧ w = w' := by
  have d1 : w.cell? ⟨nb, 0, none⟩ = some (.int .i64 n) := by rw [cell_of_row _ _ _ _ _ _ hnb]; rfl
  have HQ := Lib.hid hq
  have H := Lib.hid h
  clear h hq hnb
  go_enter Try.func31, Try.ntmps31
  go_wp2_with fail
  refine (pisSet_any HQ.out n w H.out).mono ?_
  rintro e w' ⟨rfl, rfl⟩
  dsimp only
  go_wp2_with fail
  go_ret
  exact ⟨rfl, rfl⟩
set_option maxRecDepth 100000 in
set_option maxHeartbeats 4000000 in
theorem blocksV_any {q : PlanD} {bs rs ps : Value} (n : Int) {w : World} (h : PlanAt w q bs rs ps) :
    Calls Try.prog 10 #[.agg (planRow q bs rs ps), .int .i64 n] w fun e w' => e = .returned (.tuple #[.int .i64 (blocksV q n).1.1, .int .i64 (blocksV q n).1.2, .int .i64 (blocksV q n).2]) ∧ Below w.heap.size w w' := by
  obtain ⟨aob, capb, hbv, _⟩ := id h.p.b
  obtain ⟨aor, capr, hrv, _⟩ := id h.p.r
  obtain ⟨aop, capp, hpv, _⟩ := id h.n
  subst hbv hrv hpv
  have H := Lib.hid h
  have hmf : ∀ (fn : Fn) (first cap : Array Value) (w : World), (Instr.makeFunc fn first cap).run Try.prog w = .ok (.func fn first cap) w := fun _ _ _ _ => rfl
  clear h
  unfold planRow
  have eg := enters_of Try.func31 (by kernel_rfl) rfl
  obtain ⟨W0, hW0⟩ : ∃ x, x = ((w.alloc (.cells #[.slice aob q.pr.bs.length capb, .int .i64 q.pr.zl, .int .i64 q.pr.zh, .int .i64 q.pr.rl, .int .i64 q.pr.rh, .slice aor q.pr.rs.length capr, .int .i64 q.wide, .slice aop q.prices.length capp] 30)).alloc (.cells #[.int .i64 n] 3)).alloc (.cells #[.int .i64 0] 33) := ⟨_, rfl⟩
  have hb0 : Below w.heap.size w W0 := by rw [hW0]; exact (((Below.refl _ _).alloc (Nat.le_refl _) _).alloc (by simp) _).alloc (by simp <;> omega) _
  have hz0 : W0.heap.size = w.heap.size + 3 := by rw [hW0]; simp
  have x0 : W0.heap[w.heap.size]? = some (.cells #[.slice aob q.pr.bs.length capb, .int .i64 q.pr.zl, .int .i64 q.pr.zh, .int .i64 q.pr.rl, .int .i64 q.pr.rh, .slice aor q.pr.rs.length capr, .int .i64 q.wide, .slice aop q.prices.length capp] 30 (0, 0)) := by rw [hW0]; exact (hget_old _ _ _ (by simp <;> omega)).trans ((hget_old _ _ _ (by simp)).trans (heap_alloc_at _ _ _ rfl))
  have xn : W0.heap[w.heap.size + 1]? = some (.cells #[.int .i64 n] 3 (0, 0)) := by rw [hW0]; exact (hget_old _ _ _ (by simp)).trans (heap_alloc_at _ _ _ (by simp))
  have xe : W0.heap[w.heap.size + 1 + 1]? = some (.cells #[.int .i64 0] 33 (0, 0)) := by rw [hW0]; exact heap_alloc_at _ _ _ (by simp)
  have HB0 := Lib.hid hb0
  have XE := Lib.hid xe
  have X0 := Lib.hid x0
  have XN := Lib.hid xn
  go_enter_defers Try.func10, Try.ntmps10
  have c0 : W0.cell? ⟨w.heap.size, 0, none⟩ = some (.slice aob q.pr.bs.length capb) := by rw [cell_of_row _ _ _ _ _ _ x0]; rfl
  have c1 : W0.cell? ⟨w.heap.size, 1, none⟩ = some (.int .i64 q.pr.zl) := by rw [cell_of_row _ _ _ _ _ _ x0]; rfl
  have c2 : W0.cell? ⟨w.heap.size, 2, none⟩ = some (.int .i64 q.pr.zh) := by rw [cell_of_row _ _ _ _ _ _ x0]; rfl
  have c3 : W0.cell? ⟨w.heap.size, 3, none⟩ = some (.int .i64 q.pr.rl) := by rw [cell_of_row _ _ _ _ _ _ x0]; rfl
  have c4 : W0.cell? ⟨w.heap.size, 4, none⟩ = some (.int .i64 q.pr.rh) := by rw [cell_of_row _ _ _ _ _ _ x0]; rfl
  have c5 : W0.cell? ⟨w.heap.size, 5, none⟩ = some (.slice aor q.pr.rs.length capr) := by rw [cell_of_row _ _ _ _ _ _ x0]; rfl
  have c6 : W0.cell? ⟨w.heap.size, 6, none⟩ = some (.int .i64 q.wide) := by rw [cell_of_row _ _ _ _ _ _ x0]; rfl
  have c7 : W0.cell? ⟨w.heap.size, 7, none⟩ = some (.slice aop q.prices.length capp) := by rw [cell_of_row _ _ _ _ _ _ x0]; rfl
  clear hb0 x0 xe xn
  go_wp2_with fail
  rw [← hW0]
  clear hW0 c0 c1 c2 c3 c4 c5 c6 c7
  refine (popen_any q (.slice aob q.pr.bs.length capb) (.slice aor q.pr.rs.length capr) (.slice aop q.prices.length capp) w.heap.size W0 HB0.out.size (H.out.p.b.later HB0.out.size (fun k h1 h2 => HB0.out.block k h1)) (H.out.p.r.later HB0.out.size (fun k h1 h2 => HB0.out.block k h1)) (H.out.n.later HB0.out.size (fun k h1 h2 => HB0.out.block k h1)) 31 #[.pointer (some ⟨w.heap.size + 1, 0, none⟩)] (isSetV q n) eg (fun hv W pp mp hP hb => blocks1_any (OkQ.of hv) (w.heap.size + 1) n W ((hb.block _ (by omega)).trans XN.out) hP)).mono ?_
  rintro e w5 hor
  have HXE5 : ∀ W, Below W0.heap.size W0 W → W.heap[w.heap.size + 1 + 1]? = some (.cells #[.int .i64 0] 33 (0, 0)) := fun W hb => (hb.block _ (by omega)).trans XE.out
  have HXE := Lib.hid HXE5
  clear HXE5
  rcases hor with ⟨hv, rfl, hb5⟩ | ⟨hv, ho, rfl, hb5⟩ | ⟨hv, ho, pp, mp, rfl, hP, hb5, hpp, hmp⟩
  · dsimp only
    refine leaf_stop 1 (w.heap.size + 1 + 1) 0 _ w5 (HXE.out w5 hb5) (fun W' hkE heE => ?_)
    have e9 : W'.cell? ⟨w.heap.size + 1 + 1, 0, none⟩ = some (.int .i64 1) := by rw [cell_of_row _ _ _ _ _ _ heE]; rfl
    exact ⟨_, by simp [results, Try.results10, go_sem, e9]; rfl, by rw [blocks_err (errP_bad hv) (by decide)], ((HB0.out.trans (hb5.mono HB0.out.size))).trans (hkE.below ((HB0.out.trans (hb5.mono HB0.out.size))).size (fun k h e => by omega))⟩
  · dsimp only
    refine leaf_stop 2 (w.heap.size + 1 + 1) 0 _ w5 (HXE.out w5 hb5) (fun W' hkE heE => ?_)
    have e9 : W'.cell? ⟨w.heap.size + 1 + 1, 0, none⟩ = some (.int .i64 2) := by rw [cell_of_row _ _ _ _ _ _ heE]; rfl
    exact ⟨_, by simp [results, Try.results10, go_sem, e9]; rfl, by rw [blocks_err (errP_range hv ho) (by decide)], ((HB0.out.trans (hb5.mono HB0.out.size))).trans (hkE.below ((HB0.out.trans (hb5.mono HB0.out.size))).size (fun k h e => by omega))⟩
  have hq := OkQ.of hv
  have HQ := Lib.hid hq
  have HV := Lib.hid hv
  have HO := Lib.hid ho
  have HP := Lib.hid hP
  have HB5 := Lib.hid hb5
  have hz5 := hb5.size
  clear hq hv ho hP hb5
  dsimp only
  go_wp2_with fail
  refine (ptold_any HQ.out w5 HP.out).mono ?_
  rintro e w6 (⟨ht, rfl, hb⟩ | ⟨ht, rfl, L1, hP1, hk⟩)
  · dsimp only
    refine leaf_stop 10 (w.heap.size + 1 + 1) 0 _ w6 ((hb.block (w.heap.size + 1 + 1) (by omega)).trans (HXE.out w5 HB5.out)) (fun W' hkE heE => ?_)
    have e9 : W'.cell? ⟨w.heap.size + 1 + 1, 0, none⟩ = some (.int .i64 10) := by rw [cell_of_row _ _ _ _ _ _ heE]; rfl
    exact ⟨_, by simp [results, Try.results10, go_sem, e9]; rfl, by rw [blocks_err (errP_no HV.out HO.out ht) (by decide)], (((HB0.out.trans (HB5.out.mono HB0.out.size)).trans (hb.mono (by omega)))).trans (hkE.below (((HB0.out.trans (HB5.out.mono HB0.out.size)).trans (hb.mono (by omega)))).size (fun k h e => by omega))⟩
  have HVAL := Lib.hid (blocks_ok (errP_ok HV.out HO.out ht))
  have HT := Lib.hid ht
  have HP1 := Lib.hid hP1
  have HB6 := Lib.hid ((HB0.out.trans (HB5.out.mono HB0.out.size)).trans (hk.below (by omega) (fun k h e => by omega)))
  have HXE6 := Lib.hid ((hk.block (w.heap.size + 1 + 1) (by omega) (by omega)).trans (HXE.out w5 HB5.out))
  have hx6 := (hk.block w.heap.size (by omega) (by omega)).trans ((HB5.out.block w.heap.size (by omega)).trans X0.out)
  have hn6 := (hk.block (w.heap.size + 1) (by omega) (by omega)).trans ((HB5.out.block (w.heap.size + 1) (by omega)).trans XN.out)
  have dn : w6.cell? ⟨w.heap.size + 1, 0, none⟩ = some (.int .i64 n) := by rw [cell_of_row _ _ _ _ _ _ hn6]; rfl
  have hz6 := hk.size
  have hn0 : 0 ≤ n ∧ n ≤ (everyV q : Nat) := by have := HO.out; unfold isSetV inB at this; simpa using this
  have hev := @everyV_lt q
  have h256 := HQ.out.p256
  obtain ⟨s, hs⟩ : ∃ s : Nat, s = n.toNat := ⟨_, rfl⟩
  have hns : n = (s : Int) := by omega
  have hsl : s < 2 ^ q.prices.length := by omega
  have hw1 : IntKind.u64.wrap n = (s : Int) := by rw [IntWalk.u64_in _ (by omega)]; exact hns
  rw [← hs] at HVAL
  have HX6 := Lib.hid hx6
  clear ht hP1 hk hx6 hn6 hs hn0 hev
  dsimp only
  go_wp2_with fail
  refine (pknown_any HQ.out HT.out s hsl w6 HP1.out).mono ?_
  rintro e w7 ⟨rfl, L7, hP7, hk7⟩
  have HP7 := Lib.hid hP7
  have HK7 := Lib.hid hk7
  have hz7 := hk7.size
  clear hP7 hk7 hns hw1 dn
  dsimp only
  go_wp2_with (first | (refine wpList_storeA rfl 67 _ _ rfl w7.heap.size (knownC q.pr s) rfl rfl 67 _ (heap_alloc_at _ _ _ rfl) (sizeKnown _ _) rfl (knownC_one _ _) ?_; intro W8 hr8 hk8 hs8; have HR8 := Lib.hid hr8; have HK8 := Lib.hid hk8; have c80 : W8.cell? ⟨w.heap.size, 0, none⟩ = some (.slice aob q.pr.bs.length capb) := (by rw [cell_of_row _ _ _ _ _ _ ((hk8.block w.heap.size (by simp; omega) (by omega)).trans ((hget_old _ _ _ (by omega)).trans ((HK7.out.block _ (by omega) (by omega)).trans HX6.out)))]; rfl); clear hr8 hk8))
  have hz8 : W8.heap.size = w7.heap.size + 1 := by rw [hs8]; simp
  have hk78 : Keeps (fun k => k = w7.heap.size) w7 W8 := (Keeps.alloc _ _ _).trans HK8.out
  have HB8 := Lib.hid ((HB6.out.trans (HK7.out.below HB6.out.size (fun k h e => by omega))).trans (hk78.below (by omega) (fun k h e => by omega)))
  have HXE8 := Lib.hid ((hk78.block (w.heap.size + 1 + 1) (by omega) (by omega)).trans ((HK7.out.block _ (by omega) (by omega)).trans HXE6.out))
  have HX8 := Lib.hid ((hk78.block w.heap.size (by omega) (by omega)).trans ((HK7.out.block _ (by omega) (by omega)).trans HX6.out))
  have hn5 := (OkP.of _ HQ.out.pr).n5
  clear hk78 c80 hs8
  go_loopw [9, 24] (fun sv iv wr => ∃ i : Nat, i ≤ q.pr.bs.length ∧ iv = .int .i64 i ∧ sv = .int .u64 (setN (fun b => decide (widB q.pr s b ≤ q.wide)) i : Nat) ∧ Below W8.heap.size W8 wr) (fun _ iv _ => q.pr.bs.length - (intOf iv).toNat)
  case atStart => exact ⟨0, Nat.zero_le _, rfl, rfl, Below.refl _ _⟩
  case round =>
    obtain ⟨i, hi, rfl, rfl, hb⟩ := hrel
    have HB := Lib.hid hb
    have hzr := hb.size
    clear hb
    by_cases hlt : i < q.pr.bs.length
    · have hi5 : i < 5 := by omega
      have hwi : IntKind.i64.wrap ((i : Int) + 1) = ((i + 1 : Nat) : Int) := by rw [IntWalk.i64_in _ (by omega)]; omega
      have hlti : (i : Int) < (q.pr.bs.length : Int) := by omega
      have ck : wr.cell? ⟨w7.heap.size, i, none⟩ = some (.int .i64 (widB q.pr s i)) := by
        rw [cell_of_row _ _ _ _ _ _ ((HB.out.block _ (by omega)).trans HR8.out)]
        unfold knownC widsV
        simp [hi5]
      have cw : wr.cell? ⟨w.heap.size, 6, none⟩ = some (.int .i64 q.wide) := by rw [cell_of_row _ _ _ _ _ _ ((HB.out.block _ (by omega)).trans HX8.out)]; rfl
      obtain ⟨st, hst⟩ : ∃ x, x = setN (fun b => decide (widB q.pr s b ≤ q.wide)) i := ⟨_, rfl⟩
      have hst32 : st < 32 := by rw [hst]; exact Nat.lt_of_lt_of_le (setN_lt _ _) (Nat.pow_le_pow_right (show 0 < 2 by decide) (by omega : i ≤ 5))
      have hnx := setN_next (fun b => decide (widB q.pr s b ≤ q.wide)) i
      rw [← hst] at hnx ⊢
      obtain ⟨wb, hwb⟩ : ∃ x, x = widB q.pr s i := ⟨_, rfl⟩
      rw [← hwb] at hnx ck
      have HNX := Lib.hid hnx
      clear hnx hst hwb
      by_cases hle : wb ≤ q.wide
      · rw [decide_eq_true hle] at HNX
        go_wp2_with fail
        go_quiet (fail)
        go_wp2_with fail
        refine (with_any st i (by omega) (by omega) _).mono ?_
        rintro e w' ⟨rfl, rfl⟩
        dsimp only
        clear ck cw
        go_wp2_with fail
        exact ⟨⟨i + 1, by omega, rfl, by rw [HNX.out]; rfl, HB.out.trans (below_drewS (Below.refl _ _) _)⟩, by simp [intOf]; omega⟩
      · rw [decide_eq_false hle] at HNX
        go_wp2_with fail
        go_quiet (fail)
        clear ck cw
        go_wp2_with fail
        exact ⟨⟨i + 1, by omega, rfl, by rw [HNX.out]; rfl, HB.out.trans (below_drewS (Below.refl _ _) _)⟩, by simp [intOf]; omega⟩
    · obtain rfl : i = q.pr.bs.length := by omega
      have hst32 := setN_lt (fun b => decide (widB q.pr s b ≤ q.wide)) q.pr.bs.length
      have h32 : 2 ^ q.pr.bs.length ≤ 2 ^ 5 := Nat.pow_le_pow_right (show 0 < 2 by decide) hn5
      obtain ⟨st, hst⟩ : ∃ x, x = setN (fun b => decide (widB q.pr s b ≤ q.wide)) q.pr.bs.length := ⟨_, rfl⟩
      rw [← hst] at hst32 HVAL ⊢
      have hwr : IntKind.i64.wrap (st : Int) = (st : Int) := IntWalk.i64_in _ (by omega)
      have HRr := Lib.hid ((HB.out.block _ (by omega)).trans HR8.out)
      have HXr := Lib.hid ((HB.out.block _ (by omega)).trans HXE8.out)
      have HBr := Lib.hid (HB8.out.trans (HB.out.mono HB8.out.size))
      clear hst hst32 h32
      go_wp2_with (first | (refine wpList_load_row rfl 67 _ rfl w7.heap.size rfl 67 (knownC q.pr s) (0, 0) _ HRr.out underKnown rfl (sizeKnown _ _) ?_))
      refine (widest_any q.pr s _).mono ?_
      rintro e w9 ⟨rfl, hb9⟩
      have xe9 := (hb9.block (w.heap.size + 1 + 1) (by omega)).trans HXr.out
      have d9 : w9.cell? ⟨w.heap.size + 1 + 1, 0, none⟩ = some (.int .i64 0) := by rw [cell_of_row _ _ _ _ _ _ xe9]; rfl
      have f9 : w9.frozen? ⟨w.heap.size + 1 + 1, 0, none⟩ = false := frozen_of_row _ _ 0 _ _ xe9
      have HB9 := Lib.hid (HBr.out.trans (hb9.mono HBr.out.size))
      have XE9 := Lib.hid xe9
      clear hb9 xe9
      dsimp only
      go_wp2_with fail
      refine leaf_ret (w.heap.size + 1 + 1) _ _ ?_
      have x9 : (w9.setCell ⟨w.heap.size + 1 + 1, 0, none⟩ (.int .i64 0)).heap[w.heap.size + 1 + 1]? = some (.cells #[.int .i64 0] 33 (0, 0)) := by
        have := XE9.out
        simp [World.setCell, Array.getElem?_modify, this]
      have e9 : (w9.setCell ⟨w.heap.size + 1 + 1, 0, none⟩ (.int .i64 0)).cell? ⟨w.heap.size + 1 + 1, 0, none⟩ = some (.int .i64 0) := by rw [cell_of_row _ _ _ _ _ _ x9]; rfl
      exact ⟨_, by simp [results, Try.results10, go_sem, e9]; rfl, by rw [HVAL.out], (HB9.out).setCell (by simp; try omega) _⟩
end Go.Proofs.Ytabbmihakoeegaa

/- Which few readings are best, walked. -/
namespace Go.Proofs.Ytabbmihakoeegaa
set_option linter.unusedVariables false
set_option linter.unusedSimpArgs false
open Go.RowKit Go.Shelf
attribute [local go_sem] Oper.semAt_some

theorem best_err {q : PlanD} {n e : Int} (h : errP q (inB n 0 8) = e) (hn : e ≠ 0) : bestPlV q n = ((0, 0), e) := by unfold bestPlV; rw [if_pos (by rw [h]; exact hn), h]
theorem bestPl_ok {q : PlanD} {n : Int} (h : errP q (inB n 0 8) = 0) : bestPlV q n = ((((bestPV q n).1 : Int), (bestPV q n).2), 0) := by unfold bestPlV; rw [if_neg (by rw [h]; decide)]
theorem best1_any (nb : Nat) (n : Int) (v : Value) (w : World) (hnb : w.heap[nb]? = some (.cells #[.int .i64 n] 3 (0, 0))) :
    Calls Try.prog 39 #[v, .pointer (some ⟨nb, 0, none⟩)] w fun e w' => e = .returned (.bool (inB n 0 8)) ∧ w = w' := by
  have d1 : w.cell? ⟨nb, 0, none⟩ = some (.int .i64 n) := by rw [cell_of_row _ _ _ _ _ _ hnb]; rfl
  clear hnb
  go_enter Try.func39, Try.ntmps39
  go_wp2_with (first | (go_at_call 40; refine (pwithin_any _ _ _ _).mono ?_; rintro e w' ⟨rfl, rfl⟩))
  go_ret
  exact ⟨rfl, rfl⟩
theorem fold_take {β : Type} (f : β → Nat → β) (a : β) (l : List Nat) (i : Nat) (x : Nat) (h : l[i]? = some x) : (l.take (i + 1)).foldl f a = f ((l.take i).foldl f a) x := by
  have hi := (List.getElem?_eq_some_iff.1 h).1
  rw [List.getElem?_eq_getElem hi] at h
  rw [List.take_succ_eq_append_getElem hi, List.foldl_append, Option.some.inj h]; rfl
theorem best_put {R : Ending → World → Prop} {c : List PanicEntry} {d : Nat} {v : Value} {a : Act} {w : World} (h2 : d ≠ 4) (h3 : d ≠ 5) (h4 : d ≠ 6)
    (h : bodyPostD Try.prog Try.f13 R (.panic c) (a.put (some d) v) w) : bodyPostD Try.prog Try.f13 R (.panic c) a w := by
  refine Leaves.congr (fun w v hh => ?_) _ _ _ h
  have hr : Try.f13.results = #[.tmp 4, .tmp 5, .cell 6 33] := rfl
  unfold results at hh ⊢
  rw [hr] at hh ⊢
  simpa [Act.put, Array.getD_eq_getD_getElem?, Array.getElem?_setIfInBounds, h2, h3, h4] using hh
set_option maxRecDepth 100000 in
set_option maxHeartbeats 4000000 in
theorem bestPlV_any {q : PlanD} {bs rs ps : Value} (n : Int) {w : World} (h : PlanAt w q bs rs ps) :
    Calls Try.prog 13 #[.agg (planRow q bs rs ps), .int .i64 n] w fun e w' => e = .returned (.tuple #[.int .i64 (bestPlV q n).1.1, .int .i64 (bestPlV q n).1.2, .int .i64 (bestPlV q n).2]) ∧ Below w.heap.size w w' := by
  obtain ⟨aob, capb, hbv, _⟩ := id h.p.b
  obtain ⟨aor, capr, hrv, _⟩ := id h.p.r
  obtain ⟨aop, capp, hpv, _⟩ := id h.n
  subst hbv hrv hpv
  have H := Lib.hid h
  have hmf : ∀ (fn : Fn) (first cap : Array Value) (w : World), (Instr.makeFunc fn first cap).run Try.prog w = .ok (.func fn first cap) w := fun _ _ _ _ => rfl
  clear h
  unfold planRow
  have eg := enters_of Try.func39 (by kernel_rfl) rfl
  obtain ⟨W0, hW0⟩ : ∃ x, x = ((w.alloc (.cells #[.slice aob q.pr.bs.length capb, .int .i64 q.pr.zl, .int .i64 q.pr.zh, .int .i64 q.pr.rl, .int .i64 q.pr.rh, .slice aor q.pr.rs.length capr, .int .i64 q.wide, .slice aop q.prices.length capp] 30)).alloc (.cells #[.int .i64 n] 3)).alloc (.cells #[.int .i64 0] 33) := ⟨_, rfl⟩
  have hb0 : Below w.heap.size w W0 := by rw [hW0]; exact (((Below.refl _ _).alloc (Nat.le_refl _) _).alloc (by simp) _).alloc (by simp <;> omega) _
  have hz0 : W0.heap.size = w.heap.size + 3 := by rw [hW0]; simp
  have x0 : W0.heap[w.heap.size]? = some (.cells #[.slice aob q.pr.bs.length capb, .int .i64 q.pr.zl, .int .i64 q.pr.zh, .int .i64 q.pr.rl, .int .i64 q.pr.rh, .slice aor q.pr.rs.length capr, .int .i64 q.wide, .slice aop q.prices.length capp] 30 (0, 0)) := by rw [hW0]; exact (hget_old _ _ _ (by simp <;> omega)).trans ((hget_old _ _ _ (by simp)).trans (heap_alloc_at _ _ _ rfl))
  have xn : W0.heap[w.heap.size + 1]? = some (.cells #[.int .i64 n] 3 (0, 0)) := by rw [hW0]; exact (hget_old _ _ _ (by simp)).trans (heap_alloc_at _ _ _ (by simp))
  have xe : W0.heap[w.heap.size + 1 + 1]? = some (.cells #[.int .i64 0] 33 (0, 0)) := by rw [hW0]; exact heap_alloc_at _ _ _ (by simp)
  have HB0 := Lib.hid hb0
  have XE := Lib.hid xe
  have X0 := Lib.hid x0
  have XN := Lib.hid xn
  go_enter_defers Try.func13, Try.ntmps13
  have c0 : W0.cell? ⟨w.heap.size, 0, none⟩ = some (.slice aob q.pr.bs.length capb) := by rw [cell_of_row _ _ _ _ _ _ x0]; rfl
  have c1 : W0.cell? ⟨w.heap.size, 1, none⟩ = some (.int .i64 q.pr.zl) := by rw [cell_of_row _ _ _ _ _ _ x0]; rfl
  have c2 : W0.cell? ⟨w.heap.size, 2, none⟩ = some (.int .i64 q.pr.zh) := by rw [cell_of_row _ _ _ _ _ _ x0]; rfl
  have c3 : W0.cell? ⟨w.heap.size, 3, none⟩ = some (.int .i64 q.pr.rl) := by rw [cell_of_row _ _ _ _ _ _ x0]; rfl
  have c4 : W0.cell? ⟨w.heap.size, 4, none⟩ = some (.int .i64 q.pr.rh) := by rw [cell_of_row _ _ _ _ _ _ x0]; rfl
  have c5 : W0.cell? ⟨w.heap.size, 5, none⟩ = some (.slice aor q.pr.rs.length capr) := by rw [cell_of_row _ _ _ _ _ _ x0]; rfl
  have c6 : W0.cell? ⟨w.heap.size, 6, none⟩ = some (.int .i64 q.wide) := by rw [cell_of_row _ _ _ _ _ _ x0]; rfl
  have c7 : W0.cell? ⟨w.heap.size, 7, none⟩ = some (.slice aop q.prices.length capp) := by rw [cell_of_row _ _ _ _ _ _ x0]; rfl
  clear hb0 x0 xe xn
  go_wp2_with fail
  rw [← hW0]
  clear hW0 c0 c1 c2 c3 c4 c5 c6 c7
  refine (popen_any q (.slice aob q.pr.bs.length capb) (.slice aor q.pr.rs.length capr) (.slice aop q.prices.length capp) w.heap.size W0 HB0.out.size (H.out.p.b.later HB0.out.size (fun k h1 h2 => HB0.out.block k h1)) (H.out.p.r.later HB0.out.size (fun k h1 h2 => HB0.out.block k h1)) (H.out.n.later HB0.out.size (fun k h1 h2 => HB0.out.block k h1)) 39 #[.pointer (some ⟨w.heap.size + 1, 0, none⟩)] (inB n 0 8) eg (fun hv W pp mp hP hb => best1_any (w.heap.size + 1) n _ W ((hb.block _ (by omega)).trans XN.out))).mono ?_
  rintro e w5 hor
  have HXE5 : ∀ W, Below W0.heap.size W0 W → W.heap[w.heap.size + 1 + 1]? = some (.cells #[.int .i64 0] 33 (0, 0)) := fun W hb => (hb.block _ (by omega)).trans XE.out
  have HXE := Lib.hid HXE5
  clear HXE5
  rcases hor with ⟨hv, rfl, hb5⟩ | ⟨hv, ho, rfl, hb5⟩ | ⟨hv, ho, pp, mp, rfl, hP, hb5, hpp, hmp⟩
  · dsimp only
    refine leaf_stop 1 (w.heap.size + 1 + 1) 0 _ w5 (HXE.out w5 hb5) (fun W' hkE heE => ?_)
    have e9 : W'.cell? ⟨w.heap.size + 1 + 1, 0, none⟩ = some (.int .i64 1) := by rw [cell_of_row _ _ _ _ _ _ heE]; rfl
    exact ⟨_, by simp [results, Try.results13, go_sem, e9]; rfl, by rw [best_err (errP_bad hv) (by decide)], ((HB0.out.trans (hb5.mono HB0.out.size))).trans (hkE.below ((HB0.out.trans (hb5.mono HB0.out.size))).size (fun k h e => by omega))⟩
  · dsimp only
    refine leaf_stop 2 (w.heap.size + 1 + 1) 0 _ w5 (HXE.out w5 hb5) (fun W' hkE heE => ?_)
    have e9 : W'.cell? ⟨w.heap.size + 1 + 1, 0, none⟩ = some (.int .i64 2) := by rw [cell_of_row _ _ _ _ _ _ heE]; rfl
    exact ⟨_, by simp [results, Try.results13, go_sem, e9]; rfl, by rw [best_err (errP_range hv ho) (by decide)], ((HB0.out.trans (hb5.mono HB0.out.size))).trans (hkE.below ((HB0.out.trans (hb5.mono HB0.out.size))).size (fun k h e => by omega))⟩
  have hq := OkQ.of hv
  have HQ := Lib.hid hq
  have HV := Lib.hid hv
  have HO := Lib.hid ho
  have HP := Lib.hid hP
  have HB5 := Lib.hid hb5
  have hz5 := hb5.size
  clear hq hv ho hP hb5
  dsimp only
  go_wp2_with fail
  refine (ptold_any HQ.out w5 HP.out).mono ?_
  rintro e w6 (⟨ht, rfl, hb⟩ | ⟨ht, rfl, L1, hP1, hk⟩)
  · dsimp only
    refine leaf_stop 10 (w.heap.size + 1 + 1) 0 _ w6 ((hb.block (w.heap.size + 1 + 1) (by omega)).trans (HXE.out w5 HB5.out)) (fun W' hkE heE => ?_)
    have e9 : W'.cell? ⟨w.heap.size + 1 + 1, 0, none⟩ = some (.int .i64 10) := by rw [cell_of_row _ _ _ _ _ _ heE]; rfl
    exact ⟨_, by simp [results, Try.results13, go_sem, e9]; rfl, by rw [best_err (errP_no HV.out HO.out ht) (by decide)], (((HB0.out.trans (HB5.out.mono HB0.out.size)).trans (hb.mono (by omega)))).trans (hkE.below (((HB0.out.trans (HB5.out.mono HB0.out.size)).trans (hb.mono (by omega)))).size (fun k h e => by omega))⟩
  have HVAL := Lib.hid (bestPl_ok (errP_ok HV.out HO.out ht))
  have HT := Lib.hid ht
  have HP1 := Lib.hid hP1
  have HB6 := Lib.hid ((HB0.out.trans (HB5.out.mono HB0.out.size)).trans (hk.below (by omega) (fun k h e => by omega)))
  have HXE6 := Lib.hid ((hk.block (w.heap.size + 1 + 1) (by omega) (by omega)).trans (HXE.out w5 HB5.out))
  have HN6 := Lib.hid ((hk.block (w.heap.size + 1) (by omega) (by omega)).trans ((HB5.out.block (w.heap.size + 1) (by omega)).trans XN.out))
  have hz6 := hk.size
  have h256 := HQ.out.p256
  have hpos := Nat.two_pow_pos q.prices.length
  clear ht hP1 hk
  dsimp only
  go_wp2_with fail
  refine (pknown_any HQ.out HT.out 0 hpos w6 HP1.out).mono ?_
  rintro e w7 ⟨rfl, L7, hP7, hk7⟩
  have HP7 := Lib.hid hP7
  have HK7 := Lib.hid hk7
  have hz7 := hk7.size
  clear hP7 hk7
  dsimp only
  go_wp2_with fail
  refine (widest_any q.pr 0 _).mono ?_
  rintro e w8 ⟨rfl, hb8⟩
  have HP8 := Lib.hid (HP7.out.below hb8)
  have HB8 := Lib.hid ((HB6.out.trans (HK7.out.below HB6.out.size (fun k h e => by omega))).trans (hb8.mono (by omega)))
  have HXE8 := Lib.hid ((hb8.block _ (by omega)).trans ((HK7.out.block _ (by omega) (by omega)).trans HXE6.out))
  have HN8 := Lib.hid ((hb8.block _ (by omega)).trans ((HK7.out.block _ (by omega) (by omega)).trans HN6.out))
  have hz8 := hb8.size
  clear hb8
  dsimp only
  go_wp2_with fail
  refine (sets_any HQ.out false w8 HP8.out).mono ?_
  rintro e w9 ⟨g, cap, rfl, hg, hrow, hb9⟩
  have HP9 := Lib.hid (HP8.out.below hb9)
  have HB9 := Lib.hid (HB8.out.trans (hb9.mono HB8.out.size))
  have HXE9 := Lib.hid ((hb9.block _ (by omega)).trans HXE8.out)
  have HN9 := Lib.hid ((hb9.block _ (by omega)).trans HN8.out)
  have HROW := Lib.hid hrow
  have hz9 := hb9.size
  have hml := lt_of_block HP8.out.map
  clear hrow hb9
  dsimp only
  obtain ⟨m2, hm2⟩ : ∃ k, k = 2 ^ q.prices.length := ⟨_, rfl⟩
  rw [← hm2] at h256 hpos ⊢
  have HM2 := Lib.hid hm2
  clear hm2
  go_wp2_with fail
  go_loopw [8, 9, 25] (fun bv lv iv wr => ∃ (i : Nat) (L : List Nat), i ≤ m2 ∧ iv = .int .i64 i ∧ bv = .int .u64 ((((setsV q false).take i).foldl (bestStep q n) (0, widestV q.pr 0)).1 : Nat) ∧ lv = .int .i64 (((setsV q false).take i).foldl (bestStep q n) (0, widestV q.pr 0)).2 ∧ PlanS q w.heap.size pp mp (.slice aob q.pr.bs.length capb) (.slice aor q.pr.rs.length capr) (.slice aop q.prices.length capp) L wr ∧ Keeps (fun k => k = mp) w9 wr) (fun _ _ iv _ => m2 - (intOf iv).toNat)
  case atStart => exact ⟨0, _, Nat.zero_le _, rfl, rfl, rfl, HP9.out, Keeps.refl _ _⟩
  case round =>
    obtain ⟨i, L, hi, rfl, rfl, rfl, hPr, hkr⟩ := hrel
    have HPr := Lib.hid hPr
    have HKr := Lib.hid hkr
    have hzr := hkr.size
    clear hPr hkr
    by_cases hlt : i < m2
    · have hil : i < (setsV q false).length := by rw [setsV_len, ← HM2.out]; exact hlt
      obtain ⟨x, hx⟩ : ∃ x, (setsV q false)[i]? = some x := ⟨_, List.getElem?_eq_getElem hil⟩
      have hxl : x < 2 ^ q.prices.length := (setsV_mem false).1 (List.mem_of_getElem? hx)
      have hx256 : x < 256 := by rw [← HM2.out] at hxl; omega
      have hcx := (HROW.out.block (HKr.out.block g HROW.out.lt (by omega))).cell hx
      have HFX := Lib.hid (fold_take (bestStep q n) (0, widestV q.pr 0) _ i x hx)
      obtain ⟨acc, hacc⟩ : ∃ a, a = ((setsV q false).take i).foldl (bestStep q n) (0, widestV q.pr 0) := ⟨_, rfl⟩
      rw [← hacc] at HFX ⊢
      obtain ⟨ab, al⟩ := acc
      dsimp only
      have hwi : IntKind.i64.wrap ((i : Int) + 1) = ((i + 1 : Nat) : Int) := by rw [IntWalk.i64_in _ (by omega)]; omega
      have hlti : (i : Int) < (m2 : Int) := by omega
      clear hx hacc hil
      go_wp2_with fail
      refine (pknown_any HQ.out HT.out x hxl wr HPr.out).mono ?_
      rintro e v1 ⟨rfl, L1', hP1, hk1⟩
      have HPv := Lib.hid hP1
      have HKv := Lib.hid (HKr.out.trans hk1)
      have hzv := hk1.size
      clear hP1 hk1 hcx
      dsimp only
      go_wp2_with fail
      refine (widest_any q.pr x _).mono ?_
      rintro e v2 ⟨rfl, hb2⟩
      have HPv2 := Lib.hid (HPv.out.below hb2)
      have HKv2 := Lib.hid (HKv.out.trans (Keeps.of_below hb2 (fun k h1 h2 => by omega)))
      have hzv2 := hb2.size
      have hnv : v2.cell? ⟨w.heap.size + 1, 0, none⟩ = some (.int .i64 n) := by rw [cell_of_row _ _ _ _ _ _ ((HKv2.out.block _ (by omega) (by omega)).trans HN9.out)]; rfl
      clear hb2
      obtain ⟨wx, hwx⟩ : ∃ a, a = widestV q.pr x := ⟨_, rfl⟩
      obtain ⟨ox, hox⟩ : ∃ a, a = ones x := ⟨_, rfl⟩
      have hstep : bestStep q n (ab, al) x = if (ox : Int) ≤ n ∧ wx < al then (x, wx) else (ab, al) := by rw [hox, hwx]; rfl
      rw [hstep] at HFX
      rw [← hwx]
      have HOX := Lib.hid hox
      clear hstep hwx hox
      dsimp only
      by_cases hc1 : (ox : Int) ≤ n
      · by_cases hc2 : wx < al
        · rw [if_pos ⟨hc1, hc2⟩] at HFX
          go_wp2_with fail
          refine wp_region_held_drew (S := fun W' => W'.cell? ⟨w.heap.size + 1, 0, none⟩ = some (.int .i64 n)) (by kernel_rfl) hnv fun hS => ?_
          refine wpAnyH_take (i := 0) (v := ?_) rfl (by kernel_rfl) (by kernel_rfl) (by kernel_rfl) (fun c a w h => best_put (by decide) (by decide) (by decide) h) (Or.inl ⟨by rfl, ?_⟩) hS ?_
          rotate_left
          · (intro W hSw; have hq1 := hSw; go_simp; try with_reducible rfl)
          try simp only [List.getElem_toArray, List.getElem_cons_succ, List.getElem_cons_zero, Act.put, List.setIfInBounds_toArray, List.set_cons_zero, List.set_cons_succ]
          refine wpAnyH_take (i := 2) (v := ?_) rfl (by kernel_rfl) (by kernel_rfl) (by kernel_rfl) (fun c a w h => best_put (by decide) (by decide) (by decide) h) (Or.inl ⟨by rfl, ?_⟩) hS ?_
          rotate_left
          · (intro W hSw; have hq1 := hSw; go_simp; try with_reducible rfl)
          try simp only [List.getElem_toArray, List.getElem_cons_succ, List.getElem_cons_zero, Act.put, List.setIfInBounds_toArray, List.set_cons_zero, List.set_cons_succ]
          refine wpAnyH_ready (rs := [1]) (by kernel_rfl) (by simp) ?_
          refine AllReadyH.cons rfl (fun K hK => ?_) AllReadyH.nil
          go_simp
          refine (many_any x hx256 _).mono ?_
          rintro e w' ⟨rfl, rfl⟩
          dsimp only
          rw [← HOX.out]
          refine hK.out _ _ hS (fun hS => ?_)
          clear hK K
          try simp only [List.getElem_toArray, List.getElem_cons_succ, List.getElem_cons_zero, Act.put, List.setIfInBounds_toArray, List.set_cons_zero, List.set_cons_succ]
          refine wpAnyH_take (i := 3) (v := ?_) rfl (by kernel_rfl) (by kernel_rfl) (by kernel_rfl) (fun c a w h => best_put (by decide) (by decide) (by decide) h) (Or.inl ⟨by rfl, ?_⟩) hS ?_
          rotate_left
          · (intro W hSw; have hq1 := hSw; go_simp; try with_reducible rfl)
          try simp only [List.getElem_toArray, List.getElem_cons_succ, List.getElem_cons_zero, Act.put, List.setIfInBounds_toArray, List.set_cons_zero, List.set_cons_succ]
          refine wpAnyH_take (i := 4) (v := ?_) rfl (by kernel_rfl) (by kernel_rfl) (by kernel_rfl) (fun c a w h => best_put (by decide) (by decide) (by decide) h) (Or.inl ⟨by rfl, ?_⟩) hS ?_
          rotate_left
          · (intro W hSw; have hq1 := hSw; go_simp; try with_reducible rfl)
          try simp only [List.getElem_toArray, List.getElem_cons_succ, List.getElem_cons_zero, Act.put, List.setIfInBounds_toArray, List.set_cons_zero, List.set_cons_succ]
          refine wpAnyH_take (i := 5) (v := ?_) rfl (by kernel_rfl) (by kernel_rfl) (by kernel_rfl) (fun c a w h => best_put (by decide) (by decide) (by decide) h) (Or.inl ⟨by rfl, ?_⟩) hS ?_
          rotate_left
          · (intro W hSw; have hq1 := hSw; go_simp; try with_reducible rfl)
          try simp only [List.getElem_toArray, List.getElem_cons_succ, List.getElem_cons_zero, Act.put, List.setIfInBounds_toArray, List.set_cons_zero, List.set_cons_succ]
          refine wpAnyH_take (i := 6) (v := ?_) rfl (by kernel_rfl) (by kernel_rfl) (by kernel_rfl) (fun c a w h => best_put (by decide) (by decide) (by decide) h) (Or.inl ⟨by rfl, ?_⟩) hS ?_
          rotate_left
          · (intro W hSw; have hq1 := hSw; go_simp; try with_reducible rfl)
          try simp only [List.getElem_toArray, List.getElem_cons_succ, List.getElem_cons_zero, Act.put, List.setIfInBounds_toArray, List.set_cons_zero, List.set_cons_succ]
          refine wpAnyH_take (i := 7) (v := ?_) rfl (by kernel_rfl) (by kernel_rfl) (by kernel_rfl) (fun c a w h => best_put (by decide) (by decide) (by decide) h) (Or.inl ⟨by rfl, ?_⟩) hS ?_
          rotate_left
          · (intro W hSw; have hq1 := hSw; go_simp; try with_reducible rfl)
          try simp only [List.getElem_toArray, List.getElem_cons_succ, List.getElem_cons_zero, Act.put, List.setIfInBounds_toArray, List.set_cons_zero, List.set_cons_succ]
          refine wpAnyH_take (i := 8) (v := ?_) rfl (by kernel_rfl) (by kernel_rfl) (by kernel_rfl) (fun c a w h => best_put (by decide) (by decide) (by decide) h) (Or.inl ⟨by rfl, ?_⟩) hS ?_
          rotate_left
          · (intro W hSw; have hq1 := hSw; go_simp; try with_reducible rfl)
          try simp only [List.getElem_toArray, List.getElem_cons_succ, List.getElem_cons_zero, Act.put, List.setIfInBounds_toArray, List.set_cons_zero, List.set_cons_succ]
          refine wpAnyH_done (by kernel_rfl) ?_ _
          clear hS hnv
          go_wp2_with fail
          exact ⟨⟨i + 1, _, by omega, rfl, by rw [HFX.out], by rw [HFX.out], HPv2.out.drew, HKv2.out.trans (Keeps.drew _ _)⟩, by simp [intOf]; omega⟩
        · rw [if_neg (fun h => hc2 h.2)] at HFX
          go_wp2_with fail
          refine wp_region_held_drew (S := fun W' => W'.cell? ⟨w.heap.size + 1, 0, none⟩ = some (.int .i64 n)) (by kernel_rfl) hnv fun hS => ?_
          refine wpAnyH_take (i := 0) (v := ?_) rfl (by kernel_rfl) (by kernel_rfl) (by kernel_rfl) (fun c a w h => best_put (by decide) (by decide) (by decide) h) (Or.inl ⟨by rfl, ?_⟩) hS ?_
          rotate_left
          · (intro W hSw; have hq1 := hSw; go_simp; try with_reducible rfl)
          try simp only [List.getElem_toArray, List.getElem_cons_succ, List.getElem_cons_zero, Act.put, List.setIfInBounds_toArray, List.set_cons_zero, List.set_cons_succ]
          refine wpAnyH_take (i := 2) (v := ?_) rfl (by kernel_rfl) (by kernel_rfl) (by kernel_rfl) (fun c a w h => best_put (by decide) (by decide) (by decide) h) (Or.inl ⟨by rfl, ?_⟩) hS ?_
          rotate_left
          · (intro W hSw; have hq1 := hSw; go_simp; try with_reducible rfl)
          try simp only [List.getElem_toArray, List.getElem_cons_succ, List.getElem_cons_zero, Act.put, List.setIfInBounds_toArray, List.set_cons_zero, List.set_cons_succ]
          refine wpAnyH_ready (rs := [1]) (by kernel_rfl) (by simp) ?_
          refine AllReadyH.cons rfl (fun K hK => ?_) AllReadyH.nil
          go_simp
          refine (many_any x hx256 _).mono ?_
          rintro e w' ⟨rfl, rfl⟩
          dsimp only
          rw [← HOX.out]
          refine hK.out _ _ hS (fun hS => ?_)
          clear hK K
          try simp only [List.getElem_toArray, List.getElem_cons_succ, List.getElem_cons_zero, Act.put, List.setIfInBounds_toArray, List.set_cons_zero, List.set_cons_succ]
          refine wpAnyH_take (i := 3) (v := ?_) rfl (by kernel_rfl) (by kernel_rfl) (by kernel_rfl) (fun c a w h => best_put (by decide) (by decide) (by decide) h) (Or.inl ⟨by rfl, ?_⟩) hS ?_
          rotate_left
          · (intro W hSw; have hq1 := hSw; go_simp; try with_reducible rfl)
          try simp only [List.getElem_toArray, List.getElem_cons_succ, List.getElem_cons_zero, Act.put, List.setIfInBounds_toArray, List.set_cons_zero, List.set_cons_succ]
          refine wpAnyH_take (i := 4) (v := ?_) rfl (by kernel_rfl) (by kernel_rfl) (by kernel_rfl) (fun c a w h => best_put (by decide) (by decide) (by decide) h) (Or.inl ⟨by rfl, ?_⟩) hS ?_
          rotate_left
          · (intro W hSw; have hq1 := hSw; go_simp; try with_reducible rfl)
          try simp only [List.getElem_toArray, List.getElem_cons_succ, List.getElem_cons_zero, Act.put, List.setIfInBounds_toArray, List.set_cons_zero, List.set_cons_succ]
          refine wpAnyH_take (i := 5) (v := ?_) rfl (by kernel_rfl) (by kernel_rfl) (by kernel_rfl) (fun c a w h => best_put (by decide) (by decide) (by decide) h) (Or.inl ⟨by rfl, ?_⟩) hS ?_
          rotate_left
          · (intro W hSw; have hq1 := hSw; go_simp; try with_reducible rfl)
          try simp only [List.getElem_toArray, List.getElem_cons_succ, List.getElem_cons_zero, Act.put, List.setIfInBounds_toArray, List.set_cons_zero, List.set_cons_succ]
          refine wpAnyH_take (i := 6) (v := ?_) rfl (by kernel_rfl) (by kernel_rfl) (by kernel_rfl) (fun c a w h => best_put (by decide) (by decide) (by decide) h) (Or.inl ⟨by rfl, ?_⟩) hS ?_
          rotate_left
          · (intro W hSw; have hq1 := hSw; go_simp; try with_reducible rfl)
          try simp only [List.getElem_toArray, List.getElem_cons_succ, List.getElem_cons_zero, Act.put, List.setIfInBounds_toArray, List.set_cons_zero, List.set_cons_succ]
          refine wpAnyH_take (i := 7) (v := ?_) rfl (by kernel_rfl) (by kernel_rfl) (by kernel_rfl) (fun c a w h => best_put (by decide) (by decide) (by decide) h) (Or.inl ⟨by rfl, ?_⟩) hS ?_
          rotate_left
          · (intro W hSw; have hq1 := hSw; go_simp; try with_reducible rfl)
          try simp only [List.getElem_toArray, List.getElem_cons_succ, List.getElem_cons_zero, Act.put, List.setIfInBounds_toArray, List.set_cons_zero, List.set_cons_succ]
          refine wpAnyH_take (i := 8) (v := ?_) rfl (by kernel_rfl) (by kernel_rfl) (by kernel_rfl) (fun c a w h => best_put (by decide) (by decide) (by decide) h) (Or.inl ⟨by rfl, ?_⟩) hS ?_
          rotate_left
          · (intro W hSw; have hq1 := hSw; go_simp; try with_reducible rfl)
          try simp only [List.getElem_toArray, List.getElem_cons_succ, List.getElem_cons_zero, Act.put, List.setIfInBounds_toArray, List.set_cons_zero, List.set_cons_succ]
          refine wpAnyH_done (by kernel_rfl) ?_ _
          clear hS hnv
          go_wp2_with fail
          exact ⟨⟨i + 1, _, by omega, rfl, by rw [HFX.out], by rw [HFX.out], HPv2.out.drew, HKv2.out.trans (Keeps.drew _ _)⟩, by simp [intOf]; omega⟩
      · have hcd : decide ((ox : Int) ≤ n) = false := decide_eq_false hc1
        rw [if_neg (fun h => hc1 h.1)] at HFX
        go_wp2_with fail
        refine wp_region_held_drew (S := fun W' => W'.cell? ⟨w.heap.size + 1, 0, none⟩ = some (.int .i64 n)) (by kernel_rfl) hnv fun hS => ?_
        refine wpAnyH_take (i := 0) (v := ?_) rfl (by kernel_rfl) (by kernel_rfl) (by kernel_rfl) (fun c a w h => best_put (by decide) (by decide) (by decide) h) (Or.inl ⟨by rfl, ?_⟩) hS ?_
        rotate_left
        · (intro W hSw; have hq1 := hSw; go_simp; try with_reducible rfl)
        try simp only [List.getElem_toArray, List.getElem_cons_succ, List.getElem_cons_zero, Act.put, List.setIfInBounds_toArray, List.set_cons_zero, List.set_cons_succ]
        refine wpAnyH_take (i := 2) (v := ?_) rfl (by kernel_rfl) (by kernel_rfl) (by kernel_rfl) (fun c a w h => best_put (by decide) (by decide) (by decide) h) (Or.inl ⟨by rfl, ?_⟩) hS ?_
        rotate_left
        · (intro W hSw; have hq1 := hSw; go_simp; try with_reducible rfl)
        try simp only [List.getElem_toArray, List.getElem_cons_succ, List.getElem_cons_zero, Act.put, List.setIfInBounds_toArray, List.set_cons_zero, List.set_cons_succ]
        refine wpAnyH_ready (rs := [1]) (by kernel_rfl) (by simp) ?_
        refine AllReadyH.cons rfl (fun K hK => ?_) AllReadyH.nil
        go_simp
        refine (many_any x hx256 _).mono ?_
        rintro e w' ⟨rfl, rfl⟩
        dsimp only
        rw [← HOX.out]
        refine hK.out _ _ hS (fun hS => ?_)
        clear hK K
        try simp only [List.getElem_toArray, List.getElem_cons_succ, List.getElem_cons_zero, Act.put, List.setIfInBounds_toArray, List.set_cons_zero, List.set_cons_succ]
        refine wpAnyH_take (i := 3) (v := ?_) rfl (by kernel_rfl) (by kernel_rfl) (by kernel_rfl) (fun c a w h => best_put (by decide) (by decide) (by decide) h) (Or.inl ⟨by rfl, ?_⟩) hS ?_
        rotate_left
        · (intro W hSw; have hq1 := hSw; go_simp; try with_reducible rfl)
        try simp only [List.getElem_toArray, List.getElem_cons_succ, List.getElem_cons_zero, Act.put, List.setIfInBounds_toArray, List.set_cons_zero, List.set_cons_succ]
        refine wpAnyH_take (i := 4) (v := ?_) rfl (by kernel_rfl) (by kernel_rfl) (by kernel_rfl) (fun c a w h => best_put (by decide) (by decide) (by decide) h) (Or.inl ⟨by rfl, ?_⟩) hS ?_
        rotate_left
        · (intro W hSw; have hq1 := hSw; go_simp; try with_reducible rfl)
        try simp only [List.getElem_toArray, List.getElem_cons_succ, List.getElem_cons_zero, Act.put, List.setIfInBounds_toArray, List.set_cons_zero, List.set_cons_succ]
        refine wpAnyH_take (i := 5) (v := undef) rfl (by kernel_rfl) (by kernel_rfl) (by kernel_rfl) (fun c a w h => best_put (by decide) (by decide) (by decide) h) (.inr ⟨rfl, rfl⟩) hS ?_
        try simp only [List.getElem_toArray, List.getElem_cons_succ, List.getElem_cons_zero, Act.put, List.setIfInBounds_toArray, List.set_cons_zero, List.set_cons_succ]
        refine wpAnyH_take (i := 6) (v := undef) rfl (by kernel_rfl) (by kernel_rfl) (by kernel_rfl) (fun c a w h => best_put (by decide) (by decide) (by decide) h) (.inr ⟨rfl, rfl⟩) hS ?_
        try simp only [List.getElem_toArray, List.getElem_cons_succ, List.getElem_cons_zero, Act.put, List.setIfInBounds_toArray, List.set_cons_zero, List.set_cons_succ]
        refine wpAnyH_take (i := 7) (v := undef) rfl (by kernel_rfl) (by kernel_rfl) (by kernel_rfl) (fun c a w h => best_put (by decide) (by decide) (by decide) h) (.inr ⟨rfl, rfl⟩) hS ?_
        try simp only [List.getElem_toArray, List.getElem_cons_succ, List.getElem_cons_zero, Act.put, List.setIfInBounds_toArray, List.set_cons_zero, List.set_cons_succ]
        refine wpAnyH_take (i := 8) (v := ?_) rfl (by kernel_rfl) (by kernel_rfl) (by kernel_rfl) (fun c a w h => best_put (by decide) (by decide) (by decide) h) (Or.inl ⟨by rfl, ?_⟩) hS ?_
        rotate_left
        · (intro W hSw; have hq1 := hSw; go_simp; try with_reducible rfl)
        try simp only [List.getElem_toArray, List.getElem_cons_succ, List.getElem_cons_zero, Act.put, List.setIfInBounds_toArray, List.set_cons_zero, List.set_cons_succ]
        refine wpAnyH_done (by kernel_rfl) ?_ _
        clear hS hnv
        go_wp2_with fail
        exact ⟨⟨i + 1, _, by omega, rfl, by rw [HFX.out], by rw [HFX.out], HPv2.out.drew, HKv2.out.trans (Keeps.drew _ _)⟩, by simp [intOf]; omega⟩
    · obtain rfl : i = m2 := by omega
      have hall : (setsV q false).take i = setsV q false := List.take_of_length_le (by rw [setsV_len, ← HM2.out]; exact Nat.le_refl _)
      rw [hall]
      have HVV := HVAL.out
      unfold bestPV at HVV
      have hbl : (((setsV q false).foldl (bestStep q n) (0, widestV q.pr 0)).1 : Nat) < 256 := by
        have : ∀ (l : List Nat) (a : Nat × Int), a.1 < 256 → (∀ x ∈ l, x < 256) → (l.foldl (bestStep q n) a).1 < 256 := by
          intro l
          induction l with
          | nil => intro a h _; exact h
          | cons x l ih =>
            intro a h hl
            refine ih _ ?_ (fun y hy => hl y (List.mem_cons_of_mem _ hy))
            unfold bestStep
            split
            · exact hl x List.mem_cons_self
            · exact h
        exact this _ _ (show (0 : Nat) < 256 by decide) (fun x hx => by have := (setsV_mem (q := q) false).1 hx; rw [← HM2.out] at this; omega)
      obtain ⟨fin, hfin⟩ : ∃ a, a = (setsV q false).foldl (bestStep q n) (0, widestV q.pr 0) := ⟨_, rfl⟩
      rw [← hfin] at hbl HVV ⊢
      obtain ⟨fb, fl⟩ := fin
      dsimp only at hbl HVV ⊢
      have HVF := Lib.hid HVV
      have hwr : IntKind.i64.wrap (fb : Int) = (fb : Int) := IntWalk.i64_in _ (by omega)
      have HXr := Lib.hid ((HKr.out.block (w.heap.size + 1 + 1) (by omega) (by omega)).trans HXE9.out)
      have dr : wr.cell? ⟨w.heap.size + 1 + 1, 0, none⟩ = some (.int .i64 0) := by rw [cell_of_row _ _ _ _ _ _ HXr.out]; rfl
      have fr : wr.frozen? ⟨w.heap.size + 1 + 1, 0, none⟩ = false := frozen_of_row _ _ 0 _ _ HXr.out
      have HBr := Lib.hid (HB9.out.trans (HKr.out.below HB9.out.size (fun k h e => by omega)))
      clear hfin hall HVV
      go_wp2_with fail
      refine leaf_ret (w.heap.size + 1 + 1) _ _ ?_
      have x9 : (wr.setCell ⟨w.heap.size + 1 + 1, 0, none⟩ (.int .i64 0)).heap[w.heap.size + 1 + 1]? = some (.cells #[.int .i64 0] 33 (0, 0)) := by
        have := HXr.out
        simp [World.setCell, Array.getElem?_modify, this]
      have e9 : (wr.setCell ⟨w.heap.size + 1 + 1, 0, none⟩ (.int .i64 0)).cell? ⟨w.heap.size + 1 + 1, 0, none⟩ = some (.int .i64 0) := by rw [cell_of_row _ _ _ _ _ _ x9]; rfl
      exact ⟨_, by simp [results, Try.results13, go_sem, e9]; rfl, by rw [HVF.out], (HBr.out).setCell (by simp; try omega) _⟩
end Go.Proofs.Ytabbmihakoeegaa
