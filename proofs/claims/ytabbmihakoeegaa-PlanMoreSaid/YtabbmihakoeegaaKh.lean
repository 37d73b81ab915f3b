/- Texts Sh, Si in one file; each begins with a word on what it proves. -/
import Derived.Test.YtabbmihakoeegaaKg

/- The stable sort, walked: two blocks are merged. -/
namespace Go.Proofs.Ytabbmihakoeegaa
set_option linter.unusedVariables false
set_option linter.unusedSimpArgs false
open Go.RowKit Go.Shelf
attribute [local go_sem] Oper.semAt_some
open Stab

theorem half_st {s r : Nat} (h : s < r) : s ≤ (s + r) / 2 ∧ (s + r) / 2 < r := ⟨by omega, by omega⟩
/-- What is merged. -/
def Merged (lt : Nat → Nat → Prop) (blk : Nat) (pre L R post : List Nat) (w w' : World) : Prop := (∃ M, M.Perm (L ++ R) ∧ Srt lt M ∧ RowL blk (pre ++ M ++ post) w') ∧ Keeps (fun k => k = blk) w w'
/-- How a merge ends: both sides of the middle are merged. -/
theorem merged_end {lt : Nat → Nat → Prop} {blk : Nat} {pre L R post l1 l2 r1 r2 M1 M2 : List Nat} {w w' : World} (hL : L = l1 ++ l2) (hR : R = r1 ++ r2) (h1 : M1.Perm (l1 ++ r1)) (h2 : M2.Perm (l2 ++ r2)) (s1 : Srt lt M1) (s2 : Srt lt M2)
    (hb : Bef lt (l1 ++ r1) (l2 ++ r2)) (hr : RowL blk (pre ++ M1 ++ M2 ++ post) w') (hk : Keeps (fun k => k = blk) w w') : Merged lt blk pre L R post w w' := by
  refine ⟨⟨M1 ++ M2, ?_, Srt.append.2 ⟨s1, s2, hb.perm h1 h2⟩, by simpa only [List.append_assoc] using hr⟩, hk⟩
  rw [hL, hR]
  refine (h1.append h2).trans ?_
  simp only [List.append_assoc]
  refine List.Perm.append_left l1 ?_
  rw [← List.append_assoc r1, ← List.append_assoc l2]
  exact List.Perm.append_right r2 List.perm_append_comm
theorem srt_take {lt : Nat → Nat → Prop} {l : List Nat} (h : Srt lt l) (k : Nat) : Srt lt (l.take k) := h.sublist (List.take_sublist _ _)
theorem srt_drop {lt : Nat → Nat → Prop} {l : List Nat} (h : Srt lt l) (k : Nat) : Srt lt (l.drop k) := h.sublist (List.drop_sublist _ _)
theorem srt_nil_l {lt : Nat → Nat → Prop} {l r : List Nat} (h : l.length = 0) (hr : Srt lt r) : Srt lt (l ++ r) := by rw [List.length_eq_zero_iff.1 h]; exact hr
theorem srt_nil_r {lt : Nat → Nat → Prop} {l r : List Nat} (h : r.length = 0) (hl : Srt lt l) : Srt lt (l ++ r) := by rw [List.length_eq_zero_iff.1 h, List.append_nil]; exact hl
/-- Where the two blocks are cut. -/
structure CutsAt (lt : Nat → Nat → Prop) (l0 L R l1 l2 r1 r2 : List Nat) (a m b mid s en : Nat) : Prop where
  hL : L = l1 ++ l2
  hR : R = r1 ++ r2
  hs : s = a + l1.length
  hm : m = s + l2.length
  he : en = m + r1.length
  hb : b = en + r2.length
  hd : mid = s + r1.length
  s1 : Srt lt l1
  s2 : Srt lt l2
  s3 : Srt lt r1
  s4 : Srt lt r2
  bef : Bef lt (l1 ++ r1) (l2 ++ r2)
  nb1 : Nb l1 r1
  nb2 : Nb l2 r2
  m1 : ∀ x ∈ l1, x ∈ l0
  m2 : ∀ x ∈ l2, x ∈ l0
  m3 : ∀ x ∈ r1, x ∈ l0
  m4 : ∀ x ∈ r2, x ∈ l0
theorem cuts_at {lt : Nat → Nat → Prop} {l0 L R : List Nat} {a m b mid s en n1 : Nat} (hm : m = a + L.length) (hb : b = m + R.length) (hn1 : n1 = mid + m) (h1 : a ≤ s) (h2 : s ≤ m) (h3 : m + s ≤ n1) (h4 : n1 ≤ b + s) (hen : en = n1 - s)
    (hSL : Srt lt L) (hSR : Srt lt R) (hnb : Nb L R) (hml : ∀ x ∈ L, x ∈ l0) (hmr : ∀ x ∈ R, x ∈ l0) (hbe : Bef lt (L.take (s - a) ++ R.take (n1 - s - m)) (L.drop (s - a) ++ R.drop (n1 - s - m))) :
    CutsAt lt l0 L R (L.take (s - a)) (L.drop (s - a)) (R.take (n1 - s - m)) (R.drop (n1 - s - m)) a m b mid s en where
  hL := (List.take_append_drop _ _).symm
  hR := (List.take_append_drop _ _).symm
  hs := by rw [List.length_take]; omega
  hm := by rw [List.length_drop]; omega
  he := by rw [List.length_take]; omega
  hb := by rw [List.length_drop]; omega
  hd := by rw [List.length_take]; omega
  s1 := srt_take hSL _
  s2 := srt_drop hSL _
  s3 := srt_take hSR _
  s4 := srt_drop hSR _
  bef := hbe
  nb1 := hnb.mono (fun _ => List.mem_of_mem_take) (fun _ => List.mem_of_mem_take)
  nb2 := hnb.mono (fun _ => List.mem_of_mem_drop) (fun _ => List.mem_of_mem_drop)
  m1 := fun x hx => hml x (List.mem_of_mem_take hx)
  m2 := fun x hx => hml x (List.mem_of_mem_drop hx)
  m3 := fun x hx => hmr x (List.mem_of_mem_take hx)
  m4 := fun x hx => hmr x (List.mem_of_mem_drop hx)
/-- Between which numbers the cut is sought. -/
structure Seek (a m b mid n1 lo hi : Nat) : Prop where
  h1 : a ≤ lo
  h2 : lo ≤ hi
  h3 : hi ≤ m
  h4 : hi ≤ mid
  h5 : n1 ≤ b + lo
  hlo : lo = a ∨ n1 = b + lo
  hhi : hi = m ∨ n1 = m + hi
set_option maxRecDepth 100000 in
set_option maxHeartbeats 4000000 in
theorem symM_any (g : Nat) (cb : Array Value) (cf : Nat → Nat → Int) (lt : Nat → Nat → Prop) (l0 : List Nat) (w0 : World) (blk n cap : Nat) (hc : CmpOk g cb cf lt blk l0 w0) (hs : n < 1099511627776) : ∀ (N a m b : Nat) (pre L R post : List Nat) (hNN : L.length + R.length ≤ N) (hn : n = pre.length + L.length + R.length + post.length) (w : World) (hk0 : Keeps (fun k => k = blk) w0 w)
    (hr : RowL blk (pre ++ L ++ R ++ post) w) (ha : a = pre.length) (hm : m = pre.length + L.length) (hb : b = pre.length + L.length + R.length) (hL : 0 < L.length) (hR : 0 < R.length) (hSL : Srt lt L) (hSR : Srt lt R) (hnb : Nb L R) (hml : ∀ x ∈ L, x ∈ l0) (hmr : ∀ x ∈ R, x ∈ l0),
    Calls Try.prog 100 #[.slice (some ⟨blk, 0, none⟩) n cap, .int .i64 a, .int .i64 m, .int .i64 b, .func (.func g) #[] cb] w fun e w' => e = .returned (.tuple #[]) ∧ Merged lt blk pre L R post w w' := by
  intro N
  induction N with
  | zero => intro a m b pre L R post hNN _ w _ _ _ _ _ hL; omega
  | succ N ih =>
    intro a m b pre L R post hNN hn w hk0 hr ha hm hb hL hR hSL hSR hnb hml hmr
    by_cases h1 : L.length = 1
    · obtain ⟨x, rfl⟩ := List.length_eq_one_iff.1 h1
      refine (symL_any g cb cf lt l0 w0 blk n cap a m b hc pre x R post (by simpa using hn) hs w hk0 (by simpa only [List.append_assoc, List.cons_append, List.nil_append] using hr) ha (by simpa using hm) (by simpa using hb) hSR (fun y hy => hnb x (List.mem_singleton.2 rfl) y hy) (hml x (List.mem_singleton.2 rfl)) hmr).mono ?_
      rintro e w' ⟨rfl, h2, h3⟩
      exact ⟨rfl, h2, h3⟩
    by_cases h2 : R.length = 1
    · obtain ⟨x, rfl⟩ := List.length_eq_one_iff.1 h2
      refine (symR_any g cb cf lt l0 w0 blk n cap a m b hc pre L x post (by simpa using hn) hs w hk0 (by rw [mv_all]; simpa only [List.append_assoc, List.cons_append, List.nil_append] using hr) ha hm (by simpa using hb) hSL (fun y hy => hnb y hy x (List.mem_singleton.2 rfl)) (hmr x (List.mem_singleton.2 rfl)) hml h1).mono ?_
      rintro e w' ⟨rfl, h2, h3⟩
      exact ⟨rfl, h2, h3⟩
    have HIH := Lib.hid ih
    have HR := Lib.hid hr
    have HC := Lib.hid hc
    have HA := Lib.hid ha
    have HMm := Lib.hid hm
    have HBb := Lib.hid hb
    have HN : Hid (b ≤ n ∧ n < 1099511627776) := Lib.hid ⟨by omega, hs⟩
    have HLN := Lib.hid hn
    have HNN := Lib.hid hNN
    have HLP : Hid (0 < L.length ∧ 0 < R.length) := Lib.hid ⟨hL, hR⟩
    have HSL := Lib.hid hSL
    have HSR := Lib.hid hSR
    have HNB := Lib.hid hnb
    have HML := Lib.hid hml
    have HMR := Lib.hid hmr
    have HK0 := Lib.hid hk0
    have eg := hc.enter
    obtain ⟨ll, hll⟩ : ∃ k, k = L.length := ⟨_, rfl⟩
    obtain ⟨rl, hrl⟩ : ∃ k, k = R.length := ⟨_, rfl⟩
    obtain ⟨ab, hab⟩ : ∃ k, k = a + b := ⟨_, rfl⟩
    obtain ⟨mid, hmid⟩ : ∃ k, k = ab / 2 := ⟨_, rfl⟩
    obtain ⟨n1, hn1⟩ : ∃ k, k = mid + m := ⟨_, rfl⟩
    have hw0 : IntKind.i64.wrap ((m : Int) - (a : Int)) = (ll : Int) := by rw [IntWalk.i64_in _ (by omega)]; omega
    have hw1 : IntKind.i64.wrap ((b : Int) - (m : Int)) = (rl : Int) := by rw [IntWalk.i64_in _ (by omega)]; omega
    have hw2 : IntKind.i64.wrap ((a : Int) + (b : Int)) = (ab : Int) := by rw [IntWalk.i64_in _ (by omega)]; omega
    have hw3 : IntKind.u64.wrap (ab : Int) = (ab : Int) := IntWalk.u64_in _ (by omega)
    have hw4 : (ab : Int) / 2 = (mid : Int) := by omega
    have hw5 : IntKind.i64.wrap (mid : Int) = (mid : Int) := IntWalk.i64_in _ (by omega)
    have hw6 : IntKind.i64.wrap ((mid : Int) + (m : Int)) = (n1 : Int) := by rw [IntWalk.i64_in _ (by omega)]; omega
    have hl1b : ((ll : Int) == 1) = false := beq_eq_false_iff_ne.2 (by omega)
    have hr1b : ((rl : Int) == 1) = false := beq_eq_false_iff_ne.2 (by omega)
    have hl1 : ¬ ll = 1 := by omega
    have hr1 : ¬ rl = 1 := by omega
    by_cases hmm : mid < m
    · obtain ⟨lo, hlo⟩ : ∃ k, k = n1 - b := ⟨_, rfl⟩
      have hw7 : IntKind.i64.wrap ((n1 : Int) - (b : Int)) = (lo : Int) := by rw [IntWalk.i64_in _ (by omega)]; omega
      have hsk : Seek a m b mid n1 lo mid := ⟨by omega, by omega, by omega, Nat.le_refl _, by omega, .inr (by omega), .inr (by omega)⟩
      have hmd : decide ((mid : Int) < (m : Int)) = true := decide_eq_true (by omega)
      have HN1 := Lib.hid hn1
      have HMD : Hid (a < mid ∧ mid < b) := Lib.hid ⟨by omega, by omega⟩
      clear hr hc ha hm hb hn hSL hSR hml hmr hnb hk0 h1 h2 hL hR hNN ih hll hrl hab hmid hn1 hlo
      have HSK : Hid (Seek a m b mid n1 lo mid) := Lib.hid hsk
      clear hsk
      have hwp : IntKind.i64.wrap ((n1 : Int) - 1) = ((n1 - 1 : Nat) : Int) := by have := HN1.out; have := HMm.out; have := HBb.out; have := HLP.out; have := HN.out; have := HMD.out; rw [IntWalk.i64_in _ (by omega)]; omega
      obtain ⟨p1, hp1⟩ : ∃ p, p = n1 - 1 := ⟨_, rfl⟩
      rw [← hp1] at hwp
      have HP := Lib.hid hp1
      clear hp1
      go_enter Try.func100, Try.ntmps100
      go_wp2
      clear hw0 hw1 hw2 hw3 hw4 hw5 hw6 hw7 hl1b hr1b hl1 hr1 hmm hmd hwp
      go_loopw [20, 21] (fun iv jv wr => ∃ s r : Nat, lo ≤ s ∧ s ≤ r ∧ r ≤ mid ∧ iv = .int .i64 (s : Int) ∧ jv = .int .i64 (r : Int) ∧ (s = lo ∨ Lt2 lt (pre ++ L ++ R ++ post) (s - 1) (n1 - s)) ∧ (r = mid ∨ Lt2 lt (pre ++ L ++ R ++ post) (n1 - 1 - r) r) ∧ RowL blk (pre ++ L ++ R ++ post) wr ∧ Keeps (fun k => k = blk) w wr) (fun iv jv _ => (intOf jv).toNat - (intOf iv).toNat)
      case atStart => exact ⟨lo, mid, Nat.le_refl _, HSK.out.h2, Nat.le_refl _, rfl, rfl, .inl rfl, .inl rfl, HR.out, Keeps.refl _ _⟩
      case round =>
        clear HR
        obtain ⟨s, r, hs1, hsr, hr1, rfl, rfl, i1, i2, hrow, hk⟩ := hrel
        have HI1 := Lib.hid i1
        have HI2 := Lib.hid i2
        have HW := Lib.hid hrow
        have HK := Lib.hid hk
        clear i1 i2 hrow hk
        by_cases hlt : s < r
        case neg =>
          obtain rfl : s = r := by omega
          obtain ⟨en, hen⟩ : ∃ e, e = n1 - s := ⟨_, rfl⟩
          have hwe : IntKind.i64.wrap ((n1 : Int) - (s : Int)) = (en : Int) := by have := HSK.out.h3; have := HSK.out.h4; have := HN1.out; have := HMm.out; have := HBb.out; have := HN.out; have := HMD.out; rw [IntWalk.i64_in _ (by omega)]; omega
          obtain ⟨l1, l2, r1, r2, hcu⟩ : ∃ l1 l2 r1 r2, CutsAt lt l0 L R l1 l2 r1 r2 a m b mid s en := by
            have b1 := HSK.out
            have b2 := b1.h1; have b3 := b1.h3; have b4 := b1.h4; have b5 := b1.h5
            have c1 := HN1.out; have c2 := HMm.out; have c3 := HBb.out; have c4 := HA.out
            exact ⟨_, _, _, _, cuts_at (by omega) (by omega) c1 (by omega) (by omega) (by omega) (by omega) hen HSL.out HSR.out HNB.out HML.out HMR.out (sym_cut HC.out.sto c4 c2 c3 HSL.out HSR.out (by omega) (by omega) (by omega) (by omega) b1.hlo b1.hhi HI1.out HI2.out (by omega) (by omega))⟩
          have HCU := Lib.hid hcu
          clear HI1 HI2 hen hcu
          have HWE := Lib.hid hwe
          clear hwe
          rcases Nat.eq_zero_or_pos l2.length with z2 | z2
          · have d1 : ¬ s < m := by have := HCU.out.hm; omega
            have hwe := HWE.out
            replace HW : Hid (RowL blk (pre ++ l1 ++ r1 ++ l2 ++ r2 ++ post) wr) := Lib.hid (by have h1 := HW.out; rw [HCU.out.hL, HCU.out.hR] at h1; rw [List.length_eq_zero_iff.1 z2] at h1 ⊢; simpa only [List.append_assoc, List.nil_append] using h1)
            rcases Nat.eq_zero_or_pos l1.length with y1 | y1
            · have d2 : ¬ a < s := by have := HCU.out.hs; omega
              have d4 : ¬ mid < en := by have := HCU.out.hs; have := HCU.out.hm; have := HCU.out.he; have := HCU.out.hd; omega
              go_wp2
              go_end0
              exact ⟨rfl, merged_end HCU.out.hL HCU.out.hR (List.Perm.refl _) (List.Perm.refl _) (srt_nil_l y1 HCU.out.s3) (srt_nil_l z2 HCU.out.s4) HCU.out.bef (by simpa only [List.append_assoc] using HW.out) HK.out⟩
            · have d2 : a < s := by have := HCU.out.hs; omega
              rcases Nat.eq_zero_or_pos r1.length with y2 | y2
              · have d3 : ¬ s < mid := by have := HCU.out.hd; omega
                have d4 : ¬ mid < en := by have := HCU.out.hs; have := HCU.out.hm; have := HCU.out.he; have := HCU.out.hd; omega
                go_wp2
                go_end0
                exact ⟨rfl, merged_end HCU.out.hL HCU.out.hR (List.Perm.refl _) (List.Perm.refl _) (srt_nil_r y2 HCU.out.s1) (srt_nil_l z2 HCU.out.s4) HCU.out.bef (by simpa only [List.append_assoc] using HW.out) HK.out⟩
              · have d3 : s < mid := by have := HCU.out.hd; omega
                go_wp2_with fail
                refine (HIH.out a s mid pre l1 r1 (l2 ++ r2 ++ post) (by have := HNN.out; have := HMD.out; have := HCU.out.hs; have := HCU.out.hm; have := HCU.out.he; have := HCU.out.hb; have := HCU.out.hd; have := HMm.out; have := HBb.out; have := HA.out; omega) (by have := HLN.out; have := congrArg List.length HCU.out.hL; have := congrArg List.length HCU.out.hR; simp only [List.length_append] at *; omega) _ (HK0.out.trans HK.out) (by simpa only [List.append_assoc] using HW.out) HA.out (by have := HCU.out.hs; have := HA.out; omega) (by have := HCU.out.hs; have := HCU.out.hd; have := HA.out; omega) y1 y2 HCU.out.s1 HCU.out.s3 HCU.out.nb1 HCU.out.m1 HCU.out.m3).mono ?_
                rintro e' w8 ⟨rfl, ⟨M1, hp1, hs1, hr1⟩, hk1⟩
                dsimp only
                have HP1 := Lib.hid hp1
                have HS1 := Lib.hid hs1
                replace HW := Lib.hid hr1
                replace HK := Lib.hid (HK.out.trans hk1)
                clear hp1 hs1 hr1 hk1
                have d4 : ¬ mid < en := by have := HCU.out.hs; have := HCU.out.hm; have := HCU.out.he; have := HCU.out.hd; omega
                go_wp2
                go_end0
                exact ⟨rfl, merged_end HCU.out.hL HCU.out.hR HP1.out (List.Perm.refl _) HS1.out (srt_nil_l z2 HCU.out.s4) HCU.out.bef (by simpa only [List.append_assoc] using HW.out) HK.out⟩
          · have d1 : s < m := by have := HCU.out.hm; omega
            have hwe := HWE.out
            rcases Nat.eq_zero_or_pos r1.length with y2 | y2
            · have d6 : ¬ m < en := by have := HCU.out.he; omega
              have d3 : ¬ s < mid := by have := HCU.out.hd; omega
              replace HW : Hid (RowL blk (pre ++ l1 ++ r1 ++ l2 ++ r2 ++ post) wr) := Lib.hid (by have h1 := HW.out; rw [HCU.out.hL, HCU.out.hR] at h1; rw [List.length_eq_zero_iff.1 y2] at h1 ⊢; simpa only [List.append_assoc, List.nil_append] using h1)
              rcases Nat.eq_zero_or_pos l1.length with y1 | y1
              · have d2 : ¬ a < s := by have := HCU.out.hs; omega
                have d4 : mid < en := by have := HCU.out.hs; have := HCU.out.hm; have := HCU.out.he; have := HCU.out.hd; omega
                rcases Nat.eq_zero_or_pos r2.length with z3 | z3
                · have d5 : ¬ en < b := by have := HCU.out.hb; omega
                  go_wp2
                  go_end0
                  exact ⟨rfl, merged_end HCU.out.hL HCU.out.hR (List.Perm.refl (l1 ++ r1)) (List.Perm.refl _) (srt_nil_l y1 HCU.out.s3) (srt_nil_r z3 HCU.out.s2) HCU.out.bef (by simpa only [List.append_assoc] using HW.out) HK.out⟩
                · have d5 : en < b := by have := HCU.out.hb; omega
                  go_wp2_with fail
                  refine (HIH.out mid en b (pre ++ (l1 ++ r1)) l2 r2 post (by have := HNN.out; have := HMD.out; have := HCU.out.hs; have := HCU.out.hm; have := HCU.out.he; have := HCU.out.hb; have := HCU.out.hd; have := HMm.out; have := HBb.out; have := HA.out; omega) (by have := HLN.out; have := (List.Perm.refl (l1 ++ r1)).length_eq; have := congrArg List.length HCU.out.hL; have := congrArg List.length HCU.out.hR; simp only [List.length_append] at *; omega) _ (HK0.out.trans HK.out) (by simpa only [List.append_assoc] using HW.out) (by have := (List.Perm.refl (l1 ++ r1)).length_eq; have := HCU.out.hs; have := HCU.out.hd; have := HA.out; simp only [List.length_append] at *; omega) (by have := (List.Perm.refl (l1 ++ r1)).length_eq; have := HCU.out.hs; have := HCU.out.hd; have := HCU.out.he; have := HCU.out.hm; have := HA.out; simp only [List.length_append] at *; omega) (by have := (List.Perm.refl (l1 ++ r1)).length_eq; have := HCU.out.hs; have := HCU.out.hd; have := HCU.out.he; have := HCU.out.hm; have := HCU.out.hb; have := HA.out; simp only [List.length_append] at *; omega) z2 z3 HCU.out.s2 HCU.out.s4 HCU.out.nb2 HCU.out.m2 HCU.out.m4).mono ?_
                  rintro e' w9 ⟨rfl, ⟨M2, hp2, hs2, hr2⟩, hk2⟩
                  dsimp only
                  have HP2 := Lib.hid hp2
                  have HS2 := Lib.hid hs2
                  replace HW := Lib.hid hr2
                  replace HK := Lib.hid (HK.out.trans hk2)
                  clear hp2 hs2 hr2 hk2
                  go_wp2
                  go_end0
                  exact ⟨rfl, merged_end HCU.out.hL HCU.out.hR (List.Perm.refl (l1 ++ r1)) HP2.out (srt_nil_l y1 HCU.out.s3) HS2.out HCU.out.bef (by simpa only [List.append_assoc] using HW.out) HK.out⟩
              · have d2 : a < s := by have := HCU.out.hs; omega
                have d4 : mid < en := by have := HCU.out.hs; have := HCU.out.hm; have := HCU.out.he; have := HCU.out.hd; omega
                rcases Nat.eq_zero_or_pos r2.length with z3 | z3
                · have d5 : ¬ en < b := by have := HCU.out.hb; omega
                  go_wp2
                  go_end0
                  exact ⟨rfl, merged_end HCU.out.hL HCU.out.hR (List.Perm.refl (l1 ++ r1)) (List.Perm.refl _) (srt_nil_r y2 HCU.out.s1) (srt_nil_r z3 HCU.out.s2) HCU.out.bef (by simpa only [List.append_assoc] using HW.out) HK.out⟩
                · have d5 : en < b := by have := HCU.out.hb; omega
                  go_wp2_with fail
                  refine (HIH.out mid en b (pre ++ (l1 ++ r1)) l2 r2 post (by have := HNN.out; have := HMD.out; have := HCU.out.hs; have := HCU.out.hm; have := HCU.out.he; have := HCU.out.hb; have := HCU.out.hd; have := HMm.out; have := HBb.out; have := HA.out; omega) (by have := HLN.out; have := (List.Perm.refl (l1 ++ r1)).length_eq; have := congrArg List.length HCU.out.hL; have := congrArg List.length HCU.out.hR; simp only [List.length_append] at *; omega) _ (HK0.out.trans HK.out) (by simpa only [List.append_assoc] using HW.out) (by have := (List.Perm.refl (l1 ++ r1)).length_eq; have := HCU.out.hs; have := HCU.out.hd; have := HA.out; simp only [List.length_append] at *; omega) (by have := (List.Perm.refl (l1 ++ r1)).length_eq; have := HCU.out.hs; have := HCU.out.hd; have := HCU.out.he; have := HCU.out.hm; have := HA.out; simp only [List.length_append] at *; omega) (by have := (List.Perm.refl (l1 ++ r1)).length_eq; have := HCU.out.hs; have := HCU.out.hd; have := HCU.out.he; have := HCU.out.hm; have := HCU.out.hb; have := HA.out; simp only [List.length_append] at *; omega) z2 z3 HCU.out.s2 HCU.out.s4 HCU.out.nb2 HCU.out.m2 HCU.out.m4).mono ?_
                  rintro e' w9 ⟨rfl, ⟨M2, hp2, hs2, hr2⟩, hk2⟩
                  dsimp only
                  have HP2 := Lib.hid hp2
                  have HS2 := Lib.hid hs2
                  replace HW := Lib.hid hr2
                  replace HK := Lib.hid (HK.out.trans hk2)
                  clear hp2 hs2 hr2 hk2
                  go_wp2
                  go_end0
                  exact ⟨rfl, merged_end HCU.out.hL HCU.out.hR (List.Perm.refl (l1 ++ r1)) HP2.out (srt_nil_r y2 HCU.out.s1) HS2.out HCU.out.bef (by simpa only [List.append_assoc] using HW.out) HK.out⟩
            · have d6 : m < en := by have := HCU.out.he; omega
              have d3 : s < mid := by have := HCU.out.hd; omega
              go_wp2_with fail
              refine (rotate_any blk n cap s m en (.func (.func g) #[] cb) (pre ++ l1) l2 r1 (r2 ++ post) (by have := HLN.out; have := congrArg List.length HCU.out.hL; have := congrArg List.length HCU.out.hR; simp only [List.length_append] at *; omega) HN.out.2 wr (by have h1 := HW.out; rw [HCU.out.hL, HCU.out.hR] at h1; simpa only [List.append_assoc] using h1) (by have := HCU.out.hs; have := HA.out; simp only [List.length_append]; omega) (by have := HCU.out.hs; have := HCU.out.hm; have := HA.out; simp only [List.length_append]; omega) (by have := HCU.out.hs; have := HCU.out.hm; have := HCU.out.he; have := HA.out; simp only [List.length_append]; omega) z2 y2).mono ?_
              rintro e' w7 ⟨rfl, hr7, hk7⟩
              dsimp only
              replace HW : Hid (RowL blk (pre ++ l1 ++ r1 ++ l2 ++ r2 ++ post) w7) := Lib.hid (by simpa only [List.append_assoc] using hr7)
              replace HK := Lib.hid (HK.out.trans hk7)
              clear hr7 hk7
              rcases Nat.eq_zero_or_pos l1.length with y1 | y1
              · have d2 : ¬ a < s := by have := HCU.out.hs; omega
                have d4 : mid < en := by have := HCU.out.hs; have := HCU.out.hm; have := HCU.out.he; have := HCU.out.hd; omega
                rcases Nat.eq_zero_or_pos r2.length with z3 | z3
                · have d5 : ¬ en < b := by have := HCU.out.hb; omega
                  go_wp2
                  go_end0
                  exact ⟨rfl, merged_end HCU.out.hL HCU.out.hR (List.Perm.refl (l1 ++ r1)) (List.Perm.refl _) (srt_nil_l y1 HCU.out.s3) (srt_nil_r z3 HCU.out.s2) HCU.out.bef (by simpa only [List.append_assoc] using HW.out) HK.out⟩
                · have d5 : en < b := by have := HCU.out.hb; omega
                  go_wp2_with fail
                  refine (HIH.out mid en b (pre ++ (l1 ++ r1)) l2 r2 post (by have := HNN.out; have := HMD.out; have := HCU.out.hs; have := HCU.out.hm; have := HCU.out.he; have := HCU.out.hb; have := HCU.out.hd; have := HMm.out; have := HBb.out; have := HA.out; omega) (by have := HLN.out; have := (List.Perm.refl (l1 ++ r1)).length_eq; have := congrArg List.length HCU.out.hL; have := congrArg List.length HCU.out.hR; simp only [List.length_append] at *; omega) _ (HK0.out.trans HK.out) (by simpa only [List.append_assoc] using HW.out) (by have := (List.Perm.refl (l1 ++ r1)).length_eq; have := HCU.out.hs; have := HCU.out.hd; have := HA.out; simp only [List.length_append] at *; omega) (by have := (List.Perm.refl (l1 ++ r1)).length_eq; have := HCU.out.hs; have := HCU.out.hd; have := HCU.out.he; have := HCU.out.hm; have := HA.out; simp only [List.length_append] at *; omega) (by have := (List.Perm.refl (l1 ++ r1)).length_eq; have := HCU.out.hs; have := HCU.out.hd; have := HCU.out.he; have := HCU.out.hm; have := HCU.out.hb; have := HA.out; simp only [List.length_append] at *; omega) z2 z3 HCU.out.s2 HCU.out.s4 HCU.out.nb2 HCU.out.m2 HCU.out.m4).mono ?_
                  rintro e' w9 ⟨rfl, ⟨M2, hp2, hs2, hr2⟩, hk2⟩
                  dsimp only
                  have HP2 := Lib.hid hp2
                  have HS2 := Lib.hid hs2
                  replace HW := Lib.hid hr2
                  replace HK := Lib.hid (HK.out.trans hk2)
                  clear hp2 hs2 hr2 hk2
                  go_wp2
                  go_end0
                  exact ⟨rfl, merged_end HCU.out.hL HCU.out.hR (List.Perm.refl (l1 ++ r1)) HP2.out (srt_nil_l y1 HCU.out.s3) HS2.out HCU.out.bef (by simpa only [List.append_assoc] using HW.out) HK.out⟩
              · have d2 : a < s := by have := HCU.out.hs; omega
                go_wp2_with fail
                refine (HIH.out a s mid pre l1 r1 (l2 ++ r2 ++ post) (by have := HNN.out; have := HMD.out; have := HCU.out.hs; have := HCU.out.hm; have := HCU.out.he; have := HCU.out.hb; have := HCU.out.hd; have := HMm.out; have := HBb.out; have := HA.out; omega) (by have := HLN.out; have := congrArg List.length HCU.out.hL; have := congrArg List.length HCU.out.hR; simp only [List.length_append] at *; omega) _ (HK0.out.trans HK.out) (by simpa only [List.append_assoc] using HW.out) HA.out (by have := HCU.out.hs; have := HA.out; omega) (by have := HCU.out.hs; have := HCU.out.hd; have := HA.out; omega) y1 y2 HCU.out.s1 HCU.out.s3 HCU.out.nb1 HCU.out.m1 HCU.out.m3).mono ?_
                rintro e' w8 ⟨rfl, ⟨M1, hp1, hs1, hr1⟩, hk1⟩
                dsimp only
                have HP1 := Lib.hid hp1
                have HS1 := Lib.hid hs1
                replace HW := Lib.hid hr1
                replace HK := Lib.hid (HK.out.trans hk1)
                clear hp1 hs1 hr1 hk1
                have d4 : mid < en := by have := HCU.out.hs; have := HCU.out.hm; have := HCU.out.he; have := HCU.out.hd; omega
                rcases Nat.eq_zero_or_pos r2.length with z3 | z3
                · have d5 : ¬ en < b := by have := HCU.out.hb; omega
                  go_wp2
                  go_end0
                  exact ⟨rfl, merged_end HCU.out.hL HCU.out.hR HP1.out (List.Perm.refl _) HS1.out (srt_nil_r z3 HCU.out.s2) HCU.out.bef (by simpa only [List.append_assoc] using HW.out) HK.out⟩
                · have d5 : en < b := by have := HCU.out.hb; omega
                  go_wp2_with fail
                  refine (HIH.out mid en b (pre ++ M1) l2 r2 post (by have := HNN.out; have := HMD.out; have := HCU.out.hs; have := HCU.out.hm; have := HCU.out.he; have := HCU.out.hb; have := HCU.out.hd; have := HMm.out; have := HBb.out; have := HA.out; omega) (by have := HLN.out; have := HP1.out.length_eq; have := congrArg List.length HCU.out.hL; have := congrArg List.length HCU.out.hR; simp only [List.length_append] at *; omega) _ (HK0.out.trans HK.out) (by simpa only [List.append_assoc] using HW.out) (by have := HP1.out.length_eq; have := HCU.out.hs; have := HCU.out.hd; have := HA.out; simp only [List.length_append] at *; omega) (by have := HP1.out.length_eq; have := HCU.out.hs; have := HCU.out.hd; have := HCU.out.he; have := HCU.out.hm; have := HA.out; simp only [List.length_append] at *; omega) (by have := HP1.out.length_eq; have := HCU.out.hs; have := HCU.out.hd; have := HCU.out.he; have := HCU.out.hm; have := HCU.out.hb; have := HA.out; simp only [List.length_append] at *; omega) z2 z3 HCU.out.s2 HCU.out.s4 HCU.out.nb2 HCU.out.m2 HCU.out.m4).mono ?_
                  rintro e' w9 ⟨rfl, ⟨M2, hp2, hs2, hr2⟩, hk2⟩
                  dsimp only
                  have HP2 := Lib.hid hp2
                  have HS2 := Lib.hid hs2
                  replace HW := Lib.hid hr2
                  replace HK := Lib.hid (HK.out.trans hk2)
                  clear hp2 hs2 hr2 hk2
                  go_wp2
                  go_end0
                  exact ⟨rfl, merged_end HCU.out.hL HCU.out.hR HP1.out HP2.out HS1.out HS2.out HCU.out.bef (by simpa only [List.append_assoc] using HW.out) HK.out⟩
        obtain ⟨hc1, hc2⟩ := half_st hlt
        obtain ⟨sm, hsm⟩ : ∃ k, k = s + r := ⟨_, rfl⟩
        obtain ⟨c, hcc⟩ : ∃ c, c = sm / 2 := ⟨_, rfl⟩
        obtain ⟨pc, hpc⟩ : ∃ k, k = n1 - 1 - c := ⟨_, rfl⟩
        obtain ⟨cn, hcn⟩ : ∃ k, k = c + 1 := ⟨_, rfl⟩
        rw [← hsm, ← hcc] at hc1 hc2
        have hb1 := HSK.out.h1
        have hb3 := HSK.out.h3
        have hb4 := HSK.out.h4
        have hb5 := HSK.out.h5
        have hb6 := HN1.out
        have hb7 := HMm.out
        have hb8 := HBb.out
        have hb9 := HN.out
        have hb10 := HA.out
        have hb11 := HMD.out
        have hb12 := HP.out
        have hw1 : IntKind.i64.wrap ((s : Int) + (r : Int)) = (sm : Int) := by rw [IntWalk.i64_in _ (by omega)]; omega
        have hw2 : IntKind.u64.wrap (sm : Int) = (sm : Int) := IntWalk.u64_in _ (by omega)
        have hw3 : (sm : Int) / 2 = (c : Int) := by omega
        have hw4 : IntKind.i64.wrap (c : Int) = (c : Int) := IntWalk.i64_in _ (by omega)
        have hw5 : IntKind.i64.wrap ((p1 : Int) - (c : Int)) = (pc : Int) := by rw [IntWalk.i64_in _ (by omega)]; omega
        have hw6 : IntKind.i64.wrap ((c : Int) + 1) = (cn : Int) := by rw [IntWalk.i64_in _ (by omega)]; omega
        have hcl : c < n := by omega
        have hpl : pc < n := by omega
        obtain ⟨x, e2, hx⟩ := get_L_mem (pre := pre) (L := L) (R := R) (post := post) (c := c) (by omega) (by omega)
        obtain ⟨y, e1, hy⟩ := get_R_mem (pre := pre) (L := L) (R := R) (post := post) (c := pc) (by omega) (by omega)
        have E1 := Lib.hid e1
        have E2 := Lib.hid e2
        have hxl := HML.out x hx
        have hyl := HMR.out y hy
        have hxy := HNB.out x hx y hy
        have c1 := HW.out.cell e1
        have c2 := HW.out.cell e2
        have HCL := Lib.hid (fun W hk => HC.out.call W hk y x hyl hxl)
        have HPC := Lib.hid hpc
        have HCN := Lib.hid hcn
        clear e1 e2 hsm hcc hpc hcn hb1 hb3 hb4 hb5 hb6 hb7 hb8 hb9 hb10 hb11 hb12 hx hy
        by_cases hcf : cf y x < 0
        · have hcd : decide (cf y x < 0) = true := decide_eq_true hcf
          go_wp2_with fail
          refine wp_region_held_drew (S := S2r blk pc c y x) (by kernel_rfl) ⟨c1, c2⟩ fun hS => ?_
          refine wpAnyH_take (i := 0) (v := ?_) rfl (by kernel_rfl) (by kernel_rfl) (by kernel_rfl) (fun _ _ _ h => h) (Or.inl ⟨by rfl, ?_⟩) hS ?_
          rotate_left
          · (intro W hSw; obtain ⟨hq1, hq2⟩ := hSw; go_simp; try with_reducible rfl)
          try simp only [List.getElem_toArray, List.getElem_cons_succ, List.getElem_cons_zero, Act.put, List.setIfInBounds_toArray, List.set_cons_zero, List.set_cons_succ]
          refine wpAnyH_take (i := 1) (v := ?_) rfl (by kernel_rfl) (by kernel_rfl) (by kernel_rfl) (fun _ _ _ h => h) (Or.inl ⟨by rfl, ?_⟩) hS ?_
          rotate_left
          · (intro W hSw; obtain ⟨hq1, hq2⟩ := hSw; go_simp; try with_reducible rfl)
          try simp only [List.getElem_toArray, List.getElem_cons_succ, List.getElem_cons_zero, Act.put, List.setIfInBounds_toArray, List.set_cons_zero, List.set_cons_succ]
          refine wpAnyH_take (i := 2) (v := ?_) rfl (by kernel_rfl) (by kernel_rfl) (by kernel_rfl) (fun _ _ _ h => h) (Or.inl ⟨by rfl, ?_⟩) hS ?_
          rotate_left
          · (intro W hSw; obtain ⟨hq1, hq2⟩ := hSw; go_simp; try with_reducible rfl)
          try simp only [List.getElem_toArray, List.getElem_cons_succ, List.getElem_cons_zero, Act.put, List.setIfInBounds_toArray, List.set_cons_zero, List.set_cons_succ]
          refine wpAnyH_take (i := 3) (v := ?_) rfl (by kernel_rfl) (by kernel_rfl) (by kernel_rfl) (fun _ _ _ h => h) (Or.inl ⟨by rfl, ?_⟩) hS ?_
          rotate_left
          · (intro W hSw; obtain ⟨hq1, hq2⟩ := hSw; go_simp; try with_reducible rfl)
          try simp only [List.getElem_toArray, List.getElem_cons_succ, List.getElem_cons_zero, Act.put, List.setIfInBounds_toArray, List.set_cons_zero, List.set_cons_succ]
          refine wpAnyH_take (i := 4) (v := ?_) rfl (by kernel_rfl) (by kernel_rfl) (by kernel_rfl) (fun _ _ _ h => h) (Or.inl ⟨by rfl, ?_⟩) hS ?_
          rotate_left
          · (intro W hSw; obtain ⟨hq1, hq2⟩ := hSw; go_simp; try with_reducible rfl)
          try simp only [List.getElem_toArray, List.getElem_cons_succ, List.getElem_cons_zero, Act.put, List.setIfInBounds_toArray, List.set_cons_zero, List.set_cons_succ]
          refine wpAnyH_take (i := 5) (v := ?_) rfl (by kernel_rfl) (by kernel_rfl) (by kernel_rfl) (fun _ _ _ h => h) (Or.inl ⟨by rfl, ?_⟩) hS ?_
          rotate_left
          · (intro W hSw; obtain ⟨hq1, hq2⟩ := hSw; go_simp; try with_reducible rfl)
          try simp only [List.getElem_toArray, List.getElem_cons_succ, List.getElem_cons_zero, Act.put, List.setIfInBounds_toArray, List.set_cons_zero, List.set_cons_succ]
          refine wpAnyH_take (i := 6) (v := ?_) rfl (by kernel_rfl) (by kernel_rfl) (by kernel_rfl) (fun _ _ _ h => h) (Or.inl ⟨by rfl, ?_⟩) hS ?_
          rotate_left
          · (intro W hSw; obtain ⟨hq1, hq2⟩ := hSw; go_simp; try with_reducible rfl)
          try simp only [List.getElem_toArray, List.getElem_cons_succ, List.getElem_cons_zero, Act.put, List.setIfInBounds_toArray, List.set_cons_zero, List.set_cons_succ]
          refine wpAnyH_take (i := 7) (v := ?_) rfl (by kernel_rfl) (by kernel_rfl) (by kernel_rfl) (fun _ _ _ h => h) (Or.inl ⟨by rfl, ?_⟩) hS ?_
          rotate_left
          · (intro W hSw; obtain ⟨hq1, hq2⟩ := hSw; go_simp; try with_reducible rfl)
          try simp only [List.getElem_toArray, List.getElem_cons_succ, List.getElem_cons_zero, Act.put, List.setIfInBounds_toArray, List.set_cons_zero, List.set_cons_succ]
          refine wpAnyH_take (i := 8) (v := ?_) rfl (by kernel_rfl) (by kernel_rfl) (by kernel_rfl) (fun _ _ _ h => h) (Or.inl ⟨by rfl, ?_⟩) hS ?_
          rotate_left
          · (intro W hSw; obtain ⟨hq1, hq2⟩ := hSw; go_simp; try with_reducible rfl)
          try simp only [List.getElem_toArray, List.getElem_cons_succ, List.getElem_cons_zero, Act.put, List.setIfInBounds_toArray, List.set_cons_zero, List.set_cons_succ]
          refine wpAnyH_take (i := 9) (v := ?_) rfl (by kernel_rfl) (by kernel_rfl) (by kernel_rfl) (fun _ _ _ h => h) (Or.inl ⟨by rfl, ?_⟩) hS ?_
          rotate_left
          · (intro W hSw; obtain ⟨hq1, hq2⟩ := hSw; go_simp; try with_reducible rfl)
          try simp only [List.getElem_toArray, List.getElem_cons_succ, List.getElem_cons_zero, Act.put, List.setIfInBounds_toArray, List.set_cons_zero, List.set_cons_succ]
          refine wpAnyH_take (i := 10) (v := ?_) rfl (by kernel_rfl) (by kernel_rfl) (by kernel_rfl) (fun _ _ _ h => h) (Or.inl ⟨by rfl, ?_⟩) hS ?_
          rotate_left
          · (intro W hSw; obtain ⟨hq1, hq2⟩ := hSw; go_simp; try with_reducible rfl)
          try simp only [List.getElem_toArray, List.getElem_cons_succ, List.getElem_cons_zero, Act.put, List.setIfInBounds_toArray, List.set_cons_zero, List.set_cons_succ]
          refine wpAnyH_ready (rs := [11]) (by kernel_rfl) (by simp) ?_
          refine AllReadyH.cons rfl (fun K hK => ?_) AllReadyH.nil
          go_simp
          go_at_fn g
          refine (HCL.out _ (HK0.out.trans (HK.out.trans (Keeps.drew _ _)))).mono ?_
          rintro e' wc ⟨rfl, hbc⟩
          obtain ⟨hw9, hk9⟩ := RowL.old HW.out.drew hbc (HK.out.trans (Keeps.drew _ _))
          replace HW := Lib.hid hw9
          replace HK := Lib.hid hk9
          clear hbc hw9 hk9 c1 c2 hS
          refine hK.out _ _ ⟨HW.out.cell E1.out, HW.out.cell E2.out⟩ (fun hS => ?_)
          clear hK K
          try simp only [List.getElem_toArray, List.getElem_cons_succ, List.getElem_cons_zero, Act.put, List.setIfInBounds_toArray, List.set_cons_zero, List.set_cons_succ]
          refine wpAnyH_take (i := 12) (v := ?_) rfl (by kernel_rfl) (by kernel_rfl) (by kernel_rfl) (fun _ _ _ h => h) (Or.inl ⟨by rfl, ?_⟩) hS ?_
          rotate_left
          · (intro W hSw; obtain ⟨hq1, hq2⟩ := hSw; go_simp; try with_reducible rfl)
          try simp only [List.getElem_toArray, List.getElem_cons_succ, List.getElem_cons_zero, Act.put, List.setIfInBounds_toArray, List.set_cons_zero, List.set_cons_succ]
          refine wpAnyH_take (i := 13) (v := ?_) rfl (by kernel_rfl) (by kernel_rfl) (by kernel_rfl) (fun _ _ _ h => h) (Or.inl ⟨by rfl, ?_⟩) hS ?_
          rotate_left
          · (intro W hSw; obtain ⟨hq1, hq2⟩ := hSw; go_simp; try with_reducible rfl)
          try simp only [List.getElem_toArray, List.getElem_cons_succ, List.getElem_cons_zero, Act.put, List.setIfInBounds_toArray, List.set_cons_zero, List.set_cons_succ]
          refine wpAnyH_done (by kernel_rfl) ?_ _
          clear hS
          go_wp2
          have hlt2 := HC.out.yes hyl hxl hxy hcf
          exact ⟨⟨s, c, hs1, by omega, by omega, rfl, rfl, HI1.out, .inr (Lt2.mk (by rw [← HPC.out]; exact E1.out) E2.out hlt2), HW.out, HK.out⟩, by simp [intOf]; omega⟩
        · have hcd : decide (cf y x < 0) = false := decide_eq_false hcf
          go_wp2_with fail
          refine wp_region_held_drew (S := S2r blk pc c y x) (by kernel_rfl) ⟨c1, c2⟩ fun hS => ?_
          refine wpAnyH_take (i := 0) (v := ?_) rfl (by kernel_rfl) (by kernel_rfl) (by kernel_rfl) (fun _ _ _ h => h) (Or.inl ⟨by rfl, ?_⟩) hS ?_
          rotate_left
          · (intro W hSw; obtain ⟨hq1, hq2⟩ := hSw; go_simp; try with_reducible rfl)
          try simp only [List.getElem_toArray, List.getElem_cons_succ, List.getElem_cons_zero, Act.put, List.setIfInBounds_toArray, List.set_cons_zero, List.set_cons_succ]
          refine wpAnyH_take (i := 1) (v := ?_) rfl (by kernel_rfl) (by kernel_rfl) (by kernel_rfl) (fun _ _ _ h => h) (Or.inl ⟨by rfl, ?_⟩) hS ?_
          rotate_left
          · (intro W hSw; obtain ⟨hq1, hq2⟩ := hSw; go_simp; try with_reducible rfl)
          try simp only [List.getElem_toArray, List.getElem_cons_succ, List.getElem_cons_zero, Act.put, List.setIfInBounds_toArray, List.set_cons_zero, List.set_cons_succ]
          refine wpAnyH_take (i := 2) (v := ?_) rfl (by kernel_rfl) (by kernel_rfl) (by kernel_rfl) (fun _ _ _ h => h) (Or.inl ⟨by rfl, ?_⟩) hS ?_
          rotate_left
          · (intro W hSw; obtain ⟨hq1, hq2⟩ := hSw; go_simp; try with_reducible rfl)
          try simp only [List.getElem_toArray, List.getElem_cons_succ, List.getElem_cons_zero, Act.put, List.setIfInBounds_toArray, List.set_cons_zero, List.set_cons_succ]
          refine wpAnyH_take (i := 3) (v := ?_) rfl (by kernel_rfl) (by kernel_rfl) (by kernel_rfl) (fun _ _ _ h => h) (Or.inl ⟨by rfl, ?_⟩) hS ?_
          rotate_left
          · (intro W hSw; obtain ⟨hq1, hq2⟩ := hSw; go_simp; try with_reducible rfl)
          try simp only [List.getElem_toArray, List.getElem_cons_succ, List.getElem_cons_zero, Act.put, List.setIfInBounds_toArray, List.set_cons_zero, List.set_cons_succ]
          refine wpAnyH_take (i := 4) (v := ?_) rfl (by kernel_rfl) (by kernel_rfl) (by kernel_rfl) (fun _ _ _ h => h) (Or.inl ⟨by rfl, ?_⟩) hS ?_
          rotate_left
          · (intro W hSw; obtain ⟨hq1, hq2⟩ := hSw; go_simp; try with_reducible rfl)
          try simp only [List.getElem_toArray, List.getElem_cons_succ, List.getElem_cons_zero, Act.put, List.setIfInBounds_toArray, List.set_cons_zero, List.set_cons_succ]
          refine wpAnyH_take (i := 5) (v := ?_) rfl (by kernel_rfl) (by kernel_rfl) (by kernel_rfl) (fun _ _ _ h => h) (Or.inl ⟨by rfl, ?_⟩) hS ?_
          rotate_left
          · (intro W hSw; obtain ⟨hq1, hq2⟩ := hSw; go_simp; try with_reducible rfl)
          try simp only [List.getElem_toArray, List.getElem_cons_succ, List.getElem_cons_zero, Act.put, List.setIfInBounds_toArray, List.set_cons_zero, List.set_cons_succ]
          refine wpAnyH_take (i := 6) (v := ?_) rfl (by kernel_rfl) (by kernel_rfl) (by kernel_rfl) (fun _ _ _ h => h) (Or.inl ⟨by rfl, ?_⟩) hS ?_
          rotate_left
          · (intro W hSw; obtain ⟨hq1, hq2⟩ := hSw; go_simp; try with_reducible rfl)
          try simp only [List.getElem_toArray, List.getElem_cons_succ, List.getElem_cons_zero, Act.put, List.setIfInBounds_toArray, List.set_cons_zero, List.set_cons_succ]
          refine wpAnyH_take (i := 7) (v := ?_) rfl (by kernel_rfl) (by kernel_rfl) (by kernel_rfl) (fun _ _ _ h => h) (Or.inl ⟨by rfl, ?_⟩) hS ?_
          rotate_left
          · (intro W hSw; obtain ⟨hq1, hq2⟩ := hSw; go_simp; try with_reducible rfl)
          try simp only [List.getElem_toArray, List.getElem_cons_succ, List.getElem_cons_zero, Act.put, List.setIfInBounds_toArray, List.set_cons_zero, List.set_cons_succ]
          refine wpAnyH_take (i := 8) (v := ?_) rfl (by kernel_rfl) (by kernel_rfl) (by kernel_rfl) (fun _ _ _ h => h) (Or.inl ⟨by rfl, ?_⟩) hS ?_
          rotate_left
          · (intro W hSw; obtain ⟨hq1, hq2⟩ := hSw; go_simp; try with_reducible rfl)
          try simp only [List.getElem_toArray, List.getElem_cons_succ, List.getElem_cons_zero, Act.put, List.setIfInBounds_toArray, List.set_cons_zero, List.set_cons_succ]
          refine wpAnyH_take (i := 9) (v := ?_) rfl (by kernel_rfl) (by kernel_rfl) (by kernel_rfl) (fun _ _ _ h => h) (Or.inl ⟨by rfl, ?_⟩) hS ?_
          rotate_left
          · (intro W hSw; obtain ⟨hq1, hq2⟩ := hSw; go_simp; try with_reducible rfl)
          try simp only [List.getElem_toArray, List.getElem_cons_succ, List.getElem_cons_zero, Act.put, List.setIfInBounds_toArray, List.set_cons_zero, List.set_cons_succ]
          refine wpAnyH_take (i := 10) (v := ?_) rfl (by kernel_rfl) (by kernel_rfl) (by kernel_rfl) (fun _ _ _ h => h) (Or.inl ⟨by rfl, ?_⟩) hS ?_
          rotate_left
          · (intro W hSw; obtain ⟨hq1, hq2⟩ := hSw; go_simp; try with_reducible rfl)
          try simp only [List.getElem_toArray, List.getElem_cons_succ, List.getElem_cons_zero, Act.put, List.setIfInBounds_toArray, List.set_cons_zero, List.set_cons_succ]
          refine wpAnyH_ready (rs := [11]) (by kernel_rfl) (by simp) ?_
          refine AllReadyH.cons rfl (fun K hK => ?_) AllReadyH.nil
          go_simp
          go_at_fn g
          refine (HCL.out _ (HK0.out.trans (HK.out.trans (Keeps.drew _ _)))).mono ?_
          rintro e' wc ⟨rfl, hbc⟩
          obtain ⟨hw9, hk9⟩ := RowL.old HW.out.drew hbc (HK.out.trans (Keeps.drew _ _))
          replace HW := Lib.hid hw9
          replace HK := Lib.hid hk9
          clear hbc hw9 hk9 c1 c2 hS
          refine hK.out _ _ ⟨HW.out.cell E1.out, HW.out.cell E2.out⟩ (fun hS => ?_)
          clear hK K
          try simp only [List.getElem_toArray, List.getElem_cons_succ, List.getElem_cons_zero, Act.put, List.setIfInBounds_toArray, List.set_cons_zero, List.set_cons_succ]
          refine wpAnyH_take (i := 12) (v := ?_) rfl (by kernel_rfl) (by kernel_rfl) (by kernel_rfl) (fun _ _ _ h => h) (Or.inl ⟨by rfl, ?_⟩) hS ?_
          rotate_left
          · (intro W hSw; obtain ⟨hq1, hq2⟩ := hSw; go_simp; try with_reducible rfl)
          try simp only [List.getElem_toArray, List.getElem_cons_succ, List.getElem_cons_zero, Act.put, List.setIfInBounds_toArray, List.set_cons_zero, List.set_cons_succ]
          refine wpAnyH_take (i := 13) (v := ?_) rfl (by kernel_rfl) (by kernel_rfl) (by kernel_rfl) (fun _ _ _ h => h) (Or.inl ⟨by rfl, ?_⟩) hS ?_
          rotate_left
          · (intro W hSw; obtain ⟨hq1, hq2⟩ := hSw; go_simp; try with_reducible rfl)
          try simp only [List.getElem_toArray, List.getElem_cons_succ, List.getElem_cons_zero, Act.put, List.setIfInBounds_toArray, List.set_cons_zero, List.set_cons_succ]
          refine wpAnyH_done (by kernel_rfl) ?_ _
          clear hS
          go_wp2
          have hlt2 := HC.out.no hyl hxl hxy (by omega)
          exact ⟨⟨cn, r, by have := HCN.out; omega, by have := HCN.out; omega, hr1, rfl, rfl, .inr (Lt2.mk (by rw [HCN.out]; exact E2.out) (by rw [show n1 - cn = pc by have := HCN.out; have := HPC.out; omega]; exact E1.out) hlt2), HI2.out, HW.out, HK.out⟩, by simp [intOf]; have := HCN.out; omega⟩
    · have hsk : Seek a m b mid n1 a m := ⟨Nat.le_refl _, by omega, Nat.le_refl _, by omega, by omega, .inl rfl, .inl rfl⟩
      have hmd : decide ((mid : Int) < (m : Int)) = false := decide_eq_false (by omega)
      have HN1 := Lib.hid hn1
      have HMD : Hid (a < mid ∧ mid < b) := Lib.hid ⟨by omega, by omega⟩
      clear hr hc ha hm hb hn hSL hSR hml hmr hnb hk0 h1 h2 hL hR hNN ih hll hrl hab hmid hn1
      have HSK : Hid (Seek a m b mid n1 a m) := Lib.hid hsk
      clear hsk
      have hwp : IntKind.i64.wrap ((n1 : Int) - 1) = ((n1 - 1 : Nat) : Int) := by have := HN1.out; have := HMm.out; have := HBb.out; have := HLP.out; have := HN.out; have := HMD.out; rw [IntWalk.i64_in _ (by omega)]; omega
      obtain ⟨p1, hp1⟩ : ∃ p, p = n1 - 1 := ⟨_, rfl⟩
      rw [← hp1] at hwp
      have HP := Lib.hid hp1
      clear hp1
      go_enter Try.func100, Try.ntmps100
      go_wp2
      clear hw0 hw1 hw2 hw3 hw4 hw5 hw6 hl1b hr1b hl1 hr1 hmm hmd hwp
      go_loopw [20, 21] (fun iv jv wr => ∃ s r : Nat, a ≤ s ∧ s ≤ r ∧ r ≤ m ∧ iv = .int .i64 (s : Int) ∧ jv = .int .i64 (r : Int) ∧ (s = a ∨ Lt2 lt (pre ++ L ++ R ++ post) (s - 1) (n1 - s)) ∧ (r = m ∨ Lt2 lt (pre ++ L ++ R ++ post) (n1 - 1 - r) r) ∧ RowL blk (pre ++ L ++ R ++ post) wr ∧ Keeps (fun k => k = blk) w wr) (fun iv jv _ => (intOf jv).toNat - (intOf iv).toNat)
      case atStart => exact ⟨a, m, Nat.le_refl _, HSK.out.h2, Nat.le_refl _, rfl, rfl, .inl rfl, .inl rfl, HR.out, Keeps.refl _ _⟩
      case round =>
        clear HR
        obtain ⟨s, r, hs1, hsr, hr1, rfl, rfl, i1, i2, hrow, hk⟩ := hrel
        have HI1 := Lib.hid i1
        have HI2 := Lib.hid i2
        have HW := Lib.hid hrow
        have HK := Lib.hid hk
        clear i1 i2 hrow hk
        by_cases hlt : s < r
        case neg =>
          obtain rfl : s = r := by omega
          obtain ⟨en, hen⟩ : ∃ e, e = n1 - s := ⟨_, rfl⟩
          have hwe : IntKind.i64.wrap ((n1 : Int) - (s : Int)) = (en : Int) := by have := HSK.out.h3; have := HSK.out.h4; have := HN1.out; have := HMm.out; have := HBb.out; have := HN.out; have := HMD.out; rw [IntWalk.i64_in _ (by omega)]; omega
          obtain ⟨l1, l2, r1, r2, hcu⟩ : ∃ l1 l2 r1 r2, CutsAt lt l0 L R l1 l2 r1 r2 a m b mid s en := by
            have b1 := HSK.out
            have b2 := b1.h1; have b3 := b1.h3; have b4 := b1.h4; have b5 := b1.h5
            have c1 := HN1.out; have c2 := HMm.out; have c3 := HBb.out; have c4 := HA.out
            exact ⟨_, _, _, _, cuts_at (by omega) (by omega) c1 (by omega) (by omega) (by omega) (by omega) hen HSL.out HSR.out HNB.out HML.out HMR.out (sym_cut HC.out.sto c4 c2 c3 HSL.out HSR.out (by omega) (by omega) (by omega) (by omega) b1.hlo b1.hhi HI1.out HI2.out (by omega) (by omega))⟩
          have HCU := Lib.hid hcu
          clear HI1 HI2 hen hcu
          have HWE := Lib.hid hwe
          clear hwe
          rcases Nat.eq_zero_or_pos l2.length with z2 | z2
          · have d1 : ¬ s < m := by have := HCU.out.hm; omega
            have hwe := HWE.out
            replace HW : Hid (RowL blk (pre ++ l1 ++ r1 ++ l2 ++ r2 ++ post) wr) := Lib.hid (by have h1 := HW.out; rw [HCU.out.hL, HCU.out.hR] at h1; rw [List.length_eq_zero_iff.1 z2] at h1 ⊢; simpa only [List.append_assoc, List.nil_append] using h1)
            rcases Nat.eq_zero_or_pos l1.length with y1 | y1
            · have d2 : ¬ a < s := by have := HCU.out.hs; omega
              have d4 : ¬ mid < en := by have := HCU.out.hs; have := HCU.out.hm; have := HCU.out.he; have := HCU.out.hd; omega
              go_wp2
              go_end0
              exact ⟨rfl, merged_end HCU.out.hL HCU.out.hR (List.Perm.refl _) (List.Perm.refl _) (srt_nil_l y1 HCU.out.s3) (srt_nil_l z2 HCU.out.s4) HCU.out.bef (by simpa only [List.append_assoc] using HW.out) HK.out⟩
            · have d2 : a < s := by have := HCU.out.hs; omega
              rcases Nat.eq_zero_or_pos r1.length with y2 | y2
              · have d3 : ¬ s < mid := by have := HCU.out.hd; omega
                have d4 : ¬ mid < en := by have := HCU.out.hs; have := HCU.out.hm; have := HCU.out.he; have := HCU.out.hd; omega
                go_wp2
                go_end0
                exact ⟨rfl, merged_end HCU.out.hL HCU.out.hR (List.Perm.refl _) (List.Perm.refl _) (srt_nil_r y2 HCU.out.s1) (srt_nil_l z2 HCU.out.s4) HCU.out.bef (by simpa only [List.append_assoc] using HW.out) HK.out⟩
              · have d3 : s < mid := by have := HCU.out.hd; omega
                go_wp2_with fail
                refine (HIH.out a s mid pre l1 r1 (l2 ++ r2 ++ post) (by have := HNN.out; have := HMD.out; have := HCU.out.hs; have := HCU.out.hm; have := HCU.out.he; have := HCU.out.hb; have := HCU.out.hd; have := HMm.out; have := HBb.out; have := HA.out; omega) (by have := HLN.out; have := congrArg List.length HCU.out.hL; have := congrArg List.length HCU.out.hR; simp only [List.length_append] at *; omega) _ (HK0.out.trans HK.out) (by simpa only [List.append_assoc] using HW.out) HA.out (by have := HCU.out.hs; have := HA.out; omega) (by have := HCU.out.hs; have := HCU.out.hd; have := HA.out; omega) y1 y2 HCU.out.s1 HCU.out.s3 HCU.out.nb1 HCU.out.m1 HCU.out.m3).mono ?_
                rintro e' w8 ⟨rfl, ⟨M1, hp1, hs1, hr1⟩, hk1⟩
                dsimp only
                have HP1 := Lib.hid hp1
                have HS1 := Lib.hid hs1
                replace HW := Lib.hid hr1
                replace HK := Lib.hid (HK.out.trans hk1)
                clear hp1 hs1 hr1 hk1
                have d4 : ¬ mid < en := by have := HCU.out.hs; have := HCU.out.hm; have := HCU.out.he; have := HCU.out.hd; omega
                go_wp2
                go_end0
                exact ⟨rfl, merged_end HCU.out.hL HCU.out.hR HP1.out (List.Perm.refl _) HS1.out (srt_nil_l z2 HCU.out.s4) HCU.out.bef (by simpa only [List.append_assoc] using HW.out) HK.out⟩
          · have d1 : s < m := by have := HCU.out.hm; omega
            have hwe := HWE.out
            rcases Nat.eq_zero_or_pos r1.length with y2 | y2
            · have d6 : ¬ m < en := by have := HCU.out.he; omega
              have d3 : ¬ s < mid := by have := HCU.out.hd; omega
              replace HW : Hid (RowL blk (pre ++ l1 ++ r1 ++ l2 ++ r2 ++ post) wr) := Lib.hid (by have h1 := HW.out; rw [HCU.out.hL, HCU.out.hR] at h1; rw [List.length_eq_zero_iff.1 y2] at h1 ⊢; simpa only [List.append_assoc, List.nil_append] using h1)
              rcases Nat.eq_zero_or_pos l1.length with y1 | y1
              · have d2 : ¬ a < s := by have := HCU.out.hs; omega
                have d4 : mid < en := by have := HCU.out.hs; have := HCU.out.hm; have := HCU.out.he; have := HCU.out.hd; omega
                rcases Nat.eq_zero_or_pos r2.length with z3 | z3
                · have d5 : ¬ en < b := by have := HCU.out.hb; omega
                  go_wp2
                  go_end0
                  exact ⟨rfl, merged_end HCU.out.hL HCU.out.hR (List.Perm.refl (l1 ++ r1)) (List.Perm.refl _) (srt_nil_l y1 HCU.out.s3) (srt_nil_r z3 HCU.out.s2) HCU.out.bef (by simpa only [List.append_assoc] using HW.out) HK.out⟩
                · have d5 : en < b := by have := HCU.out.hb; omega
                  go_wp2_with fail
                  refine (HIH.out mid en b (pre ++ (l1 ++ r1)) l2 r2 post (by have := HNN.out; have := HMD.out; have := HCU.out.hs; have := HCU.out.hm; have := HCU.out.he; have := HCU.out.hb; have := HCU.out.hd; have := HMm.out; have := HBb.out; have := HA.out; omega) (by have := HLN.out; have := (List.Perm.refl (l1 ++ r1)).length_eq; have := congrArg List.length HCU.out.hL; have := congrArg List.length HCU.out.hR; simp only [List.length_append] at *; omega) _ (HK0.out.trans HK.out) (by simpa only [List.append_assoc] using HW.out) (by have := (List.Perm.refl (l1 ++ r1)).length_eq; have := HCU.out.hs; have := HCU.out.hd; have := HA.out; simp only [List.length_append] at *; omega) (by have := (List.Perm.refl (l1 ++ r1)).length_eq; have := HCU.out.hs; have := HCU.out.hd; have := HCU.out.he; have := HCU.out.hm; have := HA.out; simp only [List.length_append] at *; omega) (by have := (List.Perm.refl (l1 ++ r1)).length_eq; have := HCU.out.hs; have := HCU.out.hd; have := HCU.out.he; have := HCU.out.hm; have := HCU.out.hb; have := HA.out; simp only [List.length_append] at *; omega) z2 z3 HCU.out.s2 HCU.out.s4 HCU.out.nb2 HCU.out.m2 HCU.out.m4).mono ?_
                  rintro e' w9 ⟨rfl, ⟨M2, hp2, hs2, hr2⟩, hk2⟩
                  dsimp only
                  have HP2 := Lib.hid hp2
                  have HS2 := Lib.hid hs2
                  replace HW := Lib.hid hr2
                  replace HK := Lib.hid (HK.out.trans hk2)
                  clear hp2 hs2 hr2 hk2
                  go_wp2
                  go_end0
                  exact ⟨rfl, merged_end HCU.out.hL HCU.out.hR (List.Perm.refl (l1 ++ r1)) HP2.out (srt_nil_l y1 HCU.out.s3) HS2.out HCU.out.bef (by simpa only [List.append_assoc] using HW.out) HK.out⟩
              · have d2 : a < s := by have := HCU.out.hs; omega
                have d4 : mid < en := by have := HCU.out.hs; have := HCU.out.hm; have := HCU.out.he; have := HCU.out.hd; omega
                rcases Nat.eq_zero_or_pos r2.length with z3 | z3
                · have d5 : ¬ en < b := by have := HCU.out.hb; omega
                  go_wp2
                  go_end0
                  exact ⟨rfl, merged_end HCU.out.hL HCU.out.hR (List.Perm.refl (l1 ++ r1)) (List.Perm.refl _) (srt_nil_r y2 HCU.out.s1) (srt_nil_r z3 HCU.out.s2) HCU.out.bef (by simpa only [List.append_assoc] using HW.out) HK.out⟩
                · have d5 : en < b := by have := HCU.out.hb; omega
                  go_wp2_with fail
                  refine (HIH.out mid en b (pre ++ (l1 ++ r1)) l2 r2 post (by have := HNN.out; have := HMD.out; have := HCU.out.hs; have := HCU.out.hm; have := HCU.out.he; have := HCU.out.hb; have := HCU.out.hd; have := HMm.out; have := HBb.out; have := HA.out; omega) (by have := HLN.out; have := (List.Perm.refl (l1 ++ r1)).length_eq; have := congrArg List.length HCU.out.hL; have := congrArg List.length HCU.out.hR; simp only [List.length_append] at *; omega) _ (HK0.out.trans HK.out) (by simpa only [List.append_assoc] using HW.out) (by have := (List.Perm.refl (l1 ++ r1)).length_eq; have := HCU.out.hs; have := HCU.out.hd; have := HA.out; simp only [List.length_append] at *; omega) (by have := (List.Perm.refl (l1 ++ r1)).length_eq; have := HCU.out.hs; have := HCU.out.hd; have := HCU.out.he; have := HCU.out.hm; have := HA.out; simp only [List.length_append] at *; omega) (by have := (List.Perm.refl (l1 ++ r1)).length_eq; have := HCU.out.hs; have := HCU.out.hd; have := HCU.out.he; have := HCU.out.hm; have := HCU.out.hb; have := HA.out; simp only [List.length_append] at *; omega) z2 z3 HCU.out.s2 HCU.out.s4 HCU.out.nb2 HCU.out.m2 HCU.out.m4).mono ?_
                  rintro e' w9 ⟨rfl, ⟨M2, hp2, hs2, hr2⟩, hk2⟩
                  dsimp only
                  have HP2 := Lib.hid hp2
                  have HS2 := Lib.hid hs2
                  replace HW := Lib.hid hr2
                  replace HK := Lib.hid (HK.out.trans hk2)
                  clear hp2 hs2 hr2 hk2
                  go_wp2
                  go_end0
                  exact ⟨rfl, merged_end HCU.out.hL HCU.out.hR (List.Perm.refl (l1 ++ r1)) HP2.out (srt_nil_r y2 HCU.out.s1) HS2.out HCU.out.bef (by simpa only [List.append_assoc] using HW.out) HK.out⟩
            · have d6 : m < en := by have := HCU.out.he; omega
              have d3 : s < mid := by have := HCU.out.hd; omega
              go_wp2_with fail
              refine (rotate_any blk n cap s m en (.func (.func g) #[] cb) (pre ++ l1) l2 r1 (r2 ++ post) (by have := HLN.out; have := congrArg List.length HCU.out.hL; have := congrArg List.length HCU.out.hR; simp only [List.length_append] at *; omega) HN.out.2 wr (by have h1 := HW.out; rw [HCU.out.hL, HCU.out.hR] at h1; simpa only [List.append_assoc] using h1) (by have := HCU.out.hs; have := HA.out; simp only [List.length_append]; omega) (by have := HCU.out.hs; have := HCU.out.hm; have := HA.out; simp only [List.length_append]; omega) (by have := HCU.out.hs; have := HCU.out.hm; have := HCU.out.he; have := HA.out; simp only [List.length_append]; omega) z2 y2).mono ?_
              rintro e' w7 ⟨rfl, hr7, hk7⟩
              dsimp only
              replace HW : Hid (RowL blk (pre ++ l1 ++ r1 ++ l2 ++ r2 ++ post) w7) := Lib.hid (by simpa only [List.append_assoc] using hr7)
              replace HK := Lib.hid (HK.out.trans hk7)
              clear hr7 hk7
              rcases Nat.eq_zero_or_pos l1.length with y1 | y1
              · have d2 : ¬ a < s := by have := HCU.out.hs; omega
                have d4 : mid < en := by have := HCU.out.hs; have := HCU.out.hm; have := HCU.out.he; have := HCU.out.hd; omega
                rcases Nat.eq_zero_or_pos r2.length with z3 | z3
                · have d5 : ¬ en < b := by have := HCU.out.hb; omega
                  go_wp2
                  go_end0
                  exact ⟨rfl, merged_end HCU.out.hL HCU.out.hR (List.Perm.refl (l1 ++ r1)) (List.Perm.refl _) (srt_nil_l y1 HCU.out.s3) (srt_nil_r z3 HCU.out.s2) HCU.out.bef (by simpa only [List.append_assoc] using HW.out) HK.out⟩
                · have d5 : en < b := by have := HCU.out.hb; omega
                  go_wp2_with fail
                  refine (HIH.out mid en b (pre ++ (l1 ++ r1)) l2 r2 post (by have := HNN.out; have := HMD.out; have := HCU.out.hs; have := HCU.out.hm; have := HCU.out.he; have := HCU.out.hb; have := HCU.out.hd; have := HMm.out; have := HBb.out; have := HA.out; omega) (by have := HLN.out; have := (List.Perm.refl (l1 ++ r1)).length_eq; have := congrArg List.length HCU.out.hL; have := congrArg List.length HCU.out.hR; simp only [List.length_append] at *; omega) _ (HK0.out.trans HK.out) (by simpa only [List.append_assoc] using HW.out) (by have := (List.Perm.refl (l1 ++ r1)).length_eq; have := HCU.out.hs; have := HCU.out.hd; have := HA.out; simp only [List.length_append] at *; omega) (by have := (List.Perm.refl (l1 ++ r1)).length_eq; have := HCU.out.hs; have := HCU.out.hd; have := HCU.out.he; have := HCU.out.hm; have := HA.out; simp only [List.length_append] at *; omega) (by have := (List.Perm.refl (l1 ++ r1)).length_eq; have := HCU.out.hs; have := HCU.out.hd; have := HCU.out.he; have := HCU.out.hm; have := HCU.out.hb; have := HA.out; simp only [List.length_append] at *; omega) z2 z3 HCU.out.s2 HCU.out.s4 HCU.out.nb2 HCU.out.m2 HCU.out.m4).mono ?_
                  rintro e' w9 ⟨rfl, ⟨M2, hp2, hs2, hr2⟩, hk2⟩
                  dsimp only
                  have HP2 := Lib.hid hp2
                  have HS2 := Lib.hid hs2
                  replace HW := Lib.hid hr2
                  replace HK := Lib.hid (HK.out.trans hk2)
                  clear hp2 hs2 hr2 hk2
                  go_wp2
                  go_end0
                  exact ⟨rfl, merged_end HCU.out.hL HCU.out.hR (List.Perm.refl (l1 ++ r1)) HP2.out (srt_nil_l y1 HCU.out.s3) HS2.out HCU.out.bef (by simpa only [List.append_assoc] using HW.out) HK.out⟩
              · have d2 : a < s := by have := HCU.out.hs; omega
                go_wp2_with fail
                refine (HIH.out a s mid pre l1 r1 (l2 ++ r2 ++ post) (by have := HNN.out; have := HMD.out; have := HCU.out.hs; have := HCU.out.hm; have := HCU.out.he; have := HCU.out.hb; have := HCU.out.hd; have := HMm.out; have := HBb.out; have := HA.out; omega) (by have := HLN.out; have := congrArg List.length HCU.out.hL; have := congrArg List.length HCU.out.hR; simp only [List.length_append] at *; omega) _ (HK0.out.trans HK.out) (by simpa only [List.append_assoc] using HW.out) HA.out (by have := HCU.out.hs; have := HA.out; omega) (by have := HCU.out.hs; have := HCU.out.hd; have := HA.out; omega) y1 y2 HCU.out.s1 HCU.out.s3 HCU.out.nb1 HCU.out.m1 HCU.out.m3).mono ?_
                rintro e' w8 ⟨rfl, ⟨M1, hp1, hs1, hr1⟩, hk1⟩
                dsimp only
                have HP1 := Lib.hid hp1
                have HS1 := Lib.hid hs1
                replace HW := Lib.hid hr1
                replace HK := Lib.hid (HK.out.trans hk1)
                clear hp1 hs1 hr1 hk1
                have d4 : mid < en := by have := HCU.out.hs; have := HCU.out.hm; have := HCU.out.he; have := HCU.out.hd; omega
                rcases Nat.eq_zero_or_pos r2.length with z3 | z3
                · have d5 : ¬ en < b := by have := HCU.out.hb; omega
                  go_wp2
                  go_end0
                  exact ⟨rfl, merged_end HCU.out.hL HCU.out.hR HP1.out (List.Perm.refl _) HS1.out (srt_nil_r z3 HCU.out.s2) HCU.out.bef (by simpa only [List.append_assoc] using HW.out) HK.out⟩
                · have d5 : en < b := by have := HCU.out.hb; omega
                  go_wp2_with fail
                  refine (HIH.out mid en b (pre ++ M1) l2 r2 post (by have := HNN.out; have := HMD.out; have := HCU.out.hs; have := HCU.out.hm; have := HCU.out.he; have := HCU.out.hb; have := HCU.out.hd; have := HMm.out; have := HBb.out; have := HA.out; omega) (by have := HLN.out; have := HP1.out.length_eq; have := congrArg List.length HCU.out.hL; have := congrArg List.length HCU.out.hR; simp only [List.length_append] at *; omega) _ (HK0.out.trans HK.out) (by simpa only [List.append_assoc] using HW.out) (by have := HP1.out.length_eq; have := HCU.out.hs; have := HCU.out.hd; have := HA.out; simp only [List.length_append] at *; omega) (by have := HP1.out.length_eq; have := HCU.out.hs; have := HCU.out.hd; have := HCU.out.he; have := HCU.out.hm; have := HA.out; simp only [List.length_append] at *; omega) (by have := HP1.out.length_eq; have := HCU.out.hs; have := HCU.out.hd; have := HCU.out.he; have := HCU.out.hm; have := HCU.out.hb; have := HA.out; simp only [List.length_append] at *; omega) z2 z3 HCU.out.s2 HCU.out.s4 HCU.out.nb2 HCU.out.m2 HCU.out.m4).mono ?_
                  rintro e' w9 ⟨rfl, ⟨M2, hp2, hs2, hr2⟩, hk2⟩
                  dsimp only
                  have HP2 := Lib.hid hp2
                  have HS2 := Lib.hid hs2
                  replace HW := Lib.hid hr2
                  replace HK := Lib.hid (HK.out.trans hk2)
                  clear hp2 hs2 hr2 hk2
                  go_wp2
                  go_end0
                  exact ⟨rfl, merged_end HCU.out.hL HCU.out.hR HP1.out HP2.out HS1.out HS2.out HCU.out.bef (by simpa only [List.append_assoc] using HW.out) HK.out⟩
        obtain ⟨hc1, hc2⟩ := half_st hlt
        obtain ⟨sm, hsm⟩ : ∃ k, k = s + r := ⟨_, rfl⟩
        obtain ⟨c, hcc⟩ : ∃ c, c = sm / 2 := ⟨_, rfl⟩
        obtain ⟨pc, hpc⟩ : ∃ k, k = n1 - 1 - c := ⟨_, rfl⟩
        obtain ⟨cn, hcn⟩ : ∃ k, k = c + 1 := ⟨_, rfl⟩
        rw [← hsm, ← hcc] at hc1 hc2
        have hb1 := HSK.out.h1
        have hb3 := HSK.out.h3
        have hb4 := HSK.out.h4
        have hb5 := HSK.out.h5
        have hb6 := HN1.out
        have hb7 := HMm.out
        have hb8 := HBb.out
        have hb9 := HN.out
        have hb10 := HA.out
        have hb11 := HMD.out
        have hb12 := HP.out
        have hw1 : IntKind.i64.wrap ((s : Int) + (r : Int)) = (sm : Int) := by rw [IntWalk.i64_in _ (by omega)]; omega
        have hw2 : IntKind.u64.wrap (sm : Int) = (sm : Int) := IntWalk.u64_in _ (by omega)
        have hw3 : (sm : Int) / 2 = (c : Int) := by omega
        have hw4 : IntKind.i64.wrap (c : Int) = (c : Int) := IntWalk.i64_in _ (by omega)
        have hw5 : IntKind.i64.wrap ((p1 : Int) - (c : Int)) = (pc : Int) := by rw [IntWalk.i64_in _ (by omega)]; omega
        have hw6 : IntKind.i64.wrap ((c : Int) + 1) = (cn : Int) := by rw [IntWalk.i64_in _ (by omega)]; omega
        have hcl : c < n := by omega
        have hpl : pc < n := by omega
        obtain ⟨x, e2, hx⟩ := get_L_mem (pre := pre) (L := L) (R := R) (post := post) (c := c) (by omega) (by omega)
        obtain ⟨y, e1, hy⟩ := get_R_mem (pre := pre) (L := L) (R := R) (post := post) (c := pc) (by omega) (by omega)
        have E1 := Lib.hid e1
        have E2 := Lib.hid e2
        have hxl := HML.out x hx
        have hyl := HMR.out y hy
        have hxy := HNB.out x hx y hy
        have c1 := HW.out.cell e1
        have c2 := HW.out.cell e2
        have HCL := Lib.hid (fun W hk => HC.out.call W hk y x hyl hxl)
        have HPC := Lib.hid hpc
        have HCN := Lib.hid hcn
        clear e1 e2 hsm hcc hpc hcn hb1 hb3 hb4 hb5 hb6 hb7 hb8 hb9 hb10 hb11 hb12 hx hy
        by_cases hcf : cf y x < 0
        · have hcd : decide (cf y x < 0) = true := decide_eq_true hcf
          go_wp2_with fail
          refine wp_region_held_drew (S := S2r blk pc c y x) (by kernel_rfl) ⟨c1, c2⟩ fun hS => ?_
          refine wpAnyH_take (i := 0) (v := ?_) rfl (by kernel_rfl) (by kernel_rfl) (by kernel_rfl) (fun _ _ _ h => h) (Or.inl ⟨by rfl, ?_⟩) hS ?_
          rotate_left
          · (intro W hSw; obtain ⟨hq1, hq2⟩ := hSw; go_simp; try with_reducible rfl)
          try simp only [List.getElem_toArray, List.getElem_cons_succ, List.getElem_cons_zero, Act.put, List.setIfInBounds_toArray, List.set_cons_zero, List.set_cons_succ]
          refine wpAnyH_take (i := 1) (v := ?_) rfl (by kernel_rfl) (by kernel_rfl) (by kernel_rfl) (fun _ _ _ h => h) (Or.inl ⟨by rfl, ?_⟩) hS ?_
          rotate_left
          · (intro W hSw; obtain ⟨hq1, hq2⟩ := hSw; go_simp; try with_reducible rfl)
          try simp only [List.getElem_toArray, List.getElem_cons_succ, List.getElem_cons_zero, Act.put, List.setIfInBounds_toArray, List.set_cons_zero, List.set_cons_succ]
          refine wpAnyH_take (i := 2) (v := ?_) rfl (by kernel_rfl) (by kernel_rfl) (by kernel_rfl) (fun _ _ _ h => h) (Or.inl ⟨by rfl, ?_⟩) hS ?_
          rotate_left
          · (intro W hSw; obtain ⟨hq1, hq2⟩ := hSw; go_simp; try with_reducible rfl)
          try simp only [List.getElem_toArray, List.getElem_cons_succ, List.getElem_cons_zero, Act.put, List.setIfInBounds_toArray, List.set_cons_zero, List.set_cons_succ]
          refine wpAnyH_take (i := 3) (v := ?_) rfl (by kernel_rfl) (by kernel_rfl) (by kernel_rfl) (fun _ _ _ h => h) (Or.inl ⟨by rfl, ?_⟩) hS ?_
          rotate_left
          · (intro W hSw; obtain ⟨hq1, hq2⟩ := hSw; go_simp; try with_reducible rfl)
          try simp only [List.getElem_toArray, List.getElem_cons_succ, List.getElem_cons_zero, Act.put, List.setIfInBounds_toArray, List.set_cons_zero, List.set_cons_succ]
          refine wpAnyH_take (i := 4) (v := ?_) rfl (by kernel_rfl) (by kernel_rfl) (by kernel_rfl) (fun _ _ _ h => h) (Or.inl ⟨by rfl, ?_⟩) hS ?_
          rotate_left
          · (intro W hSw; obtain ⟨hq1, hq2⟩ := hSw; go_simp; try with_reducible rfl)
          try simp only [List.getElem_toArray, List.getElem_cons_succ, List.getElem_cons_zero, Act.put, List.setIfInBounds_toArray, List.set_cons_zero, List.set_cons_succ]
          refine wpAnyH_take (i := 5) (v := ?_) rfl (by kernel_rfl) (by kernel_rfl) (by kernel_rfl) (fun _ _ _ h => h) (Or.inl ⟨by rfl, ?_⟩) hS ?_
          rotate_left
          · (intro W hSw; obtain ⟨hq1, hq2⟩ := hSw; go_simp; try with_reducible rfl)
          try simp only [List.getElem_toArray, List.getElem_cons_succ, List.getElem_cons_zero, Act.put, List.setIfInBounds_toArray, List.set_cons_zero, List.set_cons_succ]
          refine wpAnyH_take (i := 6) (v := ?_) rfl (by kernel_rfl) (by kernel_rfl) (by kernel_rfl) (fun _ _ _ h => h) (Or.inl ⟨by rfl, ?_⟩) hS ?_
          rotate_left
          · (intro W hSw; obtain ⟨hq1, hq2⟩ := hSw; go_simp; try with_reducible rfl)
          try simp only [List.getElem_toArray, List.getElem_cons_succ, List.getElem_cons_zero, Act.put, List.setIfInBounds_toArray, List.set_cons_zero, List.set_cons_succ]
          refine wpAnyH_take (i := 7) (v := ?_) rfl (by kernel_rfl) (by kernel_rfl) (by kernel_rfl) (fun _ _ _ h => h) (Or.inl ⟨by rfl, ?_⟩) hS ?_
          rotate_left
          · (intro W hSw; obtain ⟨hq1, hq2⟩ := hSw; go_simp; try with_reducible rfl)
          try simp only [List.getElem_toArray, List.getElem_cons_succ, List.getElem_cons_zero, Act.put, List.setIfInBounds_toArray, List.set_cons_zero, List.set_cons_succ]
          refine wpAnyH_take (i := 8) (v := ?_) rfl (by kernel_rfl) (by kernel_rfl) (by kernel_rfl) (fun _ _ _ h => h) (Or.inl ⟨by rfl, ?_⟩) hS ?_
          rotate_left
          · (intro W hSw; obtain ⟨hq1, hq2⟩ := hSw; go_simp; try with_reducible rfl)
          try simp only [List.getElem_toArray, List.getElem_cons_succ, List.getElem_cons_zero, Act.put, List.setIfInBounds_toArray, List.set_cons_zero, List.set_cons_succ]
          refine wpAnyH_take (i := 9) (v := ?_) rfl (by kernel_rfl) (by kernel_rfl) (by kernel_rfl) (fun _ _ _ h => h) (Or.inl ⟨by rfl, ?_⟩) hS ?_
          rotate_left
          · (intro W hSw; obtain ⟨hq1, hq2⟩ := hSw; go_simp; try with_reducible rfl)
          try simp only [List.getElem_toArray, List.getElem_cons_succ, List.getElem_cons_zero, Act.put, List.setIfInBounds_toArray, List.set_cons_zero, List.set_cons_succ]
          refine wpAnyH_take (i := 10) (v := ?_) rfl (by kernel_rfl) (by kernel_rfl) (by kernel_rfl) (fun _ _ _ h => h) (Or.inl ⟨by rfl, ?_⟩) hS ?_
          rotate_left
          · (intro W hSw; obtain ⟨hq1, hq2⟩ := hSw; go_simp; try with_reducible rfl)
          try simp only [List.getElem_toArray, List.getElem_cons_succ, List.getElem_cons_zero, Act.put, List.setIfInBounds_toArray, List.set_cons_zero, List.set_cons_succ]
          refine wpAnyH_ready (rs := [11]) (by kernel_rfl) (by simp) ?_
          refine AllReadyH.cons rfl (fun K hK => ?_) AllReadyH.nil
          go_simp
          go_at_fn g
          refine (HCL.out _ (HK0.out.trans (HK.out.trans (Keeps.drew _ _)))).mono ?_
          rintro e' wc ⟨rfl, hbc⟩
          obtain ⟨hw9, hk9⟩ := RowL.old HW.out.drew hbc (HK.out.trans (Keeps.drew _ _))
          replace HW := Lib.hid hw9
          replace HK := Lib.hid hk9
          clear hbc hw9 hk9 c1 c2 hS
          refine hK.out _ _ ⟨HW.out.cell E1.out, HW.out.cell E2.out⟩ (fun hS => ?_)
          clear hK K
          try simp only [List.getElem_toArray, List.getElem_cons_succ, List.getElem_cons_zero, Act.put, List.setIfInBounds_toArray, List.set_cons_zero, List.set_cons_succ]
          refine wpAnyH_take (i := 12) (v := ?_) rfl (by kernel_rfl) (by kernel_rfl) (by kernel_rfl) (fun _ _ _ h => h) (Or.inl ⟨by rfl, ?_⟩) hS ?_
          rotate_left
          · (intro W hSw; obtain ⟨hq1, hq2⟩ := hSw; go_simp; try with_reducible rfl)
          try simp only [List.getElem_toArray, List.getElem_cons_succ, List.getElem_cons_zero, Act.put, List.setIfInBounds_toArray, List.set_cons_zero, List.set_cons_succ]
          refine wpAnyH_take (i := 13) (v := ?_) rfl (by kernel_rfl) (by kernel_rfl) (by kernel_rfl) (fun _ _ _ h => h) (Or.inl ⟨by rfl, ?_⟩) hS ?_
          rotate_left
          · (intro W hSw; obtain ⟨hq1, hq2⟩ := hSw; go_simp; try with_reducible rfl)
          try simp only [List.getElem_toArray, List.getElem_cons_succ, List.getElem_cons_zero, Act.put, List.setIfInBounds_toArray, List.set_cons_zero, List.set_cons_succ]
          refine wpAnyH_done (by kernel_rfl) ?_ _
          clear hS
          go_wp2
          have hlt2 := HC.out.yes hyl hxl hxy hcf
          exact ⟨⟨s, c, hs1, by omega, by omega, rfl, rfl, HI1.out, .inr (Lt2.mk (by rw [← HPC.out]; exact E1.out) E2.out hlt2), HW.out, HK.out⟩, by simp [intOf]; omega⟩
        · have hcd : decide (cf y x < 0) = false := decide_eq_false hcf
          go_wp2_with fail
          refine wp_region_held_drew (S := S2r blk pc c y x) (by kernel_rfl) ⟨c1, c2⟩ fun hS => ?_
          refine wpAnyH_take (i := 0) (v := ?_) rfl (by kernel_rfl) (by kernel_rfl) (by kernel_rfl) (fun _ _ _ h => h) (Or.inl ⟨by rfl, ?_⟩) hS ?_
          rotate_left
          · (intro W hSw; obtain ⟨hq1, hq2⟩ := hSw; go_simp; try with_reducible rfl)
          try simp only [List.getElem_toArray, List.getElem_cons_succ, List.getElem_cons_zero, Act.put, List.setIfInBounds_toArray, List.set_cons_zero, List.set_cons_succ]
          refine wpAnyH_take (i := 1) (v := ?_) rfl (by kernel_rfl) (by kernel_rfl) (by kernel_rfl) (fun _ _ _ h => h) (Or.inl ⟨by rfl, ?_⟩) hS ?_
          rotate_left
          · (intro W hSw; obtain ⟨hq1, hq2⟩ := hSw; go_simp; try with_reducible rfl)
          try simp only [List.getElem_toArray, List.getElem_cons_succ, List.getElem_cons_zero, Act.put, List.setIfInBounds_toArray, List.set_cons_zero, List.set_cons_succ]
          refine wpAnyH_take (i := 2) (v := ?_) rfl (by kernel_rfl) (by kernel_rfl) (by kernel_rfl) (fun _ _ _ h => h) (Or.inl ⟨by rfl, ?_⟩) hS ?_
          rotate_left
          · (intro W hSw; obtain ⟨hq1, hq2⟩ := hSw; go_simp; try with_reducible rfl)
          try simp only [List.getElem_toArray, List.getElem_cons_succ, List.getElem_cons_zero, Act.put, List.setIfInBounds_toArray, List.set_cons_zero, List.set_cons_succ]
          refine wpAnyH_take (i := 3) (v := ?_) rfl (by kernel_rfl) (by kernel_rfl) (by kernel_rfl) (fun _ _ _ h => h) (Or.inl ⟨by rfl, ?_⟩) hS ?_
          rotate_left
          · (intro W hSw; obtain ⟨hq1, hq2⟩ := hSw; go_simp; try with_reducible rfl)
          try simp only [List.getElem_toArray, List.getElem_cons_succ, List.getElem_cons_zero, Act.put, List.setIfInBounds_toArray, List.set_cons_zero, List.set_cons_succ]
          refine wpAnyH_take (i := 4) (v := ?_) rfl (by kernel_rfl) (by kernel_rfl) (by kernel_rfl) (fun _ _ _ h => h) (Or.inl ⟨by rfl, ?_⟩) hS ?_
          rotate_left
          · (intro W hSw; obtain ⟨hq1, hq2⟩ := hSw; go_simp; try with_reducible rfl)
          try simp only [List.getElem_toArray, List.getElem_cons_succ, List.getElem_cons_zero, Act.put, List.setIfInBounds_toArray, List.set_cons_zero, List.set_cons_succ]
          refine wpAnyH_take (i := 5) (v := ?_) rfl (by kernel_rfl) (by kernel_rfl) (by kernel_rfl) (fun _ _ _ h => h) (Or.inl ⟨by rfl, ?_⟩) hS ?_
          rotate_left
          · (intro W hSw; obtain ⟨hq1, hq2⟩ := hSw; go_simp; try with_reducible rfl)
          try simp only [List.getElem_toArray, List.getElem_cons_succ, List.getElem_cons_zero, Act.put, List.setIfInBounds_toArray, List.set_cons_zero, List.set_cons_succ]
          refine wpAnyH_take (i := 6) (v := ?_) rfl (by kernel_rfl) (by kernel_rfl) (by kernel_rfl) (fun _ _ _ h => h) (Or.inl ⟨by rfl, ?_⟩) hS ?_
          rotate_left
          · (intro W hSw; obtain ⟨hq1, hq2⟩ := hSw; go_simp; try with_reducible rfl)
          try simp only [List.getElem_toArray, List.getElem_cons_succ, List.getElem_cons_zero, Act.put, List.setIfInBounds_toArray, List.set_cons_zero, List.set_cons_succ]
          refine wpAnyH_take (i := 7) (v := ?_) rfl (by kernel_rfl) (by kernel_rfl) (by kernel_rfl) (fun _ _ _ h => h) (Or.inl ⟨by rfl, ?_⟩) hS ?_
          rotate_left
          · (intro W hSw; obtain ⟨hq1, hq2⟩ := hSw; go_simp; try with_reducible rfl)
          try simp only [List.getElem_toArray, List.getElem_cons_succ, List.getElem_cons_zero, Act.put, List.setIfInBounds_toArray, List.set_cons_zero, List.set_cons_succ]
          refine wpAnyH_take (i := 8) (v := ?_) rfl (by kernel_rfl) (by kernel_rfl) (by kernel_rfl) (fun _ _ _ h => h) (Or.inl ⟨by rfl, ?_⟩) hS ?_
          rotate_left
          · (intro W hSw; obtain ⟨hq1, hq2⟩ := hSw; go_simp; try with_reducible rfl)
          try simp only [List.getElem_toArray, List.getElem_cons_succ, List.getElem_cons_zero, Act.put, List.setIfInBounds_toArray, List.set_cons_zero, List.set_cons_succ]
          refine wpAnyH_take (i := 9) (v := ?_) rfl (by kernel_rfl) (by kernel_rfl) (by kernel_rfl) (fun _ _ _ h => h) (Or.inl ⟨by rfl, ?_⟩) hS ?_
          rotate_left
          · (intro W hSw; obtain ⟨hq1, hq2⟩ := hSw; go_simp; try with_reducible rfl)
          try simp only [List.getElem_toArray, List.getElem_cons_succ, List.getElem_cons_zero, Act.put, List.setIfInBounds_toArray, List.set_cons_zero, List.set_cons_succ]
          refine wpAnyH_take (i := 10) (v := ?_) rfl (by kernel_rfl) (by kernel_rfl) (by kernel_rfl) (fun _ _ _ h => h) (Or.inl ⟨by rfl, ?_⟩) hS ?_
          rotate_left
          · (intro W hSw; obtain ⟨hq1, hq2⟩ := hSw; go_simp; try with_reducible rfl)
          try simp only [List.getElem_toArray, List.getElem_cons_succ, List.getElem_cons_zero, Act.put, List.setIfInBounds_toArray, List.set_cons_zero, List.set_cons_succ]
          refine wpAnyH_ready (rs := [11]) (by kernel_rfl) (by simp) ?_
          refine AllReadyH.cons rfl (fun K hK => ?_) AllReadyH.nil
          go_simp
          go_at_fn g
          refine (HCL.out _ (HK0.out.trans (HK.out.trans (Keeps.drew _ _)))).mono ?_
          rintro e' wc ⟨rfl, hbc⟩
          obtain ⟨hw9, hk9⟩ := RowL.old HW.out.drew hbc (HK.out.trans (Keeps.drew _ _))
          replace HW := Lib.hid hw9
          replace HK := Lib.hid hk9
          clear hbc hw9 hk9 c1 c2 hS
          refine hK.out _ _ ⟨HW.out.cell E1.out, HW.out.cell E2.out⟩ (fun hS => ?_)
          clear hK K
          try simp only [List.getElem_toArray, List.getElem_cons_succ, List.getElem_cons_zero, Act.put, List.setIfInBounds_toArray, List.set_cons_zero, List.set_cons_succ]
          refine wpAnyH_take (i := 12) (v := ?_) rfl (by kernel_rfl) (by kernel_rfl) (by kernel_rfl) (fun _ _ _ h => h) (Or.inl ⟨by rfl, ?_⟩) hS ?_
          rotate_left
          · (intro W hSw; obtain ⟨hq1, hq2⟩ := hSw; go_simp; try with_reducible rfl)
          try simp only [List.getElem_toArray, List.getElem_cons_succ, List.getElem_cons_zero, Act.put, List.setIfInBounds_toArray, List.set_cons_zero, List.set_cons_succ]
          refine wpAnyH_take (i := 13) (v := ?_) rfl (by kernel_rfl) (by kernel_rfl) (by kernel_rfl) (fun _ _ _ h => h) (Or.inl ⟨by rfl, ?_⟩) hS ?_
          rotate_left
          · (intro W hSw; obtain ⟨hq1, hq2⟩ := hSw; go_simp; try with_reducible rfl)
          try simp only [List.getElem_toArray, List.getElem_cons_succ, List.getElem_cons_zero, Act.put, List.setIfInBounds_toArray, List.set_cons_zero, List.set_cons_succ]
          refine wpAnyH_done (by kernel_rfl) ?_ _
          clear hS
          go_wp2
          have hlt2 := HC.out.no hyl hxl hxy (by omega)
          exact ⟨⟨cn, r, by have := HCN.out; omega, by have := HCN.out; omega, hr1, rfl, rfl, .inr (Lt2.mk (by rw [HCN.out]; exact E2.out) (by rw [show n1 - cn = pc by have := HCN.out; have := HPC.out; omega]; exact E1.out) hlt2), HI2.out, HW.out, HK.out⟩, by simp [intOf]; have := HCN.out; omega⟩
end Go.Proofs.Ytabbmihakoeegaa

/- The stable sort, walked whole. -/
namespace Go.Proofs.Ytabbmihakoeegaa
set_option linter.unusedVariables false
set_option linter.unusedSimpArgs false
open Go.RowKit Go.Shelf
attribute [local go_sem] Oper.semAt_some
open Stab

theorem asc_split {l r : List Nat} (h : (l ++ r).Pairwise (· < ·)) : l.Pairwise (· < ·) ∧ r.Pairwise (· < ·) ∧ Nb l r := List.pairwise_append.1 h
/-- While blocks are sorted by insertion. -/
structure Ins1 (lt : Nat → Nat → Prop) (blk : Nat) (l : List Nat) (a : Nat) (D T : List Nat) (W : World) : Prop where
  hD : a = D.length
  row : RowL blk (D ++ T) W
  kp : Kp lt 20 D T
  asc : T.Pairwise (· < ·)
  perm : (D ++ T).Perm l
/-- While blocks are merged. -/
structure Mrg (lt : Nat → Nat → Prop) (blk bs : Nat) (l : List Nat) (a : Nat) (D T : List Nat) (W : World) : Prop where
  hD : a = D.length
  row : RowL blk (D ++ T) W
  kp : Kp lt (bs * 2) D T
  ch : Ch lt bs T
  perm : (D ++ T).Perm l
section
variable {lt : Nat → Nat → Prop} {blk bs a : Nat} {l D T : List Nat} {W : World}
theorem Mrg.mem (h : Mrg lt blk bs l a D T W) {l0 : List Nat} (hl : ∀ x ∈ l, x ∈ l0) : ∀ x ∈ T, x ∈ l0 := fun x hx => hl x (h.perm.mem_iff.1 (List.mem_append_right _ hx))
theorem Ins1.mem (h : Ins1 lt blk l a D T W) {l0 : List Nat} (hl : ∀ x ∈ l, x ∈ l0) : ∀ x ∈ T, x ∈ l0 := fun x hx => hl x (h.perm.mem_iff.1 (List.mem_append_right _ hx))
theorem Mrg.len (h : Mrg lt blk bs l a D T W) : l.length = a + T.length := by rw [← h.perm.length_eq, List.length_append, h.hD]
theorem Ins1.len (h : Ins1 lt blk l a D T W) : l.length = a + T.length := by rw [← h.perm.length_eq, List.length_append, h.hD]
end
set_option maxRecDepth 100000 in
set_option maxHeartbeats 4000000 in
theorem stable_any (g : Nat) (cb : Array Value) (cf : Nat → Nat → Int) (lt : Nat → Nat → Prop) (l0 : List Nat) (w0 : World) (blk n cap : Nat) (hc : CmpOk g cb cf lt blk l0 w0) (hs : n < 1000000) (l : List Nat) (hn : n = l.length) (hasc : l.Pairwise (· < ·)) (hml : ∀ x ∈ l, x ∈ l0) (w : World) (hk0 : Keeps (fun k => k = blk) w0 w) (hr : RowL blk l w) :
    Calls Try.prog 92 #[.slice (some ⟨blk, 0, none⟩) n cap, .int .i64 n, .func (.func g) #[] cb] w fun e w' => e = .returned (.tuple #[]) ∧ (∃ M, M.Perm l ∧ Srt lt M ∧ RowL blk M w') ∧ Keeps (fun k => k = blk) w w' := by
  have HR := Lib.hid hr
  have HC := Lib.hid hc
  have HN := Lib.hid hn
  have HML := Lib.hid hml
  have HAS := Lib.hid hasc
  have HK0 := Lib.hid hk0
  have hs2 : n < 1099511627776 := by omega
  have HS2 := Lib.hid hs2
  clear hr hc hn hml hk0 hasc hs2
  go_enter Try.func92, Try.ntmps92
  go_wp2
  go_loopw [7, 8] (fun av bv wr => ∃ (a b : Nat) (D T : List Nat), b = a + 20 ∧ av = .int .i64 (a : Int) ∧ bv = .int .i64 (b : Int) ∧ Ins1 lt blk l a D T wr ∧ Keeps (fun k => k = blk) w wr) (fun av _ _ => n + 20 - (intOf av).toNat)
  case atStart => exact ⟨0, 20, [], l, rfl, rfl, rfl, ⟨rfl, HR.out, Kp.nil _ _, HAS.out, List.Perm.refl _⟩, Keeps.refl _ _⟩
  case round =>
    clear HR HAS
    obtain ⟨a, b, D, T, hab, rfl, rfl, hin, hk⟩ := hrel
    have HI := Lib.hid hin
    have HK := Lib.hid hk
    have hlen := hin.len
    have hnn := HN.out
    have HAB := Lib.hid hab
    have han : a ≤ n := by omega
    clear hin hk
    by_cases hbn : b ≤ n
    case neg =>
      have HLE : Hid (n = a + T.length ∧ T.length < 20) := Lib.hid ⟨by omega, by omega⟩
      clear hlen hnn hab
      go_wp2_with fail
      refine (insertion_any g cb cf lt l0 w0 blk n cap a n HC.out D T [] (by have := HLE.out; have := HI.out.hD; simp; omega) HS2.out wr (HK0.out.trans HK.out) (by simpa using HI.out.row) HI.out.hD (by have := HLE.out; have := HI.out.hD; omega) HI.out.asc (HI.out.mem HML.out)).mono ?_
      rintro e' w1 ⟨rfl, ⟨M, hp, hs1, hr1⟩, hk1⟩
      dsimp only
      have HP := Lib.hid hp
      have HS := Lib.hid hs1
      have HW := Lib.hid hr1
      replace HK := Lib.hid (HK.out.trans hk1)
      clear hp hs1 hr1 hk1
      have hch : Ch lt 20 (D ++ M) := HI.out.kp.end HP.out (by have := HLE.out; omega) HS.out
      have hpm : (D ++ M).Perm l := (HP.out.append_left D).trans HI.out.perm
      replace HW : Hid (RowL blk (D ++ M) w1) := Lib.hid (by simpa using HW.out)
      have HCH := Lib.hid hch
      have HPM := Lib.hid hpm
      clear HI HP HS HLE hch hpm
      go_wp2
      go_loopw [6] (fun sv wr => ∃ (bs : Nat) (L : List Nat), 0 < bs ∧ bs < 2000000 ∧ sv = .int .i64 (bs : Int) ∧ RowL blk L wr ∧ L.Perm l ∧ Ch lt bs L ∧ Keeps (fun k => k = blk) w wr) (fun sv _ => n - (intOf sv).toNat)
      case atStart => exact ⟨20, _, by omega, by omega, rfl, HW.out, HPM.out, HCH.out, HK.out⟩
      case round =>
        clear HW HPM HCH HK
        obtain ⟨bs, L, hbs0, hbsl, rfl, hrow, hpm, hch, hk⟩ := hrel
        have HW := Lib.hid hrow
        have HPM := Lib.hid hpm
        have HCH := Lib.hid hch
        have HK := Lib.hid hk
        clear hrow hpm hch hk
        by_cases hbn2 : bs < n
        case neg =>
          go_wp2
          go_end0
          exact ⟨rfl, ⟨L, HPM.out, HCH.out.one (by rw [HPM.out.length_eq, ← HN.out]; omega), HW.out⟩, HK.out⟩
        obtain ⟨b2, hb2⟩ : ∃ k, k = bs * 2 := ⟨_, rfl⟩
        have hw1 : IntKind.i64.wrap (2 * (bs : Int)) = (b2 : Int) := by rw [IntWalk.i64_in _ (by omega)]; omega
        have HB2 := Lib.hid hb2
        clear hb2
        go_wp2
        clear hw1
        go_loopw [7, 8] (fun av bv wr => ∃ (a b : Nat) (D T : List Nat), b = a + b2 ∧ av = .int .i64 (a : Int) ∧ bv = .int .i64 (b : Int) ∧ Mrg lt blk bs l a D T wr ∧ Keeps (fun k => k = blk) w wr) (fun av _ _ => n + b2 - (intOf av).toNat)
        case atStart => exact ⟨0, b2, [], L, by omega, rfl, rfl, ⟨rfl, HW.out, Kp.nil _ _, HCH.out, HPM.out⟩, HK.out⟩
        case round =>
          clear HW HCH HPM HK
          obtain ⟨a, b, D, T, hab, rfl, rfl, hmg, hk⟩ := hrel
          have HI := Lib.hid hmg
          have HK := Lib.hid hk
          have hlen := hmg.len
          have hnn := HN.out
          have hb2 := HB2.out
          have han : a ≤ n := by omega
          have hD := hmg.hD
          clear hmg hk
          by_cases hbn : b ≤ n
          case pos =>
            obtain ⟨B, C, T', hT, hB, hC, hs1, hs2, hn1, hn2, hch⟩ := HI.out.ch.split2 hbs0 (by omega)
            obtain ⟨am, ham⟩ : ∃ k, k = a + bs := ⟨_, rfl⟩
            obtain ⟨bn, hbn'⟩ : ∃ k, k = b + b2 := ⟨_, rfl⟩
            have hw1 : IntKind.i64.wrap ((a : Int) + (bs : Int)) = (am : Int) := by rw [IntWalk.i64_in _ (by omega)]; omega
            have hw2 : IntKind.i64.wrap (2 * (bs : Int)) = (b2 : Int) := by rw [IntWalk.i64_in _ (by omega)]; omega
            have hw3 : IntKind.i64.wrap ((b : Int) + (b2 : Int)) = (bn : Int) := by rw [IntWalk.i64_in _ (by omega)]; omega
            have hTl := congrArg List.length hT
            simp only [List.length_append] at hTl
            have HT := Lib.hid hT
            have HX : Hid (n = D.length + B.length + C.length + T'.length ∧ am = D.length + B.length ∧ b = D.length + B.length + C.length ∧ 0 < B.length ∧ 0 < C.length ∧ a = D.length) := Lib.hid ⟨by omega, by omega, by omega, by omega, by omega, hD⟩
            have HS1 := Lib.hid hs1
            have HS2b := Lib.hid hs2
            have HN1 := Lib.hid hn1
            have HN2 := Lib.hid hn2
            have HCH := Lib.hid hch
            have HB := Lib.hid hB
            have HC2 := Lib.hid hC
            have HBN := Lib.hid hbn'
            have HAB := Lib.hid hab
            clear hT hB hC hs1 hs2 hn1 hn2 hch ham hbn' hTl hlen hnn hb2 hD hab
            go_wp2_with fail
            refine (symM_any g cb cf lt l0 w0 blk n cap HC.out HS2.out _ a am b D B C T' (Nat.le_refl _) HX.out.1 wr (HK0.out.trans HK.out) (by have := HI.out.row; rw [HT.out] at this; simpa only [List.append_assoc] using this) HX.out.2.2.2.2.2 HX.out.2.1 HX.out.2.2.1 HX.out.2.2.2.1 HX.out.2.2.2.2.1 HS1.out HS2b.out HN1.out (fun x hx => HI.out.mem HML.out x (by rw [HT.out]; simp [hx])) (fun x hx => HI.out.mem HML.out x (by rw [HT.out]; simp [hx]))).mono ?_
            rintro e' w1 ⟨rfl, ⟨M, hp, hs1, hr1⟩, hk1⟩
            dsimp only
            have HP := Lib.hid hp
            have HS := Lib.hid hs1
            have HW := Lib.hid hr1
            replace HK := Lib.hid (HK.out.trans hk1)
            clear hp hs1 hr1 hk1
            have hmg : Mrg lt blk bs l b (D ++ M) T' w1 := by
              refine ⟨?_, HW.out, ?_, HCH.out, ?_⟩
              · rw [HX.out.2.2.1, List.length_append, HP.out.length_eq, List.length_append]; omega
              · have h1 := HI.out.kp
                rw [HT.out] at h1
                exact h1.next HP.out (by rw [List.length_append, HB.out, HC2.out]; omega) HS.out HN2.out
              · have h1 := HI.out.perm
                rw [HT.out] at h1
                refine List.Perm.trans ?_ h1
                rw [List.append_assoc]
                exact (HP.out.append_right T').append_left D
            have HMG := Lib.hid hmg
            clear hmg HI HX
            go_wp2
            exact ⟨⟨b, bn, _, _, HBN.out, rfl, rfl, HMG.out, HK.out⟩, by simp [intOf]; have := HAB.out; have := HB2.out; omega⟩
          obtain ⟨am, ham⟩ : ∃ k, k = a + bs := ⟨_, rfl⟩
          have hw1 : IntKind.i64.wrap ((a : Int) + (bs : Int)) = (am : Int) := by rw [IntWalk.i64_in _ (by omega)]; omega
          have hw2 : IntKind.i64.wrap ((bs : Int) * 2) = (b2 : Int) := by rw [IntWalk.i64_in _ (by omega)]; omega
          by_cases ham2 : am < n
          · obtain ⟨B, T', hT, hB, hs1, hn1, hch⟩ := HI.out.ch.split (by omega)
            have hTl := congrArg List.length hT
            simp only [List.length_append] at hTl
            have hs2 : Srt lt T' := hch.one (by omega)
            have HT := Lib.hid hT
            have HX : Hid (n = D.length + B.length + T'.length + 0 ∧ am = D.length + B.length ∧ n = D.length + B.length + T'.length ∧ 0 < B.length ∧ 0 < T'.length ∧ a = D.length ∧ T.length ≤ bs * 2) := Lib.hid ⟨by omega, by omega, by omega, by omega, by omega, hD, by omega⟩
            have HS1 := Lib.hid hs1
            have HS2b := Lib.hid hs2
            have HN1 := Lib.hid hn1
            clear hT hB hs1 hs2 hn1 hch ham hTl hlen hnn hb2 hD hab
            go_wp2_with fail
            refine (symM_any g cb cf lt l0 w0 blk n cap HC.out HS2.out _ a am n D B T' [] (Nat.le_refl _) HX.out.1 wr (HK0.out.trans HK.out) (by have := HI.out.row; rw [HT.out] at this; simpa only [List.append_assoc, List.append_nil] using this) HX.out.2.2.2.2.2.1 HX.out.2.1 HX.out.2.2.1 HX.out.2.2.2.1 HX.out.2.2.2.2.1 HS1.out HS2b.out HN1.out (fun x hx => HI.out.mem HML.out x (by rw [HT.out]; simp [hx])) (fun x hx => HI.out.mem HML.out x (by rw [HT.out]; simp [hx]))).mono ?_
            rintro e' w1 ⟨rfl, ⟨M, hp, hs1, hr1⟩, hk1⟩
            dsimp only
            have HP := Lib.hid hp
            have HS := Lib.hid hs1
            have HW := Lib.hid hr1
            replace HK := Lib.hid (HK.out.trans hk1)
            clear hp hs1 hr1 hk1
            have hch : Ch lt b2 (D ++ M) := by
              rw [HB2.out]
              exact HI.out.kp.end (by rw [HT.out]; exact HP.out) HX.out.2.2.2.2.2.2 HS.out
            have hpm : (D ++ M).Perm l := by
              have h1 := HI.out.perm
              rw [HT.out] at h1
              exact (HP.out.append_left D).trans h1
            replace HW : Hid (RowL blk (D ++ M) w1) := Lib.hid (by simpa using HW.out)
            have HCH := Lib.hid hch
            have HPM := Lib.hid hpm
            clear hch hpm HI HX
            go_wp2
            exact ⟨⟨b2, _, by have := HB2.out; omega, by have := HB2.out; omega, rfl, HW.out, HPM.out, HCH.out, HK.out⟩, by simp [intOf]; have := HB2.out; omega⟩
          · have hch : Ch lt b2 (D ++ T) := by
              rw [HB2.out]
              exact HI.out.kp.end (List.Perm.refl _) (by omega) (HI.out.ch.one (by omega))
            have HCH := Lib.hid hch
            clear hch ham hlen hnn hb2 hD hab
            go_wp2
            exact ⟨⟨b2, _, by have := HB2.out; omega, by have := HB2.out; omega, rfl, HI.out.row, HI.out.perm, HCH.out, HK.out⟩, by simp [intOf]; have := HB2.out; omega⟩
    have hsp := List.take_append_drop 20 T
    have hbl : (T.take 20).length = 20 := by rw [List.length_take]; omega
    obtain ⟨B, hBd⟩ : ∃ B, B = T.take 20 := ⟨_, rfl⟩
    obtain ⟨T', hTd⟩ : ∃ B, B = T.drop 20 := ⟨_, rfl⟩
    rw [← hBd, ← hTd] at hsp
    rw [← hBd] at hbl
    have hTl := congrArg List.length hsp
    simp only [List.length_append] at hTl
    have has := HI.out.asc
    rw [← hsp] at has
    obtain ⟨ha1, ha2, ha3⟩ := asc_split has
    obtain ⟨bn, hbn'⟩ : ∃ k, k = b + 20 := ⟨_, rfl⟩
    have hw3 : IntKind.i64.wrap ((b : Int) + 20) = (bn : Int) := by rw [IntWalk.i64_in _ (by omega)]; omega
    have hD := HI.out.hD
    have HX : Hid (n = D.length + B.length + T'.length ∧ b = D.length + B.length ∧ a = D.length) := Lib.hid ⟨by omega, by omega, hD⟩
    have HSP := Lib.hid hsp
    have HBL := Lib.hid hbl
    have HA1 := Lib.hid ha1
    have HA2 := Lib.hid ha2
    have HA3 := Lib.hid ha3
    have HBN := Lib.hid hbn'
    clear hsp hbl hBd hTd hTl has ha1 ha2 ha3 hbn' hD hlen hnn hab
    go_wp2_with fail
    refine (insertion_any g cb cf lt l0 w0 blk n cap a b HC.out D B T' (by rw [HX.out.1]; simp only [List.length_append]) HS2.out wr (HK0.out.trans HK.out) (by have := HI.out.row; rw [← HSP.out] at this; simpa only [List.append_assoc] using this) HX.out.2.2 HX.out.2.1 HA1.out (fun x hx => HI.out.mem HML.out x (by rw [← HSP.out]; simp [hx]))).mono ?_
    rintro e' w1 ⟨rfl, ⟨M, hp, hs1, hr1⟩, hk1⟩
    dsimp only
    have HP := Lib.hid hp
    have HS := Lib.hid hs1
    have HW := Lib.hid hr1
    replace HK := Lib.hid (HK.out.trans hk1)
    clear hp hs1 hr1 hk1
    have hmg : Ins1 lt blk l b (D ++ M) T' w1 := by
      refine ⟨?_, HW.out, ?_, HA2.out, ?_⟩
      · rw [HX.out.2.1, List.length_append, HP.out.length_eq]
      · have h1 := HI.out.kp
        rw [← HSP.out] at h1
        exact h1.next HP.out HBL.out HS.out HA3.out
      · have h1 := HI.out.perm
        rw [← HSP.out] at h1
        refine List.Perm.trans ?_ h1
        rw [List.append_assoc]
        exact (HP.out.append_right T').append_left D
    have HMG := Lib.hid hmg
    clear hmg HI HX
    go_wp2
    exact ⟨⟨b, bn, _, _, HBN.out, rfl, rfl, HMG.out, HK.out⟩, by simp [intOf]; have := HAB.out; omega⟩
/-- SortStableFunc, by a comparison that says which comes first. -/
theorem sort_any (g : Nat) (cb : Array Value) (cf : Nat → Nat → Int) (lt : Nat → Nat → Prop) (blk n cap : Nat) (l : List Nat) (w : World) (hc : CmpOk g cb cf lt blk l w) (hs : n < 1000000) (hn : n = l.length) (hasc : l.Pairwise (· < ·)) (hr : RowL blk l w) :
    Calls Try.prog 75 #[.slice (some ⟨blk, 0, none⟩) n cap, .func (.func g) #[] cb] w fun e w' => e = .returned (.tuple #[]) ∧ (∃ M, M.Perm l ∧ Srt lt M ∧ RowL blk M w') ∧ Keeps (fun k => k = blk) w w' := by
  have HR := Lib.hid hr
  have HC := Lib.hid hc
  have HN := Lib.hid hn
  have HAS := Lib.hid hasc
  clear hr hc hn hasc
  go_enter Try.func75, Try.ntmps75
  go_wp2_with fail
  refine (stable_any g cb cf lt l w blk n cap HC.out hs l HN.out HAS.out (fun _ h => h) w (Keeps.refl _ _) HR.out).mono ?_
  rintro e w' ⟨rfl, h1, h2⟩
  dsimp only
  go_wp2
  go_end0
  exact ⟨rfl, h1, h2⟩
end Go.Proofs.Ytabbmihakoeegaa
