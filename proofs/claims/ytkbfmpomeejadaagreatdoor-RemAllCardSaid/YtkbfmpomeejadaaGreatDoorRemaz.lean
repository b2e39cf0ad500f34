/- Part 26 of 46 of what the theorem stands on. -/
import Derived.Test.YtkbfmpomeejadaaGreatDoorRemay

section
namespace Go.Ev
open Go.Proofs Go.RowKit
noncomputable def d1 : Base := ((c9.with gMake).with gNan).with gSignaling
theorem d1_ok : BaseOk d1 := ((c9_ok.with make_ok).with nan_ok).with signaling_ok
def infN (f : Int) (n : Bool) : Nat := makeN f n (2 * fmtX f + 1) 0
def maxN (f : Int) (n : Bool) : Nat := makeN f n (2 * fmtX f) (2 ^ 128 - 1)
noncomputable def gNought : Ctr := ctr2 178 dF dT (fun f n => some (makeN f n 0 0)) rB
noncomputable def gInf : Ctr := ctr2 251 dF dT (fun f n => some (infN f n)) rB
noncomputable def gMax : Ctr := ctr2 249 dF dT (fun f n => some (maxN f n)) rB
noncomputable def qNought : List Arg → Option Nat := gNought.K
noncomputable def qInf : List Arg → Option Nat := gInf.K
noncomputable def qMax : List Arg → Option Nat := gMax.K
theorem qNought_K {f : Int} (hf : okB f = true) (n : Bool) : qNought [aF f, aT n] = some (makeN f n 0 0) := ctr2_K (a := dF) (b := dT) hf trivial
theorem qInf_K {f : Int} (hf : okB f = true) (n : Bool) : qInf [aF f, aT n] = some (infN f n) := ctr2_K (a := dF) (b := dT) hf trivial
theorem qMax_K {f : Int} (hf : okB f = true) (n : Bool) : qMax [aF f, aT n] = some (maxN f n) := ctr2_K (a := dF) (b := dT) hf trivial
theorem nought_eq (f : Int) (n : Bool) : funC (dat d1) 100 Tryz.f178 [aF f, aT n] some = (qMake [aF f, aT n, aI 0, aP 0 0]).bind fun r => some (rB r) := by kernel_rfl
theorem inf_eq (f : Int) (n : Bool) : funC (dat d1) 100 Tryz.f251 [aF f, aT n] some = (qEmax [aF f]).bind fun r => (qMake [aF f, aT n, aI (IntKind.wrap .i64 (IntKind.wrap .i64 (2 * r) + 1)), aP 0 0]).bind fun r => some (rB r) := by kernel_rfl
theorem max_eq (f : Int) (n : Bool) : funC (dat d1) 100 Tryz.f249 [aF f, aT n] some = (qEmax [aF f]).bind fun r => (qMake [aF f, aT n, aI (IntKind.wrap .i64 (2 * r)), aP 18446744073709551615 18446744073709551615]).bind fun r => some (rB r) := by kernel_rfl
theorem nought_ok : CtrOk Tryz.prog (dat d1) gNought := by
  refine ctr2_ok d1_ok ⟨Tryz.func178, by kernel_rfl, by kernel_rfl⟩ 100 fun f n r hf _ hr => ?_
  cases hr
  refine ⟨(nought_eq f n).trans ?_, rfl⟩
  rw [aP_zero, qMake_K hf (okS_of (by omega) (by omega)) (by decide)]
  rfl
theorem inf_ok : CtrOk Tryz.prog (dat d1) gInf := by
  refine ctr2_ok d1_ok ⟨Tryz.func251, by kernel_rfl, by kernel_rfl⟩ 100 fun f n r hf _ hr => ?_
  cases hr
  have h := fmt_le hf
  refine ⟨(inf_eq f n).trans ?_, rfl⟩
  rw [qEmax_K hf, Option.bind_some, i64w (2 * fmtX f) (by omega) (by omega), i64w _ (by omega) (by omega), aP_zero, qMake_K hf (okS_of (by omega) (by omega)) (by decide)]
  rfl
theorem max_ok : CtrOk Tryz.prog (dat d1) gMax := by
  refine ctr2_ok d1_ok ⟨Tryz.func249, by kernel_rfl, by kernel_rfl⟩ 100 fun f n r hf _ hr => ?_
  cases hr
  have h := fmt_le hf
  refine ⟨(max_eq f n).trans ?_, rfl⟩
  have e : aP 18446744073709551615 18446744073709551615 = aB (2 ^ 128 - 1) := aP_eq (by rw [hiW_eq]; rfl) (by rw [loW_eq]; rfl)
  rw [qEmax_K hf, Option.bind_some, i64w (2 * fmtX f) (by omega) (by omega), e, qMake_K hf (okS_of (by omega) (by omega)) (by decide)]
  rfl
def qbit (f : Int) : Nat := 2 ^ (fmtP f - 2).toNat
def dfltN (f : Int) : Nat := bif decide (fmtW f = 0) then 0 else makeN f false (2 * fmtX f + 1) (qbit f)
def quietN (f : Int) (a : Nat) : Nat := bif nanN f (cutN f a) then cutN f a ||| qbit f else cutN f a
noncomputable def gDefault : Ctr := ctr1 96 dF (fun f => some (dfltN f)) rB
noncomputable def gQuiet : Ctr := ctr2 97 dF dB (fun f a => some (quietN f a)) rB
noncomputable def qDefault : List Arg → Option Nat := gDefault.K
noncomputable def qQuiet : List Arg → Option Nat := gQuiet.K
theorem qDefault_K {f : Int} (hf : okB f = true) : qDefault [aF f] = some (dfltN f) := ctr1_K (a := dF) hf
theorem qQuiet_K {f : Int} {a : Nat} (hf : okB f = true) (ha : a < 2 ^ 128) : qQuiet [aF f, aB a] = some (quietN f a) := ctr2_K (a := dF) (b := dB) hf ha
theorem default_eq (f : Int) : funC (dat d1) 100 Tryz.f96 [aF f] some = (qEmax [aF f]).bind fun r => (qPrec [aF f]).bind fun r_1 => (qLeft [aP 0 1, aI (IntKind.wrap .i64 (r_1 - 2))]).bind fun r_2 =>
    (qMake [aF f, aT false, aI (IntKind.wrap .i64 (IntKind.wrap .i64 (2 * r) + 1)), aB r_2]).bind fun r => some (rB r) := by kernel_rfl
theorem quiet_eq (f : Int) (b : Nat) : funC (dat d1) 100 Tryz.f97 [aF f, aB b] some = (qCut [aF f, aB b]).bind fun r => (qNan [aF f, aB r]).bind fun r_1 => bif r_1 then (qPrec [aF f]).bind fun r_2 =>
    (qLeft [aP 0 1, aI (IntKind.wrap .i64 (r_2 - 2))]).bind fun r_3 => some (.fv (.agg [.int .u64 (wOr (hiW r) (hiW r_3)), .int .u64 (wOr (loW r) (loW r_3))])) else some (rB r) := by kernel_rfl
theorem wordAt_or (a b j : Nat) : wordAt (a ||| b) j = wordAt a j ||| wordAt b j := by
  refine Nat.eq_of_testBit_eq fun k => ?_
  rw [Nat.testBit_or, wordAt_bit, wordAt_bit, wordAt_bit, Nat.testBit_or]
  cases decide (k < 64) <;> rfl
theorem wOr_bb (a b : Nat) : FV.agg [.int .u64 (wOr (hiW a) (hiW b)), .int .u64 (wOr (loW a) (loW b))] = bb (a ||| b) := by
  refine bb_of ?_ ?_
  · rw [hiW_word, hiW_word, hiW_word, wOr_nat _ _ (wordAt_lt _ _) (wordAt_lt _ _), wordAt_or]
  · rw [loW_word, loW_word, loW_word, wOr_nat _ _ (wordAt_lt _ _) (wordAt_lt _ _), wordAt_or]
theorem left_one {f : Int} (hf : okB f = true) (h0 : fmtW f ≠ 0) : qLeft [aP 0 1, aI (IntKind.wrap .i64 (fmtP f - 2))] = some (qbit f) := by
  have h := fmt_le hf
  have h1 := (fmt_small hf).2.2.2 h0
  rw [i64w _ (by omega) (by omega), aP_one, qLeft_K (by decide), leftN_small (m := 1) (by decide) (by omega), Nat.one_mul]
  rfl
theorem left_one_any {f : Int} (hf : okB f = true) : ∃ x, x < 2 ^ 128 ∧ qLeft [aP 0 1, aI (IntKind.wrap .i64 (fmtP f - 2))] = some x := by
  have h := fmt_le hf
  rw [aP_one, i64w _ (by omega) (by omega), qLeft_K (by decide)]
  exact ⟨_, leftN_lt _ _, rfl⟩
theorem qbit_lt {f : Int} (hf : okB f = true) : qbit f < 2 ^ 128 := by
  have h := fmt_le hf
  exact Nat.pow_lt_pow_right (by decide) (by omega)
theorem default_ok : CtrOk Tryz.prog (dat d1) gDefault := by
  refine ctr1_ok d1_ok ⟨Tryz.func96, by kernel_rfl, by kernel_rfl⟩ 100 fun f r hf hr => ?_
  cases hr
  have h := fmt_le hf
  refine ⟨(default_eq f).trans ?_, rfl⟩
  rw [qEmax_K hf, Option.bind_some, qPrec_K hf, Option.bind_some, i64w (2 * fmtX f) (by omega) (by omega), i64w (2 * fmtX f + 1) (by omega) (by omega)]
  unfold dfltN
  by_cases h0 : fmtW f = 0
  · obtain ⟨x, hx, e⟩ := left_one_any hf
    rw [e, Option.bind_some, qMake_K hf (okS_of (by omega) (by omega)) hx, decide_eq_true h0]
    have : makeN f false (2 * fmtX f + 1) x = 0 := by unfold makeN; rw [decide_eq_true h0]; rfl
    rw [this]
    rfl
  · rw [left_one hf h0, Option.bind_some, qMake_K hf (okS_of (by omega) (by omega)) (qbit_lt hf), decide_eq_false h0]
    rfl
theorem class_unknown {f : Int} (h : 4 ≤ f) (a : Nat) : classN f a = (0, false) := by
  unfold classN
  rw [decide_eq_false (by omega : ¬ f < 4)]
  rfl
theorem quiet_ok : CtrOk Tryz.prog (dat d1) gQuiet := by
  refine ctr2_ok d1_ok ⟨Tryz.func97, by kernel_rfl, by kernel_rfl⟩ 100 fun f a r hf ha hr => ?_
  cases hr
  have h := fmt_le hf
  have h' := fmt_small hf
  refine ⟨(quiet_eq f a).trans ?_, rfl⟩
  rw [qCut_K hf ha, Option.bind_some, qNan_K hf (cutN_lt ha), Option.bind_some, qPrec_K hf, Option.bind_some]
  unfold quietN
  cases hn : nanN f (cutN f a) with
  | false => rfl
  | true =>
    have h0 : fmtW f ≠ 0 := fun h0 => by
      unfold nanN at hn
      rw [class_unknown (h'.2.2.1.1 h0)] at hn
      cases hn
    simp only [cond_true]
    rw [left_one hf h0, Option.bind_some, wOr_bb]
    rfl
noncomputable def d2 : Base := (((((d1.with gNought).with gInf).with gMax).with gDefault).with gQuiet).fun_
  [(94, Tryz.f94), (95, Tryz.f95), (92, Tryz.f92), (93, Tryz.f93), (38, Tryz.f38), (174, Tryz.f174), (101, Tryz.f101)]
theorem d2_ok : BaseOk d2 := (((((d1_ok.with nought_ok).with inf_ok).with max_ok).with default_ok).with quiet_ok).fun_ (by
  intro x hx
  simp only [List.mem_cons, List.not_mem_nil, or_false] at hx
  rcases hx with rfl | rfl | rfl | rfl | rfl | rfl | rfl
  · exact ⟨Tryz.func94, by kernel_rfl, by kernel_rfl⟩
  · exact ⟨Tryz.func95, by kernel_rfl, by kernel_rfl⟩
  · exact ⟨Tryz.func92, by kernel_rfl, by kernel_rfl⟩
  · exact ⟨Tryz.func93, by kernel_rfl, by kernel_rfl⟩
  · exact ⟨Tryz.func38, by kernel_rfl, by kernel_rfl⟩
  · exact ⟨Tryz.func174, by kernel_rfl, by kernel_rfl⟩
  · exact ⟨Tryz.func101, by kernel_rfl, by kernel_rfl⟩)
/-- Two of Bits in a row. -/
noncomputable def dB2 : Dec (Nat × Nat) where
  dec := fun | .lst 2 [.int .u64 h, .int .u64 l, .int .u64 h', .int .u64 l'] => (bt h l).bind fun a => (bt h' l').map fun b => (a, b) | _ => none
  enc := fun p => .lst 2 [.int .u64 (hiW p.1), .int .u64 (loW p.1), .int .u64 (hiW p.2), .int .u64 (loW p.2)]
  ok := fun p => p.1 < 2 ^ 128 ∧ p.2 < 2 ^ 128
  inv := by
    intro x a h
    split at h
    · obtain ⟨a1, h1, h2⟩ := bind_inv h
      rw [Option.map_eq_some_iff] at h2
      obtain ⟨b1, h3, rfl⟩ := h2
      obtain ⟨h4, rfl, rfl⟩ := bt_inv h1
      obtain ⟨h5, rfl, rfl⟩ := bt_inv h3
      refine ⟨?_, h4, h5⟩
      rw [hiW_eq, loW_eq, hiW_eq, loW_eq]
    · cases h
  back := fun p h => by
    show (bt (hiW p.1) (loW p.1)).bind (fun a => (bt (hiW p.2) (loW p.2)).map fun b => (a, b)) = some p
    rw [hiW_eq, loW_eq, hiW_eq, loW_eq, bt_bits _ h.1, bt_bits _ h.2]
    rfl
noncomputable abbrev aB2 (a b : Nat) : Arg := .lst 2 [.int .u64 (hiW a), .int .u64 (loW a), .int .u64 (hiW b), .int .u64 (loW b)]
noncomputable def resF (r : Nat) (fl : Int) : FV := .agg [.int .u64 (hiW r), .int .u64 (loW r), .int .u8 fl]
noncomputable def rPick (r : Nat × Int × Bool) : AV := .tup [resF r.1 r.2.1, .one (.bool r.2.2)]
def pickN (f : Int) (inv : Bool) (a b : Nat) : Nat × Int × Bool :=
  bif !decide (f < 4) || (!nanN f a && (!nanN f b && !inv)) then (0, 0, false) else
    (bif nanN f a then quietN f a else bif nanN f b then quietN f b else dfltN f, bif inv || (sigN f a || sigN f b) then 1 else 0, true)
noncomputable def gPick : Ctr := ctr3 40 dF dT dB2 (fun f i p => some (pickN f i p.1 p.2)) rPick
noncomputable def qPick : List Arg → Option (Nat × Int × Bool) := gPick.K
theorem qPick_K {f : Int} {i : Bool} {a b : Nat} (hf : okB f = true) (ha : a < 2 ^ 128) (hb : b < 2 ^ 128) : qPick [aF f, aT i, aB2 a b] = some (pickN f i a b) := ctr3_K (a := dF) (b := dT) (c := dB2) (z := (a, b)) hf trivial ⟨ha, hb⟩
noncomputable def pickTail (f : Int) (inv : Bool) (a b r : Nat) : Option AV :=
  bif inv then some (rPick (r, 1, true)) else (qSignaling [aF f, aB a]).bind fun r_1 => bif r_1 then some (rPick (r, 1, true)) else (qSignaling [aF f, aB b]).bind fun r_2 => bif r_2 then some (rPick (r, 1, true)) else some (rPick (r, 0, true))
noncomputable def pickNo : Option AV := some (.tup [.agg [.int .u64 0, .int .u64 0, .int .u8 0], .one (.bool false)])
theorem pick_eq (f : Int) (inv : Bool) (a b : Nat) : funC (dat d2) 200 Tryz.f40 [aF f, aT inv, aB2 a b] some = (qNan [aF f, aB a]).bind fun r =>
    bif r then (qKnown [aF f]).bind fun r => bif !r then pickNo else (qDefault [aF f]).bind fun _ => (qQuiet [aF f, aB a]).bind fun r => pickTail f inv a b r
    else (qNan [aF f, aB b]).bind fun r =>
    bif r then (qKnown [aF f]).bind fun r => bif !r then pickNo else (qDefault [aF f]).bind fun _ => (qQuiet [aF f, aB b]).bind fun r => pickTail f inv a b r
    else (qKnown [aF f]).bind fun r => bif !r then pickNo else bif !inv then pickNo else (qDefault [aF f]).bind fun r => pickTail f inv a b r := by kernel_rfl
theorem pickNo_eq : pickNo = some (rPick (0, 0, false)) := by
  unfold pickNo rPick resF
  rw [hiW_eq, loW_eq]
  rfl
theorem pickTail_eq {f : Int} (hf : okB f = true) {a b : Nat} (ha : a < 2 ^ 128) (hb : b < 2 ^ 128) (inv : Bool) (r : Nat) :
    pickTail f inv a b r = some (rPick (r, bif inv || (sigN f a || sigN f b) then 1 else 0, true)) := by
  unfold pickTail
  rw [qSignaling_K hf ha, Option.bind_some, qSignaling_K hf hb, Option.bind_some]
  cases inv <;> cases sigN f a <;> cases sigN f b <;> rfl
theorem pick_ok : CtrOk Tryz.prog (dat d2) gPick := by
  refine ctr3_ok d2_ok ⟨Tryz.func40, by kernel_rfl, by kernel_rfl⟩ 200 fun f i p r hf _ hp hr => ?_
  cases hr
  obtain ⟨a, b⟩ := p
  obtain ⟨ha, hb⟩ := hp
  refine ⟨(pick_eq f i a b).trans ?_, rfl⟩
  rw [qNan_K hf ha, qNan_K hf hb, qKnown_K hf, qDefault_K hf, qQuiet_K hf ha, qQuiet_K hf hb]
  simp only [Option.bind_some]
  rw [pickTail_eq hf ha hb, pickTail_eq hf ha hb, pickTail_eq hf ha hb, pickNo_eq]
  unfold pickN
  cases decide (f < 4) <;> cases nanN f a <;> cases nanN f b <;> cases i <;> rfl
end Go.Ev
end

section
namespace Go.Ev
/-- The remainder that is nearest to nought, and whether it is below nought; of two as near, the one of an even quotient. -/
def remE (a b : Nat) : Nat × Bool :=
  bif decide (b < 2 * (a % b)) || (decide (2 * (a % b) = b) && decide (a / b % 2 = 1)) then (b - a % b, true) else (a % b, false)
theorem remE_scale (c a b : Nat) (hc : 0 < c) : remE (c * a) (c * b) = (c * (remE a b).1, (remE a b).2) := by
  unfold remE
  rw [Nat.mul_mod_mul_left, Nat.mul_div_mul_left a b hc]
  have e1 : decide (c * b < 2 * (c * (a % b))) = decide (b < 2 * (a % b)) := by
    rw [Nat.mul_left_comm]
    exact decide_eq_decide.2 (Nat.mul_lt_mul_left hc)
  have e2 : decide (2 * (c * (a % b)) = c * b) = decide (2 * (a % b) = b) := by
    rw [Nat.mul_left_comm]
    exact decide_eq_decide.2 ⟨fun h => Nat.eq_of_mul_eq_mul_left hc h, fun h => by rw [h]⟩
  rw [e1, e2]
  cases (decide (b < 2 * (a % b)) || (decide (2 * (a % b) = b) && decide (a / b % 2 = 1))) with
  | true => simp only [cond_true]; rw [Nat.mul_sub]
  | false => rfl
/-- By twice the divisor: it tells whether the quotient is odd. -/
theorem remE_twice (a n : Nat) (hn : 0 < n) :
    remE a n = (bif decide (n ≤ a % (2 * n)) then
        (bif decide (n < 2 * (a % (2 * n) - n)) || decide (2 * (a % (2 * n) - n) = n) then (n - (a % (2 * n) - n), true) else (a % (2 * n) - n, false))
      else (bif decide (n < 2 * (a % (2 * n))) then (n - a % (2 * n), true) else (a % (2 * n), false))) := by
  have h1 : a % (2 * n) = a % n + n * (a / n % 2) := by rw [Nat.mul_comm 2 n]; exact Nat.mod_mul
  have h2 := Nat.mod_lt a hn
  unfold remE
  rcases Nat.mod_two_eq_zero_or_one (a / n) with h | h
  · rw [h] at h1
    rw [Nat.mul_zero, Nat.add_zero] at h1
    rw [h1, h]
    rw [decide_eq_false (show ¬ n ≤ a % n by omega)]
    simp
  · rw [h] at h1
    rw [Nat.mul_one] at h1
    have h3 : a % (2 * n) - n = a % n := by omega
    rw [h3, h, decide_eq_true (show n ≤ a % (2 * n) by omega)]
    simp
theorem remE_small {a b : Nat} (h : 2 * a < b) : remE a b = (a, false) := by
  unfold remE
  rw [Nat.mod_eq_of_lt (by omega), decide_eq_false (show ¬ b < 2 * a by omega), decide_eq_false (show ¬ 2 * a = b by omega)]
  rfl
theorem remE_half {a b : Nat} (h : a < 2 * b) : remE a (2 * b) = bif decide (b < a) then (2 * b - a, true) else (a, false) := by
  unfold remE
  rw [Nat.mod_eq_of_lt h, Nat.div_eq_of_lt h]
  have e : decide (2 * b < 2 * a) = decide (b < a) := decide_eq_decide.2 (by omega)
  rw [e]
  simp
/-- It is no more than the dividend, and no more than half of the divisor. -/
theorem remE_le (a b : Nat) (hb : 0 < b) : (remE a b).1 ≤ a ∧ 2 * (remE a b).1 ≤ b := by
  have h1 := Nat.mod_lt a hb
  have h2 := Nat.mod_le a b
  have h3 := Nat.div_add_mod a b
  unfold remE
  cases hc : decide (b < 2 * (a % b)) || (decide (2 * (a % b) = b) && decide (a / b % 2 = 1)) with
  | true =>
    simp only [cond_true]
    simp only [Bool.or_eq_true, Bool.and_eq_true, decide_eq_true_eq] at hc
    omega
  | false =>
    simp only [cond_false]
    simp only [Bool.or_eq_false_iff, decide_eq_false_iff_not] at hc
    omega
/-- How long a number is, in bits. -/
def lenN (n : Nat) : Nat := bif decide (n = 0) then 0 else n.log2 + 1
theorem lenN_zero : lenN 0 = 0 := rfl
theorem lenN_pos {n : Nat} (h : n ≠ 0) : 2 ^ (lenN n - 1) ≤ n ∧ n < 2 ^ lenN n ∧ 1 ≤ lenN n := by
  unfold lenN
  rw [decide_eq_false h]
  exact ⟨Nat.log2_self_le h, Nat.lt_log2_self, by simp⟩
theorem lenN_lt (n : Nat) : n < 2 ^ lenN n := by
  by_cases h : n = 0
  · subst h; decide
  · exact (lenN_pos h).2.1
theorem lenN_le {n k : Nat} (h : n < 2 ^ k) : lenN n ≤ k := by
  by_cases h0 : n = 0
  · subst h0; exact Nat.zero_le _
  · have h1 := (lenN_pos h0).1
    have h2 : 2 ^ (lenN n - 1) < 2 ^ k := Nat.lt_of_le_of_lt h1 h
    have := (Nat.pow_lt_pow_iff_right (by decide : 1 < 2)).1 h2
    omega
theorem lenN_eq {n k : Nat} (h1 : 2 ^ k ≤ n) (h2 : n < 2 ^ (k + 1)) : lenN n = k + 1 := by
  have h0 : n ≠ 0 := by have := Nat.two_pow_pos k; omega
  have h3 := lenN_le h2
  have h4 := lenN_pos h0
  have h5 : 2 ^ k < 2 ^ lenN n := Nat.lt_of_le_of_lt h1 h4.2.1
  have := (Nat.pow_lt_pow_iff_right (by decide : 1 < 2)).1 h5
  omega
theorem lenN_shift {n : Nat} (h : n ≠ 0) (k : Nat) : lenN (n * 2 ^ k) = lenN n + k := by
  obtain ⟨h1, h2, h3⟩ := lenN_pos h
  have e : lenN n + k = (lenN n - 1 + k) + 1 := by omega
  rw [e]
  refine lenN_eq ?_ ?_
  · rw [Nat.pow_add]; exact Nat.mul_le_mul_right _ h1
  · have : lenN n - 1 + k + 1 = lenN n + k := by omega
    rw [this, Nat.pow_add]
    exact Nat.mul_lt_mul_of_pos_right h2 (Nat.two_pow_pos k)
end Go.Ev
end

section
namespace Go.Ev
open Go.Proofs Go.RowKit
def tab8 : ByteArray := ⟨#[0, 1, 2, 2, 3, 3, 3, 3, 4, 4, 4, 4, 4, 4, 4, 4, 5, 5, 5, 5, 5, 5, 5, 5, 5, 5, 5, 5, 5, 5, 5, 5, 6, 6, 6, 6, 6, 6, 6, 6, 6, 6, 6, 6, 6, 6, 6, 6, 6, 6, 6, 6, 6, 6, 6, 6, 6, 6, 6, 6, 6, 6, 6, 6, 7, 7, 7, 7, 7, 7, 7, 7, 7, 7, 7, 7, 7, 7, 7, 7, 7, 7, 7, 7, 7, 7, 7, 7, 7, 7, 7, 7, 7, 7, 7, 7, 7, 7, 7, 7, 7, 7, 7, 7, 7, 7, 7, 7, 7, 7, 7, 7, 7, 7, 7, 7, 7, 7, 7, 7, 7, 7, 7, 7, 7, 7, 7, 7, 8, 8, 8, 8, 8, 8, 8, 8, 8, 8, 8, 8, 8, 8, 8, 8, 8, 8, 8, 8, 8, 8, 8, 8, 8, 8, 8, 8, 8, 8, 8, 8, 8, 8, 8, 8, 8, 8, 8, 8, 8, 8, 8, 8, 8, 8, 8, 8, 8, 8, 8, 8, 8, 8, 8, 8, 8, 8, 8, 8, 8, 8, 8, 8, 8, 8, 8, 8, 8, 8, 8, 8, 8, 8, 8, 8, 8, 8, 8, 8, 8, 8, 8, 8, 8, 8, 8, 8, 8, 8, 8, 8, 8, 8, 8, 8, 8, 8, 8, 8, 8, 8, 8, 8, 8, 8, 8, 8, 8, 8, 8, 8, 8, 8, 8, 8, 8, 8, 8, 8, 8, 8, 8, 8, 8, 8, 8, 8]⟩
theorem tab8_all : (List.range 256).all (fun b => decide (strAt tab8 b = ((lenN b : Nat) : Int))) = true := by kernel_rfl
theorem tab8_len {b : Nat} (h : b < 256) : strAt tab8 b = ((lenN b : Nat) : Int) := of_decide_eq_true (List.all_eq_true.1 tab8_all b (List.mem_range.2 h))
def len8 (n x : Int) : Option AV := bif decide (0 ≤ IntKind.wrap .u8 x) && decide (IntKind.wrap .u8 x < 256) then some (rI (IntKind.wrap .i64 (n + IntKind.wrap .i64 (strAt tab8 (IntKind.wrap .u8 x).toNat)))) else none
theorem len64_eq (x : Int) : funC (dat d2) 100 Tryz.f304 [aU x] some =
    bif decide (4294967296 ≤ x) then bif decide (65536 ≤ shr .u64 x 32) then bif decide (256 ≤ shr .u64 (shr .u64 x 32) 16) then len8 56 (shr .u64 (shr .u64 (shr .u64 x 32) 16) 8) else len8 48 (shr .u64 (shr .u64 x 32) 16)
      else bif decide (256 ≤ shr .u64 x 32) then len8 40 (shr .u64 (shr .u64 x 32) 8) else len8 32 (shr .u64 x 32)
    else bif decide (65536 ≤ x) then bif decide (256 ≤ shr .u64 x 16) then len8 24 (shr .u64 (shr .u64 x 16) 8) else len8 16 (shr .u64 x 16)
      else bif decide (256 ≤ x) then len8 8 (shr .u64 x 8) else len8 0 x := by kernel_rfl
theorem lenN_div {x k : Nat} (h : 2 ^ k ≤ x) : lenN x = lenN (x / 2 ^ k) + k := by
  have h0 : x / 2 ^ k ≠ 0 := by
    have := Nat.div_pos h (Nat.two_pow_pos k)
    omega
  obtain ⟨h1, h2, h3⟩ := lenN_pos h0
  have e : lenN (x / 2 ^ k) + k = (lenN (x / 2 ^ k) - 1 + k) + 1 := by omega
  rw [e]
  refine lenN_eq ?_ ?_
  · rw [Nat.pow_add]
    exact (Nat.le_div_iff_mul_le (Nat.two_pow_pos k)).1 h1
  · have : lenN (x / 2 ^ k) - 1 + k + 1 = lenN (x / 2 ^ k) + k := by omega
    rw [this, Nat.pow_add]
    exact (Nat.div_lt_iff_lt_mul (Nat.two_pow_pos k)).1 h2
theorem u8w {n : Int} (h0 : 0 ≤ n) (h1 : n < 256) : IntKind.u8.wrap n = n := by
  simp [IntKind.wrap, IntKind.bits, IntKind.signed]
  omega
theorem len8_of {n x : Nat} (hx : x < 256) (hn : n ≤ 1000) : len8 n x = some (rI ((lenN x + n : Nat) : Int)) := by
  have hl : lenN x ≤ 8 := lenN_le (k := 8) hx
  unfold len8
  rw [u8w (by omega) (by omega), decide_eq_true (by omega : (0 : Int) ≤ x), decide_eq_true (by omega : (x : Int) < 256)]
  simp only [Bool.and_self, cond_true]
  rw [Int.toNat_natCast, tab8_len hx, i64w (lenN x : Nat) (by omega) (by omega), i64w _ (by omega) (by omega)]
  congr 2
  omega
noncomputable def gLen64 : Ctr := ctr1 304 dX (fun x => some ((lenN x.toNat : Nat) : Int)) rI
noncomputable def qLen64 : List Arg → Option Int := gLen64.K
theorem qLen64_K {x : Int} (hx : okU x = true) : qLen64 [aU x] = some ((lenN x.toNat : Nat) : Int) := ctr1_K (a := dX) hx
theorem shr_nat' (x s : Nat) (hs : s < 64) (y : Nat) (hy : 2 ^ s = y) : shr .u64 x s = ((x / y : Nat) : Int) := by rw [← hy]; exact shr_nat x s hs
theorem len64_ok : CtrOk Tryz.prog (dat d2) gLen64 := by
  refine ctr1_ok d2_ok ⟨Tryz.func304, by kernel_rfl, by kernel_rfl⟩ 100 fun x r hx hr => ?_
  cases hr
  refine ⟨(len64_eq x).trans ?_, rfl⟩
  have hx := okU_spec hx
  obtain ⟨x, rfl⟩ : ∃ n : Nat, x = n := ⟨x.toNat, by omega⟩
  rw [Int.toNat_natCast]
  have s32 : ∀ y : Nat, shr .u64 y 32 = ((y / 4294967296 : Nat) : Int) := fun y => shr_nat' y 32 (by decide) _ (by decide)
  have s16 : ∀ y : Nat, shr .u64 y 16 = ((y / 65536 : Nat) : Int) := fun y => shr_nat' y 16 (by decide) _ (by decide)
  have s8 : ∀ y : Nat, shr .u64 y 8 = ((y / 256 : Nat) : Int) := fun y => shr_nat' y 8 (by decide) _ (by decide)
  have l32 : ∀ y : Nat, 4294967296 ≤ y → lenN y = lenN (y / 4294967296) + 32 := fun y h => lenN_div (k := 32) h
  have l16 : ∀ y : Nat, 65536 ≤ y → lenN y = lenN (y / 65536) + 16 := fun y h => lenN_div (k := 16) h
  have l8 : ∀ y : Nat, 256 ≤ y → lenN y = lenN (y / 256) + 8 := fun y h => lenN_div (k := 8) h
  simp only [s32, s16, s8]
  have c : ∀ a b : Nat, decide ((a : Int) ≤ (b : Int)) = decide (a ≤ b) := fun a b => decide_eq_decide.2 (by omega)
  have c32 : decide ((4294967296 : Int) ≤ (x : Int)) = decide (4294967296 ≤ x) := c 4294967296 x
  have c16 : ∀ y : Nat, decide ((65536 : Int) ≤ (y : Int)) = decide (65536 ≤ y) := fun y => c 65536 y
  have c8 : ∀ y : Nat, decide ((256 : Int) ≤ (y : Int)) = decide (256 ≤ y) := fun y => c 256 y
  simp only [c32, c16, c8]
  by_cases h1 : 4294967296 ≤ x
  · rw [l32 x h1, decide_eq_true h1, cond_true]
    generalize hy : x / 4294967296 = y
    by_cases h2 : 65536 ≤ y
    · rw [l16 y h2, decide_eq_true h2, cond_true]
      generalize hz : y / 65536 = z
      by_cases h3 : 256 ≤ z
      · rw [l8 z h3, decide_eq_true h3, cond_true]
        exact (len8_of (n := 56) (by omega) (by omega)).trans (by congr 2)
      · rw [decide_eq_false h3, cond_false]
        exact (len8_of (n := 48) (by omega) (by omega)).trans (by congr 2)
    · rw [decide_eq_false h2, cond_false]
      by_cases h3 : 256 ≤ y
      · rw [l8 y h3, decide_eq_true h3, cond_true]
        exact (len8_of (n := 40) (by omega) (by omega)).trans (by congr 2)
      · rw [decide_eq_false h3, cond_false]
        exact (len8_of (n := 32) (by omega) (by omega)).trans (by congr 2)
  · rw [decide_eq_false h1, cond_false]
    by_cases h2 : 65536 ≤ x
    · rw [l16 x h2, decide_eq_true h2, cond_true]
      generalize hz : x / 65536 = z
      by_cases h3 : 256 ≤ z
      · rw [l8 z h3, decide_eq_true h3, cond_true]
        exact (len8_of (n := 24) (by omega) (by omega)).trans (by congr 2)
      · rw [decide_eq_false h3, cond_false]
        exact (len8_of (n := 16) (by omega) (by omega)).trans (by congr 2)
    · rw [decide_eq_false h2, cond_false]
      by_cases h3 : 256 ≤ x
      · rw [l8 x h3, decide_eq_true h3, cond_true]
        exact (len8_of (n := 8) (by omega) (by omega)).trans (by congr 2)
      · rw [decide_eq_false h3, cond_false]
        exact (len8_of (n := 0) (by omega) (by omega)).trans (by congr 2)
end Go.Ev
end
