/- Part 28 of 46 of what the theorem stands on. -/
import Derived.Test.YtkbfmpomeejadaaGreatDoorRemba

section
namespace Go.Ev
open Go.Proofs Go.RowKit
noncomputable def d8 : Base := (d7.with gWideJam).with gRest
theorem d8_ok : BaseOk d8 := (d7_ok.with wideJam_ok).with rest_ok
def roundCutN (w : Nat) (k m : Int) (n : Bool) : Nat × Bool :=
  bif decide (k < 0) || (decide (127 < k) || !decide (m ≤ 4)) then (0, false) else
    ((bif nextN m n (decide (w / 2 ^ (256 - k).toNat % 2 = 1)) (restN w k) then w / 2 ^ (256 - k).toNat + 1 else w / 2 ^ (256 - k).toNat), !decide (restN w k = 0))
noncomputable def gRoundCut : Ctr := ctr4 181 dW dI dF dT (fun w k m n => some (roundCutN w k m n)) rBT
noncomputable def qRoundCut : List Arg → Option (Nat × Bool) := gRoundCut.K
theorem qRoundCut_K {w : Nat} {k m : Int} {n : Bool} (h : w < 2 ^ 256) (hk : okS k = true) (hm : okB m = true) : qRoundCut [aW w, aI k, aF m, aT n] = some (roundCutN w k m n) := ctr4_K (a := dW) (b := dI) (c := dF) (d := dT) h hk hm trivial
theorem roundCut_eq (w : Nat) (k m : Int) (n : Bool) : funC (dat d8) 100 Tryz.f181 [aW w, aI k, aF m, aT n] some =
    bif decide (k < 0) then some (.tup [.agg [.int .u64 0, .int .u64 0], .one (.bool false)]) else bif decide (127 < k) then some (.tup [.agg [.int .u64 0, .int .u64 0], .one (.bool false)]) else (qModeKnown [aF m]).bind fun r =>
    bif !r then some (.tup [.agg [.int .u64 0, .int .u64 0], .one (.bool false)]) else (qWideRight [aW w, aI (IntKind.wrap .i64 (256 - k))]).bind fun r => (qRest [aW w, aI k]).bind fun r_1 =>
    (qModeNext [aF m, aT n, aT (decide (IntKind.wrap .u64 (BitVec.toNat (BitVec.ofInt 64 (wAt r 0) &&& BitVec.ofInt 64 1)) = 1)), aF r_1]).bind fun r_2 =>
    bif r_2 then (qAdd [aP (wAt r 1) (wAt r 0), aP 0 1]).bind fun r => some (.tup [bb r.1, .one (.bool !decide (r_1 = 0))]) else some (.tup [.agg [.int .u64 (wAt r 1), .int .u64 (wAt r 0)], .one (.bool !decide (r_1 = 0))]) := by kernel_rfl
theorem word_odd {w : Nat} (hw : w < 2 ^ 64) : decide (IntKind.wrap .u64 (BitVec.toNat (BitVec.ofInt 64 (w : Int) &&& BitVec.ofInt 64 1)) = 1) = decide (w % 2 = 1) := by
  have h := word_bit (w := w) hw (s := 0) (by decide) (by decide)
  have e : shr .u64 (w : Int) 0 = (w : Int) := by rw [show (0 : Int) = ((0 : Nat) : Int) from rfl, shr_nat w 0 (by decide), Nat.pow_zero, Nat.div_one]
  rw [e] at h
  rw [h, Int.toNat_zero, Nat.testBit_eq_decide_div_mod_eq, Nat.pow_zero, Nat.div_one]
theorem restN_ok (w : Nat) (k : Int) : okB (restN w k) = true := by
  unfold restN
  cases decide (k < 0) || decide (127 < k) <;> cases w.testBit (255 - k).toNat <;> cases lostN w (255 - k) <;> decide
theorem roundCut_ok : CtrOk Tryz.prog (dat d8) gRoundCut := by
  refine ctr4_ok d8_ok ⟨Tryz.func181, by kernel_rfl, by kernel_rfl⟩ 100 fun w k m n r hw hk hm _ hr => ?_
  cases hr
  refine ⟨(roundCut_eq w k m n).trans ?_, rfl⟩
  have hk' := okS_spec hk
  have hw : w < 2 ^ 256 := hw
  unfold roundCutN
  rw [bb_zero]
  by_cases h0 : k < 0
  · rw [decide_eq_true h0]; rfl
  · rw [decide_eq_false h0]
    by_cases h1 : 127 < k
    · rw [decide_eq_true h1]; rfl
    · rw [decide_eq_false h1, qModeKnown_K hm, Option.bind_some]
      cases hmk : decide (m ≤ 4) with
      | false => rfl
      | true =>
        simp only [cond_false, Bool.not_true, Bool.or_false]
        rw [i64w _ (by omega) (by omega), qWideRight_K hw, Option.bind_some, qRest_K hw hk, Option.bind_some, wideRight_all hw]
        have hfl : w / 2 ^ (256 - k).toNat < 2 ^ 127 := by
          rw [Nat.div_lt_iff_lt_mul (Nat.two_pow_pos _), ← Nat.pow_add]
          exact Nat.lt_of_lt_of_le hw (Nat.pow_le_pow_right (by decide) (by omega))
        have h127 : (2 : Nat) ^ 127 = 170141183460469231731687303715884105728 := by decide
        rw [h127] at hfl
        generalize w / 2 ^ (256 - k).toNat = fl at *
        have e1 : FV.agg [.int .u64 (wAt fl 1), .int .u64 (wAt fl 0)] = bb fl := by
          rw [bb_low, Nat.mod_eq_of_lt (by omega)]
        have e2 : aP (wAt fl 1) (wAt fl 0) = aB fl := congrArg Arg.fv e1
        have e3 : decide (IntKind.wrap .u64 (BitVec.toNat (BitVec.ofInt 64 (wAt fl 0) &&& BitVec.ofInt 64 1)) = 1) = decide (fl % 2 = 1) := by
          rw [wA0, word_odd (by rw [p64]; omega)]
          exact decide_eq_decide.2 (by omega)
        rw [e1, e2, e3, aP_one, qModeNext_K hm _ _ (restN_ok w k), Option.bind_some, qAdd_K (by rw [p128]; omega) (by decide), Option.bind_some]
        have e4 : (addN fl 1).1 = fl + 1 := Nat.mod_eq_of_lt (by rw [p128]; omega)
        rw [e4]
        cases nextN m n (decide (fl % 2 = 1)) (restN w k) <;> rfl
theorem roundCutN_lt {w : Nat} (hw : w < 2 ^ 256) (k m : Int) (n : Bool) : (roundCutN w k m n).1 < 2 ^ 128 := by
  unfold roundCutN
  by_cases h0 : k < 0
  · rw [decide_eq_true h0]; exact Nat.two_pow_pos 128
  · rw [decide_eq_false h0]
    by_cases h1 : 127 < k
    · rw [decide_eq_true h1]; exact Nat.two_pow_pos 128
    · rw [decide_eq_false h1]
      have hfl : w / 2 ^ (256 - k).toNat < 2 ^ 127 := by
        rw [Nat.div_lt_iff_lt_mul (Nat.two_pow_pos _), ← Nat.pow_add]
        exact Nat.lt_of_lt_of_le hw (Nat.pow_le_pow_right (by decide) (by omega))
      have h128 : 2 ^ 127 + 2 ^ 127 = 2 ^ 128 := by decide
      have h127 : 1 ≤ 2 ^ 127 := by decide
      generalize w / 2 ^ (256 - k).toNat = fl at *
      cases decide (m ≤ 4)
      · exact Nat.two_pow_pos 128
      · cases nextN m n (decide (fl % 2 = 1)) (restN w k)
        · show fl < 2 ^ 128; omega
        · show fl + 1 < 2 ^ 128; omega
def putN (f : Int) (n : Bool) (e : Int) (b : Nat) : Nat := makeN f n (bif decide (e = 0) && bitN b (fmtP f - 1) then 1 else e) b
noncomputable def gPut : Ctr := ctr4 186 dF dT dI dB (fun f n e b => some (putN f n e b)) rB
noncomputable def qPut : List Arg → Option Nat := gPut.K
theorem qPut_K {f e : Int} {n : Bool} {b : Nat} (hf : okB f = true) (he : okS e = true) (hb : b < 2 ^ 128) : qPut [aF f, aT n, aI e, aB b] = some (putN f n e b) := ctr4_K (a := dF) (b := dT) (c := dI) (d := dB) hf trivial he hb
theorem put_eq (f : Int) (n : Bool) (e : Int) (b : Nat) : funC (dat d8) 100 Tryz.f186 [aF f, aT n, aI e, aB b] some =
    bif decide (e = 0) then (qPrec [aF f]).bind fun r => (qBit [aB b, aI (IntKind.wrap .i64 (r - 1))]).bind fun r => bif r then (qMake [aF f, aT n, aI 1, aB b]).bind fun r => some (rB r) else (qMake [aF f, aT n, aI e, aB b]).bind fun r => some (rB r)
    else (qMake [aF f, aT n, aI e, aB b]).bind fun r => some (rB r) := by kernel_rfl
theorem put_ok : CtrOk Tryz.prog (dat d8) gPut := by
  refine ctr4_ok d8_ok ⟨Tryz.func186, by kernel_rfl, by kernel_rfl⟩ 100 fun f n e b r hf _ he hb hr => ?_
  cases hr
  refine ⟨(put_eq f n e b).trans ?_, rfl⟩
  have h := fmt_le hf
  rw [qPrec_K hf, Option.bind_some, i64w _ (by omega) (by omega), qBit_K hb (okS_of (by omega) (by omega)), Option.bind_some, qMake_K hf (okS_of (by omega) (by omega)) hb, qMake_K hf he hb]
  unfold putN
  cases decide (e = 0) <;> cases bitN b (fmtP f - 1) <;> rfl
def overN (f m : Int) (n : Bool) : Nat × Int := bif !decide (f < 4) || !decide (m ≤ 4) then (0, 0) else (bif nextN m n true 3 then infN f n else maxN f n, 20)
def overK (f m : Int) (n : Bool) : Option (Nat × Int) := some (overN f m n)
noncomputable def rRes (r : Nat × Int) : AV := .fv (resF r.1 r.2)
noncomputable def gOver : Ctr := ctr3 184 dF dF dT overK rRes
noncomputable def qOver : List Arg → Option (Nat × Int) := gOver.K
theorem qOver_K {f m : Int} {n : Bool} (hf : okB f = true) (hm : okB m = true) : qOver [aF f, aF m, aT n] = overK f m n := ctr3_K (a := dF) (b := dF) (c := dT) hf hm trivial
noncomputable def resNo : Option AV := some (.fv (.agg [.int .u64 0, .int .u64 0, .int .u8 0]))
theorem resNo_eq : resNo = some (rRes (0, 0)) := by
  unfold resNo rRes resF
  rw [hiW_zero, loW_zero]
noncomputable def d8o : Base := d8.fun_ [(248, Tryz.f248), (250, Tryz.f250), (252, Tryz.f252)]
theorem d8o_ok : BaseOk d8o := d8_ok.fun_ (by
  intro x hx
  simp only [List.mem_cons, List.not_mem_nil, or_false] at hx
  rcases hx with rfl | rfl | rfl
  · exact ⟨Tryz.func248, by kernel_rfl, by kernel_rfl⟩
  · exact ⟨Tryz.func250, by kernel_rfl, by kernel_rfl⟩
  · exact ⟨Tryz.func252, by kernel_rfl, by kernel_rfl⟩)
theorem over_eq (f m : Int) (n : Bool) : funC (dat d8o) 100 Tryz.f184 [aF f, aF m, aT n] some = (qKnown [aF f]).bind fun r => bif !r then resNo else (qModeKnown [aF m]).bind fun r => bif !r then resNo else
    (qModeNext [aF m, aT n, aT true, aF 3]).bind fun r => bif r then (qInf [aF f, aT n]).bind fun r => some (rRes (r, 20)) else (qMax [aF f, aT n]).bind fun r => some (rRes (r, 20)) := by kernel_rfl
theorem over_ok : CtrOk Tryz.prog (dat d8) gOver := by
  show CtrOk Tryz.prog (dat d8o) gOver
  refine ctr3_ok d8o_ok ⟨Tryz.func184, by kernel_rfl, by kernel_rfl⟩ 100 fun f m n r hf hm _ hr => ?_
  cases hr
  refine ⟨(over_eq f m n).trans ?_, rfl⟩
  have hm : okB m = true := hm
  rw [qKnown_K hf, Option.bind_some, qModeKnown_K hm, Option.bind_some, qModeNext_K hm n true (by decide), Option.bind_some, qInf_K hf n, Option.bind_some, qMax_K hf n, Option.bind_some, resNo_eq]
  unfold overN
  cases decide (f < 4) <;> cases decide (m ≤ 4) <;> cases nextN m n true 3 <;> rfl
noncomputable def d9 : Base := (((d8.with gRoundCut).with gPut).with gOver).fun_ [(179, Tryz.f179), (180, Tryz.f180), (182, Tryz.f182), (183, Tryz.f183)]
theorem d9_ok : BaseOk d9 := (((d8_ok.with roundCut_ok).with put_ok).with over_ok).fun_ (by
  intro x hx
  simp only [List.mem_cons, List.not_mem_nil, or_false] at hx
  rcases hx with rfl | rfl | rfl | rfl
  · exact ⟨Tryz.func179, by kernel_rfl, by kernel_rfl⟩
  · exact ⟨Tryz.func180, by kernel_rfl, by kernel_rfl⟩
  · exact ⟨Tryz.func182, by kernel_rfl, by kernel_rfl⟩
  · exact ⟨Tryz.func183, by kernel_rfl, by kernel_rfl⟩)
/-- A mode, and whether smallness is told after rounding. -/
def dE : Dec (Int × Bool) where
  dec := fun | .fv (.agg [.int .u8 m, .bool a]) => bif okB m then some (m, a) else none | _ => none
  enc := fun p => .fv (.agg [.int .u8 p.1, .bool p.2])
  ok := fun p => okB p.1 = true
  inv := by
    intro x a h
    split at h
    · obtain ⟨h1, h2⟩ := bif_inv h
      cases h2
      exact ⟨rfl, h1⟩
    · cases h
  back := by
    intro a h
    show (bif okB a.1 then some (a.1, a.2) else none) = some a
    rw [h]; rfl
abbrev aE (m : Int) (a : Bool) : Arg := .fv (.agg [.int .u8 m, .bool a])
/-- The exponent of a number's first bit, as rounding holds it. -/
def expOf (e : Int) (w : Nat) : Int := max (-1099511627776) (min e 1099511627776) - (wraiseN w).2
def flagsN (i t : Bool) : Int := bif i then (bif t then 24 else 16) else 0
def roundK (f m : Int) (af n : Bool) (e : Int) (w : Nat) : Option (Nat × Int) :=
  bif !decide (f < 4) || !decide (m ≤ 4) then some (0, 0) else
  bif decide (w = 0) then some (makeN f n 0 0, 0) else
  let x := expOf e w
  let c := roundCutN (wraiseN w).1 (fmtP f) m n
  let e1 := bif bitN c.1 (fmtP f) then x + 1 else x
  bif decide (fmtX f < e1) then overK f m n else
  let t := decide (x < 1 - fmtX f) && (!af || decide (e1 < 1 - fmtX f))
  bif decide (x < 1 - fmtX f) then
    let c2 := roundCutN (jamN (wraiseN w).1 (1 - fmtX f - x)) (fmtP f) m n
    some (putN f n 0 c2.1, flagsN c2.2 t)
  else some (putN f n (e1 - (1 - fmtX f) + 1) c.1, flagsN c.2 t)
noncomputable def gRound : Ctr := ctr5 108 dF dE dT dI dW (fun f v n e w => roundK f v.1 v.2 n e w) rRes
noncomputable def qRound : List Arg → Option (Nat × Int) := gRound.K
theorem qRound_K {f m e : Int} {af n : Bool} {w : Nat} (hf : okB f = true) (hm : okB m = true) (he : okS e = true) (hw : w < 2 ^ 256) : qRound [aF f, aE m af, aT n, aI e, aW w] = roundK f m af n e w :=
  ctr5_K (a := dF) (b := dE) (c := dT) (d := dI) (e := dW) (y := (m, af)) hf hm trivial he hw
noncomputable def rndRes (b : Nat) (i t : Bool) : Option AV := bif i then (bif t then some (rRes (b, 24)) else some (rRes (b, 16))) else some (rRes (b, 0))
noncomputable def rndTail (f m : Int) (n : Bool) (w : Nat) (p x L : Int) (c : Nat × Bool) (e1 : Int) (t : Bool) : Option AV :=
  bif decide (x < L) then (qWideJam [aW w, aI (IntKind.wrap .i64 (L - x))]).bind fun q => (qRoundCut [aW q, aI p, aF m, aT n]).bind fun c => (qPut [aF f, aT n, aI 0, aB c.1]).bind fun b => rndRes b c.2 t
  else (qPut [aF f, aT n, aI (IntKind.wrap .i64 (IntKind.wrap .i64 (e1 - L) + 1)), aB c.1]).bind fun b => rndRes b c.2 t
noncomputable def rndEnd (f m : Int) (af n : Bool) (w : Nat) (p x L : Int) (c : Nat × Bool) (e1 : Int) : Option AV :=
  bif decide (x < L) then (bif !af then rndTail f m n w p x L c e1 true else rndTail f m n w p x L c e1 (decide (e1 < L))) else rndTail f m n w p x L c e1 false
noncomputable def rndMid (f m : Int) (af n : Bool) (w : Nat) (p x L : Int) (c : Nat × Bool) (e1 : Int) : Option AV :=
  (qKnown [aF f]).bind fun r_5 => bif r_5 then (qEmax [aF f]).bind fun r_6 => bif decide (r_6 < e1) then (qOver [aF f, aF m, aT n]).bind fun r => some (rRes r) else rndEnd f m af n w p x L c e1 else rndEnd f m af n w p x L c e1
theorem round_eq (f m : Int) (af n : Bool) (e : Int) (w : Nat) : funC (dat d9) 200 Tryz.f108 [aF f, aE m af, aT n, aI e, aW w] some = (qKnown [aF f]).bind fun r =>
    bif !r then resNo else (qModeKnown [aF m]).bind fun r => bif !r then resNo else (qWideZero [aW w]).bind fun r =>
    bif r then (qNought [aF f, aT n]).bind fun r => some (rRes (r, 0)) else (qWideRaise [aW w]).bind fun r => (qPrec [aF f]).bind fun r_1 => (qEmax [aF f]).bind fun r_2 => (qRoundCut [aW r.1, aI r_1, aF m, aT n]).bind fun r_3 => (qBit [aB r_3.1, aI r_1]).bind fun r_4 =>
    bif r_4 then rndMid f m af n r.1 r_1 (IntKind.wrap .i64 (mx (-1099511627776) (mn e 1099511627776) - r.2)) (IntKind.wrap .i64 (1 - r_2)) r_3 (IntKind.wrap .i64 (IntKind.wrap .i64 (mx (-1099511627776) (mn e 1099511627776) - r.2) + 1))
    else rndMid f m af n r.1 r_1 (IntKind.wrap .i64 (mx (-1099511627776) (mn e 1099511627776) - r.2)) (IntKind.wrap .i64 (1 - r_2)) r_3 (IntKind.wrap .i64 (mx (-1099511627776) (mn e 1099511627776) - r.2)) := by kernel_rfl
theorem rndRes_eq (b : Nat) (i t : Bool) : rndRes b i t = some (rRes (b, flagsN i t)) := by cases i <;> cases t <;> rfl
theorem wraiseN_lt {w : Nat} (hw : w < 2 ^ 256) : (wraiseN w).1 < 2 ^ 256 ∧ 0 ≤ (wraiseN w).2 ∧ (wraiseN w).2 ≤ 256 := by
  unfold wraiseN
  cases decide (w = 0)
  · simp only [cond_false]
    exact ⟨raised_lt hw, by have := lenN_le hw; omega, by omega⟩
  · simp only [cond_true]
    exact ⟨Nat.two_pow_pos 256, by decide, by decide⟩
theorem rndTail_eq {f m : Int} (hf : okB f = true) (hm : okB m = true) (n : Bool) {w : Nat} (hw : w < 2 ^ 256) {x L : Int} (hx : -1099511628032 ≤ x ∧ x ≤ 1099511627776) (hL : -16382 ≤ L ∧ L ≤ 1)
    (c : Nat × Bool) (hc : c.1 < 2 ^ 128) {e1 : Int} (h1 : x ≤ e1 ∧ e1 ≤ 16383) (t : Bool) :
    rndTail f m n w (fmtP f) x L c e1 t = some (rRes (bif decide (x < L) then (putN f n 0 (roundCutN (jamN w (L - x)) (fmtP f) m n).1, flagsN (roundCutN (jamN w (L - x)) (fmtP f) m n).2 t) else (putN f n (e1 - L + 1) c.1, flagsN c.2 t))) := by
  have h := fmt_le hf
  unfold rndTail
  by_cases hlt : x < L
  · rw [decide_eq_true hlt, cond_true, cond_true, i64w _ (by omega) (by omega), qWideJam_K hw, Option.bind_some, qRoundCut_K (jamN_lt hw _) (okS_of (by omega) (by omega)) hm, Option.bind_some,
      qPut_K hf (okS_of (by omega) (by omega)) (roundCutN_lt (jamN_lt hw _) _ _ _), Option.bind_some, rndRes_eq]
  · rw [decide_eq_false hlt, cond_false, cond_false, i64w (e1 - L) (by omega) (by omega), i64w _ (by omega) (by omega), qPut_K hf (okS_of (by omega) (by omega)) hc, Option.bind_some, rndRes_eq]
theorem rndMid_eq {f m : Int} (hf : okB f = true) (hk : f < 4) (hm : okB m = true) (af n : Bool) {w : Nat} (hw : w < 2 ^ 256) {x : Int} (hx : -1099511628032 ≤ x ∧ x ≤ 1099511627776)
    (c : Nat × Bool) (hc : c.1 < 2 ^ 128) {e1 : Int} (h1 : x ≤ e1) {r : Nat × Int}
    (hr : (bif decide (fmtX f < e1) then overK f m n else
      let t := decide (x < 1 - fmtX f) && (!af || decide (e1 < 1 - fmtX f))
      bif decide (x < 1 - fmtX f) then
        let c2 := roundCutN (jamN w (1 - fmtX f - x)) (fmtP f) m n
        some (putN f n 0 c2.1, flagsN c2.2 t)
      else some (putN f n (e1 - (1 - fmtX f) + 1) c.1, flagsN c.2 t)) = some r) :
    rndMid f m af n w (fmtP f) x (1 - fmtX f) c e1 = some (rRes r) := by
  have h := fmt_le hf
  unfold rndMid
  rw [qKnown_K hf, decide_eq_true hk, Option.bind_some, cond_true, qEmax_K hf, Option.bind_some]
  by_cases hb : fmtX f < e1
  · rw [decide_eq_true hb] at hr ⊢
    cases hr
    rw [cond_true, qOver_K hf hm]
    rfl
  · rw [decide_eq_false hb] at hr ⊢
    simp only [cond_false] at hr ⊢
    unfold rndEnd
    rw [rndTail_eq hf hm n hw hx (by omega) c hc (by omega), rndTail_eq hf hm n hw hx (by omega) c hc (by omega), rndTail_eq hf hm n hw hx (by omega) c hc (by omega)]
    cases hlt : decide (x < 1 - fmtX f) <;> rw [hlt] at hr <;> cases af <;> simp only [cond_true, cond_false, Bool.not_true, Bool.not_false, Bool.true_and, Bool.false_and, Bool.true_or, Bool.false_or] at hr ⊢ <;> cases hr <;> rfl
theorem round_ok : CtrOk Tryz.prog (dat d9) gRound := by
  refine ctr5_ok d9_ok ⟨Tryz.func108, by kernel_rfl, by kernel_rfl⟩ 200 fun f v n e w r hf hm _ he hw hr => ?_
  obtain ⟨m, af⟩ := v
  refine ⟨(round_eq f m af n e w).trans ?_, rfl⟩
  have hm : okB m = true := hm
  have he := okS_spec he
  have h := fmt_le hf
  have hw : w < 2 ^ 256 := hw
  have hr : roundK f m af n e w = some r := hr
  unfold roundK at hr
  rw [qKnown_K hf, Option.bind_some, qModeKnown_K hm, Option.bind_some, resNo_eq]
  by_cases hk : f < 4
  · rw [decide_eq_true hk] at hr ⊢
    cases hmk : decide (m ≤ 4) with
    | false => rw [hmk] at hr; cases hr; rfl
    | true =>
      rw [hmk] at hr
      simp only [Bool.not_true, cond_false, Bool.or_false] at hr ⊢
      rw [qWideZero_K hw, Option.bind_some]
      by_cases h0 : w = 0
      · rw [decide_eq_true h0] at hr ⊢
        rw [cond_true] at hr ⊢
        cases hr
        rw [qNought_K hf, Option.bind_some]
      · rw [decide_eq_false h0] at hr ⊢
        rw [cond_false] at hr ⊢
        have hw1 := wraiseN_lt hw
        have hx : mx (-1099511627776) (mn e 1099511627776) - (wraiseN w).2 = expOf e w := by rw [mx_eq, mn_eq]; rfl
        have hx2 : -1099511628032 ≤ expOf e w ∧ expOf e w ≤ 1099511627776 := by unfold expOf; omega
        rw [qWideRaise_K hw, Option.bind_some, qPrec_K hf, Option.bind_some, qEmax_K hf, Option.bind_some, qRoundCut_K hw1.1 (okS_of (by omega) (by omega)) hm, Option.bind_some,
          qBit_K (roundCutN_lt hw1.1 _ _ _) (okS_of (by omega) (by omega)), Option.bind_some, hx, i64w (expOf e w) (by omega) (by omega), i64w (expOf e w + 1) (by omega) (by omega), i64w (1 - fmtX f) (by omega) (by omega)]
        cases hb : bitN (roundCutN (wraiseN w).1 (fmtP f) m n).1 (fmtP f) with
        | false =>
          rw [hb] at hr
          exact rndMid_eq hf hk hm af n hw1.1 hx2 _ (roundCutN_lt hw1.1 _ _ _) (by omega) hr
        | true =>
          rw [hb] at hr
          exact rndMid_eq hf hk hm af n hw1.1 hx2 _ (roundCutN_lt hw1.1 _ _ _) (by omega) hr
  · rw [decide_eq_false hk] at hr ⊢
    cases hr
    rfl
noncomputable def e1 : Base := d9.with gRound
theorem e1_ok : BaseOk e1 := d9_ok.with round_ok
def exactK (f : Int) (n : Bool) (e : Int) (w : Nat) : Option (Nat × Bool) :=
  (roundK f 4 false n e w).bind fun r => some (bif !decide (f < 4) || !decide (r.2 = 0) then (0, false) else (r.1, true))
noncomputable def gExact : Ctr := ctr4 49 dF dT dI dW exactK rBT
noncomputable def qExact : List Arg → Option (Nat × Bool) := gExact.K
theorem qExact_K {f e : Int} {n : Bool} {w : Nat} (hf : okB f = true) (he : okS e = true) (hw : w < 2 ^ 256) : qExact [aF f, aT n, aI e, aW w] = exactK f n e w := ctr4_K (a := dF) (b := dT) (c := dI) (d := dW) hf trivial he hw
theorem exact_eq (f : Int) (n : Bool) (e : Int) (w : Nat) : funC (dat e1) 100 Tryz.f49 [aF f, aT n, aI e, aW w] some = (qRound [aF f, aE 4 false, aT n, aI e, aW w]).bind fun r => (qKnown [aF f]).bind fun r_1 =>
    bif !r_1 then some (.tup [.agg [.int .u64 0, .int .u64 0], .one (.bool false)]) else bif !decide (r.2 = 0) then some (.tup [.agg [.int .u64 0, .int .u64 0], .one (.bool false)]) else some (.tup [bb r.1, .one (.bool true)]) := by kernel_rfl
theorem exact_ok : CtrOk Tryz.prog (dat e1) gExact := by
  refine ctr4_ok e1_ok ⟨Tryz.func49, by kernel_rfl, by kernel_rfl⟩ 100 fun f n e w r hf _ he hw hr => ?_
  refine ⟨(exact_eq f n e w).trans ?_, rfl⟩
  obtain ⟨q, hq, hr⟩ := bind_inv hr
  cases hr
  rw [qRound_K hf (by decide) he hw, hq, Option.bind_some, qKnown_K hf, Option.bind_some, bb_zero]
  cases decide (f < 4) <;> cases decide (q.2 = 0) <;> rfl
end Go.Ev
end

section
namespace Go.Ev
open Go.Proofs Go.RowKit
noncomputable def e2 : Base := e1.with gExact
theorem e2_ok : BaseOk e2 := e1_ok.with exact_ok
theorem even_or_one (y : Nat) : 2 * y ||| 1 = 2 * y + 1 := by
  refine Nat.eq_of_testBit_eq fun k => ?_
  rw [Nat.testBit_or]
  cases k with
  | zero => simp [Nat.testBit_zero]
  | succ k =>
    rw [Nat.testBit_succ, Nat.testBit_succ, Nat.testBit_succ]
    have e1 : 2 * y / 2 = y := by omega
    have e2 : (2 * y + 1) / 2 = y := by omega
    rw [e1, e2]
    simp
/-- A bit, as a word. -/
def stepN (r : Nat) (b : Int) (d : Nat) : Nat × Bool := bif decide (d ≤ 2 * r + b.toNat) then (2 * r + b.toNat - d, true) else (2 * r + b.toNat, false)
noncomputable def gNext : Ctr := ctr3 177 dB dX dB (fun r b d => bif decide (r < d) && decide (b ≤ 1) then some (stepN r b d) else none) rBT
noncomputable def qNext : List Arg → Option (Nat × Bool) := gNext.K
theorem qNext_K {r d : Nat} {b : Int} (hr : r < 2 ^ 128) (hb : okU b = true) (hd : d < 2 ^ 128) (h : r < d) (hb1 : b ≤ 1) : qNext [aB r, aU b, aB d] = some (stepN r b d) := by
  refine (ctr3_K (a := dB) (b := dX) (c := dB) hr hb hd).trans ?_
  rw [decide_eq_true h, decide_eq_true hb1]
  rfl
theorem next_eq (r : Nat) (b : Int) (d : Nat) : funC (dat e2) 100 Tryz.f177 [aB r, aU b, aB d] some = (qAdd [aB r, aB r]).bind fun q => (qSub [aP (hiW q.1) (wOr (loW q.1) b), aB d]).bind fun s =>
    bif q.2 then some (.tup [bb s.1, .one (.bool true)]) else bif !s.2 then some (.tup [bb s.1, .one (.bool true)]) else some (.tup [.agg [.int .u64 (hiW q.1), .int .u64 (wOr (loW q.1) b)], .one (.bool false)]) := by kernel_rfl
theorem or_bit {x : Nat} (hx : x % 2 = 0) {b : Int} (h0 : 0 ≤ b) (h1 : b ≤ 1) : FV.agg [.int .u64 (hiW x), .int .u64 (wOr (loW x) b)] = bb (x + b.toNat) := by
  have hb : b = 0 ∨ b = 1 := by omega
  have hw := wordAt_lt x 0
  rcases hb with rfl | rfl
  · refine bb_of (by simp) ?_
    rw [loW_word, show (0 : Int) = ((0 : Nat) : Int) from rfl, wOr_nat _ _ hw (by decide), Nat.or_zero, Int.toNat_natCast, Nat.add_zero, loW_word]
  · have e : x ||| 1 = x + 1 := by
      have := even_or_one (x / 2)
      have h2 : 2 * (x / 2) = x := by omega
      rw [h2] at this
      exact this
    have e1 : x + (1 : Int).toNat = x ||| 1 := by rw [e]; rfl
    rw [e1]
    refine bb_of ?_ ?_
    · rw [hiW_word, hiW_word, wordAt_or, wordAt_small (a := 1) (by decide) (by decide), Nat.or_zero]
    · rw [loW_word, loW_word, wOr_one _ hw, wordAt_or]
      rfl
theorem next_ok : CtrOk Tryz.prog (dat e2) gNext := by
  refine ctr3_ok e2_ok ⟨Tryz.func177, by kernel_rfl, by kernel_rfl⟩ 100 fun r b d z hr hb hd hz => ?_
  obtain ⟨hc, hz⟩ := bif_inv hz
  simp only [Bool.and_eq_true, decide_eq_true_eq] at hc
  cases hz
  refine ⟨(next_eq r b d).trans ?_, rfl⟩
  have hr : r < 340282366920938463463374607431768211456 := hr
  have hd : d < 340282366920938463463374607431768211456 := hd
  have hb := okU_spec hb
  rw [qAdd_K (by rw [p128]; omega) (by rw [p128]; omega), Option.bind_some]
  have e1 : (addN r r).1 % 2 = 0 := by unfold addN; rw [p128]; simp only; omega
  have e2 := or_bit e1 hb.1 hc.2
  have e3 : aP (hiW (addN r r).1) (wOr (loW (addN r r).1) b) = aB ((addN r r).1 + b.toNat) := congrArg Arg.fv e2
  have hlt : (addN r r).1 + b.toNat < 2 ^ 128 := by unfold addN; rw [p128]; simp only; omega
  rw [e2, e3, qSub_K hlt (by rw [p128]; omega), Option.bind_some]
  unfold stepN rBT
  have e4 : (addN r r).2 = decide (340282366920938463463374607431768211456 ≤ r + r) := by unfold addN; rw [p128]
  have e5 : (addN r r).1 = (r + r) % 340282366920938463463374607431768211456 := by unfold addN; rw [p128]
  rw [e4, e5]
  unfold subN
  rw [p128]
  simp only
  by_cases h1 : 340282366920938463463374607431768211456 ≤ r + r
  · rw [decide_eq_true h1, decide_eq_true (by omega : d ≤ 2 * r + b.toNat), decide_eq_true (by omega : (r + r) % 340282366920938463463374607431768211456 + b.toNat < d)]
    simp only [cond_true]
    congr 4
    omega
  · have e6 : (r + r) % 340282366920938463463374607431768211456 + b.toNat = 2 * r + b.toNat := by omega
    rw [decide_eq_false h1, e6]
    by_cases h2 : d ≤ 2 * r + b.toNat
    · rw [decide_eq_true h2, decide_eq_false (by omega : ¬ 2 * r + b.toNat < d)]
      rfl
    · rw [decide_eq_false h2, decide_eq_true (by omega : 2 * r + b.toNat < d)]
      rfl
end Go.Ev
end
