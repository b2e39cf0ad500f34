/- Part 41 of 46 of what the theorem stands on. -/
import Derived.Test.YtkbfmpomeejadaaGreatDoorRembn
import Derived.Test.YtkbfmpomeejadaaGreatDoorRembb

section
namespace Go.Ev
open Go.Proofs Go.RowKit
noncomputable def h5 : Base := h4.with rSpl
theorem h5_ok : BaseOk h5 := h4_ok.with rSpl_ok
noncomputable def rMake : Ctr := ctr4 116 dF dT dI dM (fun f n e m => bif decide (lenN m ≤ 500000) then some (makeN f n e m) else none) rB
noncomputable def qRmake : List Arg → Option Nat := rMake.K
theorem qRmake_K {f e : Int} {n : Bool} {m : Nat} (hf : okB f = true) (he : okS e = true) (hm : m < 2 ^ 500000) : qRmake [aF f, aT n, aI e, aN m] = some (makeN f n e m) := by
  refine (ctr4_K (a := dF) (b := dT) (c := dI) (d := dM) hf trivial he (nd_bits hm (by decide))).trans ?_
  rw [decide_eq_true (lenN_le hm)]; rfl
noncomputable def rmTail (f : Int) (n : Bool) (m : Nat) (x : Int) : Option AV :=
  (qNof [aU x]).bind fun r => (qRwidth [aF f]).bind fun r_1 => (qRprec [aF f]).bind fun r_2 => (qNcut [aN r, aI (IntKind.wrap .i64 (r_1 - r_2))]).bind fun r => (qRprec [aF f]).bind fun r_3 => (qNshl [aN r, aI (IntKind.wrap .i64 (r_3 - 1))]).bind fun r =>
  (qRprec [aF f]).bind fun r_4 => (qNcut [aN m, aI (IntKind.wrap .i64 (r_4 - 1))]).bind fun r_5 => (qNadd [aN r, aN r_5]).bind fun r =>
  bif n then (qRwidth [aF f]).bind fun r_6 => (qNfull [aI (IntKind.wrap .i64 (r_6 - 1))]).bind fun r_7 => (qNadd [aN r, aN r_7]).bind fun r => (qNbits [aN r]).bind fun r => some (rB r) else (qNbits [aN r]).bind fun r => some (rB r)
theorem rmake_eq (f : Int) (n : Bool) (e : Int) (m : Nat) : funC (dat h5) 100 Tryz.f116 [aF f, aT n, aI e, aN m] some = (qRwidth [aF f]).bind fun r =>
    bif decide (r = 0) then some (.fv (.agg [.int .u64 0, .int .u64 0])) else bif decide (e < 0) then rmTail f n m 0 else bif decide (1048576 < e) then rmTail f n m 0 else rmTail f n m (IntKind.wrap .u64 e) := by kernel_rfl
theorem rmTail_eq {f : Int} (hf : okB f = true) (h0 : fmtW f ≠ 0) (n : Bool) {m : Nat} (hm : m < 2 ^ 500000) {x : Nat} (hx : x ≤ 1048576) :
    rmTail f n m (x : Int) = some (rB (x % 2 ^ (fmtW f - fmtP f).toNat * 2 ^ (fmtP f - 1).toNat + m % 2 ^ (fmtP f - 1).toNat + (bif n then 2 ^ (fmtW f - 1).toNat else 0))) := by
  have h := fmt_le hf
  have h1 := (fmt_small hf).2.2.2 h0
  have hx128 : x < 2 ^ 128 := Nat.lt_of_le_of_lt hx (by decide)
  have hk : (fmtW f - 1).toNat = (fmtW f - fmtP f).toNat + (fmtP f - 1).toNat := by omega
  have hy := Nat.mod_lt m (Nat.two_pow_pos (fmtP f - 1).toNat)
  have hz := Nat.mod_lt x (Nat.two_pow_pos (fmtW f - fmtP f).toNat)
  have hj := join_lt hz hy
  rw [← hk] at hj
  have h127 : 2 ^ (fmtW f - 1).toNat ≤ 2 ^ 127 := Nat.pow_le_pow_right (by decide) (by omega)
  have h128 : 2 ^ 127 + 2 ^ 127 = 2 ^ 128 := by decide
  have hp := Nat.two_pow_pos (fmtW f - 1).toNat
  unfold rmTail
  simp only [qRwidth_K hf, qRprec_K hf, Option.bind_some]
  rw [qNof_K (okU_of (by omega) (by omega)), Option.bind_some, Int.toNat_natCast, i64w (fmtW f - fmtP f) (by omega) (by omega), i64w (fmtP f - 1) (by omega) (by omega), i64w (fmtW f - 1) (by omega) (by omega),
    qNcut_K (lt500 hx128) (by omega) (by omega), Option.bind_some]
  have hz128 : x % 2 ^ (fmtW f - fmtP f).toNat < 2 ^ 128 := Nat.lt_of_le_of_lt (Nat.mod_le _ _) hx128
  rw [qNshl_K (nd_128 hz128) (by omega) (by omega), Option.bind_some, qNcut_K hm (by omega) (by omega), Option.bind_some]
  generalize x % 2 ^ (fmtW f - fmtP f).toNat * 2 ^ (fmtP f - 1).toNat = u at *
  generalize m % 2 ^ (fmtP f - 1).toNat = v at *
  rw [qNadd_K (nd_128 (by omega)) (nd_128 (by omega)), Option.bind_some]
  cases n with
  | false =>
    simp only [cond_false]
    rw [qNbits_K (nd_128 (by omega)), Option.bind_some, Nat.mod_eq_of_lt (by omega), Nat.add_zero]
  | true =>
    simp only [cond_true]
    rw [qNfull_K (by omega) (by omega), Option.bind_some, qNadd_K (nd_128 (by omega)) (nd_128 (by omega)), Option.bind_some, qNbits_K (nd_128 (by omega)), Option.bind_some, Nat.mod_eq_of_lt (by omega)]
theorem rMake_ok : CtrOk Tryz.prog (dat h5) rMake := by
  refine ctr4_ok h5_ok ⟨Tryz.func116, by kernel_rfl, by kernel_rfl⟩ 100 fun f n e m r hf _ he hm hr => ?_
  obtain ⟨hc, hr⟩ := bif_inv hr
  have hc : lenN m ≤ 500000 := of_decide_eq_true hc
  cases hr
  have hm := pow_up (lenN m) 500000 (lenN_lt m) hc
  have he' := okS_spec he
  refine ⟨(rmake_eq f n e m).trans ?_, rfl⟩
  rw [qRwidth_K hf, Option.bind_some]
  unfold makeN
  by_cases h0 : fmtW f = 0
  · simp only [decide_eq_true h0, cond_true]
    rw [bb_zero]
    rfl
  · simp only [decide_eq_false h0, cond_false]
    unfold expN
    have hz := rmTail_eq hf h0 n hm (x := 0) (by decide)
    by_cases h1 : e < 0
    · simp only [decide_eq_true h1, cond_true, Bool.true_or]
      exact hz
    · by_cases h2 : 1048576 < e
      · simp only [decide_eq_false h1, decide_eq_true h2, cond_true, cond_false, Bool.or_true]
        exact hz
      · simp only [decide_eq_false h1, decide_eq_false h2, cond_false, Bool.or_false]
        have e3 : IntKind.wrap .u64 e = ((e.toNat : Nat) : Int) := by rw [u64s _ (by omega) (by omega)]; omega
        rw [e3, rmTail_eq hf h0 n hm (x := e.toNat) (by omega)]
noncomputable def h6 : Base := h5.with rMake
theorem h6_ok : BaseOk h6 := h5_ok.with rMake_ok
noncomputable def rCls : Ctr := ctr2 51 dF dB (fun f a => some (classN f a)) rClass
noncomputable def qRclass : List Arg → Option (Int × Bool) := rCls.K
theorem qRclass_K {f : Int} {a : Nat} (hf : okB f = true) (ha : a < 2 ^ 128) : qRclass [aF f, aB a] = some (classN f a) := ctr2_K (a := dF) (b := dB) hf ha
theorem rclass_eq (f : Int) (b : Nat) : funC (dat h6) 100 Tryz.f51 [aF f, aB b] some = bif decide (3 < f) then some (rClass (0, false)) else (qRsplit [aF f, aB b]).bind fun r =>
    bif decide (r.2.1 = 0) then bif decide (((nd r.2.2 : Nat) : Int) = 0) then some (rClass (0, r.1)) else some (rClass (1, r.1)) else (qRemax [aF f]).bind fun r_1 =>
    bif !decide (r.2.1 = IntKind.wrap .i64 (IntKind.wrap .i64 (2 * r_1) + 1)) then some (rClass (2, r.1)) else bif decide (((nd r.2.2 : Nat) : Int) = 0) then some (rClass (3, r.1)) else
    (qRprec [aF f]).bind fun r_2 => (qNfull [aI (IntKind.wrap .i64 (r_2 - 2))]).bind fun r_3 => (qNcmp [aN r.2.2, aN r_3]).bind fun r_4 => bif decide (0 ≤ r_4) then some (rClass (4, r.1)) else some (rClass (5, r.1)) := by kernel_rfl
theorem nd_zero_iff (a : Nat) : decide (((nd a : Nat) : Int) = 0) = decide (a = 0) := by
  refine decide_eq_decide.2 ⟨fun h => ?_, fun h => by subst h; rfl⟩
  by_cases h0 : a = 0
  · exact h0
  · have := (nd_pos h0).1
    omega
theorem fmt_exp {f : Int} (hf : okB f = true) (h0 : fmtW f ≠ 0) : ((2 ^ (fmtW f - fmtP f).toNat : Nat) : Int) = 2 * fmtX f + 2 := by
  rcases fmt_all hf with ⟨h1, h2, h3, _⟩ | ⟨h1, h2, h3, _⟩ | ⟨h1, h2, h3, _⟩ | ⟨h1, h2, h3, _⟩ | ⟨h1, _⟩
  · rw [h1, h2, h3]; decide
  · rw [h1, h2, h3]; decide
  · rw [h1, h2, h3]; decide
  · rw [h1, h2, h3]; decide
  · exact absurd h1 h0
theorem splitN_top {f : Int} (hf : okB f = true) (h0 : fmtW f ≠ 0) (a : Nat) : (splitN f a).2.1 ≤ 2 * fmtX f + 1 := by
  have h := fmt_exp hf h0
  unfold splitN
  rw [decide_eq_false h0]
  show ((lowN (rightN (cutN f a) (fmtP f - 1)) (fmtW f - fmtP f) : Nat) : Int) ≤ _
  have := lowN_lt (rightN (cutN f a) (fmtP f - 1)) (fmtW f - fmtP f)
  omega
theorem top_bit {x k : Nat} (h : x < 2 ^ (k + 1)) : x.testBit k = decide (2 ^ k ≤ x) := by
  rw [Nat.testBit_eq_decide_div_mod_eq]
  refine decide_eq_decide.2 ?_
  have hd := Nat.div_add_mod x (2 ^ k)
  have hm := Nat.mod_lt x (Nat.two_pow_pos k)
  have hlt : x / 2 ^ k < 2 := by
    rw [Nat.div_lt_iff_lt_mul (Nat.two_pow_pos k), Nat.mul_comm, ← Nat.pow_succ]
    exact h
  constructor
  · intro h1
    have : x / 2 ^ k = 1 := by
      generalize x / 2 ^ k = q at *
      omega
    rw [this] at hd
    omega
  · intro h1
    have := Nat.div_pos h1 (Nat.two_pow_pos k)
    generalize x / 2 ^ k = q at *
    omega
theorem rCls_ok : CtrOk Tryz.prog (dat h6) rCls := by
  refine ctr2_ok h6_ok ⟨Tryz.func51, by kernel_rfl, by kernel_rfl⟩ 100 fun f a r hf ha hr => ?_
  cases hr
  have h := fmt_le hf
  refine ⟨(rclass_eq f a).trans ?_, rfl⟩
  unfold classN
  have hk : decide (3 < f) = !decide (f < 4) := by rw [← decide_not]; exact decide_eq_decide.2 (by omega)
  rw [hk]
  by_cases h4 : f < 4
  · have h0 : fmtW f ≠ 0 := fun h0 => by have := (fmt_small hf).2.2.1.1 h0; omega
    have h1 := (fmt_small hf).2.2.2 h0
    have hfr := splitN_frac h0 a
    have hex := splitN_top hf h0 a
    rw [decide_eq_true h4]
    simp only [Bool.not_true, cond_false]
    simp only [qRsplit_K hf ha, qRemax_K hf, qRprec_K hf, Option.bind_some, nd_zero_iff]
    rw [i64w (2 * fmtX f) (by omega) (by omega), i64w _ (by omega) (by omega), i64w _ (by omega) (by omega), qNfull_K (by omega) (by omega), Option.bind_some, qNcmp_K (nd_128 (splitN_lt ha)) (nd_128 (Nat.pow_lt_pow_right (by decide) (by omega))), Option.bind_some]
    have e1 : (!decide ((splitN f a).2.1 = 2 * fmtX f + 1)) = decide ((splitN f a).2.1 < 2 * fmtX f + 1) := by rw [← decide_not]; exact decide_eq_decide.2 (by omega)
    have e2 : decide (0 ≤ cmpN (splitN f a).2.2 (2 ^ (fmtP f - 2).toNat)) = bitN (splitN f a).2.2 (fmtP f - 2) := by
      unfold bitN
      rw [decide_eq_true (by omega : 0 ≤ fmtP f - 2), Bool.true_and, top_bit (by rw [show (fmtP f - 2).toNat + 1 = (fmtP f - 1).toNat by omega]; exact hfr)]
      unfold cmpN
      by_cases hlt : (splitN f a).2.2 < 2 ^ (fmtP f - 2).toNat
      · rw [decide_eq_true hlt, decide_eq_false (by omega : ¬ 2 ^ (fmtP f - 2).toNat ≤ (splitN f a).2.2)]
        rfl
      · rw [decide_eq_false hlt, decide_eq_true (by omega : 2 ^ (fmtP f - 2).toNat ≤ (splitN f a).2.2)]
        cases decide (2 ^ (fmtP f - 2).toNat < (splitN f a).2.2) <;> rfl
    rw [e1, e2]
    cases decide ((splitN f a).2.1 = 0) <;> cases decide ((splitN f a).2.2 = 0) <;> cases decide ((splitN f a).2.1 < 2 * fmtX f + 1) <;> cases bitN (splitN f a).2.2 (fmtP f - 2) <;> rfl
  · rw [decide_eq_false h4]
    rfl
noncomputable def h7 : Base := h6.with rCls
theorem h7_ok : BaseOk h7 := h6_ok.with rCls_ok
theorem class_le (f : Int) (a : Nat) : 0 ≤ (classN f a).1 ∧ (classN f a).1 ≤ 5 := by
  unfold classN
  cases decide (f < 4) <;> cases decide ((splitN f a).2.1 = 0) <;> cases decide ((splitN f a).2.2 = 0) <;> cases decide ((splitN f a).2.1 < 2 * fmtX f + 1) <;> cases bitN (splitN f a).2.2 (fmtP f - 2) <;> simp
noncomputable def rNan : Ctr := ctr2 16 dF dB (fun f a => some (nanN f a)) rT
noncomputable def rSig : Ctr := ctr2 115 dF dB (fun f a => some (sigN f a)) rT
noncomputable def qRnan : List Arg → Option Bool := rNan.K
noncomputable def qRsig : List Arg → Option Bool := rSig.K
theorem qRnan_K {f : Int} {a : Nat} (hf : okB f = true) (ha : a < 2 ^ 128) : qRnan [aF f, aB a] = some (nanN f a) := ctr2_K (a := dF) (b := dB) hf ha
theorem qRsig_K {f : Int} {a : Nat} (hf : okB f = true) (ha : a < 2 ^ 128) : qRsig [aF f, aB a] = some (sigN f a) := ctr2_K (a := dF) (b := dB) hf ha
theorem rnan_eq (f : Int) (b : Nat) : funC (dat h7) 100 Tryz.f16 [aF f, aB b] some = (qRclass [aF f, aB b]).bind fun r => bif decide (r.1 = 4) then some (rT true) else some (rT (decide (r.1 = 5))) := by kernel_rfl
theorem rsig_eq (f : Int) (b : Nat) : funC (dat h7) 100 Tryz.f115 [aF f, aB b] some = (qRclass [aF f, aB b]).bind fun r => some (rT (decide (r.1 = 5))) := by kernel_rfl
theorem rNan_ok : CtrOk Tryz.prog (dat h7) rNan := by
  refine ctr2_ok h7_ok ⟨Tryz.func16, by kernel_rfl, by kernel_rfl⟩ 100 fun f a r hf ha hr => ?_
  cases hr
  refine ⟨(rnan_eq f a).trans ?_, rfl⟩
  have h := class_le f a
  rw [qRclass_K hf ha, Option.bind_some]
  unfold nanN
  by_cases h4 : (classN f a).1 = 4
  · rw [decide_eq_true h4, decide_eq_true (by omega : 4 ≤ (classN f a).1)]
    rfl
  · rw [decide_eq_false h4]
    have e : decide ((classN f a).1 = 5) = decide (4 ≤ (classN f a).1) := decide_eq_decide.2 (by omega)
    rw [e]
    rfl
theorem rSig_ok : CtrOk Tryz.prog (dat h7) rSig := by
  refine ctr2_ok h7_ok ⟨Tryz.func115, by kernel_rfl, by kernel_rfl⟩ 100 fun f a r hf ha hr => ?_
  cases hr
  refine ⟨(rsig_eq f a).trans ?_, rfl⟩
  rw [qRclass_K hf ha]
  rfl
end Go.Ev
end

section
namespace Go.Ev
open Go.Proofs Go.RowKit
noncomputable def i1 : Base := (h7.with rNan).with rSig
theorem i1_ok : BaseOk i1 := (h7_ok.with rNan_ok).with rSig_ok
def valN (f : Int) (a : Nat) : Bool × Nat × Int :=
  bif decide ((splitN f a).2.1 = 0) then ((splitN f a).1, (splitN f a).2.2, 1 - fmtX f - (fmtP f - 1)) else ((splitN f a).1, (splitN f a).2.2 + 2 ^ (fmtP f - 1).toNat, (splitN f a).2.1 - fmtX f - (fmtP f - 1))
noncomputable def rValue (r : Bool × Nat × Int) : AV := .fv (.agg [.bool r.1, .nat r.2.1, .int .i64 r.2.2])
noncomputable def rVal : Ctr := ctr2 55 dF dB (fun f a => bif decide (fmtW f = 0) then none else some (valN f a)) rValue
noncomputable def qRval : List Arg → Option (Bool × Nat × Int) := rVal.K
theorem qRval_K {f : Int} {a : Nat} (hf : okB f = true) (ha : a < 2 ^ 128) (h0 : fmtW f ≠ 0) : qRval [aF f, aB a] = some (valN f a) := by
  refine (ctr2_K (a := dF) (b := dB) hf ha).trans ?_
  rw [decide_eq_false h0]; rfl
theorem rval_eq (f : Int) (a : Nat) : funC (dat i1) 100 Tryz.f55 [aF f, aB a] some = (qRsplit [aF f, aB a]).bind fun r => (qRprec [aF f]).bind fun r_1 => bif decide (r.2.1 = 0) then (qRemax [aF f]).bind fun r_2 =>
    some (rValue (r.1, r.2.2, IntKind.wrap .i64 (IntKind.wrap .i64 (1 - r_2) - IntKind.wrap .i64 (r_1 - 1)))) else (qNfull [aI (IntKind.wrap .i64 (r_1 - 1))]).bind fun r_2 => (qNadd [aN r.2.2, aN r_2]).bind fun r_3 => (qRemax [aF f]).bind fun r_4 =>
    some (rValue (r.1, r_3, IntKind.wrap .i64 (IntKind.wrap .i64 (r.2.1 - r_4) - IntKind.wrap .i64 (r_1 - 1)))) := by kernel_rfl
theorem rVal_ok : CtrOk Tryz.prog (dat i1) rVal := by
  refine ctr2_ok i1_ok ⟨Tryz.func55, by kernel_rfl, by kernel_rfl⟩ 100 fun f a r hf ha hr => ?_
  cases hw : decide (fmtW f = 0) with
  | true => rw [hw] at hr; cases hr
  | false =>
  rw [hw] at hr
  cases hr
  have h0 : fmtW f ≠ 0 := of_decide_eq_false hw
  have h := fmt_le hf
  have h1 := (fmt_small hf).2.2.2 h0
  have hs := splitN_exp hf a
  refine ⟨(rval_eq f a).trans ?_, rfl⟩
  simp only [qRsplit_K hf ha, qRprec_K hf, qRemax_K hf, Option.bind_some]
  rw [i64w (fmtP f - 1) (by omega) (by omega), i64w (1 - fmtX f) (by omega) (by omega), i64w (1 - fmtX f - (fmtP f - 1)) (by omega) (by omega), i64w ((splitN f a).2.1 - fmtX f) (by omega) (by omega), i64w ((splitN f a).2.1 - fmtX f - (fmtP f - 1)) (by omega) (by omega),
    qNfull_K (by omega) (by omega), Option.bind_some, qNadd_K (nd_128 (splitN_lt ha)) (nd_128 (Nat.pow_lt_pow_right (by decide) (by omega))), Option.bind_some]
  unfold valN
  cases decide ((splitN f a).2.1 = 0) <;> rfl
noncomputable def rDflt : Ctr := ctr1 113 dF (fun f => some (dfltN f)) rB
noncomputable def qRdflt : List Arg → Option Nat := rDflt.K
theorem qRdflt_K {f : Int} (hf : okB f = true) : qRdflt [aF f] = some (dfltN f) := ctr1_K (a := dF) hf
theorem rdflt_eq (f : Int) : funC (dat i1) 100 Tryz.f113 [aF f] some = bif decide (3 < f) then some (.fv (.agg [.int .u64 0, .int .u64 0])) else (qRemax [aF f]).bind fun r => (qRprec [aF f]).bind fun r_1 => (qNfull [aI (IntKind.wrap .i64 (r_1 - 2))]).bind fun r_2 =>
    (qRmake [aF f, aT false, aI (IntKind.wrap .i64 (IntKind.wrap .i64 (2 * r) + 1)), aN r_2]).bind fun r => some (rB r) := by kernel_rfl
theorem rDflt_ok : CtrOk Tryz.prog (dat i1) rDflt := by
  refine ctr1_ok i1_ok ⟨Tryz.func113, by kernel_rfl, by kernel_rfl⟩ 100 fun f r hf hr => ?_
  cases hr
  have h := fmt_le hf
  have h' := fmt_small hf
  refine ⟨(rdflt_eq f).trans ?_, rfl⟩
  unfold dfltN
  by_cases h0 : fmtW f = 0
  · have h4 := h'.2.2.1.1 h0
    rw [decide_eq_true (by omega : 3 < f), decide_eq_true h0, cond_true, cond_true, bb_zero]
    rfl
  · have h1 := h'.2.2.2 h0
    have h4 : ¬ 3 < f := fun h4 => h0 (h'.2.2.1.2 (by omega))
    rw [decide_eq_false h4, decide_eq_false h0, cond_false, cond_false]
    simp only [qRprec_K hf, qRemax_K hf, Option.bind_some]
    have hqb : 2 ^ (fmtP f - 2).toNat < 2 ^ 500000 := lt500 (qbit_lt hf)
    rw [i64w (fmtP f - 2) (by omega) (by omega), i64w (2 * fmtX f) (by omega) (by omega), i64w _ (by omega) (by omega), qNfull_K (by omega) (by omega), Option.bind_some, qRmake_K hf (okS_of (by omega) (by omega)) hqb, Option.bind_some]
    rfl
theorem cut_cut (f : Int) (a : Nat) : cutN f (cutN f a) = cutN f a := by
  unfold cutN lowN
  exact Nat.mod_mod _ _
theorem split_cut {f : Int} (hf : okB f = true) (a : Nat) : splitN f (cutN f a) = splitN f a := by
  unfold splitN
  rw [cut_cut]
  by_cases h0 : fmtW f = 0
  · rw [decide_eq_true h0]; rfl
  · have h := fmt_le hf
    have h1 := (fmt_small hf).2.2.2 h0
    have e1 : bitN (cutN f a) (fmtW f - 1) = bitN a (fmtW f - 1) := by
      unfold bitN cutN lowN
      rw [Nat.testBit_mod_two_pow, decide_eq_true (by omega : (fmtW f - 1).toNat < (fmtW f).toNat), Bool.true_and]
    have e2 : lowN (cutN f a) (fmtP f - 1) = lowN a (fmtP f - 1) := by
      unfold cutN lowN
      rw [Nat.mod_mod_of_dvd]
      exact Nat.pow_dvd_pow 2 (by omega)
    rw [e1, e2]
theorem class_cut {f : Int} (hf : okB f = true) (a : Nat) : classN f (cutN f a) = classN f a := by
  unfold classN
  rw [split_cut hf]
theorem or_set {x k : Nat} (h : x.testBit k = true) : x ||| 2 ^ k = x := by
  refine Nat.eq_of_testBit_eq fun i => ?_
  rw [Nat.testBit_or, Nat.testBit_two_pow]
  by_cases hi : k = i
  · subst hi; rw [h]; rfl
  · rw [decide_eq_false hi, Bool.or_false]
theorem or_unset {x k : Nat} (h : x.testBit k = false) : x ||| 2 ^ k = x + 2 ^ k := by
  rw [Nat.testBit_eq_decide_div_mod_eq] at h
  have h := of_decide_eq_false h
  have hd := Nat.div_add_mod x (2 ^ k)
  have hm := Nat.mod_lt x (Nat.two_pow_pos k)
  generalize hq : x / 2 ^ k = q at *
  generalize hl : x % 2 ^ k = l at *
  have hq2 : q = 2 * (q / 2) := by omega
  have e1 : x = 2 ^ k * q ||| l := by rw [← Nat.two_pow_add_eq_or_of_lt hm]; exact hd.symm
  have e2 : 2 ^ k * q ||| 2 ^ k = 2 ^ k * (q + 1) := by
    have h3 := even_or_one (q / 2)
    rw [← hq2] at h3
    have h4 : (q ||| 1) <<< k = q <<< k ||| 1 <<< k := Nat.shiftLeft_or_distrib
    rw [Nat.shiftLeft_eq, Nat.shiftLeft_eq, Nat.shiftLeft_eq, h3, Nat.one_mul] at h4
    rw [Nat.mul_comm, ← h4, Nat.mul_comm]
  have e3 : x ||| 2 ^ k = 2 ^ k * (q + 1) ||| l := by
    rw [e1, Nat.or_assoc, Nat.or_comm l, ← Nat.or_assoc, e2]
  rw [e3, ← Nat.two_pow_add_eq_or_of_lt hm, Nat.mul_add, Nat.mul_one]
  omega
theorem quiet_val {f : Int} (hf : okB f = true) (a : Nat) : quietN f a = bif sigN f a then cutN f a + qbit f else cutN f a := by
  unfold quietN nanN sigN
  rw [class_cut hf]
  have hle := class_le f a
  by_cases h4 : (classN f a).1 = 4 ∨ (classN f a).1 = 5
  · have h0 : fmtW f ≠ 0 := class_known hf (a := a) (by omega)
    have h := fmt_le hf
    have h1 := (fmt_small hf).2.2.2 h0
    have hbit : (cutN f a).testBit (fmtP f - 2).toNat = bitN (splitN f a).2.2 (fmtP f - 2) := by
      unfold splitN
      rw [decide_eq_false h0]
      show (cutN f a).testBit _ = bitN (lowN a (fmtP f - 1)) (fmtP f - 2)
      unfold bitN cutN lowN
      rw [Nat.testBit_mod_two_pow, Nat.testBit_mod_two_pow, decide_eq_true (by omega : (fmtP f - 2).toNat < (fmtW f).toNat), decide_eq_true (by omega : (fmtP f - 2).toNat < (fmtP f - 1).toNat), decide_eq_true (by omega : 0 ≤ fmtP f - 2)]
      rfl
    have hcls : ((classN f a).1 = 4 → bitN (splitN f a).2.2 (fmtP f - 2) = true) ∧ ((classN f a).1 = 5 → bitN (splitN f a).2.2 (fmtP f - 2) = false) := by
      unfold classN
      cases decide (f < 4) <;> cases decide ((splitN f a).2.1 = 0) <;> cases decide ((splitN f a).2.2 = 0) <;> cases decide ((splitN f a).2.1 < 2 * fmtX f + 1) <;> cases bitN (splitN f a).2.2 (fmtP f - 2) <;> simp
    rcases h4 with h4 | h5
    · rw [decide_eq_true (by omega : 4 ≤ (classN f a).1), decide_eq_false (by omega : ¬ (classN f a).1 = 5), cond_true, cond_false]
      exact or_set (hbit.trans (hcls.1 h4))
    · rw [decide_eq_true (by omega : 4 ≤ (classN f a).1), decide_eq_true h5, cond_true, cond_true]
      exact or_unset (hbit.trans (hcls.2 h5))
  · rw [decide_eq_false (by omega : ¬ 4 ≤ (classN f a).1), decide_eq_false (by omega : ¬ (classN f a).1 = 5)]
    rfl
theorem quietN_lt {f : Int} (hf : okB f = true) {a : Nat} (ha : a < 2 ^ 128) : quietN f a < 2 ^ 128 := by
  unfold quietN
  cases nanN f (cutN f a)
  · exact cutN_lt ha
  · exact Nat.or_lt_two_pow (cutN_lt ha) (qbit_lt hf)
noncomputable def rQuiet : Ctr := ctr2 114 dF dB (fun f a => some (quietN f a)) rB
noncomputable def qRquiet : List Arg → Option Nat := rQuiet.K
theorem qRquiet_K {f : Int} {a : Nat} (hf : okB f = true) (ha : a < 2 ^ 128) : qRquiet [aF f, aB a] = some (quietN f a) := ctr2_K (a := dF) (b := dB) hf ha
theorem rquiet_eq (f : Int) (a : Nat) : funC (dat i1) 100 Tryz.f114 [aF f, aB a] some = (qRcut [aF f, aB a]).bind fun r => (qRsig [aF f, aB a]).bind fun r_1 => bif r_1 then (qRprec [aF f]).bind fun r_2 => (qNfull [aI (IntKind.wrap .i64 (r_2 - 2))]).bind fun r_3 =>
    (qNadd [aN r, aN r_3]).bind fun r => (qNbits [aN r]).bind fun r => some (rB r) else (qNbits [aN r]).bind fun r => some (rB r) := by kernel_rfl
theorem rQuiet_ok : CtrOk Tryz.prog (dat i1) rQuiet := by
  refine ctr2_ok i1_ok ⟨Tryz.func114, by kernel_rfl, by kernel_rfl⟩ 100 fun f a r hf ha hr => ?_
  cases hr
  have h := fmt_le hf
  have hc := cutN_lt (f := f) ha
  have hq := quiet_val hf a
  have hql := quietN_lt hf ha
  refine ⟨(rquiet_eq f a).trans ?_, rfl⟩
  rw [qRcut_K hf ha, Option.bind_some, qRsig_K hf ha, Option.bind_some]
  cases hs : sigN f a with
  | false =>
    rw [hs] at hq
    rw [cond_false, qNbits_K (nd_128 hc), Option.bind_some, Nat.mod_eq_of_lt hc, hq]
    rfl
  | true =>
    have h0 : fmtW f ≠ 0 := class_known hf (a := a) (by
      have : (classN f a).1 = 5 := of_decide_eq_true hs
      omega)
    have h1 := (fmt_small hf).2.2.2 h0
    rw [hs] at hq
    rw [cond_true, qRprec_K hf, Option.bind_some, i64w _ (by omega) (by omega), qNfull_K (by omega) (by omega), Option.bind_some, qNadd_K (nd_128 hc) (nd_128 (Nat.pow_lt_pow_right (by decide) (by omega))), Option.bind_some]
    have e : cutN f a + 2 ^ (fmtP f - 2).toNat = quietN f a := hq.symm
    rw [e, qNbits_K (nd_128 hql), Option.bind_some, Nat.mod_eq_of_lt hql]
noncomputable def i2 : Base := ((i1.with rVal).with rDflt).with rQuiet
theorem i2_ok : BaseOk i2 := ((i1_ok.with rVal_ok).with rDflt_ok).with rQuiet_ok
noncomputable def rPck : Ctr := ctr3 52 dF dT dB2 (fun f i p => some (pickN f i p.1 p.2)) rPick
noncomputable def qRpick : List Arg → Option (Nat × Int × Bool) := rPck.K
theorem qRpick_K {f : Int} {i : Bool} {a b : Nat} (hf : okB f = true) (ha : a < 2 ^ 128) (hb : b < 2 ^ 128) : qRpick [aF f, aT i, aB2 a b] = some (pickN f i a b) := ctr3_K (a := dF) (b := dT) (c := dB2) (z := (a, b)) hf trivial ⟨ha, hb⟩
noncomputable def pkV (inv : Bool) (q : Nat) (fl : Int) : Option AV := bif inv then some (rPick (q, 1, true)) else some (rPick (q, fl, true))
noncomputable def pkU (f : Int) (inv : Bool) (b q : Nat) (fl : Int) : Option AV := (qRsig [aF f, aB b]).bind fun s => bif s then pkV inv q 1 else pkV inv q fl
noncomputable def pkT (f : Int) (inv : Bool) (b q : Nat) (fl : Int) : Option AV := (qRnan [aF f, aB b]).bind fun n => bif n then pkU f inv b q fl else pkU f inv b q fl
noncomputable def pkZ (inv : Bool) (q : Nat) (fl : Int) : Option AV := bif inv then (bif !inv then pickNo else some (rPick (q, 1, true))) else (bif !inv then pickNo else some (rPick (q, fl, true)))
noncomputable def pkW (f : Int) (inv : Bool) (b q : Nat) (fl : Int) : Option AV := (qRsig [aF f, aB b]).bind fun s => bif s then pkZ inv q 1 else pkZ inv q fl
noncomputable def pkT2 (f : Int) (inv : Bool) (b d : Nat) (fl : Int) : Option AV := (qRnan [aF f, aB b]).bind fun n => bif n then (qRquiet [aF f, aB b]).bind fun q => pkU f inv b q fl else pkW f inv b d fl
theorem rpick_eq (f : Int) (inv : Bool) (a b : Nat) : funC (dat i2) 200 Tryz.f52 [aF f, aT inv, aB2 a b] some = bif decide (3 < f) then pickNo else (qRdflt [aF f]).bind fun d => (qRnan [aF f, aB a]).bind fun n =>
    bif n then (qRquiet [aF f, aB a]).bind fun q => (qRsig [aF f, aB a]).bind fun s => bif s then pkT f inv b q 1 else pkT f inv b q 0
    else (qRsig [aF f, aB a]).bind fun s => bif s then pkT2 f inv b d 1 else pkT2 f inv b d 0 := by kernel_rfl
theorem sig_nan (f : Int) (a : Nat) (h : nanN f a = false) : sigN f a = false := by
  unfold nanN at h
  unfold sigN
  have := of_decide_eq_false h
  exact decide_eq_false (by omega)
theorem rPck_ok : CtrOk Tryz.prog (dat i2) rPck := by
  refine ctr3_ok i2_ok ⟨Tryz.func52, by kernel_rfl, by kernel_rfl⟩ 200 fun f i p r hf _ hp hr => ?_
  cases hr
  obtain ⟨a, b⟩ := p
  obtain ⟨ha, hb⟩ := hp
  refine ⟨(rpick_eq f i a b).trans ?_, rfl⟩
  unfold pkT pkT2 pkU pkW pkV pkZ
  simp only [qRdflt_K hf, qRnan_K hf ha, qRnan_K hf hb, qRquiet_K hf ha, qRquiet_K hf hb, qRsig_K hf ha, qRsig_K hf hb, Option.bind_some, pickNo_eq]
  unfold pickN
  have hk : decide (3 < f) = !decide (f < 4) := by rw [← decide_not]; exact decide_eq_decide.2 (by omega)
  have ha' := sig_nan f a
  have hb' := sig_nan f b
  rw [hk]
  cases decide (f < 4) <;> cases hna : nanN f a <;> cases hnb : nanN f b <;> cases hsa : sigN f a <;> cases hsb : sigN f b <;> cases i <;> first | rfl | (exfalso; simp_all; done)
end Go.Ev
end
