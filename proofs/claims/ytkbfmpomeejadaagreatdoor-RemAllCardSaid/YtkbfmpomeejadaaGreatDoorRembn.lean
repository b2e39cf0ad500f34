/- Part 40 of 46 of what the theorem stands on. -/
import Derived.Test.YtkbfmpomeejadaaGreatDoorRembm

section
namespace Go.Ev
open Go.Proofs Go.RowKit
noncomputable def h1 : Base := { funs := [], eqs := e4.eqs, ctrs := [nAdd, nSub, nMul, nDiv, nCmp, nShl, nShr, nLen, nDigit, nBit, nOf, nBig] }
theorem h1_ok : BaseOk h1 where
  funs := by simp [h1]
  eqs := e4_ok.eqs
  ctrs := by
    intro c hc
    simp only [h1, List.mem_cons, List.not_mem_nil, or_false] at hc
    rcases hc with rfl | rfl | rfl | rfl | rfl | rfl | rfl | rfl | rfl | rfl | rfl | rfl
    · exact nAdd_ok _
    · exact nSub_ok _
    · exact nMul_ok _
    · exact nDiv_ok _
    · exact nCmp_ok _
    · exact nShl_ok _
    · exact nShr_ok _
    · exact nLen_ok _
    · exact nDigit_ok _
    · exact nBit_ok _
    · exact nOf_ok _
    · exact nBig_ok _
noncomputable def qNadd : List Arg → Option Nat := nAdd.K
noncomputable def qNsub : List Arg → Option Nat := nSub.K
noncomputable def qNmul : List Arg → Option Nat := nMul.K
noncomputable def qNdiv : List Arg → Option (Nat × Nat) := nDiv.K
noncomputable def qNcmp : List Arg → Option Int := nCmp.K
noncomputable def qNshl : List Arg → Option Nat := nShl.K
noncomputable def qNshr : List Arg → Option Nat := nShr.K
noncomputable def qNlen : List Arg → Option Int := nLen.K
noncomputable def qNdigit : List Arg → Option Int := nDigit.K
noncomputable def qNbit : List Arg → Option Bool := nBit.K
noncomputable def qNof : List Arg → Option Nat := nOf.K
noncomputable def qNbig : List Arg → Option Nat := nBig.K
theorem qNadd_K {a b : Nat} (ha : nd a ≤ 50000) (hb : nd b ≤ 50000) : qNadd [aN a, aN b] = some (a + b) := ctr2_K (a := dM) (b := dM) ha hb
theorem qNmul_K {a b : Nat} (ha : nd a ≤ 50000) (hb : nd b ≤ 50000) : qNmul [aN a, aN b] = some (a * b) := ctr2_K (a := dM) (b := dM) ha hb
theorem qNcmp_K {a b : Nat} (ha : nd a ≤ 50000) (hb : nd b ≤ 50000) : qNcmp [aN a, aN b] = some (cmpN a b) := ctr2_K (a := dM) (b := dM) ha hb
theorem qNsub_K {a b : Nat} (ha : nd a ≤ 50000) (hb : nd b ≤ 50000) (h : b ≤ a) : qNsub [aN a, aN b] = some (a - b) := by
  refine (ctr2_K (a := dM) (b := dM) ha hb).trans ?_
  rw [decide_eq_true h]; rfl
theorem qNdiv_K {a b : Nat} (ha : nd a ≤ 50000) (hb : nd b ≤ 50000) (h : 0 < b) : qNdiv [aN a, aN b] = some (a / b, a % b) := by
  refine (ctr2_K (a := dM) (b := dM) ha hb).trans ?_
  rw [decide_eq_true h]; rfl
theorem qNshl_K {a : Nat} {n : Int} (ha : nd a ≤ 50000) (h0 : 0 ≤ n) (h1 : n ≤ 1000000) : qNshl [aN a, aI n] = some (a * 2 ^ n.toNat) := by
  refine (ctr2_K (a := dM) (b := dI) ha (okS_of (by omega) (by omega))).trans ?_
  rw [decide_eq_true h0, decide_eq_true h1]; rfl
theorem qNshr_K {a : Nat} {n : Int} (ha : nd a ≤ 50000) (h0 : 0 ≤ n) (h1 : n ≤ 1000000) : qNshr [aN a, aI n] = some (a / 2 ^ n.toNat) := by
  refine (ctr2_K (a := dM) (b := dI) ha (okS_of (by omega) (by omega))).trans ?_
  rw [decide_eq_true h0, decide_eq_true h1]; rfl
theorem qNlen_K {a : Nat} (ha : nd a ≤ 50000) : qNlen [aN a] = some ((lenN a : Nat) : Int) := ctr1_K (a := dM) ha
theorem qNdigit_K {a : Nat} {n : Int} (ha : nd a ≤ 50000) (h0 : 0 ≤ n) (h1 : n ≤ 1000000) : qNdigit [aN a, aI n] = some ((a / BB ^ n.toNat % BB : Nat) : Int) := by
  refine (ctr2_K (a := dM) (b := dI) ha (okS_of (by omega) (by omega))).trans ?_
  rw [decide_eq_true h0]; rfl
theorem qNbit_K {a : Nat} {n : Int} (ha : nd a ≤ 50000) (h0 : 0 ≤ n) (h1 : n ≤ 1000000) : qNbit [aN a, aI n] = some (decide (a / 2 ^ n.toNat % 2 = 1)) := by
  refine (ctr2_K (a := dM) (b := dI) ha (okS_of (by omega) (by omega))).trans ?_
  rw [decide_eq_true h0, decide_eq_true (by omega : n ≤ 100000000)]; rfl
theorem qNof_K {x : Int} (hx : okU x = true) : qNof [aU x] = some x.toNat := ctr1_K (a := dX) hx
theorem qNbig_K {a : Nat} (h : a < 2 ^ 128) : qNbig [aB a] = some a := ctr1_K (a := dB) h
/-- Numbers of so many bits have few digits. -/
theorem nd_bitsG {a n k : Nat} (h : a < 2 ^ n) (hn : n ≤ 32 * k) : nd a ≤ k := by
  refine nd_le (Nat.lt_of_lt_of_le h ?_)
  have : (BB : Nat) = 2 ^ 32 := rfl
  rw [this, ← Nat.pow_mul]
  exact Nat.pow_le_pow_right (by decide) hn
theorem pow_up (m n : Nat) {a : Nat} (h : a < 2 ^ m) (hn : m ≤ n) : a < 2 ^ n := Nat.lt_of_lt_of_le h (Nat.pow_le_pow_right (by decide) hn)
theorem pow_two_add (n a b : Nat) (h : n = a + b) : 2 ^ n = 2 ^ a * 2 ^ b := by rw [h, Nat.pow_add]
theorem mul_up (m n k : Nat) (h : k = m + n) {a b : Nat} (ha : a < 2 ^ m) (hb : b < 2 ^ n) : a * b < 2 ^ k := by
  rw [h, Nat.pow_add]
  exact Nat.mul_lt_mul_of_lt_of_le ha (Nat.le_of_lt hb) (Nat.two_pow_pos _)
theorem mul_up2 (m k : Nat) (h : k = m + 1) {a : Nat} (ha : a < 2 ^ m) : a * 2 ^ 1 < 2 ^ k := by
  rw [h, Nat.pow_add]
  exact Nat.mul_lt_mul_of_pos_right ha (by decide)
theorem one_up (n : Nat) (h : n ≠ 0) : 1 < 2 ^ n := Nat.one_lt_two_pow h
theorem pos500 : (0 : Nat) < 2 ^ 500000 := by
  have := Nat.two_pow_pos 500000
  exact this
theorem nd_bits {a n : Nat} (h : a < 2 ^ n) (hn : n ≤ 1500000) : nd a ≤ 50000 := nd_bitsG h (by omega)
theorem nd_128 {a : Nat} (h : a < 2 ^ 128) : nd a ≤ 50000 := nd_bits h (by decide)
noncomputable def nBits : Ctr := ctr1 62 dM (fun a => some (a % 2 ^ 128)) rB
noncomputable def qNbits : List Arg → Option Nat := nBits.K
theorem qNbits_K {a : Nat} (ha : nd a ≤ 50000) : qNbits [aN a] = some (a % 2 ^ 128) := ctr1_K (a := dM) ha
theorem nbits_eq (a : Nat) : funC (dat h1) 100 Tryz.f62 [aN a] some = (qNdigit [aN a, aI 0]).bind fun r => (qNdigit [aN a, aI 1]).bind fun r_1 => (qNdigit [aN a, aI 2]).bind fun r_2 => (qNdigit [aN a, aI 3]).bind fun r_3 =>
    some (.fv (.agg [.int .u64 (IntKind.wrap .u64 (IntKind.wrap .u64 r_2 + shl .u64 (IntKind.wrap .u64 r_3) 32)), .int .u64 (IntKind.wrap .u64 (IntKind.wrap .u64 r + shl .u64 (IntKind.wrap .u64 r_1) 32))])) := by kernel_rfl
theorem nBits_ok : CtrOk Tryz.prog (dat h1) nBits := by
  refine ctr1_ok h1_ok ⟨Tryz.func62, by kernel_rfl, by kernel_rfl⟩ 100 fun a r ha hr => ?_
  cases hr
  have ha : nd a ≤ 50000 := ha
  refine ⟨(nbits_eq a).trans ?_, rfl⟩
  rw [qNdigit_K ha (by decide) (by decide), qNdigit_K ha (by decide) (by decide), qNdigit_K ha (by decide) (by decide), qNdigit_K ha (by decide) (by decide)]
  simp only [Option.bind_some]
  have d0 := dig_lt a 0
  have d1 := dig_lt a 1
  have d2 := dig_lt a 2
  have d3 := dig_lt a 3
  have s : ∀ x : Nat, x < 4294967296 → shl .u64 (IntKind.u64.wrap (x : Int)) 32 = ((x * 4294967296 : Nat) : Int) := fun x hx => by
    rw [u64n (n := (x : Int)) (by omega) (by omega)]
    have := shl_nat x 32 (by decide)
    rw [show ((32 : Nat) : Int) = 32 from rfl] at this
    rw [this, Nat.mod_eq_of_lt (by rw [p64]; omega)]
  have t0 : (0 : Int).toNat = 0 := rfl
  have t1 : (1 : Int).toNat = 1 := rfl
  have t2 : (2 : Int).toNat = 2 := rfl
  have t3 : (3 : Int).toNat = 3 := rfl
  rw [t0, t1, t2, t3, s _ d1, s _ d3, u64n (n := ((a / BB ^ 0 % BB : Nat) : Int)) (by omega) (by omega), u64n (n := ((a / BB ^ 2 % BB : Nat) : Int)) (by omega) (by omega), u64n (by omega) (by omega), u64n (by omega) (by omega)]
  have e2 : BB ^ 2 = 18446744073709551616 := by decide
  have e3 : BB ^ 3 = 79228162514264337593543950336 := by decide
  have e4 : a % 2 ^ 128 = a % 340282366920938463463374607431768211456 := by rw [p128]
  rw [e4, e2, e3, Nat.pow_zero, Nat.pow_one, Nat.div_one, BBv]
  refine congrArg some (congrArg AV.fv (bb_of ?_ ?_))
  · rw [hiW_eq]; omega
  · rw [loW_eq]; omega
noncomputable def h2 : Base := h1.with nBits
theorem h2_ok : BaseOk h2 := h1_ok.with nBits_ok
noncomputable def nCut : Ctr := ctr2 125 dM dI (fun a n => bif decide (0 ≤ n) && decide (n ≤ 1000000) && decide (lenN a ≤ 500000) then some (a % 2 ^ n.toNat) else none) rN
noncomputable def qNcut : List Arg → Option Nat := nCut.K
theorem qNcut_K {a : Nat} {n : Int} (ha : a < 2 ^ 500000) (h0 : 0 ≤ n) (h1 : n ≤ 1000000) : qNcut [aN a, aI n] = some (a % 2 ^ n.toNat) := by
  refine (ctr2_K (a := dM) (b := dI) (nd_bits ha (by decide)) (okS_of (by omega) (by omega))).trans ?_
  rw [decide_eq_true h0, decide_eq_true h1, decide_eq_true (lenN_le ha)]; rfl
theorem ncut_eq (a : Nat) (n : Int) : funC (dat h2) 100 Tryz.f125 [aN a, aI n] some = (qNshr [aN a, aI n]).bind fun r => (qNshl [aN r, aI n]).bind fun r => (qNsub [aN a, aN r]).bind fun r => some (rN r) := by kernel_rfl
theorem nCut_ok : CtrOk Tryz.prog (dat h2) nCut := by
  refine ctr2_ok h2_ok ⟨Tryz.func125, by kernel_rfl, by kernel_rfl⟩ 100 fun a n r ha hn hr => ?_
  obtain ⟨hc, hr⟩ := bif_inv hr
  simp only [Bool.and_eq_true, decide_eq_true_eq] at hc
  cases hr
  have ha : nd a ≤ 50000 := ha
  refine ⟨(ncut_eq a n).trans ?_, rfl⟩
  have h1 : a / 2 ^ n.toNat ≤ a := Nat.div_le_self _ _
  have h2 : a / 2 ^ n.toNat * 2 ^ n.toNat ≤ a := Nat.div_mul_le_self _ _
  rw [qNshr_K ha hc.1.1 hc.1.2, Option.bind_some, qNshl_K (Nat.le_trans (nd_mono h1) ha) hc.1.1 hc.1.2, Option.bind_some, qNsub_K ha (Nat.le_trans (nd_mono h2) ha) h2, Option.bind_some]
  have h3 := Nat.div_add_mod a (2 ^ n.toNat)
  rw [Nat.mul_comm] at h3
  have e : a - a / 2 ^ n.toNat * 2 ^ n.toNat = a % 2 ^ n.toNat := by omega
  rw [e]
noncomputable def nFull : Ctr := ctr1 111 dI (fun n => bif decide (0 ≤ n) && decide (n ≤ 1000000) then some (2 ^ n.toNat) else none) rN
noncomputable def qNfull : List Arg → Option Nat := nFull.K
theorem qNfull_K {n : Int} (h0 : 0 ≤ n) (h1 : n ≤ 1000000) : qNfull [aI n] = some (2 ^ n.toNat) := by
  refine (ctr1_K (a := dI) (okS_of (by omega) (by omega))).trans ?_
  rw [decide_eq_true h0, decide_eq_true h1]; rfl
theorem nfull_eq (n : Int) : funC (dat h2) 100 Tryz.f111 [aI n] some = (qNof [aU 1]).bind fun r => (qNshl [aN r, aI n]).bind fun r => some (rN r) := by kernel_rfl
theorem nFull_ok : CtrOk Tryz.prog (dat h2) nFull := by
  refine ctr1_ok h2_ok ⟨Tryz.func111, by kernel_rfl, by kernel_rfl⟩ 100 fun n r hn hr => ?_
  obtain ⟨hc, hr⟩ := bif_inv hr
  simp only [Bool.and_eq_true, decide_eq_true_eq] at hc
  cases hr
  refine ⟨(nfull_eq n).trans ?_, rfl⟩
  rw [qNof_K (by decide), Option.bind_some, qNshl_K (by decide) hc.1 hc.2, Option.bind_some]
  have e : (1 : Int).toNat * 2 ^ n.toNat = 2 ^ n.toNat := by rw [show (1 : Int).toNat = 1 from rfl, Nat.one_mul]
  rw [e]
noncomputable def rWidth : Ctr := ctr1 127 dF (fun f => some (fmtW f)) rI
noncomputable def rPrec : Ctr := ctr1 112 dF (fun f => some (fmtP f)) rI
noncomputable def rEmax : Ctr := ctr1 110 dF (fun f => some (fmtX f)) rI
noncomputable def qRwidth : List Arg → Option Int := rWidth.K
noncomputable def qRprec : List Arg → Option Int := rPrec.K
noncomputable def qRemax : List Arg → Option Int := rEmax.K
theorem qRwidth_K {f : Int} (h : okB f = true) : qRwidth [aF f] = some (fmtW f) := ctr1_K (a := dF) h
theorem qRprec_K {f : Int} (h : okB f = true) : qRprec [aF f] = some (fmtP f) := ctr1_K (a := dF) h
theorem qRemax_K {f : Int} (h : okB f = true) : qRemax [aF f] = some (fmtX f) := ctr1_K (a := dF) h
theorem rwidth_eq (f : Int) : funC (dat h2) 100 Tryz.f127 [aF f] some = bif decide (f = 0) then some (rI 16) else bif decide (f = 1) then some (rI 32) else bif decide (f = 2) then some (rI 64) else bif decide (f = 3) then some (rI 128) else some (rI 0) := by kernel_rfl
theorem rprec_eq (f : Int) : funC (dat h2) 100 Tryz.f112 [aF f] some = bif decide (f = 0) then some (rI 11) else bif decide (f = 1) then some (rI 24) else bif decide (f = 2) then some (rI 53) else bif decide (f = 3) then some (rI 113) else some (rI 0) := by kernel_rfl
theorem remax_eq (f : Int) : funC (dat h2) 100 Tryz.f110 [aF f] some = bif decide (f = 0) then some (rI 15) else bif decide (f = 1) then some (rI 127) else bif decide (f = 2) then some (rI 1023) else bif decide (f = 3) then some (rI 16383) else some (rI 0) := by kernel_rfl
theorem rWidth_ok : CtrOk Tryz.prog (dat h2) rWidth := by
  refine ctr1_ok h2_ok ⟨Tryz.func127, by kernel_rfl, by kernel_rfl⟩ 100 fun f r hf hr => ?_
  cases hr
  refine ⟨(rwidth_eq f).trans ?_, rfl⟩
  unfold fmtW
  cases decide (f = 0) <;> cases decide (f = 1) <;> cases decide (f = 2) <;> cases decide (f = 3) <;> rfl
theorem rPrec_ok : CtrOk Tryz.prog (dat h2) rPrec := by
  refine ctr1_ok h2_ok ⟨Tryz.func112, by kernel_rfl, by kernel_rfl⟩ 100 fun f r hf hr => ?_
  cases hr
  refine ⟨(rprec_eq f).trans ?_, rfl⟩
  unfold fmtP
  cases decide (f = 0) <;> cases decide (f = 1) <;> cases decide (f = 2) <;> cases decide (f = 3) <;> rfl
theorem rEmax_ok : CtrOk Tryz.prog (dat h2) rEmax := by
  refine ctr1_ok h2_ok ⟨Tryz.func110, by kernel_rfl, by kernel_rfl⟩ 100 fun f r hf hr => ?_
  cases hr
  refine ⟨(remax_eq f).trans ?_, rfl⟩
  unfold fmtX
  cases decide (f = 0) <;> cases decide (f = 1) <;> cases decide (f = 2) <;> cases decide (f = 3) <;> rfl
noncomputable def h3 : Base := ((((h2.with nCut).with nFull).with rWidth).with rPrec).with rEmax
theorem h3_ok : BaseOk h3 := ((((h2_ok.with nCut_ok).with nFull_ok).with rWidth_ok).with rPrec_ok).with rEmax_ok
theorem lt500 {a : Nat} (h : a < 2 ^ 128) : a < 2 ^ 500000 := by
  have := pow_up 128 500000 h (by decide)
  exact this
noncomputable def rCut : Ctr := ctr2 63 dF dB (fun f a => some (cutN f a)) rN
noncomputable def qRcut : List Arg → Option Nat := rCut.K
theorem qRcut_K {f : Int} {a : Nat} (hf : okB f = true) (ha : a < 2 ^ 128) : qRcut [aF f, aB a] = some (cutN f a) := ctr2_K (a := dF) (b := dB) hf ha
theorem rcut_eq (f : Int) (a : Nat) : funC (dat h3) 100 Tryz.f63 [aF f, aB a] some = (qNbig [aB a]).bind fun r => (qRwidth [aF f]).bind fun r_1 => (qNcut [aN r, aI r_1]).bind fun r => some (rN r) := by kernel_rfl
theorem rCut_ok : CtrOk Tryz.prog (dat h3) rCut := by
  refine ctr2_ok h3_ok ⟨Tryz.func63, by kernel_rfl, by kernel_rfl⟩ 100 fun f a r hf ha hr => ?_
  cases hr
  have h := fmt_le hf
  refine ⟨(rcut_eq f a).trans ?_, rfl⟩
  rw [qNbig_K ha, Option.bind_some, qRwidth_K hf, Option.bind_some, qNcut_K (lt500 ha) (by omega) (by omega), Option.bind_some]
  rfl
noncomputable def h4 : Base := h3.with rCut
theorem h4_ok : BaseOk h4 := h3_ok.with rCut_ok
noncomputable def rSplitN (r : Bool × Int × Nat) : AV := .tup [.one (.bool r.1), .one (.int .i64 r.2.1), .one (.nat r.2.2)]
noncomputable def rSpl : Ctr := ctr2 109 dF dB (fun f a => some (splitN f a)) rSplitN
noncomputable def qRsplit : List Arg → Option (Bool × Int × Nat) := rSpl.K
theorem qRsplit_K {f : Int} {a : Nat} (hf : okB f = true) (ha : a < 2 ^ 128) : qRsplit [aF f, aB a] = some (splitN f a) := ctr2_K (a := dF) (b := dB) hf ha
theorem rsplit_eq (f : Int) (b : Nat) : funC (dat h4) 100 Tryz.f109 [aF f, aB b] some = (qRwidth [aF f]).bind fun r =>
    bif decide (r = 0) then some (rSplitN (false, 0, 0)) else (qRcut [aF f, aB b]).bind fun r => (qRwidth [aF f]).bind fun r_1 => (qNcut [aN r, aI (IntKind.wrap .i64 (r_1 - 1))]).bind fun r_2 => (qRprec [aF f]).bind fun r_3 =>
    (qNshr [aN r_2, aI (IntKind.wrap .i64 (r_3 - 1))]).bind fun r_4 => (qNbits [aN r_4]).bind fun r_5 => (qRwidth [aF f]).bind fun r_6 => (qNbit [aN r, aI (IntKind.wrap .i64 (r_6 - 1))]).bind fun r =>
    (qRprec [aF f]).bind fun r_7 => (qNcut [aN r_2, aI (IntKind.wrap .i64 (r_7 - 1))]).bind fun r_8 => some (rSplitN (r, IntKind.wrap .i64 (loW r_5), r_8)) := by kernel_rfl
theorem rSpl_ok : CtrOk Tryz.prog (dat h4) rSpl := by
  refine ctr2_ok h4_ok ⟨Tryz.func109, by kernel_rfl, by kernel_rfl⟩ 100 fun f a r hf ha hr => ?_
  cases hr
  have h := fmt_le hf
  have h' := fmt_small hf
  have ha : a < 2 ^ 128 := ha
  refine ⟨(rsplit_eq f a).trans ?_, rfl⟩
  rw [qRwidth_K hf, Option.bind_some]
  unfold splitN
  by_cases h0 : fmtW f = 0
  · simp only [decide_eq_true h0, cond_true]
  · have h1 := h'.2.2.2 h0
    have hcut := cutN_lt (f := f) ha
    simp only [decide_eq_false h0, cond_false]
    simp only [qRcut_K hf ha, qRprec_K hf, Option.bind_some]
    rw [i64w (fmtW f - 1) (by omega) (by omega), i64w (fmtP f - 1) (by omega) (by omega), qNcut_K (lt500 hcut) (by omega) (by omega), Option.bind_some]
    have hr1 : cutN f a % 2 ^ (fmtW f - 1).toNat < 2 ^ 128 := Nat.lt_of_le_of_lt (Nat.mod_le _ _) hcut
    have hr2 : cutN f a % 2 ^ (fmtW f - 1).toNat / 2 ^ (fmtP f - 1).toNat < 2 ^ 128 := Nat.lt_of_le_of_lt (Nat.div_le_self _ _) hr1
    rw [qNshr_K (nd_128 hr1) (by omega) (by omega), Option.bind_some, qNbits_K (nd_128 hr2), Option.bind_some, qNbit_K (nd_128 hcut) (by omega) (by omega), Option.bind_some, qNcut_K (lt500 hr1) (by omega) (by omega), Option.bind_some]
    have hk : (fmtW f - 1).toNat = (fmtP f - 1).toNat + (fmtW f - fmtP f).toNat := by omega
    have e1 : cutN f a % 2 ^ (fmtW f - 1).toNat / 2 ^ (fmtP f - 1).toNat = lowN (rightN (cutN f a) (fmtP f - 1)) (fmtW f - fmtP f) := by
      unfold lowN rightN
      rw [hk, Nat.pow_add, Nat.mod_mul_right_div_self]
      have e : min (fmtP f - 1).toNat 128 = (fmtP f - 1).toNat := by omega
      rw [e]
    have e2 : cutN f a % 2 ^ (fmtW f - 1).toNat % 2 ^ (fmtP f - 1).toNat = lowN a (fmtP f - 1) := by
      unfold cutN lowN
      rw [Nat.mod_mod_of_dvd, Nat.mod_mod_of_dvd]
      · exact Nat.pow_dvd_pow 2 (by omega)
      · rw [hk]; exact Nat.pow_dvd_pow 2 (by omega)
    have e3 : decide (cutN f a / 2 ^ (fmtW f - 1).toNat % 2 = 1) = bitN a (fmtW f - 1) := by
      rw [← Nat.testBit_eq_decide_div_mod_eq]
      unfold bitN cutN lowN
      rw [Nat.testBit_mod_two_pow, decide_eq_true (by omega : (fmtW f - 1).toNat < (fmtW f).toNat), decide_eq_true (by omega : 0 ≤ fmtW f - 1)]
    rw [e1] at hr2 ⊢
    rw [e2, e3, Nat.mod_eq_of_lt hr2]
    generalize hx : rightN (cutN f a) (fmtP f - 1) = x
    have h2 : lowN x (fmtW f - fmtP f) < 2 ^ 15 := Nat.lt_of_lt_of_le (lowN_lt _ _) (Nat.pow_le_pow_right (by decide) (by omega))
    rw [loW_eq, Nat.mod_eq_of_lt (by omega : lowN x (fmtW f - fmtP f) < 18446744073709551616), i64w _ (by omega) (by omega)]
end Go.Ev
end
