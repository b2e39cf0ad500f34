/- Part 27 of 46 of what the theorem stands on. -/
import Derived.Test.YtkbfmpomeejadaaGreatDoorRemaz

section
namespace Go.Ev
open Go.Proofs Go.RowKit
theorem p64 : (2 : Nat) ^ 64 = 18446744073709551616 := by decide
theorem p192 : (2 : Nat) ^ 192 = 6277101735386680763835789423207666416102355444464034512896 := by decide
theorem p256 : (2 : Nat) ^ 256 = 115792089237316195423570985008687907853269984665640564039457584007913129639936 := by decide
theorem hiW_zero : hiW 0 = 0 := by rw [hiW_eq]; rfl
theorem loW_zero : loW 0 = 0 := by rw [loW_eq]; rfl
theorem wA0 (n : Nat) : wAt n 0 = ((n % 18446744073709551616 : Nat) : Int) := by rw [wAt_eq, wordAt0]
theorem wA1 (n : Nat) : wAt n 1 = ((n / 18446744073709551616 % 18446744073709551616 : Nat) : Int) := by rw [wAt_eq, wordAt_succ _ 0, wordAt0]
theorem wA2 (n : Nat) : wAt n 2 = ((n / 340282366920938463463374607431768211456 % 18446744073709551616 : Nat) : Int) := by
  rw [wAt_eq]; unfold wordAt; rw [show 64 * 2 = 128 from rfl, p128, p64]
theorem wA3 (n : Nat) : wAt n 3 = ((n / 6277101735386680763835789423207666416102355444464034512896 % 18446744073709551616 : Nat) : Int) := by
  rw [wAt_eq]; unfold wordAt; rw [show 64 * 3 = 192 from rfl, p192, p64]
abbrev aQ (x y z u : Int) : Arg := .fv (.agg [.int .u64 x, .int .u64 y, .int .u64 z, .int .u64 u])
theorem ww_of {x y z u : Int} {n : Nat} (h0 : x = wAt n 0) (h1 : y = wAt n 1) (h2 : z = wAt n 2) (h3 : u = wAt n 3) : FV.agg [.int .u64 x, .int .u64 y, .int .u64 z, .int .u64 u] = ww n := by rw [h0, h1, h2, h3]; rfl
theorem ww_low {a : Nat} (h : a < 2 ^ 128) : FV.agg [.int .u64 (loW a), .int .u64 (hiW a), .int .u64 0, .int .u64 0] = ww a := by
  rw [p128] at h
  refine ww_of ?_ ?_ ?_ ?_
  · rw [wA0, loW_eq]
  · rw [wA1, hiW_eq]
  · rw [wA2]; omega
  · rw [wA3]; omega
theorem ww_high {a : Nat} (h : a < 2 ^ 128) : FV.agg [.int .u64 0, .int .u64 0, .int .u64 (loW a), .int .u64 (hiW a)] = ww (a * 340282366920938463463374607431768211456) := by
  rw [p128] at h
  refine ww_of ?_ ?_ ?_ ?_
  · rw [wA0]; omega
  · rw [wA1]; omega
  · rw [wA2, loW_eq]; omega
  · rw [wA3, hiW_eq]; omega
theorem bb_high {w : Nat} (h : w < 2 ^ 256) : FV.agg [.int .u64 (wAt w 3), .int .u64 (wAt w 2)] = bb (w / 340282366920938463463374607431768211456) := by
  rw [p256] at h
  refine bb_of ?_ ?_
  · rw [wA3, hiW_eq]; omega
  · rw [wA2, loW_eq]
theorem bb_low (w : Nat) : FV.agg [.int .u64 (wAt w 1), .int .u64 (wAt w 0)] = bb (w % 340282366920938463463374607431768211456) := by
  refine bb_of ?_ ?_
  · rw [wA1, hiW_eq]; omega
  · rw [wA0, loW_eq]; omega
noncomputable def gWideOf : Ctr := ctr1 42 dB (fun a => some a) rW
noncomputable def qWideOf : List Arg → Option Nat := gWideOf.K
theorem qWideOf_K {a : Nat} (h : a < 2 ^ 128) : qWideOf [aB a] = some a := ctr1_K (a := dB) h
theorem wideOf_eq (a : Nat) : funC (dat d2) 100 Tryz.f42 [aB a] some = some (.fv (.agg [.int .u64 (loW a), .int .u64 (hiW a), .int .u64 0, .int .u64 0])) := by kernel_rfl
theorem wideOf_ok : CtrOk Tryz.prog (dat d2) gWideOf := by
  refine ctr1_ok d2_ok ⟨Tryz.func42, by kernel_rfl, by kernel_rfl⟩ 100 fun a r ha hr => ?_
  cases hr
  refine ⟨(wideOf_eq a).trans ?_, rfl⟩
  rw [ww_low ha]
  rfl
noncomputable def d3 : Base := ((d2.with gLen64).with gWideOf).fun_ [(239, Tryz.f239)]
theorem d3_ok : BaseOk d3 := ((d2_ok.with len64_ok).with wideOf_ok).fun_ (by
  intro x hx
  simp only [List.mem_cons, List.not_mem_nil, or_false] at hx
  obtain rfl := hx
  exact ⟨Tryz.func239, by kernel_rfl, by kernel_rfl⟩)
noncomputable def gWideLen : Ctr := ctr1 170 dW (fun a => some ((lenN a : Nat) : Int)) rI
noncomputable def qWideLen : List Arg → Option Int := gWideLen.K
theorem qWideLen_K {a : Nat} (h : a < 2 ^ 256) : qWideLen [aW a] = some ((lenN a : Nat) : Int) := ctr1_K (a := dW) h
theorem wideLen_eq (w : Nat) : funC (dat d3) 100 Tryz.f170 [aW w] some =
    bif !decide (wAt w 3 = 0) then (qLen64 [aU (wAt w 3)]).bind fun r => some (rI (IntKind.wrap .i64 (192 + r))) else
    bif !decide (wAt w 2 = 0) then (qLen64 [aU (wAt w 2)]).bind fun r => some (rI (IntKind.wrap .i64 (128 + r))) else
    bif !decide (wAt w 1 = 0) then (qLen64 [aU (wAt w 1)]).bind fun r => some (rI (IntKind.wrap .i64 (64 + r))) else
    bif !decide (wAt w 0 = 0) then (qLen64 [aU (wAt w 0)]).bind fun r => some (rI (IntKind.wrap .i64 (0 + r))) else some (rI 0) := by kernel_rfl
theorem wideLen_step {n k x : Nat} (hx : x < 18446744073709551616) (hn : lenN n = lenN x + k) (hk : k ≤ 192) :
    ((qLen64 [aU (x : Int)]).bind fun r => some (rI (IntKind.wrap .i64 (k + r)))) = some (rI ((lenN n : Nat) : Int)) := by
  have hl : lenN x ≤ 64 := lenN_le (by rw [p64]; exact hx)
  rw [qLen64_K (okU_of (by omega) (by omega)), Option.bind_some, Int.toNat_natCast, hn, i64w _ (by omega) (by omega)]
  congr 2
  omega
theorem wideLen_ok : CtrOk Tryz.prog (dat d3) gWideLen := by
  refine ctr1_ok d3_ok ⟨Tryz.func170, by kernel_rfl, by kernel_rfl⟩ 100 fun w r hw hr => ?_
  cases hr
  refine ⟨(wideLen_eq w).trans ?_, rfl⟩
  have hw : w < 2 ^ 256 := hw
  rw [p256] at hw
  rw [wA0, wA1, wA2, wA3]
  by_cases h3 : w / 6277101735386680763835789423207666416102355444464034512896 % 18446744073709551616 = 0
  · rw [decide_eq_true (by omega : ((w / 6277101735386680763835789423207666416102355444464034512896 % 18446744073709551616 : Nat) : Int) = 0)]
    simp only [Bool.not_true, cond_false]
    by_cases h2 : w / 340282366920938463463374607431768211456 % 18446744073709551616 = 0
    · rw [decide_eq_true (by omega : ((w / 340282366920938463463374607431768211456 % 18446744073709551616 : Nat) : Int) = 0)]
      simp only [Bool.not_true, cond_false]
      by_cases h1 : w / 18446744073709551616 % 18446744073709551616 = 0
      · rw [decide_eq_true (by omega : ((w / 18446744073709551616 % 18446744073709551616 : Nat) : Int) = 0)]
        simp only [Bool.not_true, cond_false]
        have e : w % 18446744073709551616 = w := by omega
        rw [e]
        by_cases h0 : w = 0
        · rw [decide_eq_true (by omega : ((w : Nat) : Int) = 0), h0]
          rfl
        · rw [decide_eq_false (by omega : ¬ ((w : Nat) : Int) = 0)]
          exact wideLen_step (k := 0) (by omega) (by omega) (by omega)
      · rw [decide_eq_false (by omega : ¬ ((w / 18446744073709551616 % 18446744073709551616 : Nat) : Int) = 0)]
        have e : w / 18446744073709551616 % 18446744073709551616 = w / 2 ^ 64 := by rw [p64]; omega
        have hl := lenN_div (x := w) (k := 64) (by rw [p64]; omega)
        rw [e]
        exact wideLen_step (k := 64) (by omega) hl (by omega)
    · rw [decide_eq_false (by omega : ¬ ((w / 340282366920938463463374607431768211456 % 18446744073709551616 : Nat) : Int) = 0)]
      have e : w / 340282366920938463463374607431768211456 % 18446744073709551616 = w / 2 ^ 128 := by rw [p128]; omega
      have hl := lenN_div (x := w) (k := 128) (by rw [p128]; omega)
      rw [e]
      exact wideLen_step (k := 128) (by omega) hl (by omega)
  · rw [decide_eq_false (by omega : ¬ ((w / 6277101735386680763835789423207666416102355444464034512896 % 18446744073709551616 : Nat) : Int) = 0)]
    have e : w / 6277101735386680763835789423207666416102355444464034512896 % 18446744073709551616 = w / 2 ^ 192 := by rw [p192]; omega
    have hl := lenN_div (x := w) (k := 192) (by rw [p192]; omega)
    rw [e]
    exact wideLen_step (k := 192) (by omega) hl (by omega)
noncomputable def d4 : Base := (d3.with gWideLen).fun_ [(168, Tryz.f168), (167, Tryz.f167), (169, Tryz.f169), (172, Tryz.f172)]
theorem d4_ok : BaseOk d4 := (d3_ok.with wideLen_ok).fun_ (by
  intro x hx
  simp only [List.mem_cons, List.not_mem_nil, or_false] at hx
  rcases hx with rfl | rfl | rfl | rfl
  · exact ⟨Tryz.func168, by kernel_rfl, by kernel_rfl⟩
  · exact ⟨Tryz.func167, by kernel_rfl, by kernel_rfl⟩
  · exact ⟨Tryz.func169, by kernel_rfl, by kernel_rfl⟩
  · exact ⟨Tryz.func172, by kernel_rfl, by kernel_rfl⟩)
def raiseN (a : Nat) : Nat × Int := bif decide (a = 0) then (0, 0) else (a * 2 ^ (128 - lenN a), 128 - (lenN a : Int))
def wraiseN (a : Nat) : Nat × Int := bif decide (a = 0) then (0, 0) else (a * 2 ^ (256 - lenN a), 256 - (lenN a : Int))
noncomputable def rBI (r : Nat × Int) : AV := .tup [bb r.1, .one (.int .i64 r.2)]
noncomputable def rWI (r : Nat × Int) : AV := .tup [ww r.1, .one (.int .i64 r.2)]
noncomputable def gRaise : Ctr := ctr1 90 dB (fun a => some (raiseN a)) rBI
noncomputable def gWideRaise : Ctr := ctr1 243 dW (fun a => some (wraiseN a)) rWI
noncomputable def qRaise : List Arg → Option (Nat × Int) := gRaise.K
noncomputable def qWideRaise : List Arg → Option (Nat × Int) := gWideRaise.K
theorem qRaise_K {a : Nat} (h : a < 2 ^ 128) : qRaise [aB a] = some (raiseN a) := ctr1_K (a := dB) h
theorem qWideRaise_K {a : Nat} (h : a < 2 ^ 256) : qWideRaise [aW a] = some (wraiseN a) := ctr1_K (a := dW) h
theorem raise_eq (a : Nat) : funC (dat d4) 100 Tryz.f90 [aB a] some = (qWideLen [aQ 0 0 (loW a) (hiW a)]).bind fun r =>
    bif decide (r = 0) then some (.tup [bb a, .one (.int .i64 0)]) else (qWideLeft [aQ 0 0 (loW a) (hiW a), aI (IntKind.wrap .i64 (256 - r))]).bind fun r_1 => some (.tup [.agg [.int .u64 (wAt r_1 3), .int .u64 (wAt r_1 2)], .one (.int .i64 (IntKind.wrap .i64 (256 - r)))]) := by kernel_rfl
theorem wideRaise_eq (w : Nat) : funC (dat d4) 100 Tryz.f243 [aW w] some = (qWideLen [aW w]).bind fun r =>
    bif decide (r = 0) then some (.tup [ww w, .one (.int .i64 0)]) else (qWideLeft [aW w, aI (IntKind.wrap .i64 (256 - r))]).bind fun r_1 => some (.tup [ww r_1, .one (.int .i64 (IntKind.wrap .i64 (256 - r)))]) := by kernel_rfl
theorem raised_lt {a n : Nat} (ha : a < 2 ^ n) : a * 2 ^ (n - lenN a) < 2 ^ n := by
  have h1 := lenN_le ha
  have h2 := lenN_lt a
  have e : (2 : Nat) ^ n = 2 ^ lenN a * 2 ^ (n - lenN a) := by rw [← Nat.pow_add]; congr 1; omega
  rw [e]
  exact Nat.mul_lt_mul_of_pos_right h2 (Nat.two_pow_pos _)
theorem wideLeftN_raise {a : Nat} (ha : a < 2 ^ 256) : wideLeftN a (256 - (lenN a : Int)) = a * 2 ^ (256 - lenN a) := by
  have h1 := lenN_le ha
  unfold wideLeftN
  have e : min (256 - (lenN a : Int)).toNat 256 = 256 - lenN a := by omega
  rw [e]
  exact Nat.mod_eq_of_lt (raised_lt ha)
theorem raise_ok : CtrOk Tryz.prog (dat d4) gRaise := by
  refine ctr1_ok d4_ok ⟨Tryz.func90, by kernel_rfl, by kernel_rfl⟩ 100 fun a r ha hr => ?_
  cases hr
  refine ⟨(raise_eq a).trans ?_, rfl⟩
  have ha : a < 2 ^ 128 := ha
  have e : aQ 0 0 (loW a) (hiW a) = aW (a * 2 ^ 128) := by
    rw [p128]; exact congrArg Arg.fv (ww_high ha)
  have hw : a * 2 ^ 128 < 2 ^ 256 := by rw [p256]; rw [p128] at ha ⊢; omega
  rw [e, qWideLen_K hw, Option.bind_some]
  unfold raiseN
  by_cases h0 : a = 0
  · subst h0
    rw [Nat.zero_mul, lenN_zero, decide_eq_true (by omega : ((0 : Nat) : Int) = 0), decide_eq_true (rfl : (0 : Nat) = 0), cond_true, cond_true]
    rfl
  · have hl : lenN (a * 2 ^ 128) = lenN a + 128 := lenN_shift h0 128
    have hle : lenN a ≤ 128 := lenN_le ha
    rw [decide_eq_false h0, cond_false, decide_eq_false (by rw [hl]; omega : ¬ ((lenN (a * 2 ^ 128) : Nat) : Int) = 0), cond_false, i64w _ (by omega) (by omega), qWideLeft_K hw, Option.bind_some, wideLeftN_raise hw]
    have h256 := raised_lt hw
    rw [hl] at h256 ⊢
    have e2 : a * 2 ^ 128 * 2 ^ (256 - (lenN a + 128)) = a * 2 ^ (128 - lenN a) * 2 ^ 128 := by
      have : 256 - (lenN a + 128) = 128 - lenN a := by omega
      rw [this, Nat.mul_assoc, Nat.mul_comm (2 ^ 128), ← Nat.mul_assoc]
    rw [e2] at h256 ⊢
    rw [bb_high h256, ← p128, Nat.mul_div_cancel _ (Nat.two_pow_pos 128)]
    have e3 : (256 : Int) - ((lenN a + 128 : Nat) : Int) = 128 - (lenN a : Int) := by omega
    rw [e3]
    rfl
theorem wideRaise_ok : CtrOk Tryz.prog (dat d4) gWideRaise := by
  refine ctr1_ok d4_ok ⟨Tryz.func243, by kernel_rfl, by kernel_rfl⟩ 100 fun a r ha hr => ?_
  cases hr
  refine ⟨(wideRaise_eq a).trans ?_, rfl⟩
  have ha : a < 2 ^ 256 := ha
  rw [qWideLen_K ha, Option.bind_some]
  unfold wraiseN
  by_cases h0 : a = 0
  · subst h0
    rfl
  · have hp := (lenN_pos h0).2.2
    have hle : lenN a ≤ 256 := lenN_le ha
    rw [decide_eq_false h0, cond_false, decide_eq_false (by omega : ¬ ((lenN a : Nat) : Int) = 0), cond_false, i64w _ (by omega) (by omega), qWideLeft_K ha, Option.bind_some, wideLeftN_raise ha]
    rfl
noncomputable def d5 : Base := ((d4.with gRaise).with gWideRaise).fun_ [(85, Tryz.f85), (87, Tryz.f87), (91, Tryz.f91)]
theorem d5_ok : BaseOk d5 := ((d4_ok.with raise_ok).with wideRaise_ok).fun_ (by
  intro x hx
  simp only [List.mem_cons, List.not_mem_nil, or_false] at hx
  rcases hx with rfl | rfl | rfl
  · exact ⟨Tryz.func85, by kernel_rfl, by kernel_rfl⟩
  · exact ⟨Tryz.func87, by kernel_rfl, by kernel_rfl⟩
  · exact ⟨Tryz.func91, by kernel_rfl, by kernel_rfl⟩)
def unpackN (f : Int) (a : Nat) : Bool × Int × Int × Nat :=
  bif decide ((classN f a).1 = 2) then ((classN f a).2, 2, (splitN f a).2.1 - fmtX f, (splitN f a).2.2 * 2 ^ (128 - fmtP f).toNat + 2 ^ 127) else
  bif decide ((classN f a).1 = 1) then ((classN f a).2, 1, 1 - fmtX f + 128 - fmtP f - (raiseN (splitN f a).2.2).2, (raiseN (splitN f a).2.2).1) else
  ((classN f a).2, (classN f a).1, 0, 0)
noncomputable def rNum (r : Bool × Int × Int × Nat) : AV := .fv (.agg [.bool r.1, .int .u8 r.2.1, .int .i64 r.2.2.1, .int .u64 (hiW r.2.2.2), .int .u64 (loW r.2.2.2)])
noncomputable def gUnpack : Ctr := ctr2 37 dF dB (fun f a => some (unpackN f a)) rNum
noncomputable def qUnpack : List Arg → Option (Bool × Int × Int × Nat) := gUnpack.K
theorem qUnpack_K {f : Int} {a : Nat} (hf : okB f = true) (ha : a < 2 ^ 128) : qUnpack [aF f, aB a] = some (unpackN f a) := ctr2_K (a := dF) (b := dB) hf ha
theorem unpack_eq (f : Int) (a : Nat) : funC (dat d5) 100 Tryz.f37 [aF f, aB a] some = (qClass [aF f, aB a]).bind fun r => (qPrec [aF f]).bind fun r_1 => (qEmax [aF f]).bind fun r_2 => (qSplit [aF f, aB a]).bind fun r_3 =>
    bif decide (r.1 = 2) then (qLeft [aB r_3.2.2, aI (IntKind.wrap .i64 (128 - r_1))]).bind fun r_4 => (qAdd [aB r_4, aP 9223372036854775808 0]).bind fun r_5 => some (rNum (r.2, r.1, IntKind.wrap .i64 (r_3.2.1 - r_2), r_5.1))
    else bif decide (r.1 = 1) then (qRaise [aB r_3.2.2]).bind fun r_4 => some (rNum (r.2, r.1, IntKind.wrap .i64 (IntKind.wrap .i64 (IntKind.wrap .i64 (IntKind.wrap .i64 (1 - r_2) + 128) - r_1) - r_4.2), r_4.1))
    else some (.fv (.agg [.bool r.2, .int .u8 r.1, .int .i64 0, .int .u64 0, .int .u64 0])) := by kernel_rfl
theorem splitN_exp {f : Int} (hf : okB f = true) (a : Nat) : 0 ≤ (splitN f a).2.1 ∧ (splitN f a).2.1 < 32768 := by
  unfold splitN
  cases decide (fmtW f = 0)
  · simp only [cond_false]
    have h2 : lowN (rightN (cutN f a) (fmtP f - 1)) (fmtW f - fmtP f) < 2 ^ 15 := Nat.lt_of_lt_of_le (lowN_lt _ _) (Nat.pow_le_pow_right (by decide) (by have := fmt_small hf; omega))
    omega
  · simp only [cond_true]; omega
theorem splitN_frac {f : Int} (h0 : fmtW f ≠ 0) (a : Nat) : (splitN f a).2.2 < 2 ^ (fmtP f - 1).toNat := by
  unfold splitN
  rw [decide_eq_false h0]
  exact lowN_lt _ _
theorem class_known {f : Int} (hf : okB f = true) {a : Nat} (h : (classN f a).1 ≠ 0) : fmtW f ≠ 0 := fun h0 => by
  have := (fmt_small hf).2.2.1.1 h0
  rw [class_unknown this] at h
  exact h rfl
theorem raiseN_lt {a : Nat} (ha : a < 2 ^ 128) : (raiseN a).1 < 2 ^ 128 ∧ 0 ≤ (raiseN a).2 ∧ (raiseN a).2 ≤ 128 := by
  unfold raiseN
  cases decide (a = 0)
  · simp only [cond_false]
    exact ⟨raised_lt ha, by have := lenN_le ha; omega, by omega⟩
  · simp only [cond_true]
    exact ⟨by decide, by decide, by decide⟩
theorem unpack_ok : CtrOk Tryz.prog (dat d5) gUnpack := by
  refine ctr2_ok d5_ok ⟨Tryz.func37, by kernel_rfl, by kernel_rfl⟩ 100 fun f a r hf ha hr => ?_
  cases hr
  refine ⟨(unpack_eq f a).trans ?_, rfl⟩
  have h := fmt_le hf
  have hs := splitN_exp hf a
  rw [qClass_K hf ha, Option.bind_some, qPrec_K hf, Option.bind_some, qEmax_K hf, Option.bind_some, qSplit_K hf ha, Option.bind_some]
  unfold unpackN
  by_cases h2 : (classN f a).1 = 2
  · have h0 := class_known hf (a := a) (by rw [h2]; decide)
    have h1 := (fmt_small hf).2.2.2 h0
    have hx := splitN_frac h0 a
    rw [decide_eq_true h2, cond_true, cond_true, i64w _ (by omega) (by omega), i64w _ (by omega) (by omega), qLeft_K (splitN_lt ha), Option.bind_some, leftN_small hx (by omega)]
    have e : aP 9223372036854775808 0 = aB (2 ^ 127) := aP_eq (by rw [hiW_eq]; rfl) (by rw [loW_eq]; rfl)
    have hj := join_lt (k := (128 - fmtP f).toNat) hx (Nat.two_pow_pos _)
    have he : (fmtP f - 1).toNat + (128 - fmtP f).toNat = 127 := by omega
    rw [he] at hj
    have h128 : 2 ^ 127 + 2 ^ 127 = 2 ^ 128 := by decide
    generalize (splitN f a).2.2 * 2 ^ (128 - fmtP f).toNat = u at *
    rw [e, qAdd_K (by omega) (by decide), Option.bind_some]
    have e3 : (addN u (2 ^ 127)).1 = u + 2 ^ 127 := Nat.mod_eq_of_lt (by omega)
    rw [e3, h2]
  · rw [decide_eq_false h2, cond_false, cond_false]
    by_cases h1 : (classN f a).1 = 1
    · have hr := raiseN_lt (splitN_lt (f := f) ha)
      rw [decide_eq_true h1, cond_true, cond_true, qRaise_K (splitN_lt ha), Option.bind_some, i64w (1 - fmtX f) (by omega) (by omega), i64w (1 - fmtX f + 128) (by omega) (by omega), i64w (1 - fmtX f + 128 - fmtP f) (by omega) (by omega), i64w _ (by omega) (by omega), h1]
    · rw [decide_eq_false h1, cond_false, cond_false]
      show some (AV.fv (.agg [.bool (classN f a).2, .int .u8 (classN f a).1, .int .i64 0, .int .u64 0, .int .u64 0])) = some (.fv (.agg [.bool (classN f a).2, .int .u8 (classN f a).1, .int .i64 0, .int .u64 (hiW 0), .int .u64 (loW 0)]))
      rw [hiW_zero, loW_zero]
end Go.Ev
end

section
namespace Go.Ev
open Go.Proofs Go.RowKit
noncomputable def d6 : Base := (d5.with gUnpack).fun_ [(308, Tryz.f308), (342, Tryz.f342), (343, Tryz.f343), (344, Tryz.f344), (345, Tryz.f345), (346, Tryz.f346), (306, Tryz.f306), (307, Tryz.f307), (244, Tryz.f244)]
theorem d6_ok : BaseOk d6 := (d5_ok.with unpack_ok).fun_ (by
  intro x hx
  simp only [List.mem_cons, List.not_mem_nil, or_false] at hx
  rcases hx with rfl | rfl | rfl | rfl | rfl | rfl | rfl | rfl | rfl
  · exact ⟨Tryz.func308, by kernel_rfl, by kernel_rfl⟩
  · exact ⟨Tryz.func342, by kernel_rfl, by kernel_rfl⟩
  · exact ⟨Tryz.func343, by kernel_rfl, by kernel_rfl⟩
  · exact ⟨Tryz.func344, by kernel_rfl, by kernel_rfl⟩
  · exact ⟨Tryz.func345, by kernel_rfl, by kernel_rfl⟩
  · exact ⟨Tryz.func346, by kernel_rfl, by kernel_rfl⟩
  · exact ⟨Tryz.func306, by kernel_rfl, by kernel_rfl⟩
  · exact ⟨Tryz.func307, by kernel_rfl, by kernel_rfl⟩
  · exact ⟨Tryz.func244, by kernel_rfl, by kernel_rfl⟩)
theorem words_eq {a b : Nat} (ha : a < 2 ^ 256) (hb : b < 2 ^ 256) : (decide (wAt a 0 = wAt b 0) && (decide (wAt a 1 = wAt b 1) && (decide (wAt a 2 = wAt b 2) && (decide (wAt a 3 = wAt b 3) && true)))) = decide (a = b) := by
  rw [Bool.and_true, ← Bool.decide_and, ← Bool.decide_and, ← Bool.decide_and]
  refine decide_eq_decide.2 ⟨fun ⟨h0, h1, h2, h3⟩ => ?_, fun h => by rw [h]; exact ⟨rfl, rfl, rfl, rfl⟩⟩
  have e1 := wt_wide a ha
  have e2 := wt_wide b hb
  rw [wAt_eq, wAt_eq] at h0 h1 h2 h3
  rw [h0, h1, h2, h3, e2] at e1
  exact (Option.some.inj e1).symm
noncomputable def gWideZero : Ctr := ctr1 50 dW (fun a => some (decide (a = 0))) rT
noncomputable def qWideZero : List Arg → Option Bool := gWideZero.K
theorem qWideZero_K {a : Nat} (h : a < 2 ^ 256) : qWideZero [aW a] = some (decide (a = 0)) := ctr1_K (a := dW) h
theorem wideZero_eq (w : Nat) : funC (dat d6) 100 Tryz.f50 [aW w] some = some (rT (decide (wAt w 0 = 0) && (decide (wAt w 1 = 0) && (decide (wAt w 2 = 0) && (decide (wAt w 3 = 0) && true))))) := by kernel_rfl
theorem wideZero_ok : CtrOk Tryz.prog (dat d6) gWideZero := by
  refine ctr1_ok d6_ok ⟨Tryz.func50, by kernel_rfl, by kernel_rfl⟩ 100 fun w r hw hr => ?_
  cases hr
  refine ⟨(wideZero_eq w).trans ?_, rfl⟩
  have h := words_eq (b := 0) hw (Nat.two_pow_pos 256)
  have z : ∀ i, wAt 0 i = 0 := fun i => by rw [wAt_eq]; unfold wordAt; rw [Nat.zero_div, Nat.zero_mod]; rfl
  rw [z, z, z, z] at h
  rw [h]
noncomputable def gModeKnown : Ctr := ctr1 129 dF (fun m => some (decide (m ≤ 4))) rT
noncomputable def qModeKnown : List Arg → Option Bool := gModeKnown.K
theorem qModeKnown_K {m : Int} (h : okB m = true) : qModeKnown [aF m] = some (decide (m ≤ 4)) := ctr1_K (a := dF) h
theorem modeKnown_eq (m : Int) : funC (dat d6) 100 Tryz.f129 [aF m] some = some (rT (decide (m ≤ 4))) := by kernel_rfl
theorem modeKnown_ok : CtrOk Tryz.prog (dat d6) gModeKnown := by
  refine ctr1_ok d6_ok ⟨Tryz.func129, by kernel_rfl, by kernel_rfl⟩ 100 fun m r _ hr => ?_
  cases hr
  exact ⟨modeKnown_eq m, rfl⟩
def ruleN (m : Int) (n o : Bool) (r : Int) : Bool :=
  bif decide (m = 0) then decide (r = 3) || (decide (r = 2) && o) else bif decide (m = 1) then decide (2 ≤ r) else bif decide (m = 2) then !n else bif decide (m = 3) then n else false
def nextN (m : Int) (n o : Bool) (r : Int) : Bool := decide (0 < r) && (decide (r ≤ 3) && ruleN m n o r)
noncomputable def gModeNext : Ctr := ctr4 247 dF dT dT dF (fun m n o r => some (nextN m n o r)) rT
noncomputable def qModeNext : List Arg → Option Bool := gModeNext.K
theorem qModeNext_K {m r : Int} (h : okB m = true) (n o : Bool) (hr : okB r = true) : qModeNext [aF m, aT n, aT o, aF r] = some (nextN m n o r) := ctr4_K (a := dF) (b := dT) (c := dT) (d := dF) h trivial trivial hr
theorem modeNext_eq (m : Int) (n o : Bool) (r : Int) : funC (dat d6) 200 Tryz.f247 [aF m, aT n, aT o, aF r] some =
    bif decide (m = 0) then bif decide (0 < r) then bif decide (r ≤ 3) then bif decide (r = 3) then some (rT true) else bif decide (r = 2) then some (rT o) else some (rT false) else some (rT false) else some (rT false) else
    bif decide (m = 1) then bif decide (0 < r) then bif decide (r ≤ 3) then some (rT (decide (2 ≤ r))) else some (rT false) else some (rT false) else
    bif decide (m = 2) then bif decide (0 < r) then bif decide (r ≤ 3) then some (rT !n) else some (rT false) else some (rT false) else
    bif decide (m = 3) then bif decide (0 < r) then bif decide (r ≤ 3) then some (rT n) else some (rT false) else some (rT false) else
    bif decide (m = 4) then bif decide (0 < r) then bif decide (r ≤ 3) then some (rT false) else some (rT false) else some (rT false) else some (rT false) := by kernel_rfl
theorem modeNext_ok : CtrOk Tryz.prog (dat d6) gModeNext := by
  refine ctr4_ok d6_ok ⟨Tryz.func247, by kernel_rfl, by kernel_rfl⟩ 200 fun m n o r x _ _ _ _ hr => ?_
  cases hr
  refine ⟨(modeNext_eq m n o r).trans ?_, rfl⟩
  unfold nextN ruleN
  cases decide (m = 0) <;> cases decide (m = 1) <;> cases decide (m = 2) <;> cases decide (m = 3) <;> cases decide (m = 4) <;> cases decide (0 < r) <;> cases decide (r ≤ 3) <;> cases decide (r = 3) <;> cases decide (r = 2) <;> rfl
def lostN (w : Nat) (n : Int) : Bool := !decide (w % 2 ^ n.toNat = 0)
noncomputable def gLost : Ctr := ctr2 253 dW dA (fun w n => some (lostN w n)) rT
noncomputable def qLost : List Arg → Option Bool := gLost.K
theorem qLost_K {w : Nat} (h : w < 2 ^ 256) (n : Int) : qLost [aW w, aI n] = some (lostN w n) := ctr2_K (a := dW) (b := dA) h trivial
theorem lost_eq (w : Nat) (n : Int) : funC (dat d6) 100 Tryz.f253 [aW w, aI n] some = (qWideRight [aW w, aI n]).bind fun r => (qWideLeft [aW r, aI n]).bind fun r =>
    some (rT !(decide (wAt r 0 = wAt w 0) && (decide (wAt r 1 = wAt w 1) && (decide (wAt r 2 = wAt w 2) && (decide (wAt r 3 = wAt w 3) && true))))) := by kernel_rfl
theorem wideRightN_lt {w : Nat} (h : w < 2 ^ 256) (n : Int) : wideRightN w n < 2 ^ 256 := Nat.lt_of_le_of_lt (Nat.div_le_self _ _) h
theorem wideLeftN_lt (w : Nat) (n : Int) : wideLeftN w n < 2 ^ 256 := Nat.mod_lt _ (Nat.two_pow_pos 256)
theorem wideRight_all {w : Nat} (h : w < 2 ^ 256) (n : Int) : wideRightN w n = w / 2 ^ n.toNat := by
  unfold wideRightN
  by_cases hn : n.toNat ≤ 256
  · have e : min n.toNat 256 = n.toNat := by omega
    rw [e]
  · have e : min n.toNat 256 = 256 := by omega
    rw [e, Nat.div_eq_of_lt h, Nat.div_eq_of_lt (Nat.lt_of_lt_of_le h (Nat.pow_le_pow_right (by decide) (by omega)))]
theorem back_again {w : Nat} (h : w < 2 ^ 256) (n : Int) : wideLeftN (wideRightN w n) n = w - w % 2 ^ n.toNat := by
  have hd := Nat.div_add_mod w (2 ^ n.toNat)
  by_cases hn : n.toNat ≤ 256
  · rw [wideRight_all h]
    unfold wideLeftN
    have e : min n.toNat 256 = n.toNat := by omega
    rw [e]
    rw [Nat.mul_comm] at hd
    rw [Nat.mod_eq_of_lt (by omega)]
    omega
  · have hw : w < 2 ^ n.toNat := Nat.lt_of_lt_of_le h (Nat.pow_le_pow_right (by decide) (by omega))
    rw [wideRight_all h, Nat.div_eq_of_lt hw, Nat.mod_eq_of_lt hw, Nat.sub_self]
    unfold wideLeftN
    rw [Nat.zero_mul, Nat.zero_mod]
theorem lost_ok : CtrOk Tryz.prog (dat d6) gLost := by
  refine ctr2_ok d6_ok ⟨Tryz.func253, by kernel_rfl, by kernel_rfl⟩ 100 fun w n r hw _ hr => ?_
  cases hr
  refine ⟨(lost_eq w n).trans ?_, rfl⟩
  rw [qWideRight_K hw, Option.bind_some, qWideLeft_K (wideRightN_lt hw n), Option.bind_some, words_eq (wideLeftN_lt _ _) hw, back_again hw]
  have h1 := Nat.mod_le w (2 ^ n.toNat)
  have e : decide (w - w % 2 ^ n.toNat = w) = decide (w % 2 ^ n.toNat = 0) := decide_eq_decide.2 (by omega)
  rw [e]
  rfl
noncomputable def d7 : Base := (((d6.with gWideZero).with gModeKnown).with gModeNext).with gLost
theorem d7_ok : BaseOk d7 := (((d6_ok.with wideZero_ok).with modeKnown_ok).with modeNext_ok).with lost_ok
def jamN (w : Nat) (n : Int) : Nat := bif lostN w n then (w / 2 ^ n.toNat) ||| 1 else w / 2 ^ n.toNat
noncomputable def gWideJam : Ctr := ctr2 185 dW dA (fun w n => some (jamN w n)) rW
noncomputable def qWideJam : List Arg → Option Nat := gWideJam.K
theorem qWideJam_K {w : Nat} (h : w < 2 ^ 256) (n : Int) : qWideJam [aW w, aI n] = some (jamN w n) := ctr2_K (a := dW) (b := dA) h trivial
theorem wideJam_eq (w : Nat) (n : Int) : funC (dat d7) 100 Tryz.f185 [aW w, aI n] some = (qWideRight [aW w, aI n]).bind fun r => (qLost [aW w, aI n]).bind fun r_1 =>
    bif r_1 then some (.fv (.agg [.int .u64 (wOr (wAt r 0) 1), .int .u64 (wAt r 1), .int .u64 (wAt r 2), .int .u64 (wAt r 3)])) else some (rW r) := by kernel_rfl
theorem wOr_one (x : Nat) (hx : x < 2 ^ 64) : wOr (x : Int) 1 = ((x ||| 1 : Nat) : Int) := wOr_nat x 1 hx (by decide)
theorem wordAt_small {a j : Nat} (ha : a < 2 ^ 64) (hj : j ≠ 0) : wordAt a j = 0 := wordAt_zero_of (Nat.lt_of_lt_of_le ha (Nat.pow_le_pow_right (by decide) (by omega)))
theorem ww_or_one (r : Nat) : FV.agg [.int .u64 (wOr (wAt r 0) 1), .int .u64 (wAt r 1), .int .u64 (wAt r 2), .int .u64 (wAt r 3)] = ww (r ||| 1) := by
  refine ww_of ?_ ?_ ?_ ?_
  · rw [wAt_eq, wAt_eq, wOr_one _ (wordAt_lt _ _), wordAt_or]
    rfl
  · rw [wAt_eq, wAt_eq, wordAt_or, wordAt_small (a := 1) (by decide) (by decide), Nat.or_zero]
  · rw [wAt_eq, wAt_eq, wordAt_or, wordAt_small (a := 1) (by decide) (by decide), Nat.or_zero]
  · rw [wAt_eq, wAt_eq, wordAt_or, wordAt_small (a := 1) (by decide) (by decide), Nat.or_zero]
theorem wideJam_ok : CtrOk Tryz.prog (dat d7) gWideJam := by
  refine ctr2_ok d7_ok ⟨Tryz.func185, by kernel_rfl, by kernel_rfl⟩ 100 fun w n r hw _ hr => ?_
  cases hr
  refine ⟨(wideJam_eq w n).trans ?_, rfl⟩
  rw [qWideRight_K hw, Option.bind_some, qLost_K hw, Option.bind_some, wideRight_all hw, ww_or_one]
  unfold jamN
  cases lostN w n <;> rfl
theorem jamN_lt {w : Nat} (hw : w < 2 ^ 256) (n : Int) : jamN w n < 2 ^ 256 := by
  have h1 : w / 2 ^ n.toNat < 2 ^ 256 := Nat.lt_of_le_of_lt (Nat.div_le_self _ _) hw
  unfold jamN
  cases lostN w n
  · exact h1
  · exact Nat.or_lt_two_pow h1 (Nat.one_lt_two_pow (by decide))
def restN (w : Nat) (k : Int) : Int :=
  bif decide (k < 0) || decide (127 < k) then 0 else
    bif w.testBit (255 - k).toNat then (bif lostN w (255 - k) then 3 else 2) else (bif lostN w (255 - k) then 1 else 0)
def rByte (r : Int) : AV := .fv (.one (.int .u8 r))
noncomputable def gRest : Ctr := ctr2 246 dW dI (fun w k => some (restN w k)) rByte
noncomputable def qRest : List Arg → Option Int := gRest.K
theorem qRest_K {w : Nat} {k : Int} (h : w < 2 ^ 256) (hk : okS k = true) : qRest [aW w, aI k] = some (restN w k) := ctr2_K (a := dW) (b := dI) h hk
noncomputable def restAt (w : Nat) (e x : Int) : Option AV :=
  let s : Int := IntKind.wrap .i64 (BitVec.toNat (BitVec.ofInt 64 e &&& BitVec.ofInt 64 63))
  let b : Bool := decide (IntKind.wrap .u64 (BitVec.toNat (BitVec.ofInt 64 (shr .u64 x s) &&& BitVec.ofInt 64 1)) = 1)
  bif decide (0 ≤ s) then (qLost [aW w, aI e]).bind fun r => bif b then (bif r then some (rByte 3) else bif b then some (rByte 2) else bif r then some (rByte 1) else some (rByte 0)) else bif b then some (rByte 2) else bif r then some (rByte 1) else some (rByte 0) else none
theorem rest_eq (w : Nat) (k : Int) : funC (dat d7) 100 Tryz.f246 [aW w, aI k] some = bif decide (k < 0) then some (rByte 0) else bif decide (127 < k) then some (rByte 0) else
    bif decide (shr .i64 (IntKind.wrap .i64 (255 - k)) 6 = 0) then restAt w (IntKind.wrap .i64 (255 - k)) (wAt w 0) else
    bif decide (shr .i64 (IntKind.wrap .i64 (255 - k)) 6 = 1) then restAt w (IntKind.wrap .i64 (255 - k)) (wAt w 1) else
    bif decide (shr .i64 (IntKind.wrap .i64 (255 - k)) 6 = 2) then restAt w (IntKind.wrap .i64 (255 - k)) (wAt w 2) else
    bif decide (shr .i64 (IntKind.wrap .i64 (255 - k)) 6 = 3) then restAt w (IntKind.wrap .i64 (255 - k)) (wAt w 3) else none := by kernel_rfl
theorem restAt_eq {w : Nat} (hw : w < 2 ^ 256) {e : Int} (h0 : 0 ≤ e) (h1 : e < 256) {j : Nat} (hj : e / 64 = j) :
    restAt w e (wAt w j) = some (rByte (bif w.testBit e.toNat then (bif lostN w e then 3 else 2) else (bif lostN w e then 1 else 0))) := by
  unfold restAt
  simp only
  rw [and63, i64w (e % 64) (by omega) (by omega), wAt_eq, word_bit (wordAt_lt _ _) (by omega) (by omega), wordAt_bit, decide_eq_true (by omega : 0 ≤ e % 64), cond_true, qLost_K hw, Option.bind_some]
  have e1 : 64 * j + (e % 64).toNat = e.toNat := by omega
  have e2 : decide ((e % 64).toNat < 64) = true := decide_eq_true (by omega)
  rw [e1, e2]
  cases w.testBit e.toNat <;> cases lostN w e <;> rfl
theorem rest_ok : CtrOk Tryz.prog (dat d7) gRest := by
  refine ctr2_ok d7_ok ⟨Tryz.func246, by kernel_rfl, by kernel_rfl⟩ 100 fun w k r hw hk hr => ?_
  cases hr
  refine ⟨(rest_eq w k).trans ?_, rfl⟩
  have hk := okS_spec hk
  unfold restN
  by_cases h0 : k < 0
  · rw [decide_eq_true h0]; rfl
  · rw [decide_eq_false h0]
    by_cases h1 : 127 < k
    · rw [decide_eq_true h1]; rfl
    · rw [decide_eq_false h1, i64w _ (by omega) (by omega), shr6]
      simp only [cond_false, Bool.or_false]
      have : (255 - k) / 64 = 2 ∨ (255 - k) / 64 = 3 := by omega
      rcases this with h | h
      · rw [h, restAt_eq hw (by omega) (by omega) h]
        rfl
      · rw [h, restAt_eq (j := 3) hw (by omega) (by omega) h]
        rfl
end Go.Ev
end
