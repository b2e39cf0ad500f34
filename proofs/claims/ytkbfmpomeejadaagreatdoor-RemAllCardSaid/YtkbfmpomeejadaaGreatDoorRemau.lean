/- Part 21 of 46 of what the theorem stands on. -/
import Derived.Test.YtkbfmpomeejadaaGreatDoorRemat

section
namespace Go.Ev
open Go.Proofs
noncomputable def b1 : Base := { funs := [], eqs := [], ctrs := [cKnown, cLeft, cRight, cWideLeft, cWideRight] }
theorem b1_ok : BaseOk b1 where
  funs := by simp [b1]
  eqs := by simp [b1]
  ctrs := by
    intro c hc
    simp only [b1, List.mem_cons, List.not_mem_nil, or_false] at hc
    rcases hc with rfl | rfl | rfl | rfl | rfl
    · exact known_ok
    · exact left_ok
    · exact right_ok
    · exact wideLeft_ok
    · exact wideRight_ok
/-- A byte that is in range. -/
def okB (x : Int) : Bool := decide (0 ≤ x) && decide (x < 256)
/-- A format's width, digits, greatest exponent: nought beyond the four. -/
def fmtW (f : Int) : Int := bif decide (f = 0) then 16 else bif decide (f = 1) then 32 else bif decide (f = 2) then 64 else bif decide (f = 3) then 128 else 0
def fmtP (f : Int) : Int := bif decide (f = 0) then 11 else bif decide (f = 1) then 24 else bif decide (f = 2) then 53 else bif decide (f = 3) then 113 else 0
def fmtX (f : Int) : Int := bif decide (f = 0) then 15 else bif decide (f = 1) then 127 else bif decide (f = 2) then 1023 else bif decide (f = 3) then 16383 else 0
def kOf (f : Int) : Option (Int × Int × Int) := bif okB f then some (fmtW f, fmtP f, fmtX f) else none
def cOf : Ctr := { f := 162, R := Int × Int × Int, K := fun | [.fv (.one (.int .u8 f))] => kOf f | _ => none, res := fun r => .fv (.agg [.int .i64 r.1, .int .i64 r.2.1, .int .i64 r.2.2]) }
def rowL (a b c : Int) : AV := .fv (.agg [.int .i64 a, .int .i64 b, .int .i64 c])
theorem of_eq (f : Int) : funC (dat b1) 100 Tryz.f162 [.fv (.one (.int .u8 f))] some =
    bif !decide (IntKind.i64.wrap f < 4) then some (rowL 0 0 0) else bif decide (f = 0) then some (rowL 16 11 15) else bif decide (f = 1) then some (rowL 32 24 127) else
      bif decide (f = 2) then some (rowL 64 53 1023) else bif decide (f = 3) then some (rowL 128 113 16383) else none := by kernel_rfl
theorem fmt_cases {f : Int} (h : okB f = true) : f = 0 ∨ f = 1 ∨ f = 2 ∨ f = 3 ∨ (4 ≤ f ∧ f < 256) := by
  unfold okB at h
  simp at h
  omega
theorem of_ok : CtrOk Tryz.prog (dat b1) cOf := by
  refine ctr_of mixed b1_ok.data (callable_of Tryz.func162 (by kernel_rfl) (by kernel_rfl)) Tryz.func162 100 fun xs r h => ?_
  unfold cOf at h
  simp only at h
  split at h
  · rename_i f
    have h : (bif okB f then some (fmtW f, fmtP f, fmtX f) else none) = some (show Int × Int × Int from r) := h
    obtain ⟨h1, h2⟩ := bif_inv h
    cases h2
    refine ⟨?_, rfl⟩
    rw [of_eq]
    rcases fmt_cases h1 with rfl | rfl | rfl | rfl | ⟨h2, h3⟩
    · rfl
    · rfl
    · rfl
    · rfl
    · have e1 : decide (IntKind.i64.wrap f < 4) = false := decide_eq_false (by rw [i64w _ (by omega) (by omega)]; omega)
      have e2 : ∀ k : Int, k < 4 → decide (f = k) = false := fun k hk => decide_eq_false (by omega)
      rw [e1]
      show some (rowL 0 0 0) = some (rowL (fmtW f) (fmtP f) (fmtX f))
      simp only [fmtW, fmtP, fmtX, e2 0 (by decide), e2 1 (by decide), e2 2 (by decide), e2 3 (by decide), cond_false]
  · cases h
end Go.Ev
end

section
namespace Go.Ev
open Go.Proofs
noncomputable def b2 : Base := b1.with cOf
theorem b2_ok : BaseOk b2 := b1_ok.with of_ok
def kWidth (f : Int) : Option Int := bif okB f then some (fmtW f) else none
def kPrec (f : Int) : Option Int := bif okB f then some (fmtP f) else none
def kEmax (f : Int) : Option Int := bif okB f then some (fmtX f) else none
def cWidth : Ctr := { f := 100, R := Int, K := fun | [.fv (.one (.int .u8 f))] => kWidth f | _ => none, res := fun r => .fv (.one (.int .i64 r)) }
def cPrec : Ctr := { f := 161, R := Int, K := fun | [.fv (.one (.int .u8 f))] => kPrec f | _ => none, res := fun r => .fv (.one (.int .i64 r)) }
def cEmax : Ctr := { f := 159, R := Int, K := fun | [.fv (.one (.int .u8 f))] => kEmax f | _ => none, res := fun r => .fv (.one (.int .i64 r)) }
theorem width_eq (f : Int) : funC (dat b2) 100 Tryz.f100 [.fv (.one (.int .u8 f))] some = (kOf f).bind fun r => some (.fv (.one (.int .i64 r.1))) := by kernel_rfl
theorem prec_eq (f : Int) : funC (dat b2) 100 Tryz.f161 [.fv (.one (.int .u8 f))] some = (kOf f).bind fun r => some (.fv (.one (.int .i64 r.2.1))) := by kernel_rfl
theorem emax_eq (f : Int) : funC (dat b2) 100 Tryz.f159 [.fv (.one (.int .u8 f))] some = (kOf f).bind fun r => some (.fv (.one (.int .i64 r.2.2))) := by kernel_rfl
theorem kOf_some {f : Int} (h : okB f = true) : kOf f = some (fmtW f, fmtP f, fmtX f) := by unfold kOf; rw [h]; rfl
theorem width_ok : CtrOk Tryz.prog (dat b2) cWidth := by
  refine ctr_of mixed b2_ok.data (callable_of Tryz.func100 (by kernel_rfl) (by kernel_rfl)) Tryz.func100 100 fun xs r h => ?_
  unfold cWidth at h
  simp only at h
  split at h
  · rename_i f
    have h : (bif okB f then some (fmtW f) else none) = some (show Int from r) := h
    obtain ⟨h1, h2⟩ := bif_inv h
    cases h2
    exact ⟨by rw [width_eq, kOf_some h1]; rfl, rfl⟩
  · cases h
theorem prec_ok : CtrOk Tryz.prog (dat b2) cPrec := by
  refine ctr_of mixed b2_ok.data (callable_of Tryz.func161 (by kernel_rfl) (by kernel_rfl)) Tryz.func161 100 fun xs r h => ?_
  unfold cPrec at h
  simp only at h
  split at h
  · rename_i f
    have h : (bif okB f then some (fmtP f) else none) = some (show Int from r) := h
    obtain ⟨h1, h2⟩ := bif_inv h
    cases h2
    exact ⟨by rw [prec_eq, kOf_some h1]; rfl, rfl⟩
  · cases h
theorem emax_ok : CtrOk Tryz.prog (dat b2) cEmax := by
  refine ctr_of mixed b2_ok.data (callable_of Tryz.func159 (by kernel_rfl) (by kernel_rfl)) Tryz.func159 100 fun xs r h => ?_
  unfold cEmax at h
  simp only at h
  split at h
  · rename_i f
    have h : (bif okB f then some (fmtX f) else none) = some (show Int from r) := h
    obtain ⟨h1, h2⟩ := bif_inv h
    cases h2
    exact ⟨by rw [emax_eq, kOf_some h1]; rfl, rfl⟩
  · cases h
/-- A small number. -/
def okS (n : Int) : Bool := decide (-1099511627776 ≤ n) && decide (n ≤ 1099511627776)
theorem okS_spec {n : Int} (h : okS n = true) : -1099511627776 ≤ n ∧ n ≤ 1099511627776 := by
  unfold okS at h
  simpa using h
theorem leftN_lt (a : Nat) (n : Int) : leftN a n < 2 ^ 128 := Nat.mod_lt _ (Nat.two_pow_pos 128)
theorem rightN_lt {a : Nat} (h : a < 2 ^ 128) (n : Int) : rightN a n < 2 ^ 128 := Nat.lt_of_le_of_lt (Nat.div_le_self _ _) h
theorem kLeft_bits {a : Nat} (h : a < 2 ^ 128) (n : Int) : kLeft ((a / 18446744073709551616 % 18446744073709551616 : Nat) : Int) ((a % 18446744073709551616 : Nat) : Int) n = some (leftN a n) := by
  unfold kLeft; rw [bt_bits a h]; rfl
theorem kRight_bits {a : Nat} (h : a < 2 ^ 128) (n : Int) : kRight ((a / 18446744073709551616 % 18446744073709551616 : Nat) : Int) ((a % 18446744073709551616 : Nat) : Int) n = some (rightN a n) := by
  unfold kRight; rw [bt_bits a h]; rfl
end Go.Ev
end
