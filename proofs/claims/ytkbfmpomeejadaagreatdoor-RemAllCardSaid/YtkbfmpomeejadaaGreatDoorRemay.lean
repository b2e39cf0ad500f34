/- Part 25 of 46 of what the theorem stands on. -/
import Derived.Test.YtkbfmpomeejadaaGreatDoorRemax

section
namespace Go.Ev
open Go.Proofs Go.RowKit
noncomputable def c5 : Base := ((e4.with gCut).with gBit).with gZero
theorem c5_ok : BaseOk c5 := ((e4_ok.with cut_ok).with bit_ok).with zero_ok
theorem bb_zero : FV.agg [.int .u64 0, .int .u64 0] = bb 0 := bb_of (by rw [hiW_eq]; rfl) (by rw [loW_eq]; rfl)
theorem fmt_small {f : Int} (h : okB f = true) : fmtW f - fmtP f ≤ 15 ∧ 0 ≤ fmtW f - fmtP f ∧ (fmtW f = 0 ↔ 4 ≤ f) ∧ (fmtW f ≠ 0 → 11 ≤ fmtP f ∧ 15 ≤ fmtX f ∧ 5 ≤ fmtW f - fmtP f) := by
  rcases fmt_all h with h | h | h | h | h <;> omega
def splitN (f : Int) (a : Nat) : Bool × Int × Nat :=
  bif decide (fmtW f = 0) then (false, 0, 0) else (bitN a (fmtW f - 1), ((lowN (rightN (cutN f a) (fmtP f - 1)) (fmtW f - fmtP f) : Nat) : Int), lowN a (fmtP f - 1))
noncomputable def rSplit (r : Bool × Int × Nat) : AV := .tup [.one (.bool r.1), .one (.int .i64 r.2.1), bb r.2.2]
noncomputable def gSplit : Ctr := ctr2 86 dF dB (fun f a => some (splitN f a)) rSplit
noncomputable def qSplit : List Arg → Option (Bool × Int × Nat) := gSplit.K
theorem qSplit_K {f : Int} {a : Nat} (hf : okB f = true) (ha : a < 2 ^ 128) : qSplit [aF f, aB a] = some (splitN f a) := ctr2_K (a := dF) (b := dB) hf ha
theorem split_eq (f : Int) (b : Nat) : funC (dat c5) 100 Tryz.f86 [aF f, aB b] some =
    (qOf [aF f]).bind fun r => bif decide (r.1 = 0) then some (.tup [.one (.bool false), .one (.int .i64 0), .agg [.int .u64 0, .int .u64 0]]) else
      (qCut [aF f, aB b]).bind fun r_1 => (qRight [aB r_1, aI (IntKind.wrap .i64 (r.2.1 - 1))]).bind fun r_2 => (qBit [aB b, aI (IntKind.wrap .i64 (r.1 - 1))]).bind fun r_3 =>
        (qLow [aB r_2, aI (IntKind.wrap .i64 (r.1 - r.2.1))]).bind fun r_4 => (qLow [aB b, aI (IntKind.wrap .i64 (r.2.1 - 1))]).bind fun r => some (.tup [.one (.bool r_3), .one (.int .i64 (IntKind.wrap .i64 (loW r_4))), bb r]) := by kernel_rfl
theorem split_ok : CtrOk Tryz.prog (dat c5) gSplit := by
  refine ctr2_ok c5_ok ⟨Tryz.func86, by kernel_rfl, by kernel_rfl⟩ 100 fun f a r hf ha hr => ?_
  cases hr
  refine ⟨?_, rfl⟩
  have h := fmt_le hf
  have h' := fmt_small hf
  refine (split_eq f a).trans ?_
  rw [qOf_K hf, Option.bind_some]
  unfold splitN
  by_cases h0 : fmtW f = 0
  · simp only [decide_eq_true h0, cond_true]
    rw [bb_zero]
    rfl
  · simp only [decide_eq_false h0, cond_false]
    have h1 := (h'.2.2.2 h0)
    rw [i64w _ (by omega) (by omega), i64w _ (by omega) (by omega), i64w _ (by omega) (by omega), qCut_K hf ha, Option.bind_some, qRight_K (cutN_lt ha), Option.bind_some,
      qBit_K ha (okS_of (by omega) (by omega)), Option.bind_some, qLow_K (rightN_lt (cutN_lt ha) _) (okS_of (by omega) (by omega)), Option.bind_some, qLow_K ha (okS_of (by omega) (by omega)), Option.bind_some]
    generalize hx : rightN (cutN f a) (fmtP f - 1) = x
    have h2 : lowN x (fmtW f - fmtP f) < 2 ^ 15 := Nat.lt_of_lt_of_le (lowN_lt _ _) (Nat.pow_le_pow_right (by decide) (by omega))
    rw [loW_eq, Nat.mod_eq_of_lt (by omega : lowN x (fmtW f - fmtP f) < 18446744073709551616), i64w _ (by omega) (by omega)]
    rfl
def dX : Dec Int where
  dec := fun | .fv (.one (.int .u64 n)) => bif okU n then some n else none | _ => none
  enc := fun n => .fv (.one (.int .u64 n))
  ok := fun n => okU n = true
  inv := by
    intro x a h
    split at h
    · obtain ⟨h1, h2⟩ := bif_inv h
      cases h2
      exact ⟨rfl, h1⟩
    · cases h
  back := by
    intro a h
    show (bif okU a then some a else none) = some a
    rw [h]; rfl
def rTwo (r : Int × Int) : AV := .tup [.one (.int .u64 r.1), .one (.int .u64 r.2)]
noncomputable def gAdd64 : Ctr := ctr3 104 dX dX dX (fun x y c => bif decide (c ≤ 1) then some ((x + y + c) % 18446744073709551616, (x + y + c) / 18446744073709551616) else none) rTwo
noncomputable def gSub64 : Ctr := ctr3 105 dX dX dX (fun x y c => bif decide (c ≤ 1) then some ((x - y - c) % 18446744073709551616, bif decide (x < y + c) then 1 else 0) else none) rTwo
noncomputable def qAdd64 : List Arg → Option (Int × Int) := gAdd64.K
noncomputable def qSub64 : List Arg → Option (Int × Int) := gSub64.K
theorem qAdd64_K {x y c : Int} (hx : okU x = true) (hy : okU y = true) (hc : okU c = true) (h1 : c ≤ 1) : qAdd64 [aU x, aU y, aU c] = some ((x + y + c) % 18446744073709551616, (x + y + c) / 18446744073709551616) := by
  refine (ctr3_K (a := dX) (b := dX) (c := dX) hx hy hc).trans ?_
  rw [decide_eq_true h1]; rfl
theorem qSub64_K {x y c : Int} (hx : okU x = true) (hy : okU y = true) (hc : okU c = true) (h1 : c ≤ 1) : qSub64 [aU x, aU y, aU c] = some ((x - y - c) % 18446744073709551616, bif decide (x < y + c) then 1 else 0) := by
  refine (ctr3_K (a := dX) (b := dX) (c := dX) hx hy hc).trans ?_
  rw [decide_eq_true h1]; rfl
theorem ctr3_inv {A B C R : Type} {f : Nat} {a : Dec A} {b : Dec B} {c : Dec C} {K : A → B → C → Option R} {res : R → AV} {xs : List Arg} {r : R} (h : (ctr3 f a b c K res).K xs = some r) :
    ∃ x y z, xs = [a.enc x, b.enc y, c.enc z] ∧ a.ok x ∧ b.ok y ∧ c.ok z ∧ K x y z = some r := by
  unfold ctr3 at h
  simp only at h
  rw [sealed_eq] at h
  split at h
  · obtain ⟨x, hx, h1⟩ := bind_inv h
    obtain ⟨rfl, kx⟩ := a.inv _ _ hx
    obtain ⟨y, hy, h2⟩ := bind_inv h1
    obtain ⟨rfl, ky⟩ := b.inv _ _ hy
    obtain ⟨z, hz, h3⟩ := bind_inv h2
    obtain ⟨rfl, kz⟩ := c.inv _ _ hz
    exact ⟨x, y, z, rfl, kx, ky, kz, h3⟩
  · cases h
theorem three_run0 (x y : Int) (n : String) (w : World) : (Go.Extern.MathBitsCarry.three n #[.int .u64 x, .int .u64 y, .int .u64 0]).run Tryz.prog w = .ok (x.toNat, y.toNat, (0 : Int).toNat) w := by kernel_rfl
theorem three_run1 (x y : Int) (n : String) (w : World) : (Go.Extern.MathBitsCarry.three n #[.int .u64 x, .int .u64 y, .int .u64 1]).run Tryz.prog w = .ok (x.toNat, y.toNat, (1 : Int).toNat) w := by kernel_rfl
theorem three_run {x y c : Int} (n : String) (hc0 : 0 ≤ c) (hc : c ≤ 1) (w : World) :
    (Go.Extern.MathBitsCarry.three n #[.int .u64 x, .int .u64 y, .int .u64 c]).run Tryz.prog w = .ok (x.toNat, y.toNat, c.toNat) w := by
  have : c = 0 ∨ c = 1 := by omega
  rcases this with h | h
  · rw [h]; exact three_run0 x y n w
  · rw [h]; exact three_run1 x y n w
theorem args3 {E : Env} {x y c : Int} {vs : List Value} (h : All2 (ArgRel E) [aU x, aU y, aU c] vs) : vs = [.int .u64 x, .int .u64 y, .int .u64 c] := by
  cases h with
  | cons h1 t => cases t with
    | cons h2 t => cases t with
      | cons h3 t => cases t with
        | nil =>
          have e1 : _ = Value.int .u64 x := h1
          have e2 : _ = Value.int .u64 y := h2
          have e3 : _ = Value.int .u64 c := h3
          rw [e1, e2, e3]
theorem add64_ok (D : Data) : CtrOk Tryz.prog D gAdd64 := by
  refine .inr fun w far args vs r ha hr => ?_
  obtain ⟨x, y, c, rfl, hx, hy, hc, hr⟩ := ctr3_inv (f := 0) (res := rTwo) hr
  obtain ⟨h1, h2⟩ := bif_inv hr
  have h1 : c ≤ 1 := by simpa using h1
  obtain rfl := args3 ha
  have hx := okU_spec hx
  have hy := okU_spec hy
  have hc := okU_spec hc
  cases h2
  refine ⟨.tuple #[.int .u64 ((x + y + c) % 18446744073709551616), .int .u64 ((x + y + c) / 18446744073709551616)], ?_, ⟨[_, _], rfl, .cons rfl (.cons rfl .nil)⟩⟩
  rw [show gAdd64.f = 104 from rfl, run_callFunc_extern (e := fun args => do
    let (x, y, c) ← Go.Extern.MathBitsCarry.three "Add64" args
    pure (Go.Extern.MathBitsCarry.pair ((x + y + c) % Go.Extern.MathBitsCarry.m64) ((x + y + c) / Go.Extern.MathBitsCarry.m64))) Tryz.func104 (by kernel_rfl) (by kernel_rfl) (by kernel_rfl) (by kernel_rfl)]
  simp only [Sem.run_bind, three_run "Add64" hc.1 h1, Result.andThen_ok, Sem.run_pure]
  have e1 : Go.Extern.MathBitsCarry.m64 = 18446744073709551616 := by decide
  have e2 : Int.ofNat ((x.toNat + y.toNat + c.toNat) % 18446744073709551616) = (x + y + c) % 18446744073709551616 := by simp only [Int.ofNat_eq_natCast]; omega
  have e3 : Int.ofNat ((x.toNat + y.toNat + c.toNat) / 18446744073709551616) = (x + y + c) / 18446744073709551616 := by simp only [Int.ofNat_eq_natCast]; omega
  rw [e1]
  unfold Go.Extern.MathBitsCarry.pair
  rw [e2, e3]
theorem sub64_ok (D : Data) : CtrOk Tryz.prog D gSub64 := by
  refine .inr fun w far args vs r ha hr => ?_
  obtain ⟨x, y, c, rfl, hx, hy, hc, hr⟩ := ctr3_inv (f := 0) (res := rTwo) hr
  obtain ⟨h1, h2⟩ := bif_inv hr
  have h1 : c ≤ 1 := by simpa using h1
  obtain rfl := args3 ha
  have hx := okU_spec hx
  have hy := okU_spec hy
  have hc := okU_spec hc
  cases h2
  refine ⟨.tuple #[.int .u64 ((x - y - c) % 18446744073709551616), .int .u64 (bif decide (x < y + c) then 1 else 0)], ?_, ⟨[_, _], rfl, .cons rfl (.cons rfl .nil)⟩⟩
  rw [show gSub64.f = 105 from rfl, run_callFunc_extern (e := fun args => do
    let (x, y, b) ← Go.Extern.MathBitsCarry.three "Sub64" args
    pure (Go.Extern.MathBitsCarry.pair ((x + Go.Extern.MathBitsCarry.m64 - y - b) % Go.Extern.MathBitsCarry.m64) (if x < y + b then 1 else 0))) Tryz.func105 (by kernel_rfl) (by kernel_rfl) (by kernel_rfl) (by kernel_rfl)]
  simp only [Sem.run_bind, three_run "Sub64" hc.1 h1, Result.andThen_ok, Sem.run_pure]
  have e1 : Go.Extern.MathBitsCarry.m64 = 18446744073709551616 := by decide
  have e2 : Int.ofNat ((x.toNat + 18446744073709551616 - y.toNat - c.toNat) % 18446744073709551616) = (x - y - c) % 18446744073709551616 := by simp only [Int.ofNat_eq_natCast]; omega
  have e3 : Int.ofNat (if x.toNat < y.toNat + c.toNat then 1 else 0) = bif decide (x < y + c) then 1 else 0 := by
    by_cases h : x < y + c
    · rw [decide_eq_true h, if_pos (by omega)]; rfl
    · rw [decide_eq_false h, if_neg (by omega)]; rfl
  rw [e1]
  unfold Go.Extern.MathBitsCarry.pair
  rw [e2, e3]
noncomputable def c6 : Base := ((c5.with gSplit).with gAdd64).with gSub64
theorem c6_ok : BaseOk c6 := ((c5_ok.with split_ok).with (add64_ok _)).with (sub64_ok _)
def addN (a b : Nat) : Nat × Bool := ((a + b) % 2 ^ 128, decide (2 ^ 128 ≤ a + b))
def subN (a b : Nat) : Nat × Bool := (bif decide (a < b) then 2 ^ 128 + a - b else a - b, decide (a < b))
noncomputable def rBT (r : Nat × Bool) : AV := .tup [bb r.1, .one (.bool r.2)]
noncomputable def gAdd : Ctr := ctr2 88 dB dB (fun a b => some (addN a b)) rBT
noncomputable def gSub : Ctr := ctr2 106 dB dB (fun a b => some (subN a b)) rBT
noncomputable def qAdd : List Arg → Option (Nat × Bool) := gAdd.K
noncomputable def qSub : List Arg → Option (Nat × Bool) := gSub.K
theorem qAdd_K {a b : Nat} (ha : a < 2 ^ 128) (hb : b < 2 ^ 128) : qAdd [aB a, aB b] = some (addN a b) := ctr2_K (a := dB) (b := dB) ha hb
theorem qSub_K {a b : Nat} (ha : a < 2 ^ 128) (hb : b < 2 ^ 128) : qSub [aB a, aB b] = some (subN a b) := ctr2_K (a := dB) (b := dB) ha hb
theorem add_eq (a b : Nat) : funC (dat c6) 100 Tryz.f88 [aB a, aB b] some = (qAdd64 [aU (loW a), aU (loW b), aU 0]).bind fun r => (qAdd64 [aU (hiW a), aU (hiW b), aU r.2]).bind fun r_1 =>
    some (.tup [.agg [.int .u64 r_1.1, .int .u64 r.1], .one (.bool !decide (r_1.2 = 0))]) := by kernel_rfl
theorem sub_eq (a b : Nat) : funC (dat c6) 100 Tryz.f106 [aB a, aB b] some = (qSub64 [aU (loW a), aU (loW b), aU 0]).bind fun r => (qSub64 [aU (hiW a), aU (hiW b), aU r.2]).bind fun r_1 =>
    some (.tup [.agg [.int .u64 r_1.1, .int .u64 r.1], .one (.bool !decide (r_1.2 = 0))]) := by kernel_rfl
theorem p128 : (2 : Nat) ^ 128 = 340282366920938463463374607431768211456 := by decide
theorem add_ok : CtrOk Tryz.prog (dat c6) gAdd := by
  refine ctr2_ok c6_ok ⟨Tryz.func88, by kernel_rfl, by kernel_rfl⟩ 100 fun a b r ha hb hr => ?_
  cases hr
  refine ⟨?_, rfl⟩
  have ha : a < 340282366920938463463374607431768211456 := ha
  have hb : b < 340282366920938463463374607431768211456 := hb
  refine (add_eq a b).trans ?_
  rw [qAdd64_K (okU_lo _) (okU_lo _) (okU_of (by omega) (by omega)) (by omega), Option.bind_some]
  rw [hiW_eq, hiW_eq, loW_eq, loW_eq]
  rw [qAdd64_K (okU_of (by omega) (by omega)) (okU_of (by omega) (by omega)) (okU_of (by omega) (by omega)) (by omega), Option.bind_some]
  refine congrArg some ?_
  unfold rBT addN
  rw [p128]
  congr 2
  · refine bb_of ?_ ?_
    · rw [hiW_eq]; omega
    · rw [loW_eq]; omega
  · congr 3
    rw [← decide_not]
    refine decide_eq_decide.2 ?_
    omega
theorem sub_ok : CtrOk Tryz.prog (dat c6) gSub := by
  refine ctr2_ok c6_ok ⟨Tryz.func106, by kernel_rfl, by kernel_rfl⟩ 100 fun a b r ha hb hr => ?_
  cases hr
  refine ⟨?_, rfl⟩
  have ha : a < 340282366920938463463374607431768211456 := ha
  have hb : b < 340282366920938463463374607431768211456 := hb
  refine (sub_eq a b).trans ?_
  rw [qSub64_K (okU_lo _) (okU_lo _) (okU_of (by omega) (by omega)) (by omega), Option.bind_some]
  rw [hiW_eq, hiW_eq, loW_eq, loW_eq]
  have hc : ∀ p : Bool, okU (bif p then 1 else 0) = true ∧ (bif p then 1 else 0 : Int) ≤ 1 := fun p => by cases p <;> decide
  rw [qSub64_K (okU_of (by omega) (by omega)) (okU_of (by omega) (by omega)) (hc _).1 (hc _).2, Option.bind_some]
  refine congrArg some ?_
  unfold rBT subN
  rw [p128]
  have e0 : ((a % 18446744073709551616 : Nat) : Int) < ((b % 18446744073709551616 : Nat) : Int) + 0 ↔ a % 18446744073709551616 < b % 18446744073709551616 := by omega
  have e1 : decide (((a % 18446744073709551616 : Nat) : Int) < ((b % 18446744073709551616 : Nat) : Int) + 0) = decide (a % 18446744073709551616 < b % 18446744073709551616) := decide_eq_decide.2 e0
  rw [e1]
  by_cases h : a % 18446744073709551616 < b % 18446744073709551616 <;> by_cases h2 : a < b
  all_goals
    simp only [h, h2, decide_true, decide_false, cond_true, cond_false]
    congr 2
    · refine bb_of ?_ ?_
      · rw [hiW_eq]; omega
      · rw [loW_eq]; omega
    · congr 3
      by_cases h3 : ((a / 18446744073709551616 % 18446744073709551616 : Nat) : Int) < ((b / 18446744073709551616 % 18446744073709551616 : Nat) : Int) + (bif decide (a % 18446744073709551616 < b % 18446744073709551616) then 1 else 0)
      all_goals
        simp only [h, decide_true, decide_false, cond_true, cond_false] at h3
        simp only [h3, decide_true, decide_false, cond_true, cond_false]
        first | rfl | (exfalso; omega)
end Go.Ev
end

section
namespace Go.Ev
open Go.Proofs Go.RowKit
/-- A base with the bodies of further functions. -/
noncomputable def Base.fun_ (b : Base) (fs : List (Nat × Func)) : Base := { b with funs := fs }
theorem BaseOk.fun_ {b : Base} (h : BaseOk b) {fs : List (Nat × Func)} (hf : ∀ x ∈ fs, Fun x.1 x.2) : BaseOk (b.fun_ fs) where
  funs := fun x hx => ⟨(hf x hx).at_, (hf x hx).callable⟩
  eqs := h.eqs
  ctrs := h.ctrs
abbrev aP (x y : Int) : Arg := .fv (.agg [.int .u64 x, .int .u64 y])
theorem aP_eq {x y : Int} {n : Nat} (h1 : x = hiW n) (h2 : y = loW n) : aP x y = aB n := by rw [h1, h2]; rfl
theorem aP_zero : aP 0 0 = aB 0 := aP_eq (by rw [hiW_eq]; rfl) (by rw [loW_eq]; rfl)
theorem aP_one : aP 0 1 = aB 1 := aP_eq (by rw [hiW_eq]; rfl) (by rw [loW_eq]; rfl)
noncomputable def c7 : Base := ((c6.with gAdd).with gSub).fun_ [(174, Tryz.f174), (101, Tryz.f101)]
theorem c7_ok : BaseOk c7 := ((c6_ok.with add_ok).with sub_ok).fun_ (by
  intro x hx
  simp only [List.mem_cons, List.not_mem_nil, or_false] at hx
  rcases hx with rfl | rfl
  · exact ⟨Tryz.func174, by kernel_rfl, by kernel_rfl⟩
  · exact ⟨Tryz.func101, by kernel_rfl, by kernel_rfl⟩)
def cmpZ (x y : Int) : Int := bif decide (x < y) then -1 else bif decide (y < x) then 1 else 0
noncomputable def gCompare : Ctr := ctr2 102 dX dX (fun x y => some (cmpZ x y)) rI
noncomputable def qCompare : List Arg → Option Int := gCompare.K
theorem qCompare_K {x y : Int} (hx : okU x = true) (hy : okU y = true) : qCompare [aU x, aU y] = some (cmpZ x y) := ctr2_K (a := dX) (b := dX) hx hy
theorem compare_eq (a b : Int) : funC (dat c7) 100 Tryz.f102 [aU a, aU b] some =
    bif !decide (a = a) then bif !decide (b = b) then some (rI 0) else some (rI (-1)) else bif !decide (b = b) then some (rI 1) else bif decide (a < b) then some (rI (-1)) else bif decide (b < a) then some (rI 1) else some (rI 0) := by kernel_rfl
theorem compare_ok : CtrOk Tryz.prog (dat c7) gCompare := by
  refine ctr2_ok c7_ok ⟨Tryz.func102, by kernel_rfl, by kernel_rfl⟩ 100 fun a b r ha hb hr => ?_
  cases hr
  refine ⟨?_, rfl⟩
  refine (compare_eq a b).trans ?_
  rw [decide_eq_true (rfl : a = a), decide_eq_true (rfl : b = b)]
  unfold cmpZ
  cases decide (a < b) <;> cases decide (b < a) <;> rfl
noncomputable def c8 : Base := c7.with gCompare
theorem c8_ok : BaseOk c8 := c7_ok.with compare_ok
def cmpN (a b : Nat) : Int := bif decide (a < b) then -1 else bif decide (b < a) then 1 else 0
noncomputable def gCmp : Ctr := ctr2 43 dB dB (fun a b => some (cmpN a b)) rI
noncomputable def qCmp : List Arg → Option Int := gCmp.K
theorem qCmp_K {a b : Nat} (ha : a < 2 ^ 128) (hb : b < 2 ^ 128) : qCmp [aB a, aB b] = some (cmpN a b) := ctr2_K (a := dB) (b := dB) ha hb
theorem cmp_eq (a b : Nat) : funC (dat c8) 100 Tryz.f43 [aB a, aB b] some = (qCompare [aU (hiW a), aU (hiW b)]).bind fun r =>
    (qCompare [aU (loW a), aU (loW b)]).bind fun r_1 => bif !decide (r = 0) then some (rI r) else bif !decide (r_1 = 0) then some (rI r_1) else some (rI 0) := by kernel_rfl
theorem cmp_ok : CtrOk Tryz.prog (dat c8) gCmp := by
  refine ctr2_ok c8_ok ⟨Tryz.func43, by kernel_rfl, by kernel_rfl⟩ 100 fun a b r ha hb hr => ?_
  cases hr
  refine ⟨?_, rfl⟩
  have ha : a < 340282366920938463463374607431768211456 := ha
  have hb : b < 340282366920938463463374607431768211456 := hb
  refine (cmp_eq a b).trans ?_
  rw [qCompare_K (okU_hi _) (okU_hi _), Option.bind_some, qCompare_K (okU_lo _) (okU_lo _), Option.bind_some, hiW_eq, hiW_eq, loW_eq, loW_eq]
  unfold cmpZ cmpN
  by_cases h1 : ((a / 18446744073709551616 % 18446744073709551616 : Nat) : Int) < ((b / 18446744073709551616 % 18446744073709551616 : Nat) : Int) <;>
  by_cases h2 : ((b / 18446744073709551616 % 18446744073709551616 : Nat) : Int) < ((a / 18446744073709551616 % 18446744073709551616 : Nat) : Int) <;>
  by_cases h3 : ((a % 18446744073709551616 : Nat) : Int) < ((b % 18446744073709551616 : Nat) : Int) <;>
  by_cases h4 : ((b % 18446744073709551616 : Nat) : Int) < ((a % 18446744073709551616 : Nat) : Int) <;>
  by_cases h5 : a < b <;> by_cases h6 : b < a
  all_goals
    first
    | (exfalso; omega)
    | (simp only [h1, h2, h3, h4, h5, h6, decide_true, decide_false, cond_true, cond_false]; rfl)
def classN (f : Int) (a : Nat) : Int × Bool :=
  bif !decide (f < 4) then (0, false) else
    bif decide ((splitN f a).2.1 = 0) then (bif decide ((splitN f a).2.2 = 0) then (0, (splitN f a).1) else (1, (splitN f a).1))
    else bif decide ((splitN f a).2.1 < 2 * fmtX f + 1) then (2, (splitN f a).1) else bif decide ((splitN f a).2.2 = 0) then (3, (splitN f a).1)
    else bif bitN (splitN f a).2.2 (fmtP f - 2) then (4, (splitN f a).1) else (5, (splitN f a).1)
def rClass (r : Int × Bool) : AV := .tup [.one (.int .u8 r.1), .one (.bool r.2)]
noncomputable def gClass : Ctr := ctr2 84 dF dB (fun f a => some (classN f a)) rClass
noncomputable def qClass : List Arg → Option (Int × Bool) := gClass.K
theorem qClass_K {f : Int} {a : Nat} (hf : okB f = true) (ha : a < 2 ^ 128) : qClass [aF f, aB a] = some (classN f a) := ctr2_K (a := dF) (b := dB) hf ha
theorem class_eq (f : Int) (b : Nat) : funC (dat c8) 100 Tryz.f84 [aF f, aB b] some = (qKnown [aF f]).bind fun r =>
    bif !r then some (rClass (0, false)) else (qSplit [aF f, aB b]).bind fun r => (qZero [aB r.2.2]).bind fun r_1 => (qEmax [aF f]).bind fun r_2 =>
    let k : Option AV := bif decide (r.2.1 = 0) then some (rClass (1, r.1)) else bif decide (r.2.1 < IntKind.wrap .i64 (IntKind.wrap .i64 (2 * r_2) + 1)) then some (rClass (2, r.1)) else bif r_1 then some (rClass (3, r.1)) else
      (qPrec [aF f]).bind fun r_3 => (qBit [aB r.2.2, aI (IntKind.wrap .i64 (r_3 - 2))]).bind fun r_4 => bif r_4 then some (rClass (4, r.1)) else some (rClass (5, r.1))
    bif decide (r.2.1 = 0) then bif r_1 then some (rClass (0, r.1)) else k else k := by kernel_rfl
theorem splitN_lt {f : Int} {a : Nat} (ha : a < 2 ^ 128) : (splitN f a).2.2 < 2 ^ 128 := by
  unfold splitN
  cases decide (fmtW f = 0)
  · exact Nat.lt_of_le_of_lt (lowN_le _ _) ha
  · exact Nat.two_pow_pos 128
theorem class_ok : CtrOk Tryz.prog (dat c8) gClass := by
  refine ctr2_ok c8_ok ⟨Tryz.func84, by kernel_rfl, by kernel_rfl⟩ 100 fun f a r hf ha hr => ?_
  cases hr
  refine ⟨?_, rfl⟩
  have h := fmt_le hf
  refine (class_eq f a).trans ?_
  rw [qKnown_K hf, Option.bind_some]
  unfold classN
  by_cases hk : f < 4
  · rw [decide_eq_true hk]
    simp only [Bool.not_true, cond_false]
    rw [qSplit_K hf ha, Option.bind_some, qZero_K (splitN_lt ha), Option.bind_some, qEmax_K hf, Option.bind_some, qPrec_K hf, Option.bind_some, i64w (2 * fmtX f) (by omega) (by omega), i64w _ (by omega) (by omega), i64w _ (by omega) (by omega),
      qBit_K (splitN_lt ha) (okS_of (by omega) (by omega)), Option.bind_some]
    cases decide ((splitN f a).2.1 = 0) <;> cases decide ((splitN f a).2.2 = 0) <;> cases decide ((splitN f a).2.1 < 2 * fmtX f + 1) <;> cases bitN (splitN f a).2.2 (fmtP f - 2) <;> rfl
  · rw [decide_eq_false hk]
    rfl
noncomputable def c9 : Base := (c8.with gCmp).with gClass
theorem c9_ok : BaseOk c9 := (c8_ok.with cmp_ok).with class_ok
def nanN (f : Int) (a : Nat) : Bool := decide (4 ≤ (classN f a).1)
def sigN (f : Int) (a : Nat) : Bool := decide ((classN f a).1 = 5)
noncomputable def gNan : Ctr := ctr2 39 dF dB (fun f a => some (nanN f a)) rT
noncomputable def gSignaling : Ctr := ctr2 98 dF dB (fun f a => some (sigN f a)) rT
noncomputable def qNan : List Arg → Option Bool := gNan.K
noncomputable def qSignaling : List Arg → Option Bool := gSignaling.K
theorem qNan_K {f : Int} {a : Nat} (hf : okB f = true) (ha : a < 2 ^ 128) : qNan [aF f, aB a] = some (nanN f a) := ctr2_K (a := dF) (b := dB) hf ha
theorem qSignaling_K {f : Int} {a : Nat} (hf : okB f = true) (ha : a < 2 ^ 128) : qSignaling [aF f, aB a] = some (sigN f a) := ctr2_K (a := dF) (b := dB) hf ha
theorem nan_eq (f : Int) (b : Nat) : funC (dat c9) 100 Tryz.f39 [aF f, aB b] some = (qClass [aF f, aB b]).bind fun r => some (rT (decide (4 ≤ r.1))) := by kernel_rfl
theorem sig_eq (f : Int) (b : Nat) : funC (dat c9) 100 Tryz.f98 [aF f, aB b] some = (qClass [aF f, aB b]).bind fun r => some (rT (decide (r.1 = 5))) := by kernel_rfl
theorem nan_ok : CtrOk Tryz.prog (dat c9) gNan := by
  refine ctr2_ok c9_ok ⟨Tryz.func39, by kernel_rfl, by kernel_rfl⟩ 100 fun f a r hf ha hr => ?_
  cases hr
  refine ⟨(nan_eq f a).trans ?_, rfl⟩
  rw [qClass_K hf ha]
  rfl
theorem signaling_ok : CtrOk Tryz.prog (dat c9) gSignaling := by
  refine ctr2_ok c9_ok ⟨Tryz.func98, by kernel_rfl, by kernel_rfl⟩ 100 fun f a r hf ha hr => ?_
  cases hr
  refine ⟨(sig_eq f a).trans ?_, rfl⟩
  rw [qClass_K hf ha]
  rfl
def expN (f e : Int) : Nat := (bif decide (e < 0) || decide (1048576 < e) then 0 else e.toNat) % 2 ^ (fmtW f - fmtP f).toNat
def makeN (f : Int) (neg : Bool) (e : Int) (fr : Nat) : Nat :=
  bif decide (fmtW f = 0) then 0 else expN f e * 2 ^ (fmtP f - 1).toNat + fr % 2 ^ (fmtP f - 1).toNat + (bif neg then 2 ^ (fmtW f - 1).toNat else 0)
noncomputable def gMake : Ctr := ctr4 173 dF dT dI dB (fun f n e a => some (makeN f n e a)) rB
noncomputable def qMake : List Arg → Option Nat := gMake.K
theorem qMake_K {f e : Int} {n : Bool} {a : Nat} (hf : okB f = true) (he : okS e = true) (ha : a < 2 ^ 128) : qMake [aF f, aT n, aI e, aB a] = some (makeN f n e a) := ctr4_K (a := dF) (b := dT) (c := dI) (d := dB) hf trivial he ha
noncomputable def makeTail (neg : Bool) (b : Nat) (r : Int × Int × Int) (x : Arg) : Option AV :=
  (qLow [x, aI (IntKind.wrap .i64 (r.1 - r.2.1))]).bind fun r_1 => (qLeft [aB r_1, aI (IntKind.wrap .i64 (r.2.1 - 1))]).bind fun r_2 => (qLow [aB b, aI (IntKind.wrap .i64 (r.2.1 - 1))]).bind fun r_3 =>
    (qAdd [aB r_2, aB r_3]).bind fun r_4 => bif neg then (qLeft [aP 0 1, aI (IntKind.wrap .i64 (r.1 - 1))]).bind fun r => (qAdd [aB r_4.1, aB r]).bind fun r => some (rB r.1) else some (rB r_4.1)
theorem make_eq (f : Int) (neg : Bool) (e : Int) (b : Nat) : funC (dat c9) 100 Tryz.f173 [aF f, aT neg, aI e, aB b] some = (qOf [aF f]).bind fun r =>
    bif decide (r.1 = 0) then some (.fv (.agg [.int .u64 0, .int .u64 0])) else bif decide (e < 0) then makeTail neg b r (aP 0 0) else bif decide (1048576 < e) then makeTail neg b r (aP 0 0) else makeTail neg b r (aP 0 (IntKind.wrap .u64 e)) := by kernel_rfl
theorem join_lt {x y k m : Nat} (hx : x < 2 ^ m) (hy : y < 2 ^ k) : x * 2 ^ k + y < 2 ^ (m + k) := by
  rw [Nat.pow_add]
  calc x * 2 ^ k + y < x * 2 ^ k + 2 ^ k := Nat.add_lt_add_left hy _
    _ = (x + 1) * 2 ^ k := by rw [Nat.add_mul, Nat.one_mul]
    _ ≤ 2 ^ m * 2 ^ k := Nat.mul_le_mul_right _ hx
theorem leftN_small {x : Nat} {n : Int} {m : Nat} (hx : x < 2 ^ m) (h : m + n.toNat ≤ 128) : leftN x n = x * 2 ^ n.toNat := by
  unfold leftN
  have e : min n.toNat 128 = n.toNat := by omega
  rw [e]
  refine Nat.mod_eq_of_lt ?_
  have := join_lt (k := n.toNat) hx (Nat.two_pow_pos _)
  have h2 : 2 ^ (m + n.toNat) ≤ 2 ^ 128 := Nat.pow_le_pow_right (by decide) h
  omega
theorem makeTail_eq {f : Int} (hf : okB f = true) (h0 : fmtW f ≠ 0) (neg : Bool) (b : Nat) (hb : b < 2 ^ 128) (x : Nat) (hx : x < 2 ^ 128) :
    makeTail neg b (fmtW f, fmtP f, fmtX f) (aB x) = some (rB (x % 2 ^ (fmtW f - fmtP f).toNat * 2 ^ (fmtP f - 1).toNat + b % 2 ^ (fmtP f - 1).toNat + (bif neg then 2 ^ (fmtW f - 1).toNat else 0))) := by
  have h := fmt_le hf
  have h' := fmt_small hf
  have h1 := h'.2.2.2 h0
  have hk : (fmtW f - 1).toNat = (fmtW f - fmtP f).toNat + (fmtP f - 1).toNat := by omega
  have hy := lowN_lt b (fmtP f - 1)
  have hz := lowN_lt x (fmtW f - fmtP f)
  have hj := join_lt hz hy
  rw [← hk] at hj
  have h127 : 2 ^ (fmtW f - 1).toNat ≤ 2 ^ 127 := Nat.pow_le_pow_right (by decide) (by omega)
  have h128 : 2 ^ 127 + 2 ^ 127 = 2 ^ 128 := by decide
  have hp := Nat.two_pow_pos (fmtW f - 1).toNat
  unfold makeTail
  simp only
  rw [i64w _ (by omega) (by omega), i64w _ (by omega) (by omega), i64w _ (by omega) (by omega), qLow_K hx (okS_of (by omega) (by omega)), Option.bind_some, qLeft_K (Nat.lt_of_le_of_lt (lowN_le _ _) hx), Option.bind_some,
    qLow_K hb (okS_of (by omega) (by omega)), Option.bind_some, leftN_small hz (by omega)]
  have e1 : lowN x (fmtW f - fmtP f) = x % 2 ^ (fmtW f - fmtP f).toNat := rfl
  have e2 : lowN b (fmtP f - 1) = b % 2 ^ (fmtP f - 1).toNat := rfl
  rw [← e1, ← e2]
  generalize lowN x (fmtW f - fmtP f) * 2 ^ (fmtP f - 1).toNat = u at *
  generalize lowN b (fmtP f - 1) = v at *
  rw [qAdd_K (by omega) (by omega), Option.bind_some]
  have e3 : (addN u v).1 = u + v := Nat.mod_eq_of_lt (by omega)
  rw [e3]
  cases neg with
  | false => rfl
  | true =>
    simp only [cond_true]
    rw [aP_one, qLeft_K (by decide), Option.bind_some, leftN_small (m := 1) (by decide) (by omega), Nat.one_mul, qAdd_K (by omega) (by omega), Option.bind_some]
    have e4 : (addN (u + v) (2 ^ (fmtW f - 1).toNat)).1 = u + v + 2 ^ (fmtW f - 1).toNat := Nat.mod_eq_of_lt (by omega)
    rw [e4]
theorem make_ok : CtrOk Tryz.prog (dat c9) gMake := by
  refine ctr4_ok c9_ok ⟨Tryz.func173, by kernel_rfl, by kernel_rfl⟩ 100 fun f n e a r hf _ he ha hr => ?_
  cases hr
  refine ⟨?_, rfl⟩
  have he' := okS_spec he
  refine (make_eq f n e a).trans ?_
  rw [qOf_K hf, Option.bind_some]
  unfold makeN
  by_cases h0 : fmtW f = 0
  · simp only [decide_eq_true h0, cond_true]
    rw [bb_zero]
    rfl
  · simp only [decide_eq_false h0, cond_false]
    unfold expN
    by_cases h1 : e < 0
    · simp only [decide_eq_true h1, cond_true, Bool.true_or]
      rw [aP_zero, makeTail_eq hf h0 n a ha 0 (by decide)]
    · by_cases h2 : 1048576 < e
      · simp only [decide_eq_false h1, decide_eq_true h2, cond_true, cond_false, Bool.or_true]
        rw [aP_zero, makeTail_eq hf h0 n a ha 0 (by decide)]
      · simp only [decide_eq_false h1, decide_eq_false h2, cond_false, Bool.or_false]
        have e3 : aP 0 (IntKind.wrap .u64 e) = aB e.toNat := aP_eq (by rw [hiW_eq]; omega) (by rw [loW_eq, u64s _ (by omega) (by omega)]; omega)
        rw [e3, makeTail_eq hf h0 n a ha e.toNat (by omega)]
end Go.Ev
end
