/- Part 45 of 46 of what the theorem stands on. -/
import Derived.Test.YtkbfmpomeejadaaGreatDoorRembr
import Derived.Test.YtkbfmpomeejadaaGreatDoorRembe
import Derived.Test.YtkbfmpomeejadaaGreatDoorRemaw

section
namespace Go.Ev
open Go.Proofs Go.RowKit
noncomputable def k1 : Base := { funs := [(11, Tryz.f11), (60, Tryz.f60)], eqs := e4.eqs, ctrs := [gRem, rRem] }
theorem k1_ok (hA : CtrOk Tryz.prog (dat e3) gWideAdd) (hS : CtrOk Tryz.prog (dat e3) gWideSub) : BaseOk k1 where
  funs := by
    intro x hx
    simp only [k1, List.mem_cons, List.not_mem_nil, or_false] at hx
    rcases hx with rfl | rfl
    · exact ⟨Tryz.func11, callable_of Tryz.func11 (by kernel_rfl) (by kernel_rfl)⟩
    · exact ⟨Tryz.func60, callable_of Tryz.func60 (by kernel_rfl) (by kernel_rfl)⟩
  eqs := e4_ok.eqs
  ctrs := by
    intro c hc
    simp only [k1, List.mem_cons, List.not_mem_nil, or_false] at hc
    rcases hc with rfl | rfl
    · exact rem_ok hA hS
    · exact rRem_ok
noncomputable def same (r : Nat × Int) (h l : Int) (fl : Int) : Bool := decide (hiW r.1 = h) && (decide (loW r.1 = l) && (decide (r.2 = fl) && true))
theorem remAll_eq (f : Int) (a b : Nat) : funC (dat k1) 200 Tryz.f3 [aF f, aB a, aB b] some = (qRem [aF f, aB a, aB b]).bind fun r => (qRrem [aF f, aB a, aB b]).bind fun r_1 =>
    bif same r (hiW r_1.1) (loW r_1.1) r_1.2 then (qRem [aF 0, aP 0 17664, aP 0 16896]).bind fun r => bif same r 0 48128 0 then (qRem [aF 0, aP 0 17408, aP 0 16896]).bind fun r => bif same r 0 15360 0 then (qRem [aF 0, aP 0 15872, aP 0 15360]).bind fun r =>
    bif same r 0 47104 0 then (qRem [aF 0, aP 0 49664, aP 0 16896]).bind fun r => bif same r 0 32768 0 then (qRem [aF 0, aP 0 15360, aP 0 0]).bind fun r => some (rT (same r 0 32256 1)) else some (rT false) else some (rT false) else some (rT false) else some (rT false) else some (rT false) := by kernel_rfl
theorem aP_low {n : Nat} (h : n < 18446744073709551616) : aP 0 (n : Int) = aB n := aP_eq (by rw [hiW_eq]; omega) (by rw [loW_eq]; omega)
theorem same_of {n : Nat} (h : n < 18446744073709551616) (fl : Int) : same (n, fl) 0 (n : Int) fl = true := by
  unfold same
  rw [decide_eq_true (by rw [hiW_eq]; show ((n / 18446744073709551616 % 18446744073709551616 : Nat) : Int) = 0; omega), decide_eq_true (by rw [loW_eq]; show ((n % 18446744073709551616 : Nat) : Int) = n; omega), decide_eq_true rfl]
  rfl
theorem ex1 : remK 0 17664 16896 = some (48128, 0) := by kernel_rfl
theorem ex2 : remK 0 17408 16896 = some (15360, 0) := by kernel_rfl
theorem ex3 : remK 0 15872 15360 = some (47104, 0) := by kernel_rfl
theorem ex4 : remK 0 49664 16896 = some (32768, 0) := by kernel_rfl
theorem ex5 : remK 0 15360 0 = some (32256, 1) := by kernel_rfl
theorem exq {x y n : Nat} {fl : Int} (hx : x < 18446744073709551616) (hy : y < 18446744073709551616) (h : remK 0 x y = some (n, fl)) : qRem [aF 0, aP 0 (x : Int), aP 0 (y : Int)] = some (n, fl) := by
  rw [aP_low hx, aP_low hy, qRem_K (by decide) (by rw [p128]; omega) (by rw [p128]; omega)]
  exact h
noncomputable def gRemAll : Ctr := ctr3 3 dF dB dB (fun _ _ _ => some true) rT
theorem remAll_ok (hA : CtrOk Tryz.prog (dat e3) gWideAdd) (hS : CtrOk Tryz.prog (dat e3) gWideSub) : CtrOk Tryz.prog (dat k1) gRemAll := by
  refine ctr3_ok (k1_ok hA hS) ⟨Tryz.func3, by kernel_rfl, by kernel_rfl⟩ 200 fun f a b r hf ha hb hr => ?_
  cases hr
  refine ⟨(remAll_eq f a b).trans ?_, rfl⟩
  obtain ⟨r, h1, h2⟩ := rem_law hf a b
  have q1 := exq (x := 17664) (y := 16896) (by decide) (by decide) ex1
  have q2 := exq (x := 17408) (y := 16896) (by decide) (by decide) ex2
  have q3 := exq (x := 15872) (y := 15360) (by decide) (by decide) ex3
  have q4 := exq (x := 49664) (y := 16896) (by decide) (by decide) ex4
  have q5 := exq (x := 15360) (y := 0) (by decide) (by decide) ex5
  have s0 : same r (hiW r.1) (loW r.1) r.2 = true := by
    unfold same
    rw [decide_eq_true rfl, decide_eq_true rfl, decide_eq_true rfl]
    rfl
  rw [qRem_K hf ha hb, h1, Option.bind_some, qRrem_K hf ha hb, h2, Option.bind_some, s0, cond_true]
  refine (bindK q1).trans ?_
  rw [show same (48128, 0) 0 48128 0 = true from same_of (n := 48128) (by decide) 0, cond_true]
  refine (bindK q2).trans ?_
  rw [show same (15360, 0) 0 15360 0 = true from same_of (n := 15360) (by decide) 0, cond_true]
  refine (bindK q3).trans ?_
  rw [show same (47104, 0) 0 47104 0 = true from same_of (n := 47104) (by decide) 0, cond_true]
  refine (bindK q4).trans ?_
  rw [show same (32768, 0) 0 32768 0 = true from same_of (n := 32768) (by decide) 0, cond_true]
  refine (bindK q5).trans ?_
  rw [show same (32256, 1) 0 32256 1 = true from same_of (n := 32256) (by decide) 1]
end Go.Ev
end

section
namespace Go.Ev
open Go.Proofs Go.RowKit
/-- A function by its number. -/
def dFn : Dec Nat where
  dec := fun | .fv (.one (.cst (.func (.func f) ⟨[]⟩ ⟨[]⟩))) => some f | _ => none
  enc := fun f => .fv (.one (.cst (.func (.func f) #[] #[])))
  ok := fun _ => True
  inv := by
    intro x a h
    split at h
    · cases h; exact ⟨rfl, trivial⟩
    · cases h
  back := fun _ _ => rfl
abbrev aFn (f : Nat) : Arg := .fv (.one (.cst (.func (.func f) #[] #[])))
noncomputable def cw : Base := { funs := [(175, Tryz.f175), (242, Tryz.f242)], eqs := [], ctrs := [gAdd64, gSub64] }
theorem cw_ok : BaseOk cw where
  funs := by
    intro x hx
    simp only [cw, List.mem_cons, List.not_mem_nil, or_false] at hx
    rcases hx with rfl | rfl
    · exact ⟨Tryz.func175, callable_of Tryz.func175 (by kernel_rfl) (by kernel_rfl)⟩
    · exact ⟨Tryz.func242, callable_of Tryz.func242 (by kernel_rfl) (by kernel_rfl)⟩
  eqs := by simp [cw]
  ctrs := by
    intro c hc
    simp only [cw, List.mem_cons, List.not_mem_nil, or_false] at hc
    rcases hc with rfl | rfl
    · exact add64_ok _
    · exact sub64_ok _
noncomputable def gChain : Ctr := ctr3 103 dW dW dFn (fun a b f => bif Nat.beq f 104 then some (wideAddN a b) else bif Nat.beq f 105 then some (wideSubN a b) else none) rWT
noncomputable def qChain : List Arg → Option (Nat × Bool) := gChain.K
theorem qChain_K {a b f : Nat} (ha : a < 2 ^ 256) (hb : b < 2 ^ 256) : qChain [aW a, aW b, aFn f] = bif Nat.beq f 104 then some (wideAddN a b) else bif Nat.beq f 105 then some (wideSubN a b) else none := ctr3_K (a := dW) (b := dW) (c := dFn) ha hb trivial
noncomputable def chainEnd (x0 x1 x2 x3 c : Int) : Option AV := some (.tup [.agg [.int .u64 x0, .int .u64 x1, .int .u64 x2, .int .u64 x3], .one (.bool !decide (c = 0))])
theorem chain_add (a b : Nat) : funC (dat cw) 200 Tryz.f103 [aW a, aW b, aFn 104] some = (qAdd64 [aU (wAt a 0), aU (wAt b 0), aU 0]).bind fun r => (qAdd64 [aU (wAt a 1), aU (wAt b 1), aU r.2]).bind fun s =>
    (qAdd64 [aU (wAt a 2), aU (wAt b 2), aU s.2]).bind fun t => (qAdd64 [aU (wAt a 3), aU (wAt b 3), aU t.2]).bind fun u => chainEnd r.1 s.1 t.1 u.1 u.2 := by kernel_rfl
theorem chain_sub (a b : Nat) : funC (dat cw) 200 Tryz.f103 [aW a, aW b, aFn 105] some = (qSub64 [aU (wAt a 0), aU (wAt b 0), aU 0]).bind fun r => (qSub64 [aU (wAt a 1), aU (wAt b 1), aU r.2]).bind fun s =>
    (qSub64 [aU (wAt a 2), aU (wAt b 2), aU s.2]).bind fun t => (qSub64 [aU (wAt a 3), aU (wAt b 3), aU t.2]).bind fun u => chainEnd r.1 s.1 t.1 u.1 u.2 := by kernel_rfl
/-- A number of four parts. -/
theorem four {n x0 x1 x2 x3 : Nat} (h : n = x0 + 18446744073709551616 * (x1 + 18446744073709551616 * (x2 + 18446744073709551616 * x3))) (h0 : x0 < 18446744073709551616) (h1 : x1 < 18446744073709551616) (h2 : x2 < 18446744073709551616) (h3 : x3 < 18446744073709551616) :
    wAt n 0 = (x0 : Int) ∧ wAt n 1 = (x1 : Int) ∧ wAt n 2 = (x2 : Int) ∧ wAt n 3 = (x3 : Int) := by
  have e1 : n / 18446744073709551616 = x1 + 18446744073709551616 * (x2 + 18446744073709551616 * x3) := by omega
  have e2 : (x1 + 18446744073709551616 * (x2 + 18446744073709551616 * x3)) / 18446744073709551616 = x2 + 18446744073709551616 * x3 := by omega
  have e3 : (x2 + 18446744073709551616 * x3) / 18446744073709551616 = x3 := by omega
  refine ⟨?_, ?_, ?_, ?_⟩
  · rw [wA0]; omega
  · rw [wA1, e1]; omega
  · rw [wA2, show 340282366920938463463374607431768211456 = 18446744073709551616 * 18446744073709551616 from rfl, ← Nat.div_div_eq_div_mul, e1, e2]; omega
  · rw [wA3, show 6277101735386680763835789423207666416102355444464034512896 = 18446744073709551616 * 18446744073709551616 * 18446744073709551616 from rfl, ← Nat.div_div_eq_div_mul, ← Nat.div_div_eq_div_mul, e1, e2, e3]; omega
theorem fourN (n : Nat) (h : n < 2 ^ 256) : ∃ x0 x1 x2 x3 : Nat, n = x0 + 18446744073709551616 * (x1 + 18446744073709551616 * (x2 + 18446744073709551616 * x3)) ∧ x0 < 18446744073709551616 ∧ x1 < 18446744073709551616 ∧ x2 < 18446744073709551616 ∧ x3 < 18446744073709551616 := by
  rw [p256] at h
  exact ⟨n % 18446744073709551616, n / 18446744073709551616 % 18446744073709551616, n / 18446744073709551616 / 18446744073709551616 % 18446744073709551616, n / 18446744073709551616 / 18446744073709551616 / 18446744073709551616, by omega, by omega, by omega, by omega, by omega⟩
theorem add1 {x y c : Nat} (hx : x < 18446744073709551616) (hy : y < 18446744073709551616) (hc : c ≤ 1) :
    ∃ s d : Nat, qAdd64 [aU (x : Int), aU (y : Int), aU (c : Int)] = some ((s : Int), (d : Int)) ∧ s < 18446744073709551616 ∧ d ≤ 1 ∧ x + y + c = s + 18446744073709551616 * d := by
  refine ⟨(x + y + c) % 18446744073709551616, (x + y + c) / 18446744073709551616, ?_, by omega, by omega, by omega⟩
  rw [qAdd64_K (okU_of (by omega) (by omega)) (okU_of (by omega) (by omega)) (okU_of (by omega) (by omega)) (by omega)]
  refine congrArg some (Prod.ext ?_ ?_) <;> simp only <;> omega
theorem sub1 {x y c : Nat} (hx : x < 18446744073709551616) (hy : y < 18446744073709551616) (hc : c ≤ 1) :
    ∃ s d : Nat, qSub64 [aU (x : Int), aU (y : Int), aU (c : Int)] = some ((s : Int), (d : Int)) ∧ s < 18446744073709551616 ∧ d ≤ 1 ∧ x + 18446744073709551616 * d = s + y + c := by
  rw [qSub64_K (okU_of (by omega) (by omega)) (okU_of (by omega) (by omega)) (okU_of (by omega) (by omega)) (by omega)]
  by_cases h : x < y + c
  · refine ⟨x + 18446744073709551616 - y - c, 1, ?_, by omega, by omega, by omega⟩
    rw [decide_eq_true (by omega : (x : Int) < (y : Int) + (c : Int))]
    refine congrArg some (Prod.ext ?_ rfl)
    simp only
    omega
  · refine ⟨x - y - c, 0, ?_, by omega, by omega, by omega⟩
    rw [decide_eq_false (by omega : ¬ (x : Int) < (y : Int) + (c : Int))]
    refine congrArg some (Prod.ext ?_ rfl)
    simp only
    omega
theorem chainEnd_eq {x0 x1 x2 x3 c n : Nat} {o : Bool} (h : n = x0 + 18446744073709551616 * (x1 + 18446744073709551616 * (x2 + 18446744073709551616 * x3))) (h0 : x0 < 18446744073709551616) (h1 : x1 < 18446744073709551616) (h2 : x2 < 18446744073709551616) (h3 : x3 < 18446744073709551616)
    (hc : o = !decide (c = 0)) : chainEnd (x0 : Int) (x1 : Int) (x2 : Int) (x3 : Int) (c : Int) = some (rWT (n, o)) := by
  obtain ⟨e0, e1, e2, e3⟩ := four h h0 h1 h2 h3
  unfold chainEnd rWT
  rw [ww_of e0.symm e1.symm e2.symm e3.symm, hc, show decide ((c : Int) = 0) = decide (c = 0) from decide_eq_decide.2 (by omega)]
theorem chain_ok : CtrOk Tryz.prog (dat cw) gChain := by
  refine ctr3_ok cw_ok ⟨Tryz.func103, by kernel_rfl, by kernel_rfl⟩ 200 fun a b f r ha hb _ hr => ?_
  have ha : a < 2 ^ 256 := ha
  have hb : b < 2 ^ 256 := hb
  obtain ⟨a0, a1, a2, a3, ea, ha0, ha1, ha2, ha3⟩ := fourN a ha
  obtain ⟨b0, b1, b2, b3, eb, hb0, hb1, hb2, hb3⟩ := fourN b hb
  obtain ⟨u0, u1, u2, u3⟩ := four ea ha0 ha1 ha2 ha3
  obtain ⟨v0, v1, v2, v3⟩ := four eb hb0 hb1 hb2 hb3
  cases h4 : Nat.beq f 104 with
  | true =>
    rw [h4] at hr
    cases hr
    obtain rfl := Nat.eq_of_beq_eq_true h4
    refine ⟨(chain_add a b).trans ?_, rfl⟩
    rw [u0, u1, u2, u3, v0, v1, v2, v3]
    obtain ⟨s0, d0, q0, l0, m0, e0⟩ := add1 ha0 hb0 (Nat.zero_le 1)
    obtain ⟨s1, d1, q1, l1, m1, e1⟩ := add1 ha1 hb1 m0
    obtain ⟨s2, d2, q2, l2, m2, e2⟩ := add1 ha2 hb2 m1
    obtain ⟨s3, d3, q3, l3, m3, e3⟩ := add1 ha3 hb3 m2
    refine (bindK q0).trans ((bindK q1).trans ((bindK q2).trans ((bindK q3).trans ?_)))
    have hS : a + b = (s0 + 18446744073709551616 * (s1 + 18446744073709551616 * (s2 + 18446744073709551616 * s3))) + 2 ^ 256 * d3 := by rw [p256]; omega
    have hX : s0 + 18446744073709551616 * (s1 + 18446744073709551616 * (s2 + 18446744073709551616 * s3)) < 2 ^ 256 := by rw [p256]; omega
    refine chainEnd_eq (n := (a + b) % 2 ^ 256) ?_ l0 l1 l2 l3 ?_
    · rw [hS, Nat.add_mul_mod_self_left, Nat.mod_eq_of_lt hX]
    · rw [hS, ← decide_not]
      generalize s0 + 18446744073709551616 * (s1 + 18446744073709551616 * (s2 + 18446744073709551616 * s3)) = X at hX ⊢
      generalize 2 ^ 256 = M at hX ⊢
      have : d3 = 0 ∨ d3 = 1 := by omega
      rcases this with rfl | rfl
      · exact decide_eq_decide.2 (by omega)
      · exact decide_eq_decide.2 (by omega)
  | false =>
    rw [h4] at hr
    cases h5 : Nat.beq f 105 with
    | false => rw [h5] at hr; cases hr
    | true =>
    rw [h5] at hr
    cases hr
    obtain rfl := Nat.eq_of_beq_eq_true h5
    refine ⟨(chain_sub a b).trans ?_, rfl⟩
    rw [u0, u1, u2, u3, v0, v1, v2, v3]
    obtain ⟨s0, d0, q0, l0, m0, e0⟩ := sub1 ha0 hb0 (Nat.zero_le 1)
    obtain ⟨s1, d1, q1, l1, m1, e1⟩ := sub1 ha1 hb1 m0
    obtain ⟨s2, d2, q2, l2, m2, e2⟩ := sub1 ha2 hb2 m1
    obtain ⟨s3, d3, q3, l3, m3, e3⟩ := sub1 ha3 hb3 m2
    refine (bindK q0).trans ((bindK q1).trans ((bindK q2).trans ((bindK q3).trans ?_)))
    have hS : a + 2 ^ 256 * d3 = (s0 + 18446744073709551616 * (s1 + 18446744073709551616 * (s2 + 18446744073709551616 * s3))) + b := by rw [p256]; omega
    have hX : s0 + 18446744073709551616 * (s1 + 18446744073709551616 * (s2 + 18446744073709551616 * s3)) < 2 ^ 256 := by rw [p256]; omega
    refine chainEnd_eq (n := bif decide (a < b) then 2 ^ 256 + a - b else a - b) ?_ l0 l1 l2 l3 ?_
    all_goals
      generalize s0 + 18446744073709551616 * (s1 + 18446744073709551616 * (s2 + 18446744073709551616 * s3)) = X at hS hX ⊢
      generalize 2 ^ 256 = M at hS hX ha hb ⊢
      clear ea eb ha0 ha1 ha2 ha3 hb0 hb1 hb2 hb3 e0 e1 e2 e3 l0 l1 l2 l3 m0 m1 m2
      have : d3 = 0 ∨ d3 = 1 := by omega
    · by_cases h : a < b
      · rw [decide_eq_true h, cond_true]; rcases this with rfl | rfl <;> omega
      · rw [decide_eq_false h, cond_false]; rcases this with rfl | rfl <;> omega
    · rw [← decide_not]
      refine decide_eq_decide.2 ?_
      rcases this with rfl | rfl <;> omega
noncomputable def cx : Base := { funs := [], eqs := [], ctrs := [gChain] }
theorem cx_ok : BaseOk cx := ⟨by simp [cx], by simp [cx], by
  intro c hc
  simp only [cx, List.mem_cons, List.not_mem_nil, or_false] at hc
  rcases hc with rfl
  exact chain_ok⟩
theorem wideAdd_eq (a b : Nat) : funC (dat cx) 100 Tryz.f44 [aW a, aW b] some = (qChain [aW a, aW b, aFn 104]).bind fun r => some (rWT r) := by kernel_rfl
theorem wideSub_eq (a b : Nat) : funC (dat cx) 100 Tryz.f45 [aW a, aW b] some = (qChain [aW a, aW b, aFn 105]).bind fun r => some (rWT r) := by kernel_rfl
theorem wideAdd_ok : CtrOk Tryz.prog (dat e3) gWideAdd := by
  show CtrOk Tryz.prog (dat cx) gWideAdd
  refine ctr2_ok cx_ok ⟨Tryz.func44, by kernel_rfl, by kernel_rfl⟩ 100 fun a b r ha hb hr => ?_
  cases hr
  exact ⟨(wideAdd_eq a b).trans (bindK (qChain_K ha hb)), rfl⟩
theorem wideSub_ok : CtrOk Tryz.prog (dat e3) gWideSub := by
  show CtrOk Tryz.prog (dat cx) gWideSub
  refine ctr2_ok cx_ok ⟨Tryz.func45, by kernel_rfl, by kernel_rfl⟩ 100 fun a b r ha hb hr => ?_
  cases hr
  exact ⟨(wideSub_eq a b).trans (bindK (qChain_K ha hb)), rfl⟩
end Go.Ev
end

section
namespace Go.Ev
open Go.RowKit Go.ChangeShapes Go.WideShapes Go.ChangeAt Go.Proofs.YtkbfmpomeejadaaGreatDoor
open Go.Proofs (Tryz.prog Tryz.checked)
open Go.Proofs
theorem row_own : ownKnob Tryz.prog.godebug = none := by kernel_rfl
theorem row_out : laidOutB Tryz.prog = true := remAll_q1
theorem row_format : Tryz.prog.globalNamed "hairsbreadth/format.table" = some 0 := by kernel_rfl
theorem row_formatT : (Tryz.prog.globals[0]?).map (·.type) = some 303 := by kernel_rfl
theorem row_formatK : kindsOf Tryz.prog 5 303 = some (List.replicate 12 (some .i64)) := by kernel_rfl
theorem row_bitsK : kindsOf Tryz.prog 5 25 = some [some .u64, some .u64] := by kernel_rfl
theorem glob_format {b : Base} {w : World} {l : List (String × DataW Unit)} (h : laidMet Tryz.prog (("hairsbreadth/format.table", Rows.laid_hairsbreadth_format_table) :: l) w) : GlobOk (dat b) w := by
  obtain ⟨_, ⟨g, t, cs, f, p, q, hg, ht, hv, hd, _, _⟩, _⟩ := h
  obtain rfl := Option.some.inj (row_format.symm.trans hg)
  obtain rfl := Option.some.inj (row_formatT.symm.trans ht)
  intro i g l hi
  have hi : [(0, tabFormat)][i]? = some (g, l) := hi
  cases i with
  | succ i => simp at hi
  | zero =>
    simp only [List.getElem?_cons_zero, Option.some.injEq, Prod.mk.injEq] at hi
    obtain ⟨rfl, rfl⟩ := hi
    exact glob_of row_format row_formatK hv hd rfl
theorem okB_wf {n : Int} (h : (Lit.int .u8 n).wf = true) : okB n = true := by
  have := bounds_u8 h
  exact okB_of (by omega) (by omega)
/-- Two words as an argument. -/
theorem arg_bits {E : Env} {ls : List Lf} (h : All2 okLf [some .u64, some .u64] ls) : ∃ n, n < 2 ^ 128 ∧ ArgRel E (aB n) (.agg (ls.map valL).toArray) := by
  cases h with
  | @cons _ x _ _ h0 t =>
  cases t with
  | @cons _ y _ _ h1 t =>
  cases t
  cases x <;> try exact h0.elim
  cases y <;> try exact h1.elim
  rename_i k a k' b
  obtain ⟨rfl, wa⟩ := h0
  obtain ⟨rfl, wb⟩ := h1
  have ba := bounds_u64 wa
  have bb' := bounds_u64 wb
  refine ⟨a.toNat * 18446744073709551616 + b.toNat, by rw [p128]; omega, ?_⟩
  show FVRel E (bb _) _
  rw [show bb (a.toNat * 18446744073709551616 + b.toNat) = .agg [.int .u64 a, .int .u64 b] from (bb_of (by rw [hiW_eq]; omega) (by rw [loW_eq]; omega)).symm]
  exact ⟨_, rfl, .cons rfl (.cons rfl .nil)⟩
theorem call3 : Callable Tryz.prog 3 := callable_of Tryz.func3 (by kernel_rfl) (by kernel_rfl)
/-- The door's own heap meets the condition. -/
theorem door_met (os : Os) (args : Array Value) : laidMetH Tryz.prog Rows.remAllRow.laid ((World.doorLaid Tryz.prog 400 os).forCall (fun _ _ => 0) ⟨#[], args, []⟩).memory :=
  laidMetH_of_parts3 (fuel := 8) (laidMet_of_run' 8 (by kernel_rfl) (by kernel_rfl)) (by kernel_rfl) (by kernel_rfl)
set_option maxRecDepth 100000 in
theorem remAll_lifted (os : Os) (started : os.Started) (H : Type) (enc : TypeId × Value → H) :
    ReturnsInHanded {} Tryz.checked os 3 .any (fun w args => (Rows.remAllSpec.pre enc Tryz.prog Tryz.f3 [] false w args ∧ laidMetH Tryz.prog Rows.remAllRow.laid w) ∧ sizedMet enc Tryz.prog Tryz.f3 (OpenSpec.ofChange Rows.remAllSpec) false w args)
      (Rows.remAllSpec.post enc Tryz.prog Tryz.f3 false true false false) := by
  refine returnsInHanded_of_change_and (C := Tryz.checked) (X := fun w _ => laidMetH Tryz.prog Rows.remAllRow.laid w) (fun _ _ _ hh h => h.of_heap hh) row_own started (by kernel_rfl) Tryz.func3
    (ChangeSpec.witness_shaped (enc := enc) (C := Tryz.checked) (os := os) (X := fun w _ => laidMetH Tryz.prog Rows.remAllRow.laid w) false (World.doorLaid Tryz.prog 400 os) #[.int .u8 0, .agg #[.int .u64 0, .int .u64 0], .agg #[.int .u64 0, .int .u64 0]] 8 rfl
      (World.shaped_of_RefB (by kernel_rfl) (by kernel_rfl)) (by kernel_rfl) (by kernel_rfl) (by kernel_rfl) (door_met os _)) ?_
  intro W base args ds gs before hval0 hW _ _ hL _
  have hval : ∀ (j : Nat) t v, Tryz.f3.params[j]? = some t → args[j]? = some v → Value.okWide Tryz.prog W .any base t v := hval0
  have hW' := hW
  obtain ⟨p, q, hA0, hV, rfl, hfz, hnd⟩ := hW
  have hA : DataW.TrodAll enc Tryz.prog W 0 (fun _ => true) true Tryz.f3.params.toList args.toList ds p := hA0
  rw [Tryz.params3] at hA hval
  obtain ⟨v0, vs0, d0, ds0, p0, q0, hargs, rfl, rfl, h0, r0⟩ := trodAll_cons hA
  obtain ⟨v1, vs1, d1, ds1, p1, q1, rfl, rfl, rfl, h1, r1⟩ := trodAll_cons r0
  obtain ⟨v2, vs2, d2, ds2, p2, q2, rfl, rfl, rfl, h2, r2⟩ := trodAll_cons r1
  obtain ⟨rfl, rfl, rfl⟩ := trodAll_nil r2
  obtain rfl : args = #[v0, v1, v2] := by cases args; simp_all
  obtain ⟨rfl, rfl⟩ := trodVars_none hV
  have k1 := h1
  have k2 := h2
  obtain ⟨a0, rfl, rfl, rfl, w0⟩ := open_int Tryz.underlying22 (hval 0 22 v0 rfl rfl) h0
  obtain ⟨l1, rfl, o1, rfl⟩ := open_flat Tryz.underlying25 row_bitsK (hval 1 25 v1 rfl rfl) h1
  obtain ⟨l2, rfl, o2, rfl⟩ := open_flat Tryz.underlying25 row_bitsK (hval 2 25 v2 rfl rfl) h2
  clear hA0 hval0
  have hL : laidMetH Tryz.prog [("hairsbreadth/format.table", Rows.laid_hairsbreadth_format_table)] W := hL
  rw [MakeChecks.laidMetH_plain _ _ _ (by kernel_rfl)] at hL
  obtain ⟨n1, b1, e1⟩ := arg_bits (E := pureE W fun _ => True) o1
  obtain ⟨n2, b2, e2⟩ := arg_bits (E := pureE W fun _ => True) o2
  have hc := (remAll_ok wideAdd_ok wideSub_ok).calls (r := true) call3 (glob_format hL) (args := [aF a0, aB n1, aB n2]) (vs := [.int .u8 a0, .agg (l1.map valL).toArray, .agg (l2.map valL).toArray]) (.cons rfl (.cons e1 (.cons e2 .nil)))
    (ctr3_K (a := dF) (b := dB) (c := dB) (okB_wf w0) b1 b2)
  refine Calls.mono hc fun e W' ⟨v, he, bel, hv⟩ => ?_
  have hv : v = .bool true := hv
  subst he hv
  refine ⟨_, rfl, _, _, _, [], _, [], hW', trodAll_mk1 (shut_bool Tryz.underlying4 _), (trodAll_cons_mk (shut_int Tryz.underlying22 w0) (trodAll_cons_mk (Below.trod row_out (by kernel_rfl) (of_decide_eq_true (by kernel_rfl)) k1 bel (by simp)) (trodAll_cons_mk (Below.trod row_out (by kernel_rfl) (of_decide_eq_true (by kernel_rfl)) k2 bel (by simp)) trodAll_mk0))), rfl, bel.frame _, fun h => by cases h⟩
theorem remAll_said : Rows.RemAllSaid :=
  OpenClaim.holds_of_wide 3 Tryz.f3 rfl rfl rfl rfl rfl rfl rfl ⟨rfl, rfl, rfl, rfl, rfl⟩ rfl rfl rfl rfl rfl (by as_aux_lemma => kernel_rfl) Tryz.func3 remAll_facts
    (of_decide_eq_true (by as_aux_lemma => kernel_rfl)) (by unfold Func.isWrapper; first | (rw [if_pos (by decide +kernel)]; kernel_rfl) | (rw [if_neg (by decide +kernel)]; exact ⟨rfl, rfl⟩))
    (fun os started H enc _ => remAll_lifted os started H enc)
end Go.Ev
end
