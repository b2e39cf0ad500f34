/- Part 42 of 46 of what the theorem stands on. -/
import Derived.Test.YtkbfmpomeejadaaGreatDoorRembo
import Derived.Test.YtkbfmpomeejadaaGreatDoorRemaz

section
namespace Go.Ev
open Go.Proofs Go.RowKit
noncomputable def i3 : Base := i2.with rPck
theorem i3_ok : BaseOk i3 := i2_ok.with rPck_ok
theorem nonpos_cases {n : Int} (h : n ≤ 0) : n = 0 ∨ ∃ m : Nat, n = Int.negSucc m := by
  cases n with
  | ofNat k => left; simp at h; simp [h]
  | negSucc m => exact .inr ⟨m, rfl⟩
noncomputable def rRest : Ctr := ctr3 187 dM dI dT (fun _ n more => bif decide (n ≤ 0) && !more then some 0 else none) rI
noncomputable def qRrest : List Arg → Option Int := rRest.K
theorem qRrest_K {q : Nat} {n : Int} (hq : nd q ≤ 50000) (hn : okS n = true) (h : n ≤ 0) : qRrest [aN q, aI n, aT false] = some 0 := by
  refine (ctr3_K (a := dM) (b := dI) (c := dT) hq hn trivial).trans ?_
  rw [decide_eq_true h]; rfl
theorem rrest_eq0 (q : Nat) : funC (dat i3) 100 Tryz.f187 [aN q, aI 0, aT false] some = some (rI 0) := by kernel_rfl
theorem rrest_eqS (q m : Nat) : funC (dat i3) 100 Tryz.f187 [aN q, aI (Int.negSucc m), aT false] some = some (rI 0) := by kernel_rfl
theorem rRest_ok : CtrOk Tryz.prog (dat i3) rRest := by
  refine ctr3_ok i3_ok ⟨Tryz.func187, by kernel_rfl, by kernel_rfl⟩ 100 fun q n more r _ _ _ hr => ?_
  obtain ⟨hc, hr1⟩ := bif_inv hr
  clear hr
  simp only [Bool.and_eq_true, decide_eq_true_eq, Bool.not_eq_true'] at hc
  obtain ⟨hn, rfl⟩ := hc
  cases hr1
  refine ⟨?_, rfl⟩
  rcases nonpos_cases hn with rfl | ⟨m, rfl⟩
  · exact rrest_eq0 q
  · exact rrest_eqS q m
noncomputable def rNext : Ctr := ctr4 188 dF dT dT dI (fun _ _ _ r => bif decide (r = 0) then some false else none) rT
noncomputable def qRnext : List Arg → Option Bool := rNext.K
theorem qRnext_K {m : Int} (hm : okB m = true) (n o : Bool) : qRnext [aF m, aT n, aT o, aI 0] = some false := ctr4_K (a := dF) (b := dT) (c := dT) (d := dI) hm trivial trivial (okS_of (by decide) (by decide))
theorem rnext_eq0 (m : Int) (n o : Bool) : funC (dat i3) 100 Tryz.f188 [aF m, aT n, aT o, aI 0] some = some (rT false) := by kernel_rfl
theorem rNext_ok : CtrOk Tryz.prog (dat i3) rNext := by
  refine ctr4_ok i3_ok ⟨Tryz.func188, by kernel_rfl, by kernel_rfl⟩ 100 fun m n o x r _ _ _ _ hr => ?_
  obtain ⟨hc, hr⟩ := bif_inv hr
  have hc : x = 0 := of_decide_eq_true hc
  subst hc
  cases hr
  exact ⟨rnext_eq0 m n o, rfl⟩
noncomputable def i4 : Base := (i3.with rRest).with rNext
theorem i4_ok : BaseOk i4 := (i3_ok.with rRest_ok).with rNext_ok
def rNI (r : Nat × Int) : AV := .tup [.one (.nat r.1), .one (.int .i64 r.2)]
noncomputable def rRcut : Ctr := ctr5 118 dM dI dT dF dT (fun q n more _ _ => bif decide (n ≤ 0) && (decide (-100000 ≤ n) && (!more && decide (lenN q ≤ 500000))) then some (q * 2 ^ (-n).toNat, 0) else none) rNI
noncomputable def qRrcut : List Arg → Option (Nat × Int) := rRcut.K
theorem qRrcut_K {q : Nat} {n m : Int} {neg : Bool} (hq : q < 2 ^ 500000) (h : n ≤ 0) (h2 : -100000 ≤ n) (hm : okB m = true) : qRrcut [aN q, aI n, aT false, aF m, aT neg] = some (q * 2 ^ (-n).toNat, 0) := by
  refine (ctr5_K (a := dM) (b := dI) (c := dT) (d := dF) (e := dT) (nd_bits hq (by decide)) (okS_of (by omega) (by omega)) trivial hm trivial).trans ?_
  rw [decide_eq_true h, decide_eq_true h2, decide_eq_true (lenN_le hq)]; rfl
noncomputable def rcTail (q : Nat) (m : Int) (neg : Bool) (n : Int) : Option AV :=
  (qRrest [aN q, aI n, aT false]).bind fun r => (qNshl [aN q, aI (IntKind.wrap .i64 (0 - n))]).bind fun r_1 => (qNbit [aN r_1, aI 0]).bind fun r_2 => (qRnext [aF m, aT neg, aT r_2, aI r]).bind fun r_3 =>
    bif r_3 then (qNof [aU 1]).bind fun r_4 => (qNadd [aN r_1, aN r_4]).bind fun r_5 => some (rNI (r_5, r)) else some (rNI (r_1, r))
theorem rcut_eq0 (q : Nat) (m : Int) (neg : Bool) : funC (dat i4) 100 Tryz.f118 [aN q, aI 0, aT false, aF m, aT neg] some = rcTail q m neg 0 := by kernel_rfl
theorem rcut_eqS (q : Nat) (m : Int) (neg : Bool) (j : Nat) : funC (dat i4) 100 Tryz.f118 [aN q, aI (Int.negSucc j), aT false, aF m, aT neg] some = rcTail q m neg (Int.negSucc j) := by kernel_rfl
theorem rRcut_ok : CtrOk Tryz.prog (dat i4) rRcut := by
  refine ctr5_ok i4_ok ⟨Tryz.func118, by kernel_rfl, by kernel_rfl⟩ 100 fun q n more m neg r hq hn _ hm _ hr => ?_
  obtain ⟨hc, hr1⟩ := bif_inv hr
  clear hr
  simp only [Bool.and_eq_true, decide_eq_true_eq, Bool.not_eq_true'] at hc
  obtain ⟨h1, h2, rfl, h3⟩ := hc
  cases hr1
  refine ⟨?_, rfl⟩
  have hq : nd q ≤ 50000 := hq
  have key : rcTail q m neg n = some (rNI (q * 2 ^ (-n).toNat, 0)) := by
    unfold rcTail
    have hlt : q * 2 ^ (-n).toNat < 2 ^ 600000 := by
      have := join_lt (x := q) (y := 0) (k := (-n).toNat) (m := lenN q) (lenN_lt q) (Nat.two_pow_pos _)
      rw [Nat.add_zero] at this
      have h9 := pow_up _ 600000 this (by omega)
      exact h9
    have e : (0 : Int) - n = -n := by omega
    rw [qRrest_K hq hn h1, Option.bind_some, i64w _ (by omega) (by omega), e, qNshl_K hq (by omega) (by omega), Option.bind_some, qNbit_K (nd_bits hlt (by decide)) (by decide) (by decide), Option.bind_some, qRnext_K hm, Option.bind_some]
    rfl
  rcases nonpos_cases h1 with rfl | ⟨j, rfl⟩
  · exact (rcut_eq0 q m neg).trans key
  · exact (rcut_eqS q m neg j).trans key
noncomputable def i5 : Base := i4.with rRcut
theorem i5_ok : BaseOk i5 := i4_ok.with rRcut_ok
def encR (f : Int) (neg : Bool) (q : Nat) (e : Int) : Nat :=
  let u := max ((lenN q : Int) - 1 + e) (1 - fmtX f) - (fmtP f - 1)
  let n := q * 2 ^ (e - u).toNat
  bif decide ((lenN n : Int) < fmtP f) then makeN f neg 0 n else makeN f neg ((lenN n : Int) - 1 + u - (1 - fmtX f) + 1) (n / 2 ^ ((lenN n : Int) - fmtP f).toNat)
def roundR (f : Int) (neg : Bool) (q : Nat) (e : Int) : Option (Nat × Int) :=
  bif !decide (f < 4) then some (0, 0) else bif decide (q = 0) then some (makeN f neg 0 0, 0) else
  bif decide ((lenN q : Int) ≤ fmtP f) && (decide (1 - fmtX f - (fmtP f - 1) ≤ e) && decide ((lenN q : Int) - 1 + e ≤ fmtX f)) then some (encR f neg q e, 0) else none
/-- A value that is exact. -/
def dV : Dec (Bool × Nat × Int) where
  dec := fun | .fv (.agg [.bool n, .nat q, .int .i64 e, .bool false]) => bif decide (nd q ≤ 50000) && okS e then some (n, q, e) else none | _ => none
  enc := fun p => .fv (.agg [.bool p.1, .nat p.2.1, .int .i64 p.2.2, .bool false])
  ok := fun p => nd p.2.1 ≤ 50000 ∧ okS p.2.2 = true
  inv := by
    intro x a h
    split at h
    · obtain ⟨h1, h2⟩ := bif_inv h
      simp only [Bool.and_eq_true, decide_eq_true_eq] at h1
      cases h2
      exact ⟨rfl, h1⟩
    · cases h
  back := by
    intro a h
    show (bif decide (nd a.2.1 ≤ 50000) && okS a.2.2 then some (a.1, a.2.1, a.2.2) else none) = some a
    rw [decide_eq_true h.1, h.2]; rfl
/-- To the nearest. -/
def dE0 : Dec Unit where
  dec := fun | .fv (.agg [.int .u8 m, .bool false]) => bif decide (m = 0) then some () else none | _ => none
  enc := fun _ => .fv (.agg [.int .u8 0, .bool false])
  ok := fun _ => True
  inv := by
    intro x a h
    split at h
    · obtain ⟨h1, h2⟩ := bif_inv h
      have h1 := of_decide_eq_true h1
      subst h1
      exact ⟨rfl, trivial⟩
    · cases h
  back := fun _ _ => rfl
abbrev aV (n : Bool) (q : Nat) (e : Int) : Arg := .fv (.agg [.bool n, .nat q, .int .i64 e, .bool false])
noncomputable def rRnd : Ctr := ctr3 53 dF dE0 dV (fun f _ p => roundR f p.1 p.2.1 p.2.2) rRes
noncomputable def qRround : List Arg → Option (Nat × Int) := rRnd.K
theorem qRround_K {f e : Int} {n : Bool} {q : Nat} (hf : okB f = true) (hq : nd q ≤ 50000) (he : okS e = true) : qRround [aF f, aE 0 false, aV n q e] = roundR f n q e :=
  ctr3_K (a := dF) (b := dE0) (c := dV) (y := ()) (z := (n, q, e)) hf trivial ⟨hq, he⟩
noncomputable def rrEnd (b : Nat) (r : Nat × Int) (t : Bool) : Option AV := bif decide (r.2 = 0) then some (rRes (b, 0)) else bif t then some (rRes (b, 24)) else some (rRes (b, 16))
theorem rround_eq (f : Int) (neg : Bool) (q : Nat) (e : Int) : funC (dat i5) 100 Tryz.f53 [aF f, aE 0 false, aV neg q e] some = bif decide (3 < f) then resNo else bif decide (((nd q : Nat) : Int) = 0) then (qRmake [aF f, aT neg, aI 0, aN 0]).bind fun r => some (rRes (r, 0)) else
    (qRprec [aF f]).bind fun r => (qRemax [aF f]).bind fun r_1 => (qNlen [aN q]).bind fun r_2 => (qRrcut [aN q, aI (IntKind.wrap .i64 (IntKind.wrap .i64 (IntKind.wrap .i64 (IntKind.wrap .i64 (r_2 - 1) + e) - IntKind.wrap .i64 (r - 1)) - e)), aT false, aF 0, aT neg]).bind fun r_3 => (qNlen [aN r_3.1]).bind fun r_4 => (qRemax [aF f]).bind fun r_5 =>
    bif decide (r_5 < IntKind.wrap .i64 (IntKind.wrap .i64 (IntKind.wrap .i64 (r_4 - 1) + IntKind.wrap .i64 (IntKind.wrap .i64 (r_2 - 1) + e)) - IntKind.wrap .i64 (r - 1))) then none else
    (qRrcut [aN q, aI (IntKind.wrap .i64 (IntKind.wrap .i64 (mx (IntKind.wrap .i64 (IntKind.wrap .i64 (r_2 - 1) + e)) (IntKind.wrap .i64 (1 - r_1)) - IntKind.wrap .i64 (r - 1)) - e)), aT false, aF 0, aT neg]).bind fun r_6 => (qNlen [aN r_6.1]).bind fun r_7 =>
    bif decide (r_7 < r) then (qRmake [aF f, aT neg, aI 0, aN r_6.1]).bind fun r_8 => rrEnd r_8 r_6 (decide (IntKind.wrap .i64 (IntKind.wrap .i64 (r_2 - 1) + e) < IntKind.wrap .i64 (1 - r_1)))
    else (qNlen [aN r_6.1]).bind fun r_8 => (qNlen [aN r_6.1]).bind fun r_9 => (qNshr [aN r_6.1, aI (IntKind.wrap .i64 (r_9 - r))]).bind fun r_10 =>
      (qRmake [aF f, aT neg, aI (IntKind.wrap .i64 (IntKind.wrap .i64 (IntKind.wrap .i64 (IntKind.wrap .i64 (r_8 - 1) + IntKind.wrap .i64 (mx (IntKind.wrap .i64 (IntKind.wrap .i64 (r_2 - 1) + e)) (IntKind.wrap .i64 (1 - r_1)) - IntKind.wrap .i64 (r - 1))) - IntKind.wrap .i64 (1 - r_1)) + 1)), aN r_10]).bind fun r_11 => rrEnd r_11 r_6 (decide (IntKind.wrap .i64 (IntKind.wrap .i64 (r_2 - 1) + e) < IntKind.wrap .i64 (1 - r_1))) := by kernel_rfl
theorem rRnd_ok : CtrOk Tryz.prog (dat i5) rRnd := by
  refine ctr3_ok i5_ok ⟨Tryz.func53, by kernel_rfl, by kernel_rfl⟩ 100 fun f y p r hf _ hp hr => ?_
  obtain ⟨neg, q, e⟩ := p
  have hr : roundR f neg q e = some r := hr
  have hq : nd q ≤ 50000 := hp.1
  have h := fmt_le hf
  have h' := fmt_small hf
  refine ⟨(rround_eq f neg q e).trans ?_, rfl⟩
  unfold roundR at hr
  by_cases h4 : f < 4
  · have h0 : fmtW f ≠ 0 := fun h0 => by have := h'.2.2.1.1 h0; omega
    have h1 := h'.2.2.2 h0
    rw [decide_eq_true h4] at hr
    rw [decide_eq_false (by omega : ¬ 3 < f), nd_zero_iff]
    simp only [Bool.not_true, cond_false] at hr ⊢
    by_cases hq0 : q = 0
    · rw [decide_eq_true hq0] at hr ⊢
      cases hr
      rw [cond_true, qRmake_K hf (okS_of (by decide) (by decide)) pos500, Option.bind_some]
    · rw [decide_eq_false hq0] at hr ⊢
      simp only [cond_false] at hr ⊢
      obtain ⟨hc, hr⟩ := bif_inv hr
      simp only [Bool.and_eq_true, decide_eq_true_eq] at hc
      obtain ⟨c1, c2, c3⟩ := hc
      cases hr
      have hl := (lenN_pos hq0).2.2
      have hq128 : q < 2 ^ 128 := Nat.lt_of_lt_of_le (lenN_lt q) (Nat.pow_le_pow_right (by decide) (by omega))
      simp only [qRprec_K hf, qRemax_K hf, qNlen_K hq, Option.bind_some, mx_eq]
      rw [i64w ((lenN q : Int) - 1) (by omega) (by omega), i64w ((lenN q : Int) - 1 + e) (by omega) (by omega), i64w (fmtP f - 1) (by omega) (by omega), i64w (1 - fmtX f) (by omega) (by omega), i64w ((lenN q : Int) - 1 + e - (fmtP f - 1)) (by omega) (by omega), i64w ((lenN q : Int) - 1 + e - (fmtP f - 1) - e) (by omega) (by omega),
        i64w (max ((lenN q : Int) - 1 + e) (1 - fmtX f) - (fmtP f - 1)) (by omega) (by omega), i64w (max ((lenN q : Int) - 1 + e) (1 - fmtX f) - (fmtP f - 1) - e) (by omega) (by omega)]
      rw [qRrcut_K (lt500 hq128) (by omega) (by omega) (by decide), Option.bind_some]
      have hl1 : lenN (q * 2 ^ (-((lenN q : Int) - 1 + e - (fmtP f - 1) - e)).toNat) = (fmtP f).toNat := by
        rw [lenN_shift hq0]; omega
      have hlt1 : q * 2 ^ (-((lenN q : Int) - 1 + e - (fmtP f - 1) - e)).toNat < 2 ^ 128 := by
        refine Nat.lt_of_lt_of_le (lenN_lt _) ?_
        rw [hl1]
        exact Nat.pow_le_pow_right (by decide) (by omega)
      rw [qNlen_K (nd_128 hlt1), Option.bind_some, hl1, i64w (((fmtP f).toNat : Int) - 1) (by omega) (by omega), i64w (((fmtP f).toNat : Int) - 1 + ((lenN q : Int) - 1 + e)) (by omega) (by omega), i64w (((fmtP f).toNat : Int) - 1 + ((lenN q : Int) - 1 + e) - (fmtP f - 1)) (by omega) (by omega),
        decide_eq_false (by omega : ¬ fmtX f < ((fmtP f).toNat : Int) - 1 + ((lenN q : Int) - 1 + e) - (fmtP f - 1)), cond_false]
      rw [qRrcut_K (lt500 hq128) (by omega) (by omega) (by decide), Option.bind_some]
      unfold encR
      simp only
      have eu : (-(max ((lenN q : Int) - 1 + e) (1 - fmtX f) - (fmtP f - 1) - e)).toNat = (e - (max ((lenN q : Int) - 1 + e) (1 - fmtX f) - (fmtP f - 1))).toNat := by congr 1; omega
      rw [eu]
      have hs : (e - (max ((lenN q : Int) - 1 + e) (1 - fmtX f) - (fmtP f - 1))).toNat + lenN q ≤ (fmtP f).toNat := by omega
      have hln : lenN (q * 2 ^ (e - (max ((lenN q : Int) - 1 + e) (1 - fmtX f) - (fmtP f - 1))).toNat) ≤ (fmtP f).toNat := by rw [lenN_shift hq0]; omega
      generalize hnn : q * 2 ^ (e - (max ((lenN q : Int) - 1 + e) (1 - fmtX f) - (fmtP f - 1))).toNat = nn at *
      have hn128 : nn < 2 ^ 128 := Nat.lt_of_lt_of_le (lenN_lt _) (Nat.pow_le_pow_right (by decide) (by omega))
      rw [qNlen_K (nd_128 hn128), Option.bind_some, Option.bind_some, Option.bind_some]
      by_cases hlt : (lenN nn : Int) < fmtP f
      · rw [decide_eq_true hlt, cond_true, cond_true, qRmake_K hf (okS_of (by decide) (by decide)) (lt500 hn128), Option.bind_some]
        rfl
      · have hd : nn / 2 ^ ((lenN nn : Int) - fmtP f).toNat < 2 ^ 128 := Nat.lt_of_le_of_lt (Nat.div_le_self _ _) hn128
        rw [decide_eq_false hlt, cond_false, cond_false, i64w ((lenN nn : Int) - fmtP f) (by omega) (by omega), qNshr_K (nd_128 hn128) (by omega) (by omega), Option.bind_some,
          i64w ((lenN nn : Int) - 1) (by omega) (by omega), i64w ((lenN nn : Int) - 1 + (max ((lenN q : Int) - 1 + e) (1 - fmtX f) - (fmtP f - 1))) (by omega) (by omega), i64w ((lenN nn : Int) - 1 + (max ((lenN q : Int) - 1 + e) (1 - fmtX f) - (fmtP f - 1)) - (1 - fmtX f)) (by omega) (by omega), i64w _ (by omega) (by omega),
          qRmake_K hf (okS_of (by omega) (by omega)) (lt500 hd), Option.bind_some]
        rfl
  · rw [decide_eq_false h4] at hr
    cases hr
    rw [decide_eq_true (by omega : 3 < f), cond_true, resNo_eq]
end Go.Ev
end

section
namespace Go.Ev
open Go.Proofs Go.RowKit
noncomputable def i6 : Base := (i5.with rRnd).fun_ [(54, Tryz.f54)]
theorem i6_ok : BaseOk i6 := (i5_ok.with rRnd_ok).fun_ (by
  intro x hx
  simp only [List.mem_cons, List.not_mem_nil, or_false] at hx
  obtain rfl := hx
  exact ⟨Tryz.func54, by kernel_rfl, by kernel_rfl⟩)
def bitE (k : Int) (i : Nat) : Int := IntKind.wrap .i64 (BitVec.toNat (BitVec.ofInt 64 (shr .i64 k (i : Int)) &&& BitVec.ofInt 64 1))
noncomputable def leftGo (k : Int) (d m : Nat) : List Nat → Nat → Option AV
  | [], p => (qNmul [aN m, aN p]).bind fun r => (qNdiv [aN r, aN d]).bind fun r => some (rN r.2)
  | i :: l, p => (qNmul [aN p, aN p]).bind fun r => (qNshl [aN r, aI (bitE k i)]).bind fun r => (qNdiv [aN r, aN d]).bind fun r => leftGo k d m l r.2
def down : Nat → List Nat
  | 0 => []
  | j + 1 => j :: down j
theorem left_eqn (m : Nat) (k : Int) (d : Nat) : funC (dat i6) 100 Tryz.f57 [aN m, aI k, aN d] some = (qNof [aU 1]).bind fun r => leftGo k d m [15, 14, 13, 12, 11, 10, 9, 8, 7, 6, 5, 4, 3, 2, 1, 0] r := by kernel_rfl
theorem bitE_eq {k i : Nat} (hk : k < 65536) (hi : i < 16) : bitE (k : Int) i = ((k / 2 ^ i % 2 : Nat) : Int) := by
  unfold bitE
  have h1 : shr .i64 (k : Int) (i : Int) = ((k / 2 ^ i : Nat) : Int) := by
    unfold shr
    have : min (i : Int).toNat IntKind.i64.bits = i := by simp [IntKind.bits]; omega
    have h2 : (2 : Int) ^ i = ((2 ^ i : Nat) : Int) := by simp
    rw [this, h2]
    exact (Int.ofNat_fdiv k (2 ^ i)).symm
  have h3 : k / 2 ^ i ≤ k := Nat.div_le_self _ _
  rw [h1, BitVec.toNat_and]
  have e1 : (BitVec.ofInt 64 1).toNat = 2 ^ 1 - 1 := by decide
  rw [e1, Nat.and_two_pow_sub_one_eq_mod, BitVec.toNat_ofInt, i64w _ (by omega) (by omega)]
  omega
theorem leftGo_eq {k d m : Nat} (hk : k < 65536) (hd : 0 < d) (hd2 : d < 2 ^ 100000) (hm : m < 2 ^ 200000) : ∀ (j p : Nat), j ≤ 16 → p % d = 2 ^ (k / 2 ^ j) % d → p < 2 ^ 100000 → leftGo (k : Int) d m (down j) p = some (rN (m * 2 ^ k % d))
  | 0, p, _, hp, hp2 => by
    have hdd := nd_bits hd2 (by decide)
    have hmp : m * p < 2 ^ 300000 := by
      have := mul_up 200000 100000 300000 (by decide) hm hp2
      exact this
    simp only [down, leftGo]
    rw [qNmul_K (nd_bits hm (by decide)) (nd_bits hp2 (by decide)), Option.bind_some, qNdiv_K (nd_bits hmp (by decide)) hdd hd, Option.bind_some]
    rw [Nat.pow_zero, Nat.div_one] at hp
    have e : m * p % d = m * 2 ^ k % d := by rw [Nat.mul_mod, hp, ← Nat.mul_mod]
    rw [e]
  | j + 1, p, hj, hp, hp2 => by
    have hdd := nd_bits hd2 (by decide)
    have hbit : k / 2 ^ j % 2 ≤ 1 := by omega
    have hpp : p * p < 2 ^ 200000 := by
      have := mul_up 100000 100000 200000 (by decide) hp2 hp2
      exact this
    have hpb : p * p * 2 ^ (k / 2 ^ j % 2) < 2 ^ 200001 := by
      have h2 : 2 ^ (k / 2 ^ j % 2) ≤ 2 ^ 1 := Nat.pow_le_pow_right (by decide) hbit
      have hpp2 := mul_up2 200000 200001 (by decide) hpp
      have h9 := Nat.lt_of_le_of_lt (Nat.mul_le_mul_left (p * p) h2) hpp2
      exact h9
    simp only [down, leftGo]
    rw [bitE_eq hk (by omega), qNmul_K (nd_bits hp2 (by decide)) (nd_bits hp2 (by decide)), Option.bind_some, qNshl_K (nd_bits hpp (by decide)) (by omega) (by omega), Option.bind_some, Int.toNat_natCast, qNdiv_K (nd_bits hpb (by decide)) hdd hd, Option.bind_some]
    refine leftGo_eq hk hd hd2 hm j _ (by omega) ?_ (Nat.lt_trans (Nat.mod_lt _ hd) hd2)
    have hkk : k / 2 ^ j = 2 * (k / 2 ^ (j + 1)) + k / 2 ^ j % 2 := half_next k j
    rw [Nat.mod_mod]
    have e1 : 2 ^ (k / 2 ^ j) = 2 ^ (k / 2 ^ (j + 1)) * 2 ^ (k / 2 ^ (j + 1)) * 2 ^ (k / 2 ^ j % 2) := by
      rw [← Nat.pow_add, ← Nat.pow_add]
      congr 1
      omega
    have e2 : p * p % d = 2 ^ (k / 2 ^ (j + 1)) * 2 ^ (k / 2 ^ (j + 1)) % d := by rw [Nat.mul_mod p p, hp, ← Nat.mul_mod]
    rw [e1, Nat.mul_mod (p * p), e2, ← Nat.mul_mod]
noncomputable def rLeft : Ctr := ctr3 57 dM dI dM (fun m k d => bif decide (0 ≤ k) && (decide (k < 65536) && (decide (0 < d) && (decide (lenN d ≤ 100000) && decide (lenN m ≤ 200000)))) then some (m * 2 ^ k.toNat % d) else none) rN
noncomputable def qRleft : List Arg → Option Nat := rLeft.K
theorem qRleft_K {m d : Nat} {k : Int} (hm : m < 2 ^ 200000) (h0 : 0 ≤ k) (h1 : k < 65536) (hd : 0 < d) (hd2 : d < 2 ^ 100000) : qRleft [aN m, aI k, aN d] = some (m * 2 ^ k.toNat % d) := by
  refine (ctr3_K (a := dM) (b := dI) (c := dM) (nd_bits hm (by decide)) (okS_of (by omega) (by omega)) (nd_bits hd2 (by decide))).trans ?_
  rw [decide_eq_true h0, decide_eq_true h1, decide_eq_true hd, decide_eq_true (lenN_le hd2), decide_eq_true (lenN_le hm)]
  rfl
theorem rLeft_ok : CtrOk Tryz.prog (dat i6) rLeft := by
  refine ctr3_ok i6_ok ⟨Tryz.func57, by kernel_rfl, by kernel_rfl⟩ 100 fun m k d r _ _ _ hr => ?_
  obtain ⟨hc, hr⟩ := bif_inv hr
  simp only [Bool.and_eq_true, decide_eq_true_eq] at hc
  obtain ⟨h0, h1, h2, h3, h4⟩ := hc
  cases hr
  obtain ⟨k, rfl⟩ : ∃ n : Nat, k = n := ⟨k.toNat, by omega⟩
  refine ⟨(left_eqn m k d).trans ?_, rfl⟩
  have hd2 := pow_up (lenN d) 100000 (lenN_lt d) h3
  have hm := pow_up (lenN m) 200000 (lenN_lt m) h4
  rw [qNof_K (by decide), Option.bind_some]
  refine leftGo_eq (j := 16) (by omega) h2 hd2 hm 1 (Nat.le_refl _) ?_ (by have := one_up 100000 (by decide); exact this)
  have : k / 2 ^ 16 = 0 := Nat.div_eq_of_lt (by omega)
  rw [this]
noncomputable def i7 : Base := i6.with rLeft
theorem i7_ok : BaseOk i7 := i6_ok.with rLeft_ok
noncomputable def rrFin (f : Int) (neg : Bool) (q : Nat) (e : Int) : Option AV := (qRround [aF f, aE 0 false, aV neg q e]).bind fun r => some (rRes r)
noncomputable def rrNeg (f : Int) (neg : Bool) (n rest : Nat) (e : Int) : Option AV := (qNsub [aN n, aN rest]).bind fun q => rrFin f (!neg) q e
noncomputable def rrTw (f : Int) (neg : Bool) (n rest : Nat) (e c8 : Int) : Option AV :=
  (qNshl [aN rest, aI 1]).bind fun t => (qNcmp [aN t, aN n]).bind fun c => bif decide (0 < c) then rrNeg f neg n rest e else bif decide (c = 0) then (bif decide (0 ≤ c8) then rrNeg f neg n rest e else rrFin f neg rest e) else rrFin f neg rest e
noncomputable def rrMain (f : Int) (a b : Nat) (c d : Int × Bool) : Option AV :=
  bif decide (d.1 = 3) then (qRval [aF f, aB a]).bind fun v => rrFin f v.1 v.2.1 v.2.2 else
  (qRval [aF f, aB a]).bind fun x => (qRval [aF f, aB b]).bind fun y => (qNshl [aN y.2.1, aI (IntKind.wrap .i64 (y.2.2 - mn x.2.2 y.2.2))]).bind fun n => (qNshl [aN n, aI 1]).bind fun n2 =>
  (qRleft [aN x.2.1, aI (IntKind.wrap .i64 (x.2.2 - mn x.2.2 y.2.2)), aN n2]).bind fun rest => (qNcmp [aN rest, aN n]).bind fun c8 => bif decide (0 ≤ c8) then (qNsub [aN rest, aN n]).bind fun r9 => rrTw f c.2 n r9 (mn x.2.2 y.2.2) c8 else rrTw f c.2 n rest (mn x.2.2 y.2.2) c8
noncomputable def rrPick (f : Int) (a b : Nat) (c d : Int × Bool) (bad : Bool) : Option AV := (qRpick [aF f, aT bad, aB2 a b]).bind fun p => bif p.2.2 then some (rRes (p.1, p.2.1)) else rrMain f a b c d
theorem rrem_eq (f : Int) (a b : Nat) : funC (dat i7) 200 Tryz.f10 [aF f, aB a, aB b] some = bif decide (3 < f) then resNo else (qRclass [aF f, aB a]).bind fun c => (qRclass [aF f, aB b]).bind fun d =>
    bif decide (4 ≤ c.1) then rrPick f a b c d false else bif !decide (4 ≤ d.1) then (bif decide (c.1 = 3) then rrPick f a b c d true else rrPick f a b c d (decide (d.1 = 0))) else rrPick f a b c d false := by kernel_rfl
theorem valN_bounds {f : Int} (hf : okB f = true) (h0 : fmtW f ≠ 0) (a : Nat) : (valN f a).2.1 < 2 ^ 113 ∧ 1 - fmtX f - (fmtP f - 1) ≤ (valN f a).2.2 ∧ (valN f a).2.2 ≤ fmtX f - (fmtP f - 1) + 1 ∧ (valN f a).2.1 < 2 ^ (fmtP f).toNat := by
  have h := fmt_le hf
  have h1 := (fmt_small hf).2.2.2 h0
  have hfr := splitN_frac h0 a
  have hex := splitN_exp hf a
  have htop := splitN_top hf h0 a
  have hp : 2 ^ (fmtP f).toNat ≤ 2 ^ 113 := Nat.pow_le_pow_right (by decide) (by omega)
  have hp2 : 2 ^ (fmtP f - 1).toNat + 2 ^ (fmtP f - 1).toNat = 2 ^ (fmtP f).toNat := by
    have : (fmtP f).toNat = (fmtP f - 1).toNat + 1 := by omega
    rw [this, Nat.pow_succ]
    omega
  unfold valN
  by_cases he : (splitN f a).2.1 = 0
  · rw [decide_eq_true he]
    simp only [cond_true]
    exact ⟨by omega, by omega, by omega, by omega⟩
  · rw [decide_eq_false he]
    simp only [cond_false]
    exact ⟨by omega, by omega, by omega, by omega⟩
def refK (f : Int) (a b : Nat) : Option (Nat × Int) :=
  bif !decide (f < 4) then some (0, 0) else
  let c := classN f a
  let d := classN f b
  let p := pickN f (!decide (4 ≤ c.1) && (!decide (4 ≤ d.1) && (decide (c.1 = 3) || decide (d.1 = 0)))) a b
  bif p.2.2 then some (p.1, p.2.1) else
  bif decide (d.1 = 3) then roundR f (valN f a).1 (valN f a).2.1 (valN f a).2.2 else
  bif decide ((valN f b).2.1 = 0) then none else
  let e := min (valN f a).2.2 (valN f b).2.2
  let t := remE ((valN f a).2.1 * 2 ^ ((valN f a).2.2 - e).toNat) ((valN f b).2.1 * 2 ^ ((valN f b).2.2 - e).toNat)
  roundR f (Bool.xor c.2 t.2) t.1 e
noncomputable def rRem : Ctr := ctr3 10 dF dB dB refK rRes
noncomputable def qRrem : List Arg → Option (Nat × Int) := rRem.K
theorem qRrem_K {f : Int} {a b : Nat} (hf : okB f = true) (ha : a < 2 ^ 128) (hb : b < 2 ^ 128) : qRrem [aF f, aB a, aB b] = refK f a b := ctr3_K (a := dF) (b := dB) (c := dB) hf ha hb
theorem rrFin_eq {f : Int} (hf : okB f = true) {neg : Bool} {q : Nat} {e : Int} (hq : nd q ≤ 50000) (he : okS e = true) {r : Nat × Int} (h : roundR f neg q e = some r) : rrFin f neg q e = some (rRes r) := by
  unfold rrFin
  rw [qRround_K hf hq he, h]
  rfl
theorem rrNeg_eq {f : Int} (hf : okB f = true) {neg : Bool} {n rest : Nat} {e : Int} (hn : n < 2 ^ 100000) (hr : rest ≤ n) (he : okS e = true) {r : Nat × Int} (h : roundR f (!neg) (n - rest) e = some r) : rrNeg f neg n rest e = some (rRes r) := by
  unfold rrNeg
  have h1 := nd_bits hn (by decide)
  rw [qNsub_K h1 (Nat.le_trans (nd_mono hr) h1) hr, Option.bind_some]
  exact rrFin_eq hf (Nat.le_trans (nd_mono (Nat.sub_le _ _)) h1) he h
theorem rrTw_eq {f : Int} (hf : okB f = true) {neg : Bool} {n rest : Nat} {e c8 : Int} (hn : n < 2 ^ 100000) (hr : rest < n) (he : okS e = true) {r : Nat × Int} {t : Nat × Bool}
    (ht : (bif decide (n < 2 * rest) || (decide (2 * rest = n) && decide (0 ≤ c8)) then (n - rest, true) else (rest, false)) = t) (h : roundR f (Bool.xor neg t.2) t.1 e = some r) : rrTw f neg n rest e c8 = some (rRes r) := by
  have h1 := nd_bits hn (by decide)
  have h2 : nd rest ≤ 50000 := Nat.le_trans (nd_mono (Nat.le_of_lt hr)) h1
  have h3 : nd (rest * 2 ^ 1) ≤ 50000 := nd_bits (n := 100001) (by
    have := mul_up2 100000 100001 (by decide) (Nat.lt_trans hr hn)
    exact this) (by decide)
  have hx : ∀ b : Bool, Bool.xor b true = !b := fun b => by cases b <;> rfl
  unfold rrTw
  rw [qNshl_K h2 (by decide) (by decide), Option.bind_some, show (1 : Int).toNat = 1 from rfl, qNcmp_K h3 h1, Option.bind_some]
  unfold cmpN
  have e2 : rest * 2 ^ 1 = 2 * rest := by omega
  rw [e2]
  subst ht
  by_cases ha : n < 2 * rest
  · rw [decide_eq_true ha] at h ⊢
    rw [decide_eq_false (by omega : ¬ 2 * rest < n)]
    simp only [Bool.true_or, cond_true, hx] at h
    exact rrNeg_eq hf hn (by omega) he h
  · rw [decide_eq_false ha] at h ⊢
    by_cases hb : 2 * rest = n
    · rw [decide_eq_true hb] at h
      rw [decide_eq_false (by omega : ¬ 2 * rest < n)]
      cases hc : decide (0 ≤ c8) with
      | true =>
        rw [hc] at h
        have h : roundR f (Bool.xor neg true) (n - rest) e = some r := h
        rw [hx] at h
        exact rrNeg_eq hf hn (by omega) he h
      | false =>
        rw [hc] at h
        have h : roundR f (Bool.xor neg false) rest e = some r := h
        rw [Bool.xor_false] at h
        exact rrFin_eq hf h2 he h
    · rw [decide_eq_false hb] at h
      rw [decide_eq_true (by omega : 2 * rest < n)]
      have h : roundR f (Bool.xor neg false) rest e = some r := h
      rw [Bool.xor_false] at h
      exact rrFin_eq hf h2 he h
theorem rrMain_eq {f : Int} (hf : okB f = true) (h0 : fmtW f ≠ 0) {a b : Nat} (ha : a < 2 ^ 128) (hb : b < 2 ^ 128) {c d : Int × Bool} {r : Nat × Int}
    (h : (bif decide (d.1 = 3) then roundR f (valN f a).1 (valN f a).2.1 (valN f a).2.2 else
      bif decide ((valN f b).2.1 = 0) then none else
      let e := min (valN f a).2.2 (valN f b).2.2
      let t := remE ((valN f a).2.1 * 2 ^ ((valN f a).2.2 - e).toNat) ((valN f b).2.1 * 2 ^ ((valN f b).2.2 - e).toNat)
      roundR f (Bool.xor c.2 t.2) t.1 e) = some r) : rrMain f a b c d = some (rRes r) := by
  have hfm := fmt_le hf
  have hva := valN_bounds hf h0 a
  have hvb := valN_bounds hf h0 b
  unfold rrMain
  rw [qRval_K hf ha h0, qRval_K hf hb h0]
  simp only [Option.bind_some, mn_eq]
  have hqa := nd_bits hva.1 (by decide)
  have hqb := nd_bits hvb.1 (by decide)
  cases hd : decide (d.1 = 3) with
  | true =>
    rw [hd] at h
    exact rrFin_eq hf hqa (okS_of (by omega) (by omega)) h
  | false =>
  rw [hd] at h
  simp only [cond_false] at h ⊢
  by_cases hz : (valN f b).2.1 = 0
  · rw [decide_eq_true hz] at h; cases h
  · rw [decide_eq_false hz] at h
    simp only [cond_false] at h
    generalize hx : (valN f a).2.1 = xm at *
    generalize hy : (valN f b).2.1 = ym at *
    generalize hxe : (valN f a).2.2 = xe at *
    generalize hye : (valN f b).2.2 = ye at *
    rw [i64w (ye - min xe ye) (by omega) (by omega), i64w (xe - min xe ye) (by omega) (by omega), qNshl_K hqb (by omega) (by omega), Option.bind_some]
    have hn : ym * 2 ^ (ye - min xe ye).toNat < 2 ^ 99999 := by
      have := join_lt (x := ym) (y := 0) (k := (ye - min xe ye).toNat) (m := 113) hvb.1 (Nat.two_pow_pos _)
      rw [Nat.add_zero] at this
      have h9 := pow_up _ 99999 this (by omega)
      exact h9
    have hnpos : 0 < ym * 2 ^ (ye - min xe ye).toNat := Nat.mul_pos (by omega) (Nat.two_pow_pos _)
    generalize ym * 2 ^ (ye - min xe ye).toNat = n at *
    have hn2 : n * 2 ^ 1 < 2 ^ 100000 := by
      have := mul_up2 99999 100000 (by decide) hn
      exact this
    have hn1 := pow_up 99999 100000 hn (by decide)
    have hndn := nd_bits hn1 (by decide)
    have hxm := pow_up 113 200000 hva.1 (by decide)
    rw [qNshl_K hndn (by decide) (by decide), Option.bind_some, show (1 : Int).toNat = 1 from rfl, qRleft_K hxm (by omega) (by omega) (by omega) hn2, Option.bind_some]
    have e2 : n * 2 ^ 1 = 2 * n := by omega
    rw [e2] at hn2 ⊢
    rw [remE_twice _ n hnpos] at h
    have hwlt := Nat.mod_lt (xm * 2 ^ (xe - min xe ye).toNat) (by omega : 0 < 2 * n)
    generalize xm * 2 ^ (xe - min xe ye).toNat % (2 * n) = w at *
    have hndw : nd w ≤ 50000 := nd_bits (Nat.lt_trans hwlt hn2) (by decide)
    rw [qNcmp_K hndw hndn, Option.bind_some]
    have hes : okS (min xe ye) = true := okS_of (by omega) (by omega)
    by_cases hge : n ≤ w
    · rw [decide_eq_true hge] at h
      have hc8 : decide (0 ≤ cmpN w n) = true := by
        unfold cmpN
        rw [decide_eq_false (by omega : ¬ w < n)]
        cases decide (n < w) <;> rfl
      rw [hc8, cond_true, qNsub_K hndw hndn hge, Option.bind_some]
      refine rrTw_eq hf hn1 (by omega) hes ?_ h
      rw [hc8, Bool.and_true]
      rfl
    · rw [decide_eq_false hge] at h
      have hc8 : decide (0 ≤ cmpN w n) = false := by
        unfold cmpN
        rw [decide_eq_true (by omega : w < n)]
        rfl
      rw [hc8, cond_false]
      refine rrTw_eq hf hn1 (by omega) hes ?_ h
      rw [hc8, Bool.and_false, Bool.or_false]
      rfl
theorem rRem_ok : CtrOk Tryz.prog (dat i7) rRem := by
  refine ctr3_ok i7_ok ⟨Tryz.func10, by kernel_rfl, by kernel_rfl⟩ 200 fun f a b r hf ha hb hr => ?_
  refine ⟨(rrem_eq f a b).trans ?_, rfl⟩
  have hr : refK f a b = some r := hr
  unfold refK at hr
  by_cases h4 : f < 4
  · have h0 : fmtW f ≠ 0 := fun h0 => by have := (fmt_small hf).2.2.1.1 h0; omega
    rw [decide_eq_true h4] at hr
    rw [decide_eq_false (by omega : ¬ 3 < f), cond_false, qRclass_K hf ha, Option.bind_some, qRclass_K hf hb, Option.bind_some]
    simp only [Bool.not_true, cond_false] at hr
    have key : ∀ bad : Bool, (bif (pickN f bad a b).2.2 then some ((pickN f bad a b).1, (pickN f bad a b).2.1) else
        bif decide ((classN f b).1 = 3) then roundR f (valN f a).1 (valN f a).2.1 (valN f a).2.2 else
        bif decide ((valN f b).2.1 = 0) then none else
        let e := min (valN f a).2.2 (valN f b).2.2
        let t := remE ((valN f a).2.1 * 2 ^ ((valN f a).2.2 - e).toNat) ((valN f b).2.1 * 2 ^ ((valN f b).2.2 - e).toNat)
        roundR f (Bool.xor (classN f a).2 t.2) t.1 e) = some r → rrPick f a b (classN f a) (classN f b) bad = some (rRes r) := by
      intro bad h
      unfold rrPick
      rw [qRpick_K hf ha hb, Option.bind_some]
      cases hp : (pickN f bad a b).2.2 with
      | true => rw [hp] at h; cases h; rfl
      | false => rw [hp] at h; exact rrMain_eq hf h0 ha hb h
    cases hca : decide (4 ≤ (classN f a).1) with
    | true => rw [hca] at hr; exact key false hr
    | false =>
    rw [hca] at hr
    cases hcb : decide (4 ≤ (classN f b).1) with
    | true => rw [hcb] at hr; exact key false hr
    | false =>
    rw [hcb] at hr
    cases hc3 : decide ((classN f a).1 = 3) with
    | true => rw [hc3] at hr; exact key true hr
    | false => rw [hc3] at hr; exact key _ hr
  · rw [decide_eq_false h4] at hr
    cases hr
    rw [decide_eq_true (by omega : 3 < f), cond_true, resNo_eq]
end Go.Ev
end
