/- Part 31 of 46 of what the theorem stands on. -/
import Derived.Test.YtkbfmpomeejadaaGreatDoorRembd

section
namespace Go.Ev
open Go.Proofs Go.RowKit
def wideAddN (a b : Nat) : Nat × Bool := ((a + b) % 2 ^ 256, decide (2 ^ 256 ≤ a + b))
def wideSubN (a b : Nat) : Nat × Bool := (bif decide (a < b) then 2 ^ 256 + a - b else a - b, decide (a < b))
noncomputable def rWT (r : Nat × Bool) : AV := .tup [ww r.1, .one (.bool r.2)]
noncomputable def gWideAdd : Ctr := ctr2 44 dW dW (fun a b => some (wideAddN a b)) rWT
noncomputable def gWideSub : Ctr := ctr2 45 dW dW (fun a b => some (wideSubN a b)) rWT
noncomputable def qWideAdd : List Arg → Option (Nat × Bool) := gWideAdd.K
noncomputable def qWideSub : List Arg → Option (Nat × Bool) := gWideSub.K
theorem qWideAdd_K {a b : Nat} (ha : a < 2 ^ 256) (hb : b < 2 ^ 256) : qWideAdd [aW a, aW b] = some (wideAddN a b) := ctr2_K (a := dW) (b := dW) ha hb
theorem qWideSub_K {a b : Nat} (ha : a < 2 ^ 256) (hb : b < 2 ^ 256) : qWideSub [aW a, aW b] = some (wideSubN a b) := ctr2_K (a := dW) (b := dW) ha hb
/-- The base under rem.Rem. -/
noncomputable def f1 : Base := ((((e3.with gMod).with gPick).with gWideAdd).with gWideSub).fun_
  [(38, Tryz.f38), (92, Tryz.f92), (93, Tryz.f93), (94, Tryz.f94), (95, Tryz.f95), (46, Tryz.f46), (47, Tryz.f47), (48, Tryz.f48)]
theorem f1_ok (hA : CtrOk Tryz.prog (dat e3) gWideAdd) (hS : CtrOk Tryz.prog (dat e3) gWideSub) : BaseOk f1 := ((((e3_ok.with mod_ok).with pick_ok).with hA).with hS).fun_ (by
  intro x hx
  simp only [List.mem_cons, List.not_mem_nil, or_false] at hx
  rcases hx with rfl | rfl | rfl | rfl | rfl | rfl | rfl | rfl
  · exact ⟨Tryz.func38, by kernel_rfl, by kernel_rfl⟩
  · exact ⟨Tryz.func92, by kernel_rfl, by kernel_rfl⟩
  · exact ⟨Tryz.func93, by kernel_rfl, by kernel_rfl⟩
  · exact ⟨Tryz.func94, by kernel_rfl, by kernel_rfl⟩
  · exact ⟨Tryz.func95, by kernel_rfl, by kernel_rfl⟩
  · exact ⟨Tryz.func46, by kernel_rfl, by kernel_rfl⟩
  · exact ⟨Tryz.func47, by kernel_rfl, by kernel_rfl⟩
  · exact ⟨Tryz.func48, by kernel_rfl, by kernel_rfl⟩)
noncomputable def remFin (f : Int) (n : Bool) (e : Int) (w : Nat) : Option AV := (qExact [aF f, aT n, aI e, aW w]).bind fun r => some (rRes (r.1, 0))
noncomputable def remTurn (f : Int) (n : Bool) (e : Int) (w : Nat) : Option AV := (qWideOf [aB w]).bind fun z => (qWideZero [aW z]).bind fun o => remFin f (!(n == !o)) e z
noncomputable def remKeep (f : Int) (n : Bool) (e : Int) (w : Nat) : Option AV := (qWideOf [aB w]).bind fun z => remFin f (!(n == false)) e z
noncomputable def remNear (f : Int) (n : Bool) (e : Int) (rest y : Nat) (odd : Bool) : Option AV :=
  (qSub [aB y, aB rest]).bind fun o => (qCmp [aB rest, aB o.1]).bind fun c => bif decide (0 < c) then remTurn f n e o.1 else bif decide (c = 0) then (bif odd then remTurn f n e o.1 else remKeep f n e rest) else remKeep f n e rest
noncomputable def remFar (f : Int) (n : Bool) (e k : Int) (rest y : Nat) (odd : Bool) : Option AV :=
  bif decide (0 < k) then (qMod [aB rest, aI k, aB y]).bind fun q => remNear f n e q.1 y q.2.1 else remNear f n e rest y odd
noncomputable def remMain (f : Int) (a : Nat) (x y : Bool × Int × Int × Nat) : Option AV :=
  bif decide (x.2.1 = 0) then (qCut [aF f, aB a]).bind fun r => some (rRes (r, 0)) else
  bif decide (y.2.1 = 3) then (qCut [aF f, aB a]).bind fun r => some (rRes (r, 0)) else
  bif decide (x.2.2.1 < IntKind.wrap .i64 (y.2.2.1 - 1)) then (qCut [aF f, aB a]).bind fun r => some (rRes (r, 0)) else
  bif decide (x.2.2.1 = IntKind.wrap .i64 (y.2.2.1 - 1)) then
    (qWideOf [aB x.2.2.2]).bind fun s => (qCmp [aB x.2.2.2, aB y.2.2.2]).bind fun c =>
    bif decide (0 < c) then (qWideOf [aB y.2.2.2]).bind fun u => (qWideOf [aB y.2.2.2]).bind fun v => (qWideAdd [aW u, aW v]).bind fun t => (qWideSub [aW t.1, aW s]).bind fun z => (qWideZero [aW z.1]).bind fun o =>
      remFin f (!(x.1 == !o)) (IntKind.wrap .i64 (mn x.2.2.1 y.2.2.1 + 128)) z.1
    else remFin f (!(x.1 == false)) (IntKind.wrap .i64 (mn x.2.2.1 y.2.2.1 + 128)) s
  else (qSub [aB x.2.2.2, aB y.2.2.2]).bind fun s =>
    bif !s.2 then remFar f x.1 (IntKind.wrap .i64 (mn x.2.2.1 y.2.2.1 + 128)) (IntKind.wrap .i64 (x.2.2.1 - y.2.2.1)) s.1 y.2.2.2 true
    else remFar f x.1 (IntKind.wrap .i64 (mn x.2.2.1 y.2.2.1 + 128)) (IntKind.wrap .i64 (x.2.2.1 - y.2.2.1)) x.2.2.2 y.2.2.2 false
noncomputable def remPick (f : Int) (a b : Nat) (x y : Bool × Int × Int × Nat) (bad : Bool) : Option AV :=
  (qPick [aF f, aT bad, aB2 a b]).bind fun p => bif p.2.2 then some (rRes (p.1, p.2.1)) else remMain f a x y
theorem rem_eq (f : Int) (a b : Nat) : funC (dat f1) 200 Tryz.f9 [aF f, aB a, aB b] some = (qKnown [aF f]).bind fun r => bif !r then resNo else
    (qUnpack [aF f, aB a]).bind fun x => (qUnpack [aF f, aB b]).bind fun y => (qNan [aF f, aB a]).bind fun na => bif na then remPick f a b x y false else
    (qNan [aF f, aB b]).bind fun nb => bif nb then remPick f a b x y false else bif decide (x.2.1 = 3) then remPick f a b x y true else remPick f a b x y (decide (y.2.1 = 0)) := by kernel_rfl
end Go.Ev
end

section
namespace Go.Ev
open Go.Proofs Go.RowKit
def exactF (f : Int) (n : Bool) (e : Int) (w : Nat) : Option (Nat × Int) := (exactK f n e w).bind fun r => some (r.1, 0)
def nearN (rest y : Nat) (odd : Bool) : Nat × Bool := bif decide (y - rest < rest) || (decide (rest = y - rest) && odd) then (y - rest, true) else (rest, false)
def remK (f : Int) (a b : Nat) : Option (Nat × Int) :=
  bif !decide (f < 4) then some (0, 0) else
  let x := unpackN f a
  let y := unpackN f b
  let p := pickN f (!nanN f a && (!nanN f b && (decide (x.2.1 = 3) || decide (y.2.1 = 0)))) a b
  bif p.2.2 then some (p.1, p.2.1) else
  bif decide (x.2.1 = 0) || (decide (y.2.1 = 3) || decide (x.2.2.1 < y.2.2.1 - 1)) then some (cutN f a, 0) else
  bif !(decide (2 ^ 127 ≤ x.2.2.2) && (decide (2 ^ 127 ≤ y.2.2.2) && decide (x.2.2.1 - y.2.2.1 ≤ 40000))) then none else
  bif decide (x.2.2.1 = y.2.2.1 - 1) then
    (bif decide (y.2.2.2 < x.2.2.2) then exactF f (!x.1) (min x.2.2.1 y.2.2.1 + 128) (2 * y.2.2.2 - x.2.2.2) else exactF f x.1 (min x.2.2.1 y.2.2.1 + 128) x.2.2.2)
  else
    let s := bif decide (y.2.2.2 ≤ x.2.2.2) then (x.2.2.2 - y.2.2.2, true) else (x.2.2.2, false)
    let q := bif decide (0 < x.2.2.1 - y.2.2.1) then modIt y.2.2.2 (x.2.2.1 - y.2.2.1).toNat (s.1, false) else s
    let t := nearN q.1 y.2.2.2 q.2
    exactF f (Bool.xor x.1 (t.2 && !decide (t.1 = 0))) (min x.2.2.1 y.2.2.1 + 128) t.1
noncomputable def gRem : Ctr := ctr3 9 dF dB dB remK rRes
noncomputable def qRem : List Arg → Option (Nat × Int) := gRem.K
theorem qRem_K {f : Int} {a b : Nat} (hf : okB f = true) (ha : a < 2 ^ 128) (hb : b < 2 ^ 128) : qRem [aF f, aB a, aB b] = remK f a b := ctr3_K (a := dF) (b := dB) (c := dB) hf ha hb
theorem unpackN_lt {f : Int} (hf : okB f = true) {a : Nat} (ha : a < 2 ^ 128) : (unpackN f a).2.2.2 < 2 ^ 128 ∧ -40000 ≤ (unpackN f a).2.2.1 ∧ (unpackN f a).2.2.1 ≤ 40000 := by
  have h := fmt_le hf
  have hs := splitN_exp hf a
  have hr := raiseN_lt (splitN_lt (f := f) ha)
  unfold unpackN
  by_cases h2 : (classN f a).1 = 2
  · have h0 := class_known hf (a := a) (by rw [h2]; decide)
    have h1 := (fmt_small hf).2.2.2 h0
    have hx := splitN_frac h0 a
    have hj := join_lt (k := (128 - fmtP f).toNat) hx (Nat.two_pow_pos _)
    have he : (fmtP f - 1).toNat + (128 - fmtP f).toNat = 127 := by omega
    rw [he] at hj
    have h128 : 2 ^ 127 + 2 ^ 127 = 2 ^ 128 := by decide
    have hp := Nat.two_pow_pos (128 - fmtP f).toNat
    rw [decide_eq_true h2]
    simp only [cond_true]
    generalize (splitN f a).2.2 * 2 ^ (128 - fmtP f).toNat = u at *
    exact ⟨by omega, by omega, by omega⟩
  · rw [decide_eq_false h2]
    simp only [cond_false]
    by_cases h1 : (classN f a).1 = 1
    · rw [decide_eq_true h1]
      simp only [cond_true]
      exact ⟨hr.1, by omega, by omega⟩
    · rw [decide_eq_false h1]
      simp only [cond_false]
      exact ⟨Nat.two_pow_pos 128, by omega, by omega⟩
theorem bxor_eq (n o : Bool) : (!(n == !o)) = Bool.xor n (!o) := by cases n <;> cases o <;> rfl
theorem bkeep_eq (n : Bool) : (!(n == false)) = n := by cases n <;> rfl
theorem remFin_eq {f : Int} (hf : okB f = true) {n : Bool} {e : Int} (he : okS e = true) {w : Nat} (hw : w < 2 ^ 256) {r : Nat × Int} (h : exactF f n e w = some r) : remFin f n e w = some (rRes r) := by
  obtain ⟨q, hq, h⟩ := bind_inv h
  cases h
  unfold remFin
  rw [qExact_K hf he hw, hq]
  rfl
theorem lt256 {w : Nat} (h : w < 2 ^ 128) : w < 2 ^ 256 := Nat.lt_trans h (Nat.pow_lt_pow_right (by decide) (by decide))
theorem remTurn_eq {f : Int} (hf : okB f = true) {n : Bool} {e : Int} (he : okS e = true) {w : Nat} (hw : w < 2 ^ 128) {r : Nat × Int} (h : exactF f (Bool.xor n (!decide (w = 0))) e w = some r) : remTurn f n e w = some (rRes r) := by
  unfold remTurn
  rw [qWideOf_K hw, Option.bind_some, qWideZero_K (lt256 hw), Option.bind_some, bxor_eq]
  exact remFin_eq hf he (lt256 hw) h
theorem remKeep_eq {f : Int} (hf : okB f = true) {n : Bool} {e : Int} (he : okS e = true) {w : Nat} (hw : w < 2 ^ 128) {r : Nat × Int} (h : exactF f n e w = some r) : remKeep f n e w = some (rRes r) := by
  unfold remKeep
  rw [qWideOf_K hw, Option.bind_some, bkeep_eq]
  exact remFin_eq hf he (lt256 hw) h
theorem remNear_eq {f : Int} (hf : okB f = true) {n : Bool} {e : Int} (he : okS e = true) {rest y : Nat} (hy : y < 2 ^ 128) (hr : rest < y) (odd : Bool) {r : Nat × Int}
    (h : exactF f (Bool.xor n ((nearN rest y odd).2 && !decide ((nearN rest y odd).1 = 0))) e (nearN rest y odd).1 = some r) : remNear f n e rest y odd = some (rRes r) := by
  have hlt : rest < 2 ^ 128 := Nat.lt_trans hr hy
  have e1 : (subN y rest).1 = y - rest := by unfold subN; rw [decide_eq_false (by omega : ¬ y < rest)]; rfl
  have ho : y - rest < 2 ^ 128 := by omega
  unfold remNear
  rw [qSub_K hy hlt, Option.bind_some, e1, qCmp_K hlt ho, Option.bind_some]
  unfold nearN at h
  unfold cmpN
  by_cases h1 : y - rest < rest
  · rw [decide_eq_false (by omega : ¬ rest < y - rest), decide_eq_true h1]
    rw [decide_eq_true h1] at h
    exact remTurn_eq hf he ho h
  · rw [decide_eq_false h1] at h
    rw [decide_eq_false h1]
    by_cases h2 : rest = y - rest
    · rw [decide_eq_true h2] at h
      rw [decide_eq_false (by omega : ¬ rest < y - rest)]
      cases odd with
      | true => exact remTurn_eq hf he ho h
      | false =>
        have h : exactF f (Bool.xor n false) e rest = some r := h
        rw [Bool.xor_false] at h
        exact remKeep_eq hf he hlt h
    · rw [decide_eq_false h2] at h
      rw [decide_eq_true (by omega : rest < y - rest)]
      have h : exactF f (Bool.xor n false) e rest = some r := h
      rw [Bool.xor_false] at h
      exact remKeep_eq hf he hlt h
theorem modIt_lt {d : Nat} : ∀ (n : Nat) (s : Nat × Bool), s.1 < d → (modIt d n s).1 < d
  | 0, _, h => h
  | n + 1, s, h => modIt_lt n (stepN s.1 0 d) (stepN_lt h)
theorem remFar_eq {f : Int} (hf : okB f = true) {n : Bool} {e k : Int} (he : okS e = true) (hk : k ≤ 40000) {rest y : Nat} (hy : y < 2 ^ 128) (hr : rest < y) (odd : Bool) {r : Nat × Int} {q : Nat × Bool}
    (hq : (bif decide (0 < k) then modIt y k.toNat (rest, false) else (rest, odd)) = q)
    (h : exactF f (Bool.xor n ((nearN q.1 y q.2).2 && !decide ((nearN q.1 y q.2).1 = 0))) e (nearN q.1 y q.2).1 = some r) : remFar f n e k rest y odd = some (rRes r) := by
  subst hq
  unfold remFar
  by_cases h0 : 0 < k
  · rw [decide_eq_true h0] at h ⊢
    rw [cond_true, qMod_K hy hr (by omega) hk, Option.bind_some]
    exact remNear_eq hf he hy (modIt_lt _ _ hr) _ h
  · rw [decide_eq_false h0] at h ⊢
    exact remNear_eq hf he hy hr _ h
theorem remMain_eq {f : Int} (hf : okB f = true) {a : Nat} (ha : a < 2 ^ 128) {x y : Bool × Int × Int × Nat} (hx : x.2.2.2 < 2 ^ 128 ∧ -40000 ≤ x.2.2.1 ∧ x.2.2.1 ≤ 40000) (hy : y.2.2.2 < 2 ^ 128 ∧ -40000 ≤ y.2.2.1 ∧ y.2.2.1 ≤ 40000) {r : Nat × Int}
    (h : (bif decide (x.2.1 = 0) || (decide (y.2.1 = 3) || decide (x.2.2.1 < y.2.2.1 - 1)) then some (cutN f a, 0) else
      bif !(decide (2 ^ 127 ≤ x.2.2.2) && (decide (2 ^ 127 ≤ y.2.2.2) && decide (x.2.2.1 - y.2.2.1 ≤ 40000))) then none else
      bif decide (x.2.2.1 = y.2.2.1 - 1) then
        (bif decide (y.2.2.2 < x.2.2.2) then exactF f (!x.1) (min x.2.2.1 y.2.2.1 + 128) (2 * y.2.2.2 - x.2.2.2) else exactF f x.1 (min x.2.2.1 y.2.2.1 + 128) x.2.2.2)
      else
        let s := bif decide (y.2.2.2 ≤ x.2.2.2) then (x.2.2.2 - y.2.2.2, true) else (x.2.2.2, false)
        let q := bif decide (0 < x.2.2.1 - y.2.2.1) then modIt y.2.2.2 (x.2.2.1 - y.2.2.1).toNat (s.1, false) else s
        let t := nearN q.1 y.2.2.2 q.2
        exactF f (Bool.xor x.1 (t.2 && !decide (t.1 = 0))) (min x.2.2.1 y.2.2.1 + 128) t.1) = some r) : remMain f a x y = some (rRes r) := by
  obtain ⟨xn, xc, xe, xs⟩ := x
  obtain ⟨yn, yc, ye, ys⟩ := y
  simp only at hx hy h
  unfold remMain
  simp only
  rw [i64w (ye - 1) (by omega) (by omega), i64w (xe - ye) (by omega) (by omega), mn_eq, i64w (min xe ye + 128) (by omega) (by omega)]
  have he : okS (min xe ye + 128) = true := okS_of (by omega) (by omega)
  rw [qCut_K hf ha, Option.bind_some]
  cases h1 : decide (xc = 0) with
  | true => rw [h1] at h; cases h; rfl
  | false =>
  rw [h1] at h
  cases h2 : decide (yc = 3) with
  | true => rw [h2] at h; cases h; rfl
  | false =>
  rw [h2] at h
  cases h3 : decide (xe < ye - 1) with
  | true => rw [h3] at h; cases h; rfl
  | false =>
  rw [h3] at h
  simp only [Bool.false_or, cond_false] at h ⊢
  cases hg : (decide (2 ^ 127 ≤ xs) && (decide (2 ^ 127 ≤ ys) && decide (xe - ye ≤ 40000))) with
  | false => rw [hg] at h; cases h
  | true =>
  rw [hg] at h
  simp only [Bool.and_eq_true, decide_eq_true_eq] at hg
  simp only [Bool.not_true, cond_false] at h
  have h128 : 2 ^ 127 + 2 ^ 127 = 2 ^ 128 := by decide
  have hbig : 2 ^ 128 + 2 ^ 128 ≤ 2 ^ 256 := by decide
  generalize hM : 2 ^ 127 = M at *
  generalize hB : 2 ^ 256 = B at *
  cases h4 : decide (xe = ye - 1) with
  | true =>
    rw [h4] at h
    simp only [cond_true] at h ⊢
    rw [qWideOf_K hx.1, Option.bind_some, qCmp_K hx.1 hy.1, Option.bind_some, qWideOf_K hy.1, Option.bind_some, Option.bind_some, qWideAdd_K (lt256 hy.1) (lt256 hy.1), Option.bind_some]
    have e1 : (wideAddN ys ys).1 = 2 * ys := by
      show (ys + ys) % 2 ^ 256 = 2 * ys
      rw [hB, Nat.mod_eq_of_lt (by omega), Nat.two_mul]
    rw [e1, qWideSub_K (by rw [hB]; omega) (lt256 hx.1), Option.bind_some]
    have e2 : (wideSubN (2 * ys) xs).1 = 2 * ys - xs := by
      unfold wideSubN
      rw [decide_eq_false (by omega : ¬ 2 * ys < xs)]
      rfl
    rw [e2, qWideZero_K (by rw [hB]; omega), Option.bind_some, decide_eq_false (by omega : ¬ 2 * ys - xs = 0), bxor_eq, bkeep_eq]
    unfold cmpN
    by_cases h5 : ys < xs
    · rw [decide_eq_true h5] at h ⊢
      rw [decide_eq_false (by omega : ¬ xs < ys)]
      have e3 : Bool.xor xn (!false) = !xn := by cases xn <;> rfl
      rw [e3]
      exact remFin_eq hf he (by rw [hB]; omega) h
    · rw [decide_eq_false h5] at h ⊢
      cases decide (xs < ys) <;> exact remFin_eq hf he (lt256 hx.1) h
  | false =>
    rw [h4] at h
    simp only [cond_false] at h ⊢
    rw [qSub_K hx.1 hy.1, Option.bind_some]
    unfold subN
    by_cases h5 : ys ≤ xs
    · rw [decide_eq_true h5] at h
      rw [decide_eq_false (by omega : ¬ xs < ys)]
      exact remFar_eq hf he hg.2.2 hy.1 (by show xs - ys < ys; omega) true rfl h
    · rw [decide_eq_false h5] at h
      rw [decide_eq_true (by omega : xs < ys)]
      exact remFar_eq hf he hg.2.2 hy.1 (by omega) false rfl h
theorem rem_ok (hA : CtrOk Tryz.prog (dat e3) gWideAdd) (hS : CtrOk Tryz.prog (dat e3) gWideSub) : CtrOk Tryz.prog (dat f1) gRem := by
  refine ctr3_ok (f1_ok hA hS) ⟨Tryz.func9, by kernel_rfl, by kernel_rfl⟩ 200 fun f a b r hf ha hb hr => ?_
  refine ⟨(rem_eq f a b).trans ?_, rfl⟩
  rw [qKnown_K hf, Option.bind_some, resNo_eq]
  unfold remK at hr
  cases hk : decide (f < 4) with
  | false => rw [hk] at hr; cases hr; rfl
  | true =>
  rw [hk] at hr
  simp only [Bool.not_true, cond_false] at hr ⊢
  rw [qUnpack_K hf ha, Option.bind_some, qUnpack_K hf hb, Option.bind_some, qNan_K hf ha, Option.bind_some, qNan_K hf hb, Option.bind_some]
  have hx := unpackN_lt hf ha
  have hy := unpackN_lt hf hb
  have key : ∀ bad : Bool, (bif (pickN f bad a b).2.2 then some ((pickN f bad a b).1, (pickN f bad a b).2.1) else
      bif decide ((unpackN f a).2.1 = 0) || (decide ((unpackN f b).2.1 = 3) || decide ((unpackN f a).2.2.1 < (unpackN f b).2.2.1 - 1)) then some (cutN f a, 0) else
      bif !(decide (2 ^ 127 ≤ (unpackN f a).2.2.2) && (decide (2 ^ 127 ≤ (unpackN f b).2.2.2) && decide ((unpackN f a).2.2.1 - (unpackN f b).2.2.1 ≤ 40000))) then none else
      bif decide ((unpackN f a).2.2.1 = (unpackN f b).2.2.1 - 1) then
        (bif decide ((unpackN f b).2.2.2 < (unpackN f a).2.2.2) then exactF f (!(unpackN f a).1) (min (unpackN f a).2.2.1 (unpackN f b).2.2.1 + 128) (2 * (unpackN f b).2.2.2 - (unpackN f a).2.2.2) else exactF f (unpackN f a).1 (min (unpackN f a).2.2.1 (unpackN f b).2.2.1 + 128) (unpackN f a).2.2.2)
      else
        let s := bif decide ((unpackN f b).2.2.2 ≤ (unpackN f a).2.2.2) then ((unpackN f a).2.2.2 - (unpackN f b).2.2.2, true) else ((unpackN f a).2.2.2, false)
        let q := bif decide (0 < (unpackN f a).2.2.1 - (unpackN f b).2.2.1) then modIt (unpackN f b).2.2.2 ((unpackN f a).2.2.1 - (unpackN f b).2.2.1).toNat (s.1, false) else s
        let t := nearN q.1 (unpackN f b).2.2.2 q.2
        exactF f (Bool.xor (unpackN f a).1 (t.2 && !decide (t.1 = 0))) (min (unpackN f a).2.2.1 (unpackN f b).2.2.1 + 128) t.1) = some r → remPick f a b (unpackN f a) (unpackN f b) bad = some (rRes r) := by
    intro bad h
    unfold remPick
    rw [qPick_K hf ha hb, Option.bind_some]
    cases hp : (pickN f bad a b).2.2 with
    | true => rw [hp] at h; cases h; rfl
    | false => rw [hp] at h; exact remMain_eq hf ha hx hy h
  cases hna : nanN f a with
  | true => rw [hna] at hr; exact key false hr
  | false =>
  rw [hna] at hr
  cases hnb : nanN f b with
  | true => rw [hnb] at hr; exact key false hr
  | false =>
  rw [hnb] at hr
  cases hc : decide ((unpackN f a).2.1 = 3) with
  | true => rw [hc] at hr; exact key true hr
  | false => rw [hc] at hr; exact key _ hr
end Go.Ev
end
