/- Part 24 of 46 of what the theorem stands on. -/
import Derived.Test.YtkbfmpomeejadaaGreatDoorRemav
import Derived.Laws.StructEq
import Derived.Laws.Externs

section
namespace Go.Ev
open Go.Proofs Go.RowKit
section
variable {P : Program} {d : Nat} {xs ys : Array Value} {f : Field} {fs : List Field} {a b : Value} {r s : Bool} {w : World}
theorem eqf_cons (hn : (f.name == "_") = false) (ha : (part f.type xs f.offset).run P w = .ok a w) (hb : (part f.type ys f.offset).run P w = .ok b w)
    (he : (Op.equalIn d f.type a b).run P w = .ok r w) (hr : (Op.eqFields d xs ys fs).run P w = .ok s w) : (Op.eqFields d xs ys (f :: fs)).run P w = .ok (r && s) w := by
  have hn' : f.name ≠ "_" := by simpa using hn
  rw [Op.eqFields]
  simp only [if_pos hn', Sem.run_bind, ha, hb, he, Result.andThen_ok]
  cases r
  · simp
  · simpa using hr
theorem eqf_nil : (Op.eqFields d xs ys []).run P w = .ok true w := by simp [Op.eqFields]
theorem eqs_of {t : TypeId} {fs : Array Field} (hu : P.underlying t = some (.struct fs)) (hp : P.stoodInHeld t = false)
    (h : (Op.eqFields d xs ys fs.toList).run P w = .ok r w) : (Op.equalIn (d + 1) t (.agg xs) (.agg ys)).run P w = .ok r w := by
  have hf : P.fieldsOf t = fs := by simp [Program.fieldsOf, hu]
  rw [run_equalIn_struct (P := P) w d t xs ys (by rw [hf]; exact hu) hp, hf]
  exact h
theorem eqInt {t : TypeId} {k : IntKind} (hu : P.underlying t = some (.int k)) (x y : Int) : (Op.equalIn (d + 1) t (.int k x) (.int k y)).run P w = .ok (decide (x = y)) w := by
  rw [run_equalIn_int w d t k k x y hu]
  rfl
theorem eq25_in (d : Nat) (a b a' b' : Int) (w : World) : (Op.equalIn (d + 2) 25 (.agg #[.int .u64 a, .int .u64 b]) (.agg #[.int .u64 a', .int .u64 b'])).run Tryz.prog w = .ok (decide (a = a') && (decide (b = b') && true)) w :=
  eqs_of (fs := #[{ name := "Hi", type := 23, offset := 0, embedded := false, tag := "", pkgPath := "", byteOffset := 0 }, { name := "Lo", type := 23, offset := 1, embedded := false, tag := "", pkgPath := "", byteOffset := 8 }])
    (by kernel_rfl) (by kernel_rfl)
    (eqf_cons (a := .int .u64 a) (b := .int .u64 a') (by rfl) (by kernel_rfl) (by kernel_rfl) (eqInt (by kernel_rfl) _ _)
      (eqf_cons (a := .int .u64 b) (b := .int .u64 b') (by rfl) (by kernel_rfl) (by kernel_rfl) (eqInt (by kernel_rfl) _ _) eqf_nil))
theorem eq28_in (d : Nat) (a b c a' b' c' : Int) (w : World) : (Op.equalIn (d + 3) 28 (.agg #[.int .u64 a, .int .u64 b, .int .u8 c]) (.agg #[.int .u64 a', .int .u64 b', .int .u8 c'])).run Tryz.prog w =
    .ok ((decide (a = a') && (decide (b = b') && true)) && (decide (c = c') && true)) w :=
  eqs_of (fs := #[{ name := "Bits", type := 25, offset := 0, embedded := false, tag := "", pkgPath := "", byteOffset := 0 }, { name := "Flags", type := 26, offset := 2, embedded := false, tag := "", pkgPath := "", byteOffset := 16 }])
    (by kernel_rfl) (by kernel_rfl)
    (eqf_cons (a := .agg #[.int .u64 a, .int .u64 b]) (b := .agg #[.int .u64 a', .int .u64 b']) (by rfl) (by kernel_rfl) (by kernel_rfl) (eq25_in d _ _ _ _ _)
      (eqf_cons (a := .int .u8 c) (b := .int .u8 c') (by rfl) (by kernel_rfl) (by kernel_rfl) (eqInt (by kernel_rfl) _ _) eqf_nil))
theorem eqi_cons {n : Nat} {e : TypeId} {i : Nat} {is : List Nat} (ha : (part e xs (i * n)).run P w = .ok a w) (hb : (part e ys (i * n)).run P w = .ok b w)
    (he : (Op.equalIn d e a b).run P w = .ok r w) (hr : (Op.eqItems d e n xs ys is).run P w = .ok s w) : (Op.eqItems d e n xs ys (i :: is)).run P w = .ok (r && s) w := by
  simp only [Op.eqItems, Sem.run_bind, ha, hb, he, Result.andThen_ok]
  cases r
  · simp
  · simpa using hr
theorem eqi_nil {n : Nat} {e : TypeId} : (Op.eqItems d e n xs ys []).run P w = .ok true w := by simp [Op.eqItems]
end
theorem tyc23 : Tryz.prog.cellsOf 23 = 1 := by kernel_rfl
theorem eq78_in (dd : Nat) (a b c d a' b' c' d' : Int) (w : World) : (Op.equalIn (dd + 2) 78 (.agg #[.int .u64 a, .int .u64 b, .int .u64 c, .int .u64 d]) (.agg #[.int .u64 a', .int .u64 b', .int .u64 c', .int .u64 d'])).run Tryz.prog w =
    .ok (decide (a = a') && (decide (b = b') && (decide (c = c') && (decide (d = d') && true)))) w := by
  have hu : Tryz.prog.underlying 78 = some (.array 4 23) := by kernel_rfl
  have u23 : Tryz.prog.underlying 23 = some (.int .u64) := by kernel_rfl
  obtain ⟨i, hi⟩ := info_of_underlying u23
  rw [run_equalIn_array w (dd + 1) _ _ hu hi, tyc23]
  exact eqi_cons (a := .int .u64 a) (b := .int .u64 a') (by kernel_rfl) (by kernel_rfl) (eqInt u23 _ _)
    (eqi_cons (a := .int .u64 b) (b := .int .u64 b') (by kernel_rfl) (by kernel_rfl) (eqInt u23 _ _)
      (eqi_cons (a := .int .u64 c) (b := .int .u64 c') (by kernel_rfl) (by kernel_rfl) (eqInt u23 _ _)
        (eqi_cons (a := .int .u64 d) (b := .int .u64 d') (by kernel_rfl) (by kernel_rfl) (eqInt u23 _ _) eqi_nil)))
theorem EqOk.mk' {P : Program} {t : Nat} {ks : List (Option IntKind)} (hg : P.eqGuardType P.depth t = false)
    (h : ∀ (E : Env) (l r : List Lf) (vs us : List Value) (c : Bool) (w : World), eqL ks l r = some c → All2 (LfRel E) l vs → All2 (LfRel E) r us → (Op.equal t (.agg vs.toArray) (.agg us.toArray)).run P w = .ok c w) : EqOk P t ks :=
  fun E l r vs us c w he hl hr => ⟨fun op x y => run_eqGuard_agg w op t x y _ _ hg, h E l r vs us c w he hl hr⟩
theorem eqL_int {q : IntKind} {ks : List (Option IntKind)} {l r : List Lf} {c : Bool} (h : eqL (some q :: ks) l r = some c) :
    ∃ x y l' r' c', l = .int q x :: l' ∧ r = .int q y :: r' ∧ eqL ks l' r' = some c' ∧ c = (decide (x = y) && c') := by
  match l, r, h with
  | .int k x :: l', .int k' y :: r', h =>
    simp only [eqL] at h
    obtain ⟨h1, h2⟩ := bif_inv h
    simp only [Bool.and_eq_true, decide_eq_true_eq] at h1
    obtain ⟨rfl, rfl⟩ := h1
    split at h2
    · rename_i c' hc
      cases h2
      exact ⟨x, y, l', r', c', rfl, rfl, hc, rfl⟩
    · cases h2
theorem eqL_nil {l r : List Lf} {c : Bool} (h : eqL [] l r = some c) : l = [] ∧ r = [] ∧ c = true := by
  match l, r, h with
  | [], [], h =>
    simp only [eqL] at h
    cases h
    exact ⟨rfl, rfl, rfl⟩
theorem all2_int {E : Env} {q : IntKind} {x : Int} {l : List Lf} {vs : List Value} (h : All2 (LfRel E) (.int q x :: l) vs) : ∃ vs', vs = .int q x :: vs' ∧ All2 (LfRel E) l vs' := by
  cases h with
  | cons h t => exact ⟨_, by rw [show _ = Value.int q x from h], t⟩
theorem all2_nil {E : Env} {vs : List Value} (h : All2 (LfRel E) [] vs) : vs = [] := by cases h; rfl
theorem eq25_ok : EqOk Tryz.prog 25 [some .u64, some .u64] := by
  refine EqOk.mk' (by kernel_rfl) fun E l r vs us c w h hl hr => ?_
  obtain ⟨a, a', l0, r0, c1, rfl, rfl, h1, rfl⟩ := eqL_int h
  obtain ⟨b, b', l1, r1, c2, rfl, rfl, h2, rfl⟩ := eqL_int h1
  obtain ⟨rfl, rfl, rfl⟩ := eqL_nil h2
  obtain ⟨vs1, rfl, hl1⟩ := all2_int hl
  obtain ⟨vs2, rfl, hl2⟩ := all2_int hl1
  obtain rfl := all2_nil hl2
  obtain ⟨us1, rfl, hr1⟩ := all2_int hr
  obtain ⟨us2, rfl, hr2⟩ := all2_int hr1
  obtain rfl := all2_nil hr2
  exact eq25_in 9998 a b a' b' w
theorem eq28_ok : EqOk Tryz.prog 28 [some .u64, some .u64, some .u8] := by
  refine EqOk.mk' (by kernel_rfl) fun E l r vs us c w h hl hr => ?_
  obtain ⟨a, a', l0, r0, c1, rfl, rfl, h1, rfl⟩ := eqL_int h
  obtain ⟨b, b', l1, r1, c2, rfl, rfl, h2, rfl⟩ := eqL_int h1
  obtain ⟨e, e', l2, r2, c3, rfl, rfl, h3, rfl⟩ := eqL_int h2
  obtain ⟨rfl, rfl, rfl⟩ := eqL_nil h3
  obtain ⟨vs1, rfl, hl1⟩ := all2_int hl
  obtain ⟨vs2, rfl, hl2⟩ := all2_int hl1
  obtain ⟨vs3, rfl, hl3⟩ := all2_int hl2
  obtain rfl := all2_nil hl3
  obtain ⟨us1, rfl, hr1⟩ := all2_int hr
  obtain ⟨us2, rfl, hr2⟩ := all2_int hr1
  obtain ⟨us3, rfl, hr3⟩ := all2_int hr2
  obtain rfl := all2_nil hr3
  have := eq28_in 9997 a b e a' b' e' w
  rw [Bool.and_true, Bool.and_assoc] at this
  exact this
theorem eq78_ok : EqOk Tryz.prog 78 [some .u64, some .u64, some .u64, some .u64] := by
  refine EqOk.mk' (by kernel_rfl) fun E l r vs us c w h hl hr => ?_
  obtain ⟨a, a', l0, r0, c1, rfl, rfl, h1, rfl⟩ := eqL_int h
  obtain ⟨b, b', l1, r1, c2, rfl, rfl, h2, rfl⟩ := eqL_int h1
  obtain ⟨e, e', l2, r2, c3, rfl, rfl, h3, rfl⟩ := eqL_int h2
  obtain ⟨f, f', l3, r3, c4, rfl, rfl, h4, rfl⟩ := eqL_int h3
  obtain ⟨rfl, rfl, rfl⟩ := eqL_nil h4
  obtain ⟨vs1, rfl, hl1⟩ := all2_int hl
  obtain ⟨vs2, rfl, hl2⟩ := all2_int hl1
  obtain ⟨vs3, rfl, hl3⟩ := all2_int hl2
  obtain ⟨vs4, rfl, hl4⟩ := all2_int hl3
  obtain rfl := all2_nil hl4
  obtain ⟨us1, rfl, hr1⟩ := all2_int hr
  obtain ⟨us2, rfl, hr2⟩ := all2_int hr1
  obtain ⟨us3, rfl, hr3⟩ := all2_int hr2
  obtain ⟨us4, rfl, hr4⟩ := all2_int hr3
  obtain rfl := all2_nil hr4
  exact eq78_in 9998 a b e f a' b' e' f' w
end Go.Ev
end

section
namespace Go.Ev
open Go.Proofs
noncomputable def qKnown : List Arg → Option Bool := gKnown.K
noncomputable def qLeft : List Arg → Option Nat := gLeft.K
noncomputable def qRight : List Arg → Option Nat := gRight.K
noncomputable def qWideLeft : List Arg → Option Nat := gWideLeft.K
noncomputable def qWideRight : List Arg → Option Nat := gWideRight.K
noncomputable def qOf : List Arg → Option (Int × Int × Int) := gOf.K
noncomputable def qWidth : List Arg → Option Int := gWidth.K
noncomputable def qPrec : List Arg → Option Int := gPrec.K
noncomputable def qEmax : List Arg → Option Int := gEmax.K
noncomputable def qLow : List Arg → Option Nat := gLow.K
theorem qLeft_K {a : Nat} (h : a < 2 ^ 128) (n : Int) : qLeft [aB a, aI n] = some (leftN a n) := left_K h n
theorem qRight_K {a : Nat} (h : a < 2 ^ 128) (n : Int) : qRight [aB a, aI n] = some (rightN a n) := right_K h n
theorem qWideLeft_K {a : Nat} (h : a < 2 ^ 256) (n : Int) : qWideLeft [aW a, aI n] = some (wideLeftN a n) := wideLeft_K h n
theorem qWideRight_K {a : Nat} (h : a < 2 ^ 256) (n : Int) : qWideRight [aW a, aI n] = some (wideRightN a n) := wideRight_K h n
theorem qKnown_K {f : Int} (h : okB f = true) : qKnown [aF f] = some (decide (f < 4)) := known_K h
theorem qOf_K {f : Int} (h : okB f = true) : qOf [aF f] = some (fmtW f, fmtP f, fmtX f) := of_K h
theorem qWidth_K {f : Int} (h : okB f = true) : qWidth [aF f] = some (fmtW f) := width_K h
theorem qPrec_K {f : Int} (h : okB f = true) : qPrec [aF f] = some (fmtP f) := prec_K h
theorem qEmax_K {f : Int} (h : okB f = true) : qEmax [aF f] = some (fmtX f) := emax_K h
theorem qLow_K {a : Nat} (h : a < 2 ^ 128) {n : Int} (hn : okS n = true) : qLow [aB a, aI n] = some (lowN a n) := low_K h hn
theorem hiW_eq (n : Nat) : hiW n = ((n / 18446744073709551616 % 18446744073709551616 : Nat) : Int) := sealed_eq _
theorem loW_eq (n : Nat) : loW n = ((n % 18446744073709551616 : Nat) : Int) := sealed_eq _
theorem wAt_eq (n i : Nat) : wAt n i = ((wordAt n i : Nat) : Int) := sealed_eq _
theorem bb_of {h l : Int} {n : Nat} (h1 : h = hiW n) (h2 : l = loW n) : FV.agg [.int .u64 h, .int .u64 l] = bb n := by rw [h1, h2]; rfl
theorem okB_of {x : Int} (h0 : 0 ≤ x) (h1 : x < 256) : okB x = true := by unfold okB; simp; omega
theorem okS_of {n : Int} (h0 : -1099511627776 ≤ n) (h1 : n ≤ 1099511627776) : okS n = true := by unfold okS; simp; omega
theorem okU_of {n : Int} (h0 : 0 ≤ n) (h1 : n < 18446744073709551616) : okU n = true := by unfold okU; simp; omega
theorem okU_hi (n : Nat) : okU (hiW n) = true := by rw [hiW_eq]; exact okU_of (by omega) (by omega)
theorem okU_lo (n : Nat) : okU (loW n) = true := by rw [loW_eq]; exact okU_of (by omega) (by omega)
/-- The formats, one by one. -/
theorem fmt_all {f : Int} (h : okB f = true) : (fmtW f = 16 ∧ fmtP f = 11 ∧ fmtX f = 15 ∧ f = 0) ∨ (fmtW f = 32 ∧ fmtP f = 24 ∧ fmtX f = 127 ∧ f = 1) ∨ (fmtW f = 64 ∧ fmtP f = 53 ∧ fmtX f = 1023 ∧ f = 2) ∨
    (fmtW f = 128 ∧ fmtP f = 113 ∧ fmtX f = 16383 ∧ f = 3) ∨ (fmtW f = 0 ∧ fmtP f = 0 ∧ fmtX f = 0 ∧ 4 ≤ f) := by
  rcases fmt_cases h with rfl | rfl | rfl | rfl | ⟨h2, h3⟩
  · exact .inl ⟨rfl, rfl, rfl, rfl⟩
  · exact .inr (.inl ⟨rfl, rfl, rfl, rfl⟩)
  · exact .inr (.inr (.inl ⟨rfl, rfl, rfl, rfl⟩))
  · exact .inr (.inr (.inr (.inl ⟨rfl, rfl, rfl, rfl⟩)))
  · have e2 : ∀ k : Int, k < 4 → decide (f = k) = false := fun k hk => decide_eq_false (by omega)
    refine .inr (.inr (.inr (.inr ⟨?_, ?_, ?_, h2⟩)))
    · simp only [fmtW, e2 0 (by decide), e2 1 (by decide), e2 2 (by decide), e2 3 (by decide), cond_false]
    · simp only [fmtP, e2 0 (by decide), e2 1 (by decide), e2 2 (by decide), e2 3 (by decide), cond_false]
    · simp only [fmtX, e2 0 (by decide), e2 1 (by decide), e2 2 (by decide), e2 3 (by decide), cond_false]
theorem fmt_le {f : Int} (h : okB f = true) : 0 ≤ fmtW f ∧ fmtW f ≤ 128 ∧ 0 ≤ fmtP f ∧ fmtP f ≤ 113 ∧ 0 ≤ fmtX f ∧ fmtX f ≤ 16383 ∧ fmtP f ≤ fmtW f := by
  rcases fmt_all h with h | h | h | h | h <;> omega
noncomputable def c4 : Base := c3.with gLow
theorem c4_ok : BaseOk c4 := c3_ok.with low_ok
def cutN (f : Int) (a : Nat) : Nat := lowN a (fmtW f)
noncomputable def gCut : Ctr := ctr2 41 dF dB (fun f a => some (cutN f a)) rB
noncomputable def qCut : List Arg → Option Nat := gCut.K
theorem qCut_K {f : Int} {a : Nat} (hf : okB f = true) (ha : a < 2 ^ 128) : qCut [aF f, aB a] = some (cutN f a) := ctr2_K (a := dF) (b := dB) hf ha
theorem cut_eq (f : Int) (b : Nat) : funC (dat c4) 100 Tryz.f41 [aF f, aB b] some = (qWidth [aF f]).bind fun r => (qLow [aB b, aI r]).bind fun r => some (rB r) := by kernel_rfl
theorem cut_ok : CtrOk Tryz.prog (dat c4) gCut := by
  refine ctr2_ok c4_ok ⟨Tryz.func41, by kernel_rfl, by kernel_rfl⟩ 100 fun f a r hf ha hr => ?_
  cases hr
  refine ⟨?_, rfl⟩
  have h := fmt_le hf
  refine (cut_eq f a).trans ?_
  rw [qWidth_K hf, Option.bind_some, qLow_K ha (okS_of (by omega) (by omega)), Option.bind_some]
  rfl
theorem lowN_le (a : Nat) (n : Int) : lowN a n ≤ a := Nat.mod_le _ _
theorem lowN_lt (a : Nat) (n : Int) : lowN a n < 2 ^ n.toNat := Nat.mod_lt _ (Nat.two_pow_pos _)
theorem cutN_lt {f : Int} {a : Nat} (ha : a < 2 ^ 128) : cutN f a < 2 ^ 128 := Nat.lt_of_le_of_lt (lowN_le _ _) ha
def bitN (a : Nat) (i : Int) : Bool := decide (0 ≤ i) && a.testBit i.toNat
noncomputable def gBit : Ctr := ctr2 160 dB dI (fun a i => some (bitN a i)) rT
noncomputable def qBit : List Arg → Option Bool := gBit.K
theorem qBit_K {a : Nat} {i : Int} (ha : a < 2 ^ 128) (hi : okS i = true) : qBit [aB a, aI i] = some (bitN a i) := ctr2_K (a := dB) (b := dI) ha hi
theorem bit_eq (b : Nat) (i : Int) : funC (dat c3) 100 Tryz.f160 [aB b, aI i] some =
    bif decide (i < 0) then some (rT false) else bif decide (127 < i) then some (rT false) else
    bif decide (63 < i) then bif decide (0 ≤ IntKind.wrap .i64 (i - 64)) then some (rT (decide (IntKind.wrap .u64 (BitVec.toNat (BitVec.ofInt 64 (shr .u64 (hiW b) (IntKind.wrap .i64 (i - 64))) &&& BitVec.ofInt 64 1)) = 1))) else none
    else bif decide (0 ≤ i) then some (rT (decide (IntKind.wrap .u64 (BitVec.toNat (BitVec.ofInt 64 (shr .u64 (loW b) i) &&& BitVec.ofInt 64 1)) = 1))) else none := by kernel_rfl
theorem word_bit {w : Nat} (hw : w < 2 ^ 64) {s : Int} (h0 : 0 ≤ s) (h1 : s < 64) :
    decide (IntKind.wrap .u64 (BitVec.toNat (BitVec.ofInt 64 (shr .u64 (w : Int) s) &&& BitVec.ofInt 64 1)) = 1) = w.testBit s.toNat := by
  obtain ⟨k, rfl⟩ : ∃ k : Nat, s = k := ⟨s.toNat, by omega⟩
  rw [shr_nat w k (by omega), BitVec.toNat_and]
  have e1 : (BitVec.ofInt 64 1).toNat = 2 ^ 1 - 1 := by decide
  rw [e1, Nat.and_two_pow_sub_one_eq_mod, BitVec.toNat_ofInt, Int.toNat_natCast, Nat.testBit_eq_decide_div_mod_eq]
  have h2 : w / 2 ^ k ≤ w := Nat.div_le_self _ _
  refine decide_eq_decide.2 ?_
  rw [u64s _ (by omega) (by omega)]
  omega
theorem hiW_word (a : Nat) : hiW a = ((wordAt a 1 : Nat) : Int) := by rw [hiW_eq, wordAt_succ _ 0, wordAt0]
theorem loW_word (a : Nat) : loW a = ((wordAt a 0 : Nat) : Int) := by rw [loW_eq, wordAt0]
theorem bit_ok : CtrOk Tryz.prog (dat c3) gBit := by
  refine ctr2_ok c3_ok ⟨Tryz.func160, by kernel_rfl, by kernel_rfl⟩ 100 fun a i r ha hi hr => ?_
  cases hr
  refine ⟨?_, rfl⟩
  have h := okS_spec hi
  have ha : a < 2 ^ 128 := ha
  refine (bit_eq a i).trans ?_
  unfold bitN
  by_cases h0 : i < 0
  · rw [decide_eq_true h0, decide_eq_false (by omega : ¬ 0 ≤ i)]
    rfl
  · rw [decide_eq_false h0, decide_eq_true (by omega : 0 ≤ i)]
    simp only [cond_false, Bool.true_and, cond_true]
    by_cases h1 : 127 < i
    · rw [decide_eq_true h1]
      have : a.testBit i.toNat = false := Nat.testBit_lt_two_pow (Nat.lt_of_lt_of_le ha (Nat.pow_le_pow_right (by decide) (by omega)))
      rw [this]
      rfl
    · rw [decide_eq_false h1]
      simp only [cond_false]
      by_cases h2 : 63 < i
      · rw [decide_eq_true h2, i64w _ (by omega) (by omega), decide_eq_true (by omega : 0 ≤ i - 64), hiW_word, word_bit (wordAt_lt _ _) (by omega) (by omega), wordAt_bit]
        have e : 64 * 1 + (i - 64).toNat = i.toNat := by omega
        have e2 : decide ((i - 64).toNat < 64) = true := decide_eq_true (by omega)
        rw [e, e2]
        rfl
      · rw [decide_eq_false h2, loW_word, word_bit (wordAt_lt _ _) (by omega) (by omega), wordAt_bit]
        have e : 64 * 0 + i.toNat = i.toNat := by omega
        have e2 : decide (i.toNat < 64) = true := decide_eq_true (by omega)
        rw [e, e2]
        rfl
noncomputable def gZero : Ctr := ctr1 158 dB (fun a => some (decide (a = 0))) rT
noncomputable def qZero : List Arg → Option Bool := gZero.K
theorem qZero_K {a : Nat} (ha : a < 2 ^ 128) : qZero [aB a] = some (decide (a = 0)) := ctr1_K (a := dB) ha
noncomputable def e4 : Base := { c4 with eqs := [(25, [some .u64, some .u64]), (28, [some .u64, some .u64, some .u8]), (78, [some .u64, some .u64, some .u64, some .u64])] }
theorem e4_ok : BaseOk e4 where
  funs := c4_ok.funs
  eqs := by
    intro x hx
    simp only [e4, List.mem_cons, List.not_mem_nil, or_false] at hx
    rcases hx with rfl | rfl | rfl
    · exact eq25_ok
    · exact eq28_ok
    · exact eq78_ok
  ctrs := c4_ok.ctrs
theorem zero_eq (b : Nat) : funC (dat e4) 100 Tryz.f158 [aB b] some = some (rT (decide (hiW b = 0) && (decide (loW b = 0) && true))) := by kernel_rfl
theorem zero_ok : CtrOk Tryz.prog (dat e4) gZero := by
  refine ctr1_ok e4_ok ⟨Tryz.func158, by kernel_rfl, by kernel_rfl⟩ 100 fun a r ha hr => ?_
  cases hr
  refine ⟨?_, rfl⟩
  have ha : a < 340282366920938463463374607431768211456 := ha
  refine (zero_eq a).trans ?_
  rw [hiW_eq, loW_eq, Bool.and_true, ← Bool.decide_and]
  have : decide (((a / 18446744073709551616 % 18446744073709551616 : Nat) : Int) = 0 ∧ ((a % 18446744073709551616 : Nat) : Int) = 0) = decide (a = 0) := decide_eq_decide.2 (by omega)
  rw [this]
end Go.Ev
end
