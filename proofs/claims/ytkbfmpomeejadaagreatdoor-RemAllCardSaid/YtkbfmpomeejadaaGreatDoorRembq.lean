/- Part 43 of 46 of what the theorem stands on. -/
import Derived.Test.YtkbfmpomeejadaaGreatDoorRembe
import Derived.Test.YtkbfmpomeejadaaGreatDoorRembp

section
namespace Go.Ev
/-- A format's digits, as a natural number; the least exponent. -/
def pN (f : Int) : Nat := (fmtP f).toNat
def eMin (f : Int) : Int := 1 - fmtX f - (fmtP f - 1)
def signN (f : Int) (neg : Bool) : Nat := bif neg then 2 ^ (fmtW f - 1).toNat else 0
/-- A value, written in the format. -/
def encV (f : Int) (neg : Bool) (V : Nat) : Nat := (lenN V - pN f) * 2 ^ (fmtP f - 1).toNat + V / 2 ^ (lenN V - pN f) + signN f neg
/-- A finite number's size. -/
def sizeV (f : Int) (a : Nat) : Nat := (valN f a).2.1 * 2 ^ ((valN f a).2.2 - eMin f).toNat
structure Known (f : Int) : Prop where
  ok : okB f = true
  lt : f < 4
  ne : fmtW f ≠ 0
theorem known_of {f : Int} (hf : okB f = true) (h : f < 4) : Known f := ⟨hf, h, fun h0 => by have := (fmt_small hf).2.2.1.1 h0; omega⟩
theorem make_small {f : Int} (k : Known f) {neg : Bool} {e : Int} {m : Nat} (h0 : 0 ≤ e) (h1 : e ≤ 2 * fmtX f + 1) :
    makeN f neg e m = e.toNat * 2 ^ (fmtP f - 1).toNat + m % 2 ^ (fmtP f - 1).toNat + signN f neg := by
  have h := fmt_le k.ok
  have hx := fmt_exp k.ok k.ne
  unfold makeN expN signN
  rw [decide_eq_false k.ne, cond_false, decide_eq_false (by omega : ¬ e < 0), decide_eq_false (by omega : ¬ 1048576 < e), Bool.or_false, cond_false, Nat.mod_eq_of_lt (by omega)]
theorem p_succ {f : Int} (k : Known f) : pN f = (fmtP f - 1).toNat + 1 := by
  have h1 := (fmt_small k.ok).2.2.2 k.ne
  unfold pN
  omega
/-- A number of a format is made of its fields. -/
theorem cut_fields {f : Int} (k : Known f) (a : Nat) : cutN f a = (splitN f a).2.1.toNat * 2 ^ (fmtP f - 1).toNat + (splitN f a).2.2 + signN f (splitN f a).1 := by
  have h := fmt_le k.ok
  have h1 := (fmt_small k.ok).2.2.2 k.ne
  unfold splitN signN
  rw [decide_eq_false k.ne]
  simp only [cond_false]
  have e1 : lowN a (fmtP f - 1) = cutN f a % 2 ^ (fmtP f - 1).toNat := by
    unfold cutN lowN
    rw [Nat.mod_mod_of_dvd]
    exact Nat.pow_dvd_pow 2 (by omega)
  have e2 : bitN a (fmtW f - 1) = (cutN f a).testBit (fmtW f - 1).toNat := by
    unfold bitN cutN lowN
    rw [Nat.testBit_mod_two_pow, decide_eq_true (by omega : (fmtW f - 1).toNat < (fmtW f).toNat), decide_eq_true (by omega : 0 ≤ fmtW f - 1)]
  have hlt : cutN f a < 2 ^ ((fmtW f - 1).toNat + 1) := by
    have := lowN_lt a (fmtW f)
    have e : (fmtW f).toNat = (fmtW f - 1).toNat + 1 := by omega
    rw [← e]
    exact this
  rw [e1, e2, Int.toNat_natCast, top_bit hlt]
  unfold lowN rightN
  have e3 : min (fmtP f - 1).toNat 128 = (fmtP f - 1).toNat := by omega
  rw [e3]
  generalize cutN f a = c at *
  have hk : (fmtW f - 1).toNat = (fmtP f - 1).toNat + (fmtW f - fmtP f).toNat := by omega
  rw [hk] at hlt ⊢
  generalize (fmtP f - 1).toNat = p at *
  generalize (fmtW f - fmtP f).toNat = w at *
  -- c = (c / 2^p) * 2^p + c % 2^p; c / 2^p = (c / 2^(p+w)) * 2^w + c / 2^p % 2^w
  have d1 := Nat.div_add_mod c (2 ^ p)
  have d2 := Nat.div_add_mod (c / 2 ^ p) (2 ^ w)
  rw [Nat.div_div_eq_div_mul, ← Nat.pow_add] at d2
  have hq : c / 2 ^ (p + w) < 2 := by
    rw [Nat.div_lt_iff_lt_mul (Nat.two_pow_pos _), Nat.mul_comm, ← Nat.pow_succ]
    exact hlt
  have d3 : c = 2 ^ w * (c / 2 ^ (p + w)) * 2 ^ p + c / 2 ^ p % 2 ^ w * 2 ^ p + c % 2 ^ p := by
    rw [← Nat.add_mul, d2, Nat.mul_comm]
    exact d1.symm
  have hpw : 2 ^ (p + w) = 2 ^ w * 2 ^ p := by rw [Nat.pow_add, Nat.mul_comm]
  by_cases hb : 2 ^ (p + w) ≤ c
  · rw [decide_eq_true hb]
    have h1 : c / 2 ^ (p + w) = 1 := by
      have := Nat.div_pos hb (Nat.two_pow_pos _)
      generalize c / 2 ^ (p + w) = q at *
      omega
    rw [h1, Nat.mul_one, ← hpw] at d3
    simp only [cond_true]
    omega
  · rw [decide_eq_false hb]
    have h1 : c / 2 ^ (p + w) = 0 := Nat.div_eq_of_lt (by omega)
    rw [h1, Nat.mul_zero, Nat.zero_mul, Nat.zero_add] at d3
    simp only [cond_false]
    omega
/-- A finite number is its value, written. -/
theorem cut_enc {f : Int} (k : Known f) {a : Nat} (hfin : (splitN f a).2.1 ≤ 2 * fmtX f) : cutN f a = encV f (splitN f a).1 (sizeV f a) := by
  have h := fmt_le k.ok
  have h1 := (fmt_small k.ok).2.2.2 k.ne
  have hfr := splitN_frac k.ne a
  have hex := splitN_exp k.ok a
  have hp := p_succ k
  rw [cut_fields k]
  unfold encV sizeV valN
  by_cases he : (splitN f a).2.1 = 0
  · rw [decide_eq_true he]
    simp only [cond_true]
    have e0 : (1 - fmtX f - (fmtP f - 1) - eMin f).toNat = 0 := by unfold eMin; omega
    have hl := lenN_le hfr
    rw [e0, Nat.pow_zero, Nat.mul_one, he, (by omega : lenN (splitN f a).2.2 - pN f = 0), Nat.pow_zero, Nat.div_one]
    rfl
  · rw [decide_eq_false he]
    simp only [cond_false]
    have e0 : ((splitN f a).2.1 - fmtX f - (fmtP f - 1) - eMin f).toNat = (splitN f a).2.1.toNat - 1 := by unfold eMin; omega
    have hl : lenN ((splitN f a).2.2 + 2 ^ (fmtP f - 1).toNat) = pN f := by
      rw [hp]
      refine lenN_eq (by omega) ?_
      rw [Nat.pow_succ]
      omega
    have hne : (splitN f a).2.2 + 2 ^ (fmtP f - 1).toNat ≠ 0 := by have := Nat.two_pow_pos (fmtP f - 1).toNat; omega
    rw [e0, lenN_shift hne, hl]
    have e1 : pN f + ((splitN f a).2.1.toNat - 1) - pN f = (splitN f a).2.1.toNat - 1 := by omega
    rw [e1, Nat.mul_div_cancel _ (Nat.two_pow_pos _)]
    obtain ⟨t, ht⟩ : ∃ t, (splitN f a).2.1.toNat = t + 1 := ⟨(splitN f a).2.1.toNat - 1, by omega⟩
    rw [ht, Nat.add_sub_cancel, Nat.add_mul, Nat.one_mul]
    omega
/-- What the reference rounds, where it is exact. -/
theorem roundR_enc {f : Int} (k : Known f) {neg : Bool} {q : Nat} {e : Int} (h1 : lenN q ≤ pN f) (h2 : eMin f ≤ e) (h3 : (lenN q : Int) - 1 + e ≤ fmtX f) :
    roundR f neg q e = some (encV f neg (q * 2 ^ (e - eMin f).toNat), 0) := by
  have h := fmt_le k.ok
  have h' := (fmt_small k.ok).2.2.2 k.ne
  have hp := p_succ k
  have hpf : (pN f : Int) = fmtP f := by unfold pN; omega
  unfold roundR
  rw [decide_eq_true k.lt]
  simp only [Bool.not_true, cond_false]
  by_cases hq : q = 0
  · subst hq
    rw [decide_eq_true rfl, cond_true, make_small k (by omega) (by omega), Nat.zero_mod, Nat.zero_mul]
    unfold encV
    rw [lenN_zero, Nat.zero_sub, Nat.zero_mul, Nat.zero_div, Int.toNat_zero, Nat.zero_mul]
  · have h2' : 1 - fmtX f - (fmtP f - 1) ≤ e := h2
    rw [decide_eq_false hq, decide_eq_true (by omega : (lenN q : Int) ≤ fmtP f), decide_eq_true h2', decide_eq_true h3]
    simp only [Bool.and_self, cond_true, cond_false]
    have hl := (lenN_pos hq).2.2
    congr 2
    unfold encR encV
    simp only
    have hm : eMin f = 1 - fmtX f - (fmtP f - 1) := rfl
    by_cases hc : (lenN q : Int) + (e - eMin f) < fmtP f
    · -- small: no exponent
      have eu : (e - (max ((lenN q : Int) - 1 + e) (1 - fmtX f) - (fmtP f - 1))).toNat = (e - eMin f).toNat := by omega
      rw [eu, lenN_shift hq, decide_eq_true (by omega : ((lenN q + (e - eMin f).toNat : Nat) : Int) < fmtP f), cond_true, make_small k (by omega) (by omega), (by omega : lenN q + (e - eMin f).toNat - pN f = 0)]
      have hlt : q * 2 ^ (e - eMin f).toNat < 2 ^ (fmtP f - 1).toNat := by
        refine Nat.lt_of_lt_of_le (lenN_lt _) (Nat.pow_le_pow_right (by decide) ?_)
        rw [lenN_shift hq]
        omega
      rw [Nat.mod_eq_of_lt hlt, Nat.pow_zero, Nat.div_one]
      rfl
    · have eu : (e - (max ((lenN q : Int) - 1 + e) (1 - fmtX f) - (fmtP f - 1))).toNat = pN f - lenN q := by omega
      have hle : lenN (q * 2 ^ (pN f - lenN q)) = pN f := by rw [lenN_shift hq]; omega
      rw [eu, hle, decide_eq_false (by omega : ¬ (pN f : Int) < fmtP f), cond_false, (by omega : ((pN f : Int) - fmtP f).toNat = 0), Nat.pow_zero, Nat.div_one, lenN_shift hq, make_small k (by omega) (by omega)]
      have hnne : q * 2 ^ (pN f - lenN q) ≠ 0 := Nat.mul_ne_zero hq (by have := Nat.two_pow_pos (pN f - lenN q); omega)
      have hb := lenN_pos hnne
      rw [hle, hp, Nat.add_sub_cancel] at hb
      have hmod : q * 2 ^ ((fmtP f - 1).toNat + 1 - lenN q) % 2 ^ (fmtP f - 1).toNat = q * 2 ^ ((fmtP f - 1).toNat + 1 - lenN q) - 2 ^ (fmtP f - 1).toNat := by
        rw [Nat.mod_eq_sub_mod hb.1, Nat.mod_eq_of_lt]
        have := hb.2.1
        rw [Nat.pow_succ] at this
        omega
      have hdiv : q * 2 ^ (e - eMin f).toNat / 2 ^ (lenN q + (e - eMin f).toNat - pN f) = q * 2 ^ (pN f - lenN q) := by
        have : (e - eMin f).toNat = (pN f - lenN q) + (lenN q + (e - eMin f).toNat - pN f) := by omega
        rw [this, Nat.pow_add, ← Nat.mul_assoc, ← this, Nat.mul_div_cancel _ (Nat.two_pow_pos _)]
      rw [hdiv, hp, hmod]
      have hfe : ((pN f : Int) - 1 + (max ((lenN q : Int) - 1 + e) (1 - fmtX f) - (fmtP f - 1)) - (1 - fmtX f) + 1).toNat = (lenN q + (e - eMin f).toNat - pN f) + 1 := by omega
      rw [hp] at hfe
      rw [hfe, Nat.add_mul, Nat.one_mul]
      omega
end Go.Ev
end

section
namespace Go.Ev
theorem next_zero (r : Int) (n o : Bool) : nextN 4 n o r = false := by
  unfold nextN ruleN
  cases decide (0 < r) <;> cases decide (r ≤ 3) <;> rfl
/-- Nothing is lost at a bit. -/
theorem rest_none {M k : Nat} (hk : k ≤ 127) : restN (M * 2 ^ (256 - k)) k = 0 := by
  have hz : M * 2 ^ (256 - k) % 2 ^ (256 - k) = 0 := Nat.mul_mod_left _ _
  have hb : (M * 2 ^ (256 - k)).testBit (255 - (k : Int)).toNat = false := by
    have e : (255 - (k : Int)).toNat = 255 - k := by omega
    rw [e, Nat.testBit_mul_two_pow, decide_eq_false (by omega : ¬ 256 - k ≤ 255 - k)]
    rfl
  have hl : lostN (M * 2 ^ (256 - k)) (255 - (k : Int)) = false := by
    unfold lostN
    have e : (255 - (k : Int)).toNat = 255 - k := by omega
    have e2 : 256 - k = (255 - k) + 1 := by omega
    rw [e, e2, Nat.pow_succ, Nat.mul_comm (2 ^ (255 - k)), ← Nat.mul_assoc, Nat.mul_mod_left]
    rfl
  unfold restN
  rw [decide_eq_false (by omega : ¬ (k : Int) < 0), decide_eq_false (by omega : ¬ 127 < (k : Int)), hb, hl]
  rfl
theorem roundCut_exact {M k : Nat} (hk : k ≤ 127) (n : Bool) : roundCutN (M * 2 ^ (256 - k)) k 4 n = (M, false) := by
  unfold roundCutN
  have e : (256 - (k : Int)).toNat = 256 - k := by omega
  rw [decide_eq_false (by omega : ¬ (k : Int) < 0), decide_eq_false (by omega : ¬ 127 < (k : Int)), rest_none hk, next_zero, e, Nat.mul_div_cancel _ (Nat.two_pow_pos _)]
  rfl
/-- A whole number of units, packed. -/
theorem exactF_enc {f : Int} (k : Known f) {neg : Bool} {e : Int} {w V : Nat} (he : eMin f ≤ e) (he2 : e ≤ 100000) (hw : w < 2 ^ 200) (hV : w * 2 ^ (e - eMin f).toNat = V * 2 ^ 127)
    (hdiv : V % 2 ^ (lenN V - pN f) = 0) (htop : (lenN V : Int) + eMin f - 1 ≤ fmtX f) : exactF f neg (e + 128) w = some (encV f neg V, 0) := by
  have h := fmt_le k.ok
  have h' := (fmt_small k.ok).2.2.2 k.ne
  have hp := p_succ k
  have hpf : (pN f : Int) = fmtP f := by unfold pN; omega
  have hm : eMin f = 1 - fmtX f - (fmtP f - 1) := rfl
  unfold exactF exactK roundK
  rw [decide_eq_true k.lt, decide_eq_true (by decide : (4 : Int) ≤ 4)]
  simp only [Bool.not_true, Bool.or_self, cond_false, Bool.false_or]
  by_cases hw0 : w = 0
  · subst hw0
    have hV0 : V = 0 := by
      rw [Nat.zero_mul] at hV
      have := Nat.two_pow_pos 127
      rcases Nat.mul_eq_zero.1 hV.symm with h | h <;> omega
    subst hV0
    rw [decide_eq_true rfl, cond_true, Option.bind_some, decide_eq_true rfl, make_small k (by omega) (by omega), Nat.zero_mod]
    unfold encV
    rw [lenN_zero, Nat.zero_sub, Nat.zero_mul, Nat.zero_div, Int.toNat_zero, Nat.zero_mul]
    rfl
  · have hV0 : V ≠ 0 := by
      rintro rfl
      rw [Nat.zero_mul] at hV
      have := Nat.two_pow_pos (e - eMin f).toNat
      rcases Nat.mul_eq_zero.1 hV with h | h <;> omega
    rw [decide_eq_false hw0, cond_false]
    have hlw := lenN_le hw
    have hl : lenN w + (e - eMin f).toNat = lenN V + 127 := by rw [← lenN_shift hw0, ← lenN_shift hV0, hV]
    have hlp := (lenN_pos hw0).2.2
    have hlV := (lenN_pos hV0).2.2
    -- the wide number, its first bit at the top
    obtain ⟨M, hM, hML⟩ : ∃ M : Nat, w * 2 ^ (256 - lenN w) = M * 2 ^ (256 - pN f) ∧ (if pN f ≤ lenN V then M = V / 2 ^ (lenN V - pN f) ∧ lenN M = pN f else M = V * 2 ^ (pN f - lenN V)) := by
      have key : w * 2 ^ (256 - lenN w) * 2 ^ lenN V = V * 2 ^ 256 := by
        have hD := Nat.two_pow_pos (e - eMin f).toNat
        refine Nat.eq_of_mul_eq_mul_right hD ?_
        have e1 : w * 2 ^ (256 - lenN w) * 2 ^ lenN V * 2 ^ (e - eMin f).toNat = (w * 2 ^ (e - eMin f).toNat) * (2 ^ (256 - lenN w) * 2 ^ lenN V) := by ac_rfl
        rw [e1, hV, Nat.mul_assoc, Nat.mul_assoc, ← Nat.pow_add, ← Nat.pow_add, ← Nat.pow_add]
        congr 2
        omega
      by_cases hc : pN f ≤ lenN V
      · obtain ⟨M, hMV⟩ := Nat.dvd_of_mod_eq_zero hdiv
        have hMne : M ≠ 0 := by rintro rfl; rw [Nat.mul_zero] at hMV; exact hV0 hMV
        have hdv : V / 2 ^ (lenN V - pN f) = M := Nat.div_eq_of_eq_mul_right (Nat.two_pow_pos _) hMV
        refine ⟨M, ?_, ?_⟩
        · refine Nat.eq_of_mul_eq_mul_right (Nat.two_pow_pos (lenN V)) ?_
          rw [key]
          have e2 : V * 2 ^ 256 = M * (2 ^ (lenN V - pN f) * 2 ^ 256) := by rw [Nat.mul_comm (2 ^ (lenN V - pN f)), ← Nat.mul_assoc, Nat.mul_right_comm, Nat.mul_comm M, ← hMV]
          rw [e2, Nat.mul_assoc, ← Nat.pow_add, ← Nat.pow_add]
          congr 2
          omega
        · rw [if_pos hc, hdv]
          refine ⟨rfl, ?_⟩
          have h3 := lenN_shift hMne (lenN V - pN f)
          rw [Nat.mul_comm, ← hMV] at h3
          omega
      · refine ⟨V * 2 ^ (pN f - lenN V), ?_, by rw [if_neg hc]⟩
        refine Nat.eq_of_mul_eq_mul_right (Nat.two_pow_pos (lenN V)) ?_
        rw [key, Nat.mul_assoc, Nat.mul_assoc, ← Nat.pow_add, ← Nat.pow_add]
        congr 2
        omega
    have hwr : (wraiseN w).1 = M * 2 ^ (256 - pN f) ∧ (wraiseN w).2 = 256 - (lenN w : Int) := by
      unfold wraiseN
      rw [decide_eq_false hw0]
      exact ⟨hM, rfl⟩
    have hx : expOf (e + 128) w = (lenN V : Int) + eMin f - 1 := by
      unfold expOf
      rw [hwr.2]
      omega
    have hMlt : M < 2 ^ pN f := by
      by_cases hc : pN f ≤ lenN V
      · rw [if_pos hc] at hML
        rw [← hML.2]
        exact lenN_lt M
      · rw [if_neg hc] at hML
        have := lenN_lt M
        rw [hML, lenN_shift hV0] at this
        rw [hML]
        have e1 : lenN V + (pN f - lenN V) = pN f := by omega
        rw [e1] at this
        exact this
    have hcut : roundCutN (wraiseN w).1 (fmtP f) 4 neg = (M, false) := by
      rw [hwr.1, ← hpf]
      exact roundCut_exact (by omega) neg
    have hbit : bitN M (fmtP f) = false := by
      have hMlt' : M < 2 ^ (fmtP f).toNat := hMlt
      unfold bitN
      rw [Nat.testBit_lt_two_pow hMlt', Bool.and_false]
    rw [hcut, hbit, hx]
    simp only [cond_false]
    rw [decide_eq_false (by omega : ¬ fmtX f < (lenN V : Int) + eMin f - 1), cond_false]
    by_cases hc : pN f ≤ lenN V
    · rw [if_pos hc] at hML
      obtain ⟨hM1, hM2⟩ := hML
      rw [decide_eq_false (by omega : ¬ (lenN V : Int) + eMin f - 1 < 1 - fmtX f), cond_false, Option.bind_some]
      have hfld : (lenN V : Int) + eMin f - 1 - (1 - fmtX f) + 1 = ((lenN V - pN f + 1 : Nat) : Int) := by omega
      have hput : putN f neg ((lenN V : Int) + eMin f - 1 - (1 - fmtX f) + 1) M = encV f neg V := by
        unfold putN
        rw [hfld, decide_eq_false (by omega : ¬ ((lenN V - pN f + 1 : Nat) : Int) = 0), Bool.false_and, cond_false, make_small k (by omega) (by omega), Int.toNat_natCast]
        have hMne : M ≠ 0 := by
          rintro rfl
          rw [lenN_zero] at hM2
          omega
        have hb := lenN_pos hMne
        rw [hM2, hp, Nat.add_sub_cancel] at hb
        have hmod : M % 2 ^ (fmtP f - 1).toNat = M - 2 ^ (fmtP f - 1).toNat := by
          rw [Nat.mod_eq_sub_mod hb.1, Nat.mod_eq_of_lt]
          have := hb.2.1
          rw [Nat.pow_succ] at this
          omega
        unfold encV
        rw [← hM1, hmod, Nat.add_mul, Nat.one_mul]
        omega
      rw [hput]
      rfl
    · rw [if_neg hc] at hML
      rw [decide_eq_true (by omega : (lenN V : Int) + eMin f - 1 < 1 - fmtX f), cond_true]
      have hjam : jamN (wraiseN w).1 (1 - fmtX f - ((lenN V : Int) + eMin f - 1)) = V * 2 ^ (256 - pN f) := by
        have ej : (1 - fmtX f - ((lenN V : Int) + eMin f - 1)).toNat = pN f - lenN V := by omega
        have e1 : (wraiseN w).1 = V * 2 ^ (256 - pN f) * 2 ^ (pN f - lenN V) := by rw [hwr.1, hML]; ac_rfl
        unfold jamN lostN
        rw [ej, e1, Nat.mul_mod_left, Nat.mul_div_cancel _ (Nat.two_pow_pos _)]
        rfl
      have hcut2 : roundCutN (jamN (wraiseN w).1 (1 - fmtX f - ((lenN V : Int) + eMin f - 1))) (fmtP f) 4 neg = (V, false) := by
        rw [hjam, ← hpf]
        exact roundCut_exact (by omega) neg
      rw [hcut2, Option.bind_some]
      have hVlt : V < 2 ^ (fmtP f - 1).toNat := Nat.lt_of_lt_of_le (lenN_lt V) (Nat.pow_le_pow_right (by decide) (by omega))
      have hput : putN f neg 0 V = encV f neg V := by
        unfold putN
        have hb : bitN V (fmtP f - 1) = false := by
          unfold bitN
          rw [Nat.testBit_lt_two_pow hVlt, Bool.and_false]
        rw [hb, Bool.and_false, cond_false, make_small k (by omega) (by omega), Nat.mod_eq_of_lt hVlt]
        unfold encV
        rw [(by omega : lenN V - pN f = 0), Nat.pow_zero, Nat.div_one]
        rfl
      rw [hput]
      rfl
end Go.Ev
end
