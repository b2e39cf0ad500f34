/- Part 44 of 46 of what the theorem stands on. -/
import Derived.Test.YtkbfmpomeejadaaGreatDoorRembq

section
namespace Go.Ev
theorem class_cases {f : Int} (k : Known f) (a : Nat) : ((classN f a).2 = (splitN f a).1) ∧ (((classN f a).1 = 0 ∧ (splitN f a).2.1 = 0 ∧ (splitN f a).2.2 = 0) ∨ ((classN f a).1 = 1 ∧ (splitN f a).2.1 = 0 ∧ (splitN f a).2.2 ≠ 0) ∨
    ((classN f a).1 = 2 ∧ (splitN f a).2.1 ≠ 0 ∧ (splitN f a).2.1 < 2 * fmtX f + 1) ∨ 3 ≤ (classN f a).1) := by
  unfold classN
  rw [decide_eq_true k.lt]
  by_cases h1 : (splitN f a).2.1 = 0
  · by_cases h2 : (splitN f a).2.2 = 0
    · rw [decide_eq_true h1, decide_eq_true h2]
      exact ⟨rfl, .inl ⟨rfl, h1, h2⟩⟩
    · rw [decide_eq_true h1, decide_eq_false h2]
      exact ⟨rfl, .inr (.inl ⟨rfl, h1, h2⟩)⟩
  · rw [decide_eq_false h1]
    by_cases h3 : (splitN f a).2.1 < 2 * fmtX f + 1
    · rw [decide_eq_true h3]
      exact ⟨rfl, .inr (.inr (.inl ⟨rfl, h1, h3⟩))⟩
    · rw [decide_eq_false h3]
      cases decide ((splitN f a).2.2 = 0) <;> cases bitN (splitN f a).2.2 (fmtP f - 2) <;> exact ⟨rfl, .inr (.inr (.inr (by simp)))⟩
theorem unpack_cls (f : Int) (a : Nat) : (unpackN f a).2.1 = (classN f a).1 ∧ (unpackN f a).1 = (classN f a).2 := by
  unfold unpackN
  by_cases h2 : (classN f a).1 = 2
  · rw [decide_eq_true h2]; exact ⟨h2.symm, rfl⟩
  · rw [decide_eq_false h2]
    by_cases h1 : (classN f a).1 = 1
    · rw [decide_eq_true h1]; exact ⟨h1.symm, rfl⟩
    · rw [decide_eq_false h1]; exact ⟨rfl, rfl⟩
/-- A number taken apart is its value, its first bit at the top. -/
theorem unpack_val {f : Int} (k : Known f) {a : Nat} (h : (classN f a).1 = 1 ∨ (classN f a).1 = 2) :
    (valN f a).2.1 ≠ 0 ∧ lenN (valN f a).2.1 ≤ pN f ∧ (unpackN f a).2.2.1 = (valN f a).2.2 + lenN (valN f a).2.1 - 1 ∧ (unpackN f a).2.2.2 = (valN f a).2.1 * 2 ^ (128 - lenN (valN f a).2.1) := by
  have hf := fmt_le k.ok
  have h' := (fmt_small k.ok).2.2.2 k.ne
  have hp := p_succ k
  have hfr := splitN_frac k.ne a
  have hc := (class_cases k a).2
  have hpp := Nat.two_pow_pos (fmtP f - 1).toNat
  unfold unpackN valN
  rcases h with h | h
  · have : (splitN f a).2.1 = 0 ∧ (splitN f a).2.2 ≠ 0 := by omega
    rw [decide_eq_false (by omega : ¬ (classN f a).1 = 2), decide_eq_true h, decide_eq_true this.1]
    simp only [cond_true, cond_false]
    have hl := lenN_le hfr
    unfold raiseN
    rw [decide_eq_false this.2]
    simp only [cond_false]
    exact ⟨this.2, by omega, by omega, trivial⟩
  · have : (splitN f a).2.1 ≠ 0 := by omega
    rw [decide_eq_true h, decide_eq_false this]
    simp only [cond_true, cond_false]
    have hl : lenN ((splitN f a).2.2 + 2 ^ (fmtP f - 1).toNat) = pN f := by
      rw [hp]
      refine lenN_eq (by omega) ?_
      rw [Nat.pow_succ]
      omega
    refine ⟨by omega, by omega, by rw [hl, hp]; omega, ?_⟩
    rw [hl, Nat.add_mul, ← Nat.pow_add]
    have e1 : (128 - fmtP f).toNat = 128 - pN f := by rw [hp]; omega
    have e2 : (fmtP f - 1).toNat + (128 - pN f) = 127 := by rw [hp]; omega
    rw [e1, e2]
theorem modIt_eq {d : Nat} (hd : 0 < d) : ∀ (n A : Nat) (s : Nat × Bool), s.1 = A % d → (modIt d n s).1 = A * 2 ^ n % d ∧ (0 < n → (modIt d n s).2 = decide (A * 2 ^ n / d % 2 = 1))
  | 0, A, s, h => ⟨by rw [Nat.pow_zero, Nat.mul_one]; exact h, fun h => absurd h (Nat.lt_irrefl 0)⟩
  | n + 1, A, s, h => by
    have hn := div_next A d 0 hd (by decide)
    rw [Nat.add_zero, Nat.add_zero] at hn
    have hs : (stepN s.1 0 d).1 = 2 * A % d ∧ (stepN s.1 0 d).2 = decide (2 * A / d % 2 = 1) := by
      unfold stepN
      rw [h, show (0 : Int).toNat = 0 from rfl, Nat.add_zero]
      by_cases hc : d ≤ 2 * (A % d)
      · rw [if_pos hc, if_pos hc] at hn
        rw [decide_eq_true hc, hn.1, hn.2, decide_eq_true (by omega : (2 * (A / d) + 1) % 2 = 1)]
        exact ⟨rfl, rfl⟩
      · rw [if_neg hc, if_neg hc] at hn
        rw [decide_eq_false hc, hn.1, hn.2, decide_eq_false (by omega : ¬ (2 * (A / d) + 0) % 2 = 1)]
        exact ⟨rfl, rfl⟩
    have ih := modIt_eq hd n (2 * A) (stepN s.1 0 d) hs.1
    have e : A * 2 ^ (n + 1) = 2 * A * 2 ^ n := by rw [Nat.pow_succ]; ac_rfl
    show (modIt d n (stepN s.1 0 d)).1 = _ ∧ (_ → (modIt d n (stepN s.1 0 d)).2 = _)
    rw [e]
    refine ⟨ih.1, fun _ => ?_⟩
    cases n with
    | zero =>
      rw [Nat.pow_zero, Nat.mul_one]
      exact hs.2
    | succ n => exact ih.2 (by omega)
theorem nearN_eq {A y : Nat} (hy : 0 < y) : nearN (A % y) y (decide (A / y % 2 = 1)) = remE A y := by
  have h := Nat.mod_lt A hy
  unfold nearN remE
  have e1 : decide (y - A % y < A % y) = decide (y < 2 * (A % y)) := decide_eq_decide.2 (by omega)
  have e2 : decide (A % y = y - A % y) = decide (2 * (A % y) = y) := decide_eq_decide.2 (by omega)
  rw [e1, e2]
theorem remE_pos {a b : Nat} (hb : 0 < b) : (remE a b).2 = true → (remE a b).1 ≠ 0 := by
  have h := Nat.mod_lt a hb
  unfold remE
  cases decide (b < 2 * (a % b)) || (decide (2 * (a % b) = b) && decide (a / b % 2 = 1)) with
  | true => intro _; show b - a % b ≠ 0; omega
  | false => intro h; cases h
theorem pick_same (f : Int) (a b : Nat) : (!nanN f a && (!nanN f b && (decide ((unpackN f a).2.1 = 3) || decide ((unpackN f b).2.1 = 0)))) =
    (!decide (4 ≤ (classN f a).1) && (!decide (4 ≤ (classN f b).1) && (decide ((classN f a).1 = 3) || decide ((classN f b).1 = 0)))) := by
  rw [(unpack_cls f a).1, (unpack_cls f b).1]
  rfl
theorem pick_none {f : Int} (k : Known f) {a b : Nat} {bad : Bool} (h : (pickN f bad a b).2.2 = false) : nanN f a = false ∧ nanN f b = false ∧ bad = false := by
  unfold pickN at h
  rw [decide_eq_true k.lt] at h
  cases ha : nanN f a <;> cases hb : nanN f b <;> cases bad <;> simp_all
/-- The reference's remainder, in units of the least number. -/
theorem ref_part {f : Int} (k : Known f) {a b : Nat} (ha0 : (valN f a).2.2 ≤ fmtX f - (fmtP f - 1)) (hb0 : (valN f b).2.1 ≠ 0) (neg : Bool) :
    (let e := min (valN f a).2.2 (valN f b).2.2
     let t := remE ((valN f a).2.1 * 2 ^ ((valN f a).2.2 - e).toNat) ((valN f b).2.1 * 2 ^ ((valN f b).2.2 - e).toNat)
     roundR f (Bool.xor neg t.2) t.1 e) = some (encV f (Bool.xor neg (remE (sizeV f a) (sizeV f b)).2) (remE (sizeV f a) (sizeV f b)).1, 0) ∧
    (remE (sizeV f a) (sizeV f b)).1 % 2 ^ (lenN (remE (sizeV f a) (sizeV f b)).1 - pN f) = 0 ∧ (lenN (remE (sizeV f a) (sizeV f b)).1 : Int) + eMin f - 1 ≤ fmtX f := by
  have h := fmt_le k.ok
  have h' := (fmt_small k.ok).2.2.2 k.ne
  have hp := p_succ k
  have hva := valN_bounds k.ok k.ne a
  have hvb := valN_bounds k.ok k.ne b
  have hm : eMin f = 1 - fmtX f - (fmtP f - 1) := rfl
  have hpf : (fmtP f).toNat = pN f := rfl
  unfold sizeV
  simp only
  generalize hx : (valN f a).2.1 = xm at *
  generalize hy : (valN f b).2.1 = ym at *
  generalize hxe : (valN f a).2.2 = xe at *
  generalize hye : (valN f b).2.2 = ye at *
  obtain ⟨u, hu⟩ : ∃ u : Nat, (min xe ye - eMin f).toNat = u := ⟨_, rfl⟩
  have ea : xm * 2 ^ (xe - eMin f).toNat = 2 ^ u * (xm * 2 ^ (xe - min xe ye).toNat) := by
    have : (xe - eMin f).toNat = u + (xe - min xe ye).toNat := by omega
    rw [this, Nat.pow_add]; ac_rfl
  have eb : ym * 2 ^ (ye - eMin f).toNat = 2 ^ u * (ym * 2 ^ (ye - min xe ye).toNat) := by
    have : (ye - eMin f).toNat = u + (ye - min xe ye).toNat := by omega
    rw [this, Nat.pow_add]; ac_rfl
  rw [ea, eb, remE_scale _ _ _ (Nat.two_pow_pos u)]
  have hnpos : 0 < ym * 2 ^ (ye - min xe ye).toNat := Nat.mul_pos (by omega) (Nat.two_pow_pos _)
  have hle := remE_le (xm * 2 ^ (xe - min xe ye).toNat) (ym * 2 ^ (ye - min xe ye).toNat) hnpos
  generalize ht : remE (xm * 2 ^ (xe - min xe ye).toNat) (ym * 2 ^ (ye - min xe ye).toNat) = t at *
  obtain ⟨t1, t2⟩ := t
  simp only at hle ⊢
  have hlt : t1 < 2 ^ pN f := by
    by_cases hc : xe ≤ ye
    · have : (xe - min xe ye).toNat = 0 := by omega
      rw [this, Nat.pow_zero, Nat.mul_one] at hle
      exact Nat.lt_of_le_of_lt hle.1 hva.2.2.2
    · have : (ye - min xe ye).toNat = 0 := by omega
      rw [this, Nat.pow_zero, Nat.mul_one] at hle
      have := hvb.2.2.2
      rw [hpf] at this
      omega
  have hl := lenN_le hlt
  have htop : (lenN t1 : Int) - 1 + min xe ye ≤ fmtX f := by
    have h1 : lenN t1 ≤ pN f + (xe - min xe ye).toNat := by
      refine lenN_le (Nat.lt_of_le_of_lt hle.1 ?_)
      rw [Nat.pow_add]
      exact Nat.mul_lt_mul_of_pos_right hva.2.2.2 (Nat.two_pow_pos _)
    omega
  have hr := roundR_enc k (neg := Bool.xor neg t2) hl (by omega : eMin f ≤ min xe ye) htop
  rw [hu] at hr
  rw [hr, Nat.mul_comm t1]
  refine ⟨rfl, ?_, ?_⟩
  · by_cases h0 : t1 = 0
    · subst h0
      rw [Nat.mul_zero, Nat.zero_mod]
    · rw [Nat.mul_comm, lenN_shift h0]
      have : 2 ^ u = 2 ^ (lenN t1 + u - pN f) * 2 ^ (u - (lenN t1 + u - pN f)) := by rw [← Nat.pow_add]; congr 1; omega
      rw [this, Nat.mul_comm (2 ^ (lenN t1 + u - pN f)), ← Nat.mul_assoc]
      exact Nat.mul_mod_left _ _
  · by_cases h0 : t1 = 0
    · subst h0
      rw [Nat.mul_zero, lenN_zero]
      omega
    · rw [Nat.mul_comm, lenN_shift h0]
      omega
theorem size_sig {f : Int} (k : Known f) {a : Nat} (h : (classN f a).1 = 1 ∨ (classN f a).1 = 2) :
    eMin f ≤ (unpackN f a).2.2.1 ∧ (unpackN f a).2.2.1 ≤ fmtX f ∧ 2 ^ 127 ≤ (unpackN f a).2.2.2 ∧ (unpackN f a).2.2.2 < 2 ^ 128 ∧ sizeV f a * 2 ^ 127 = (unpackN f a).2.2.2 * 2 ^ ((unpackN f a).2.2.1 - eMin f).toNat := by
  have hf := fmt_le k.ok
  have h' := (fmt_small k.ok).2.2.2 k.ne
  have hp := p_succ k
  have hva := valN_bounds k.ok k.ne a
  have hm : eMin f = 1 - fmtX f - (fmtP f - 1) := rfl
  obtain ⟨h1, h2, h3, h4⟩ := unpack_val k h
  have hl := lenN_pos h1
  have htop : (valN f a).2.2 ≤ fmtX f - (fmtP f - 1) := by
    have hc := (class_cases k a).2
    unfold valN
    by_cases he : (splitN f a).2.1 = 0
    · rw [decide_eq_true he]; simp only [cond_true]; omega
    · rw [decide_eq_false he]; simp only [cond_false]; omega
  rw [h3, h4]
  unfold sizeV
  generalize (valN f a).2.1 = M at *
  generalize (valN f a).2.2 = E at *
  have hs : lenN (M * 2 ^ (128 - lenN M)) = 128 := by rw [lenN_shift h1]; omega
  have hne : M * 2 ^ (128 - lenN M) ≠ 0 := Nat.mul_ne_zero h1 (by have := Nat.two_pow_pos (128 - lenN M); omega)
  have hb := lenN_pos hne
  rw [hs] at hb
  refine ⟨by omega, by omega, hb.1, hb.2.1, ?_⟩
  rw [Nat.mul_assoc, Nat.mul_assoc, ← Nat.pow_add, ← Nat.pow_add]
  congr 2
  omega
/-- THE LAW: the program's remainder is the reference's. -/
theorem rem_law {f : Int} (hf : okB f = true) (a b : Nat) : ∃ r, remK f a b = some r ∧ refK f a b = some r := by
  unfold remK refK
  by_cases h4 : f < 4
  · have k := known_of hf h4
    rw [decide_eq_true h4]
    simp only [Bool.not_true, cond_false]
    rw [pick_same]
    generalize hbad : (!decide (4 ≤ (classN f a).1) && (!decide (4 ≤ (classN f b).1) && (decide ((classN f a).1 = 3) || decide ((classN f b).1 = 0)))) = bad
    cases hp : (pickN f bad a b).2.2 with
    | true => exact ⟨_, rfl, rfl⟩
    | false =>
      simp only [cond_false]
      obtain ⟨ha, hb, hbd⟩ := pick_none k hp
      unfold nanN at ha hb
      have ha := of_decide_eq_false ha
      have hb := of_decide_eq_false hb
      rw [decide_eq_false ha, decide_eq_false hb, hbd] at hbad
      simp only [Bool.not_false, Bool.true_and, Bool.or_eq_false_iff, decide_eq_false_iff_not] at hbad
      have hca := class_cases k a
      have hcb := class_cases k b
      have hcl := class_le f b
      have hna : (unpackN f a).1 = (splitN f a).1 := by rw [(unpack_cls f a).2, hca.1]
      have hfin : (splitN f a).2.1 ≤ 2 * fmtX f := by have := fmt_le hf; omega
      have hcut := cut_enc k hfin
      have hva := valN_bounds k.ok k.ne a
      have hm : eMin f = 1 - fmtX f - (fmtP f - 1) := rfl
      have hpf : (fmtP f).toNat = pN f := rfl
      have hfm := fmt_le hf
      have h' := (fmt_small k.ok).2.2.2 k.ne
      rw [(unpack_cls f a).1, (unpack_cls f b).1, hca.1]
      have hvn : (valN f a).1 = (splitN f a).1 := by unfold valN; cases decide ((splitN f a).2.1 = 0) <;> rfl
      have htop : (valN f a).2.2 ≤ fmtX f - (fmtP f - 1) := by
        unfold valN
        by_cases he : (splitN f a).2.1 = 0
        · rw [decide_eq_true he]; simp only [cond_true]; omega
        · rw [decide_eq_false he]; simp only [cond_false]; omega
      by_cases hd3 : (classN f b).1 = 3
      · -- an infinity: the number itself
        rw [decide_eq_true hd3, Bool.true_or, Bool.or_true, cond_true, cond_true, hvn]
        have hl : lenN (valN f a).2.1 ≤ pN f := lenN_le hva.2.2.2
        have hpp : (pN f : Int) = fmtP f := by unfold pN; omega
        have hr := roundR_enc k (neg := (splitN f a).1) hl hva.2.1 (by omega)
        exact ⟨_, rfl, by rw [hr, hcut]; rfl⟩
      · rw [decide_eq_false hd3]
        have hdb : (classN f b).1 = 1 ∨ (classN f b).1 = 2 := by omega
        have hub := unpack_val k hdb
        have hsb := size_sig k hdb
        rw [decide_eq_false hub.1]
        simp only [cond_false]
        obtain ⟨hr1, hr2, hr3⟩ := ref_part k (a := a) htop hub.1 (splitN f a).1
        rw [hr1]
        by_cases hc0 : (classN f a).1 = 0
        · -- a nought
          rw [decide_eq_true hc0, Bool.true_or, cond_true]
          have hz : sizeV f a = 0 := by
            unfold sizeV valN
            rw [decide_eq_true (by omega : (splitN f a).2.1 = 0)]
            simp only [cond_true]
            have : (splitN f a).2.2 = 0 := by omega
            rw [this, Nat.zero_mul]
          have hT : remE (sizeV f a) (sizeV f b) = (0, false) := by
            rw [hz]
            refine remE_small ?_
            have hb2 := hsb.2.2.2.2
            have := Nat.two_pow_pos 127
            have h5 : 0 < (unpackN f b).2.2.2 * 2 ^ ((unpackN f b).2.2.1 - eMin f).toNat := Nat.mul_pos (by omega) (Nat.two_pow_pos _)
            rw [← hb2] at h5
            have := Nat.pos_of_mul_pos_right h5
            omega
          rw [hT, hcut, hz]
          exact ⟨_, rfl, by rw [Bool.xor_false]⟩
        · rw [decide_eq_false hc0, Bool.false_or, Bool.false_or]
          have hda : (classN f a).1 = 1 ∨ (classN f a).1 = 2 := by omega
          have hsa := size_sig k hda
          obtain ⟨a1, a2, a3, a4, a5⟩ := hsa
          obtain ⟨b1, b2, b3, b4, b5⟩ := hsb
          rw [hna]
          generalize (unpackN f a).2.2.1 = xe at *
          generalize (unpackN f a).2.2.2 = xs at *
          generalize (unpackN f b).2.2.1 = ye at *
          generalize (unpackN f b).2.2.2 = ys at *
          have h128 : 2 ^ 127 + 2 ^ 127 = 2 ^ 128 := by decide
          have h127 := Nat.two_pow_pos 127
          by_cases hlt : xe < ye - 1
          · rw [decide_eq_true hlt, cond_true]
            have hT : remE (sizeV f a) (sizeV f b) = (sizeV f a, false) := by
              refine remE_small ?_
              refine Nat.lt_of_mul_lt_mul_right (a := 2 ^ 127) ?_
              rw [Nat.mul_assoc, a5, b5]
              obtain ⟨u, hu⟩ : ∃ u : Nat, (xe - eMin f).toNat = u := ⟨_, rfl⟩
              have hy : (ye - eMin f).toNat = u + 2 + ((ye - eMin f).toNat - (u + 2)) := by omega
              rw [hu]
              calc 2 * (xs * 2 ^ u) < 2 ^ 127 * 2 ^ (u + 2) := by
                    have e : 2 ^ 127 * 2 ^ (u + 2) = 2 * ((2 ^ 127 + 2 ^ 127) * 2 ^ u) := by rw [Nat.pow_add, Nat.add_mul]; omega
                    rw [e, h128]
                    exact Nat.mul_lt_mul_of_pos_left (Nat.mul_lt_mul_of_pos_right a4 (Nat.two_pow_pos u)) (by decide)
                _ ≤ ys * 2 ^ (u + 2) := Nat.mul_le_mul_right _ b3
                _ ≤ ys * 2 ^ (ye - eMin f).toNat := Nat.mul_le_mul_left _ (Nat.pow_le_pow_right (by decide) (by omega))
            rw [hT, hcut]
            exact ⟨_, rfl, by rw [Bool.xor_false]⟩
          · rw [decide_eq_false hlt, cond_false, decide_eq_true a3, decide_eq_true b3, decide_eq_true (by omega : xe - ye ≤ 40000)]
            simp only [Bool.and_self, Bool.not_true, cond_false]
            refine ⟨_, ?_, rfl⟩
            have hw200 : (2 : Nat) ^ 129 < 2 ^ 200 := Nat.pow_lt_pow_right (by decide) (by decide)
            have h129 : 2 ^ 128 + 2 ^ 128 = 2 ^ 129 := by decide
            by_cases heq : xe = ye - 1
            · rw [decide_eq_true heq, cond_true]
              have hmin : min xe ye = xe := by omega
              rw [hmin]
              obtain ⟨u, hu⟩ : ∃ u : Nat, (xe - eMin f).toNat = u := ⟨_, rfl⟩
              have hye : (ye - eMin f).toNat = u + 1 := by omega
              have hS := remE_scale (2 ^ 127) (sizeV f a) (sizeV f b) h127
              have eA : 2 ^ 127 * sizeV f a = 2 ^ u * xs := by rw [Nat.mul_comm, a5, hu, Nat.mul_comm]
              have eB : 2 ^ 127 * sizeV f b = 2 ^ u * (2 * ys) := by rw [Nat.mul_comm, b5, hye, Nat.pow_succ]; ac_rfl
              rw [eA, eB, remE_scale _ _ _ (Nat.two_pow_pos u), remE_half (by omega)] at hS
              by_cases hys : ys < xs
              · rw [decide_eq_true hys, cond_true] at hS
                rw [decide_eq_true hys, cond_true]
                have hS1 := congrArg Prod.fst hS
                have hS2 := congrArg Prod.snd hS
                simp only at hS1 hS2
                rw [← hS2]
                have e3 : Bool.xor (splitN f a).1 true = !(splitN f a).1 := by cases (splitN f a).1 <;> rfl
                rw [e3]
                refine exactF_enc k (by omega) (by omega) (by omega) ?_ hr2 hr3
                rw [hu, Nat.mul_comm, hS1, Nat.mul_comm]
              · rw [decide_eq_false hys, cond_false] at hS
                rw [decide_eq_false hys, cond_false]
                have hS1 := congrArg Prod.fst hS
                have hS2 := congrArg Prod.snd hS
                simp only at hS1 hS2
                rw [← hS2, Bool.xor_false]
                refine exactF_enc k (by omega) (by omega) (by omega) ?_ hr2 hr3
                rw [hu, Nat.mul_comm, hS1, Nat.mul_comm]
            · rw [decide_eq_false heq, cond_false]
              have hmin : min xe ye = ye := by omega
              rw [hmin]
              obtain ⟨u, hu⟩ : ∃ u : Nat, (ye - eMin f).toNat = u := ⟨_, rfl⟩
              obtain ⟨n, hn⟩ : ∃ n : Nat, (xe - ye).toNat = n := ⟨_, rfl⟩
              have hxe : (xe - eMin f).toNat = n + u := by omega
              have hysp : 0 < ys := by omega
              have hS := remE_scale (2 ^ 127) (sizeV f a) (sizeV f b) h127
              have eA : 2 ^ 127 * sizeV f a = 2 ^ u * (xs * 2 ^ n) := by rw [Nat.mul_comm, a5, hxe, Nat.pow_add]; ac_rfl
              have eB : 2 ^ 127 * sizeV f b = 2 ^ u * ys := by rw [Nat.mul_comm, b5, hu, Nat.mul_comm]
              rw [eA, eB, remE_scale _ _ _ (Nat.two_pow_pos u)] at hS
              have hS1 := congrArg Prod.fst hS
              have hS2 := congrArg Prod.snd hS
              simp only at hS1 hS2
              -- what the steps come to
              have hfirst : (bif decide (ys ≤ xs) then (xs - ys, true) else (xs, false)) = (xs % ys, decide (xs / ys % 2 = 1)) := by
                by_cases hc : ys ≤ xs
                · have h1 : xs / ys = 1 := Nat.div_eq_of_lt_le (by omega) (by omega)
                  rw [decide_eq_true hc, h1, Nat.mod_eq_sub_mod hc, Nat.mod_eq_of_lt (by omega)]
                  rfl
                · rw [decide_eq_false hc, Nat.div_eq_of_lt (by omega), Nat.mod_eq_of_lt (by omega)]
                  rfl
              have hq : (bif decide (0 < xe - ye) then modIt ys (xe - ye).toNat ((xs % ys, decide (xs / ys % 2 = 1)).1, false) else (xs % ys, decide (xs / ys % 2 = 1))) = (xs * 2 ^ n % ys, decide (xs * 2 ^ n / ys % 2 = 1)) := by
                by_cases hpos : 0 < xe - ye
                · have hm := modIt_eq hysp n xs (xs % ys, false) rfl
                  rw [decide_eq_true hpos, cond_true, hn]
                  exact Prod.ext hm.1 (hm.2 (by omega))
                · have hn0 : n = 0 := by omega
                  rw [decide_eq_false hpos, cond_false, hn0, Nat.pow_zero, Nat.mul_one]
              rw [hfirst, hq]
              simp only
              rw [nearN_eq hysp]
              have hpos := remE_pos (a := xs * 2 ^ n) hysp
              have hle := remE_le (xs * 2 ^ n) ys hysp
              have hneg : ((remE (xs * 2 ^ n) ys).2 && !decide ((remE (xs * 2 ^ n) ys).1 = 0)) = (remE (sizeV f a) (sizeV f b)).2 := by
                rw [← hS2]
                cases ht : (remE (xs * 2 ^ n) ys).2 with
                | false => rfl
                | true => rw [decide_eq_false (hpos ht)]; rfl
              rw [hneg]
              refine exactF_enc k (by omega) (by omega) (by omega) ?_ hr2 hr3
              rw [hu, Nat.mul_comm, hS1, Nat.mul_comm]
  · rw [decide_eq_false h4]
    exact ⟨_, rfl, rfl⟩
end Go.Ev
end
