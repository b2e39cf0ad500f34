/- Part 38 of 46 of what the theorem stands on. -/
import Derived.Test.YtkbfmpomeejadaaGreatDoorRembk

section
namespace Go.Ev
open Go.RowKit Go.Proofs.YtkbfmpomeejadaaGreatDoorW.PrintWords
open Go.Proofs.YtkbfmpomeejadaaGreatDoor.Ra
theorem dL_zero : ∀ n, dL 0 n = List.replicate n 0
  | 0 => rfl
  | n + 1 => by
    simp only [dL]
    rw [dL_zero n, List.replicate_succ', Nat.zero_div]
    rfl
theorem pshl (x r : Nat) (hx : x < 4294967296) (hr : r < 32) : Go.Proofs.YtkbfmpomeejadaaGreatDoorW.PrintWords.shl .u64 (x : Int) (r : Int) = ((x * 2 ^ r : Nat) : Int) := by
  have h := shl_nat x r (by omega)
  have hlt : x * 2 ^ r < 2 ^ 64 := by
    have := join_lt (x := x) (y := 0) (k := r) (m := 32) hx (Nat.two_pow_pos _)
    have h2 : 2 ^ (32 + r) ≤ 2 ^ 64 := Nat.pow_le_pow_right (by decide) (by omega)
    omega
  rw [Nat.mod_eq_of_lt hlt] at h
  exact h
theorem pshr (x r : Nat) (hr : r < 32) : Go.Proofs.YtkbfmpomeejadaaGreatDoorW.PrintWords.shr .u64 (x : Int) (r : Int) = ((x / 2 ^ r : Nat) : Int) := by
  unfold Go.Proofs.YtkbfmpomeejadaaGreatDoorW.PrintWords.shr
  have : min (r : Int).toNat IntKind.u64.bits = r := by simp [IntKind.bits]; omega
  have h2 : (2 : Int) ^ r = ((2 ^ r : Nat) : Int) := by simp
  rw [this, h2]
  rfl
theorem or_low {x c r : Nat} (hc : c < 2 ^ r) : c ||| x * 2 ^ r = c + x * 2 ^ r := by
  have := Nat.two_pow_add_eq_or_of_lt hc x
  rw [Nat.or_comm, Nat.mul_comm, ← this, Nat.add_comm]
theorem two_pow_split (q r : Nat) : 2 ^ (32 * q + r) = BB ^ q * 2 ^ r := by rw [Nat.pow_add, Nat.pow_mul]
theorem shl_rounds {a n q r : Nat} (ha : a < BB ^ n) (hn : n ≤ 400000) (hq : q ≤ 400000) (hr : r < 32) : ∀ (d i k : Nat), n - i = d → i ≤ n → d + n + q + 10 < k →
    hairsbreadthref01_Shl.l0 k (dL a n) ((32 * q + r : Nat) : Int) (dL (a % BB ^ i * 2 ^ (32 * q + r)) (q + i)) ((a % BB ^ i * 2 ^ (32 * q + r) / BB ^ (q + i) : Nat) : Int) (i : Int) = some (own (a * 2 ^ (32 * q + r))) := by
  have hmod : Int.tmod ((32 * q + r : Nat) : Int) 32 = (r : Int) := by rw [Int.tmod_eq_emod_of_nonneg (by omega)]; omega
  have hcar : ∀ i, a % BB ^ i * 2 ^ (32 * q + r) / BB ^ (q + i) < 2 ^ r := fun i => by
    rw [Nat.div_lt_iff_lt_mul (pow_pos' _), two_pow_split, Nat.pow_add]
    have h1 := Nat.mod_lt a (pow_pos' i)
    have h2 : a % BB ^ i * (BB ^ q * 2 ^ r) < BB ^ i * (BB ^ q * 2 ^ r) := Nat.mul_lt_mul_of_pos_right h1 (Nat.mul_pos (pow_pos' q) (Nat.two_pow_pos r))
    have e : BB ^ i * (BB ^ q * 2 ^ r) = 2 ^ r * (BB ^ q * BB ^ i) := by ac_rfl
    rw [e] at h2
    exact h2
  have hr32 : 2 ^ r ≤ 2 ^ 31 := Nat.pow_le_pow_right (by decide) (by omega)
  intro d
  induction d with
  | zero =>
    intro i k hd hi hk
    obtain ⟨k, rfl⟩ : ∃ j, k = j + 1 := ⟨k - 1, by omega⟩
    have e : i = n := by omega
    subst e
    have hc := hcar i
    have ea : a % BB ^ i = a := Nat.mod_eq_of_lt ha
    rw [ea] at hc ⊢
    simp only [hairsbreadthref01_Shl.l0, dL_len]
    rw [if_neg (by omega), if_pos (by omega)]
    have e2 : dL (a * 2 ^ (32 * q + r)) (q + i) ++ [((a * 2 ^ (32 * q + r) / BB ^ (q + i) : Nat) : Int) % 4294967296] = dL (a * 2 ^ (32 * q + r)) (q + i + 1) := by
      simp only [dL]
      congr 2
    have hlt : a * 2 ^ (32 * q + r) < BB ^ (q + i + 1) := by
      rw [Nat.pow_succ, Nat.mul_comm (BB ^ (q + i)), ← Nat.div_lt_iff_lt_mul (pow_pos' _)]
      exact Nat.lt_of_lt_of_le hc (Nat.le_trans hr32 (by decide))
    rw [e2, trim_own hlt (by omega) (by omega)]
    rfl
  | succ d ih =>
    intro i k hd hi hk
    obtain ⟨k, rfl⟩ : ∃ j, k = j + 1 := ⟨k - 1, by omega⟩
    have ih := ih (i + 1) k (by omega) (by omega) (by omega)
    have hda := dig_lt a i
    have hc := hcar i
    simp only [hairsbreadthref01_Shl.l0, dL_len]
    rw [if_pos (by omega), if_pos (by omega), hmod, if_pos (by omega), if_pos (by omega), rd_dL a (by omega) (by omega), Int.toNat_natCast]
    have hX : a % BB ^ (i + 1) * 2 ^ (32 * q + r) = a % BB ^ i * 2 ^ (32 * q + r) + (a / BB ^ i % BB * 2 ^ r) * BB ^ (q + i) := by
      rw [mod_grow, Nat.add_mul]
      congr 1
      rw [two_pow_split, Nat.pow_add]
      ac_rfl
    have hqi : q + (i + 1) = q + i + 1 := by omega
    rw [hqi, hX, dL_grow, grow_carry] at ih
    generalize a % BB ^ i * 2 ^ (32 * q + r) / BB ^ (q + i) = c at *
    generalize a / BB ^ i % BB = x at *
    have hxr : x * 2 ^ r < 2 ^ 63 := by
      have := join_lt (x := x) (y := 0) (k := r) (m := 32) hda (Nat.two_pow_pos _)
      have h2 : 2 ^ (32 + r) ≤ 2 ^ 63 := Nat.pow_le_pow_right (by decide) (by omega)
      omega
    rw [u64n (n := (x : Int)) (by omega) (by omega), pshl x r hda hr, bits_or_u64_nat _ _ (by omega) (by omega), or_low hc, wr64 (by omega) (by omega)]
    have e1 : ((c + x * 2 ^ r : Nat) : Int) % 4294967296 = (((c + x * 2 ^ r) % BB : Nat) : Int) := by rw [BBv]; omega
    have e2 : ((c + x * 2 ^ r : Nat) : Int) / 4294967296 = (((c + x * 2 ^ r) / BB : Nat) : Int) := by rw [BBv]; omega
    have e3 : (i : Int) + 1 = ((i + 1 : Nat) : Int) := by omega
    rw [e1, e2, e3]
    exact ih
theorem shl_own {a s k : Nat} (ha : nd a ≤ 400000) (hs : s ≤ 12000000) (hk : 2 * nd a + s + 10 < k) : hairsbreadthref01_Shl.f k (own a) (s : Int) = some (own (a * 2 ^ s)) := by
  unfold hairsbreadthref01_Shl.f
  have hdiv : Int.tdiv (s : Int) 32 = ((s / 32 : Nat) : Int) := by rw [Int.tdiv_eq_ediv_of_nonneg (by omega)]; omega
  rw [hdiv, wr64 (by omega) (by omega), if_pos (by omega), Int.toNat_natCast, if_pos (by omega)]
  have h := shl_rounds (q := s / 32) (r := s % 32) (lt_nd a) ha (by omega) (Nat.mod_lt _ (by decide)) (nd a) 0 k (by omega) (by omega) (by omega)
  have e : 32 * (s / 32) + s % 32 = s := by omega
  rw [e, Nat.pow_zero, Nat.mod_one, Nat.zero_mul, Nat.add_zero, Nat.zero_div, dL_zero] at h
  exact h
theorem window {a i r : Nat} (hr : r < 32) : (a / BB ^ i % BB + a / BB ^ (i + 1) % BB * 4294967296) / 2 ^ r % 4294967296 = a / BB ^ i / 2 ^ r % 4294967296 := by
  have e1 : a / BB ^ (i + 1) = a / BB ^ i / BB := by rw [Nat.pow_succ, Nat.div_div_eq_div_mul]
  rw [e1]
  generalize a / BB ^ i = Y
  have e2 : Y % BB + Y / BB % BB * 4294967296 = Y % (2 ^ r * 2 ^ (64 - r)) := by
    rw [← Nat.pow_add, show r + (64 - r) = 64 by omega, p64, BBv]
    omega
  rw [e2, Nat.mod_mul_right_div_self]
  exact Nat.mod_mod_of_dvd _ (by
    have : 2 ^ (64 - r) = 4294967296 * 2 ^ (32 - r) := by
      rw [show 64 - r = 32 + (32 - r) by omega, Nat.pow_add]
    rw [this]
    exact Nat.dvd_mul_right _ _)
theorem shr_rounds {a n q r : Nat} (ha : a < BB ^ n) (hn : n ≤ 400000) (hq : q ≤ 400000) (hr : r < 32) : ∀ (d i k : Nat), max n q - i = d → q ≤ i → i ≤ max n q → d + n + q + 10 < k →
    hairsbreadthref01_Shr.l0 k (dL a n) ((32 * q + r : Nat) : Int) (dL (a / 2 ^ (32 * q + r)) (i - q)) (i : Int) = some (own (a / 2 ^ (32 * q + r))) := by
  have hmod : Int.tmod ((32 * q + r : Nat) : Int) 32 = (r : Int) := by rw [Int.tmod_eq_emod_of_nonneg (by omega)]; omega
  intro d
  induction d with
  | zero =>
    intro i k hd hqi hi hk
    obtain ⟨k, rfl⟩ : ∃ j, k = j + 1 := ⟨k - 1, by omega⟩
    have e : i = max n q := by omega
    simp only [hairsbreadthref01_Shr.l0, dL_len]
    rw [if_neg (by omega)]
    have hlt : a / 2 ^ (32 * q + r) < BB ^ (i - q) := by
      rw [Nat.div_lt_iff_lt_mul (Nat.two_pow_pos _), two_pow_split, ← Nat.mul_assoc, ← Nat.pow_add]
      have h1 : a < BB ^ (i - q + q) := Nat.lt_of_lt_of_le ha (Nat.pow_le_pow_right (by decide) (by omega))
      exact Nat.lt_of_lt_of_le h1 (Nat.le_mul_of_pos_right _ (Nat.two_pow_pos r))
    rw [trim_own hlt (by omega) (by omega)]
    rfl
  | succ d ih =>
    intro i k hd hqi hi hk
    obtain ⟨k, rfl⟩ : ∃ j, k = j + 1 := ⟨k - 1, by omega⟩
    have ih := ih (i + 1) k (by omega) (by omega) (by omega) (by omega)
    have hda := dig_lt a i
    have hdb := dig_lt a (i + 1)
    simp only [hairsbreadthref01_Shr.l0, dL_len]
    have e3 : (i : Int) + 1 = ((i + 1 : Nat) : Int) := by omega
    rw [if_pos (by omega), if_pos (by omega), wr64 (by omega) (by omega), e3, digit_dL ha (by omega), Option.bind_some, hmod, if_pos (by omega), if_pos (by omega), rd_dL a (by omega) (by omega), Int.toNat_natCast, Int.toNat_natCast]
    have e4 : a / 2 ^ (32 * q + r) / BB ^ (i - q) = a / BB ^ i / 2 ^ r := by
      rw [Nat.div_div_eq_div_mul, Nat.div_div_eq_div_mul, two_pow_split]
      congr 1
      have : BB ^ i = BB ^ q * BB ^ (i - q) := by rw [← Nat.pow_add]; congr 1; omega
      rw [this]
      ac_rfl
    have e5 : i + 1 - q = (i - q) + 1 := by omega
    have hw := window (a := a) (i := i) hr
    rw [e5] at ih
    simp only [dL] at ih
    rw [e4] at ih
    generalize a / BB ^ i % BB = x at *
    generalize a / BB ^ (i + 1) % BB = y at *
    rw [u64n (n := (x : Int)) (by omega) (by omega), u64n (n := (y : Int)) (by omega) (by omega), u64n (n := (y : Int) * 4294967296) (by omega) (by omega)]
    have e6 : (y : Int) * 4294967296 = ((y * 2 ^ 32 : Nat) : Int) := by omega
    rw [e6, bits_or_u64_nat _ _ (by omega) (by omega), or_low (r := 32) hda, pshr _ _ hr]
    have e7 : (((x + y * 2 ^ 32) / 2 ^ r : Nat) : Int) % 4294967296 = ((a / BB ^ i / 2 ^ r % BB : Nat) : Int) := by
      have e8 : y * 2 ^ 32 = y * 4294967296 := rfl
      have e9 : a / BB ^ i / 2 ^ r % BB = a / BB ^ i / 2 ^ r % 4294967296 := rfl
      rw [e8, e9, ← hw]
      omega
    rw [e7]
    exact ih
theorem shr_own {a s k : Nat} (ha : nd a ≤ 400000) (hs : s ≤ 12000000) (hk : 2 * nd a + 2 * s + 10 < k) : hairsbreadthref01_Shr.f k (own a) (s : Int) = some (own (a / 2 ^ s)) := by
  unfold hairsbreadthref01_Shr.f
  have hdiv : Int.tdiv (s : Int) 32 = ((s / 32 : Nat) : Int) := by rw [Int.tdiv_eq_ediv_of_nonneg (by omega)]; omega
  rw [hdiv, wr64 (by omega) (by omega)]
  have h := shr_rounds (q := s / 32) (r := s % 32) (lt_nd a) ha (by omega) (Nat.mod_lt _ (by decide)) (max (nd a) (s / 32) - s / 32) (s / 32) k (by omega) (by omega) (by omega) (by omega)
  have e : 32 * (s / 32) + s % 32 = s := by omega
  rw [e, Nat.sub_self] at h
  exact h
theorem len_rounds : ∀ (j t : Nat) (x : Int) (k : Nat), 0 < t → t < 4294967296 → lenN t + j = 32 → 0 ≤ x - j → x ≤ 100000000 → j < k → hairsbreadthref01_Len.l0 k x (t : Int) = some (x - j)
  | 0, t, x, k, h0, h1, hl, _, _, hk => by
    obtain ⟨k, rfl⟩ : ∃ m, k = m + 1 := ⟨k - 1, by omega⟩
    have h2 := (lenN_pos (n := t) (by omega)).1
    have e : lenN t - 1 = 31 := by omega
    rw [e] at h2
    simp only [hairsbreadthref01_Len.l0]
    rw [if_neg (by omega)]
    simp
  | j + 1, t, x, k, h0, h1, hl, hx, hx2, hk => by
    obtain ⟨k, rfl⟩ : ∃ m, k = m + 1 := ⟨k - 1, by omega⟩
    have h2 := (lenN_pos (n := t) (by omega)).2.1
    have h3 : 2 ^ lenN t ≤ 2 ^ 31 := Nat.pow_le_pow_right (by decide) (by omega)
    have hs := lenN_shift (n := t) (by omega) 1
    simp only [hairsbreadthref01_Len.l0]
    rw [if_pos (by omega), wr64 (by omega) (by omega)]
    have e : ((t : Int) * 2) % 4294967296 = ((t * 2 ^ 1 : Nat) : Int) := by omega
    rw [e, len_rounds j (t * 2 ^ 1) (x - 1) k (by omega) (by omega) (by omega) (by omega) (by omega) (by omega)]
    congr 1
    omega
theorem nd_pos {a : Nat} (h : a ≠ 0) : 1 ≤ nd a ∧ BB ^ (nd a - 1) ≤ a := by
  unfold nd
  have hb : Nat.beq a 0 = false := by cases hb : Nat.beq a 0 with | false => rfl | true => exact absurd (Nat.eq_of_beq_eq_true hb) h
  rw [hb]
  simp only [cond_false]
  refine ⟨by omega, ?_⟩
  have h1 := Nat.log2_self_le h
  have e : BB ^ (a.log2 / 32 + 1 - 1) = 2 ^ (32 * (a.log2 / 32)) := by rw [Nat.add_sub_cancel, Nat.pow_mul]
  rw [e]
  exact Nat.le_trans (Nat.pow_le_pow_right (by decide) (by omega)) h1
theorem len_own {a k : Nat} (ha : nd a ≤ 400000) (hk : 32 < k) : hairsbreadthref01_Len.f k (own a) = some ((lenN a : Nat) : Int) := by
  unfold hairsbreadthref01_Len.f own
  rw [dL_len]
  by_cases h0 : a = 0
  · subst h0
    have hn0 : nd 0 = 0 := rfl
    rw [hn0, if_pos (by unfold wrap64; omega)]
    rfl
  · obtain ⟨h1, h2⟩ := nd_pos h0
    rw [wr64 (n := 32 * (nd a : Int)) (by omega) (by omega), if_neg (by omega), wr64 (n := (nd a : Int) - 1) (by omega) (by omega), if_pos (by omega), if_pos (by omega), rd_dL a (by omega) (by omega)]
    have e : ((nd a : Int) - 1).toNat = nd a - 1 := by omega
    have hlt := lt_nd a
    have e2 : nd a = nd a - 1 + 1 := by omega
    rw [e2] at hlt
    rw [e, dig_top hlt]
    have ht : a / BB ^ (nd a - 1) ≠ 0 := by
      have := Nat.div_pos h2 (pow_pos' _)
      omega
    have htl : a / BB ^ (nd a - 1) < 4294967296 := by
      rw [Nat.div_lt_iff_lt_mul (pow_pos' _), Nat.mul_comm, ← BBv, ← Nat.pow_succ]
      exact hlt
    have hpow : BB ^ (nd a - 1) = 2 ^ (32 * (nd a - 1)) := by rw [Nat.pow_mul]
    have hl := lenN_div (x := a) (k := 32 * (nd a - 1)) (by rw [← hpow]; exact h2)
    rw [← hpow] at hl
    have hl2 : lenN (a / BB ^ (nd a - 1)) ≤ 32 := lenN_le (k := 32) htl
    have hp := (lenN_pos ht).2.2
    rw [len_rounds (32 - lenN (a / BB ^ (nd a - 1))) _ _ k (Nat.pos_of_ne_zero ht) htl (by omega) (by omega) (by omega) (by omega), hl]
    congr 1
    omega
theorem cmp_rounds {a b n : Nat} (hn : n ≤ 400000) : ∀ (j k : Nat), j ≤ n → j < k → a / BB ^ j = b / BB ^ j → hairsbreadthref01_Cmp.l0 k (dL a n) (dL b n) ((j : Int) - 1) = some (cmpN a b)
  | 0, k, _, hk, h => by
    obtain ⟨k, rfl⟩ : ∃ m, k = m + 1 := ⟨k - 1, by omega⟩
    simp only [hairsbreadthref01_Cmp.l0]
    rw [if_neg (by omega)]
    rw [Nat.pow_zero, Nat.div_one, Nat.div_one] at h
    subst h
    unfold cmpN
    rw [decide_eq_false (by omega)]
    rfl
  | j + 1, k, hj, hk, h => by
    obtain ⟨k, rfl⟩ : ∃ m, k = m + 1 := ⟨k - 1, by omega⟩
    have e0 : ((j + 1 : Nat) : Int) - 1 = (j : Int) := by omega
    rw [e0]
    simp only [hairsbreadthref01_Cmp.l0, dL_len]
    rw [if_pos (by omega), if_pos (by omega), if_pos (by omega), if_pos (by omega), rd_dL a (by omega) (by omega), rd_dL b (by omega) (by omega), Int.toNat_natCast]
    have ea : a / BB ^ (j + 1) = a / BB ^ j / BB := by rw [Nat.pow_succ, Nat.div_div_eq_div_mul]
    have eb : b / BB ^ (j + 1) = b / BB ^ j / BB := by rw [Nat.pow_succ, Nat.div_div_eq_div_mul]
    rw [ea, eb] at h
    have mono : ∀ x y : Nat, x / BB ^ j < y / BB ^ j → x < y := fun x y hxy => by
      refine Nat.lt_of_not_le fun hle => ?_
      have := Nat.div_le_div_right (c := BB ^ j) hle
      omega
    by_cases h1 : a / BB ^ j % BB < b / BB ^ j % BB
    · rw [if_pos (by omega)]
      have := mono a b (by rw [BBv] at *; omega)
      unfold cmpN
      rw [decide_eq_true this]
      rfl
    · rw [if_neg (by omega)]
      by_cases h2 : b / BB ^ j % BB < a / BB ^ j % BB
      · rw [if_pos (by omega)]
        have := mono b a (by rw [BBv] at *; omega)
        unfold cmpN
        rw [decide_eq_false (by omega), decide_eq_true this]
        rfl
      · rw [if_neg (by omega), wr64 (by omega) (by omega)]
        exact cmp_rounds hn j k (by omega) (by omega) (by rw [BBv] at *; omega)
theorem cmp_own {a b k : Nat} (ha : nd a ≤ 400000) (hb : nd b ≤ 400000) (hk : nd a + 1 < k) : hairsbreadthref01_Cmp.f k (own a) (own b) = some (cmpN a b) := by
  unfold hairsbreadthref01_Cmp.f own
  rw [dL_len, dL_len]
  have less : ∀ x y : Nat, nd x < nd y → x < y := fun x y h => by
    by_cases h0 : y = 0
    · subst h0
      have : nd 0 = 0 := rfl
      omega
    · have h1 := lt_nd x
      have h2 := (nd_pos h0).2
      exact Nat.lt_of_lt_of_le h1 (Nat.le_trans (Nat.pow_le_pow_right (by decide) (by omega)) h2)
  by_cases h : nd a = nd b
  · rw [if_pos (by omega), wr64 (by omega) (by omega), ← h]
    refine cmp_rounds ha (nd a) k (by omega) (by omega) ?_
    rw [Nat.div_eq_of_lt (lt_nd a), Nat.div_eq_of_lt (by rw [h]; exact lt_nd b)]
  · rw [if_neg (by omega)]
    unfold cmpN
    by_cases h1 : nd a < nd b
    · rw [if_pos (by omega), decide_eq_true (less a b h1)]
      rfl
    · have := less b a (by omega)
      rw [if_neg (by omega), decide_eq_false (by omega), decide_eq_true this]
      rfl
end Go.Ev
end

section
namespace Go.Ev
open Go.RowKit Go.Proofs.YtkbfmpomeejadaaGreatDoorW.PrintWords
open Go.Proofs.YtkbfmpomeejadaaGreatDoor.Ra
theorem dig_mod (a : Nat) {i n : Nat} (h : i < n) : a % BB ^ n / BB ^ i % BB = a / BB ^ i % BB := by
  have h1 := dig_add (a % BB ^ n) (a / BB ^ n) h
  have h2 : a % BB ^ n + a / BB ^ n * BB ^ n = a := by rw [Nat.mul_comm, Nat.add_comm]; exact Nat.div_add_mod a _
  rw [h2] at h1
  exact h1.symm
/-- A number with another digit at a place. -/
def setD (Y p v : Nat) : Nat := Y % BB ^ p + v * BB ^ p + Y / BB ^ (p + 1) * BB ^ (p + 1)
theorem dL_set {Y p N v : Nat} (hv : v < BB) : (dL Y N).set p (v : Int) = dL (setD Y p v) N := by
  refine List.ext_getElem? fun j => ?_
  rw [List.getElem?_set]
  have hL := Nat.mod_lt Y (pow_pos' p)
  by_cases hj : j < N
  · rw [dL_get _ hj]
    have e0 : setD Y p v = Y % BB ^ p + (v + Y / BB ^ (p + 1) * BB) * BB ^ p := by
      unfold setD
      rw [Nat.add_mul, Nat.pow_succ BB p, Nat.add_assoc]
      congr 2
      ac_rfl
    by_cases h1 : p = j
    · subst h1
      rw [if_pos rfl, if_pos (by rw [dL_len]; exact hj), dL_get _ hj, e0, Nat.add_mul_div_right _ _ (pow_pos' p), Nat.div_eq_of_lt hL, Nat.zero_add, Nat.add_mul_mod_self_right, Nat.mod_eq_of_lt hv]
    · rw [if_neg h1, dL_get _ hj]
      by_cases h2 : j < p
      · rw [e0, dig_add _ _ h2, dig_mod _ h2]
      · obtain ⟨t, rfl⟩ : ∃ t, j = (p + 1) + t := ⟨j - (p + 1), by omega⟩
        have e1 : setD Y p v / BB ^ (p + 1 + t) = Y / BB ^ (p + 1 + t) := by
          rw [Nat.pow_add, ← Nat.div_div_eq_div_mul, ← Nat.div_div_eq_div_mul]
          congr 1
          unfold setD
          rw [Nat.add_mul_div_right _ _ (pow_pos' _), Nat.div_eq_of_lt, Nat.zero_add]
          rw [Nat.pow_succ, Nat.mul_comm (BB ^ p)]
          calc Y % BB ^ p + v * BB ^ p < BB ^ p + v * BB ^ p := Nat.add_lt_add_right hL _
            _ = (v + 1) * BB ^ p := by rw [Nat.add_mul, Nat.one_mul, Nat.add_comm]
            _ ≤ BB * BB ^ p := Nat.mul_le_mul_right _ hv
        rw [e1]
  · rw [List.getElem?_eq_none (by rw [dL_len]; omega), List.getElem?_eq_none (by rw [dL_len]; omega)]
    split
    · split
      · rename_i h; rw [dL_len] at h; omega
      · rfl
    · rfl
theorem setD_val (Y p v : Nat) : setD Y p v + Y / BB ^ p % BB * BB ^ p = Y + v * BB ^ p := by
  have h1 : Y % BB ^ (p + 1) = Y % BB ^ p + Y / BB ^ p % BB * BB ^ p := mod_grow Y p
  have h2 := Nat.div_add_mod Y (BB ^ (p + 1))
  rw [Nat.mul_comm] at h2
  unfold setD
  omega
theorem carry_id (s : Nat) : s / BB * BB = s - s % BB := by
  show s / 4294967296 * 4294967296 = s - s % 4294967296
  omega
theorem carry_step {Y Z T s y P cxy : Nat} (hs : s = cxy + y) (hval : Z + y * P = Y + s % BB * P) (hY : Y + cxy * P = T) : Z + s / BB * (P * BB) = T := by
  have e3 : s / BB * (P * BB) = (s / BB * BB) * P := by ac_rfl
  have hle : s % BB * P ≤ s * P := Nat.mul_le_mul_right _ (Nat.mod_le _ _)
  have e5 : s * P = cxy * P + y * P := by rw [hs, Nat.add_mul]
  rw [e3, carry_id, Nat.sub_mul]
  omega
theorem mul_inner {a b n m N i X : Nat} {K0 : Nat} {R : List Int} (hn : n ≤ 100000) (hm : m ≤ 100000) (hN : N = n + m + 1) (ha : a < BB ^ n) (hb : b < BB ^ m) (hi : i < n)
    (hX : X = a % BB ^ i * b + a / BB ^ i % BB * b * BB ^ i)
    (hout : ∀ k, K0 < k → hairsbreadthref01_Mul.l0 k (dL a n) (dL b m) (dL X N) (((i + 1 : Nat) : Int)) = some R) :
    ∀ (d j k Y c : Nat), j + d = m + 1 → Y + c * BB ^ (i + j) = a % BB ^ i * b + a / BB ^ i % BB * (b % BB ^ j) * BB ^ i → c < BB → d + K0 + 1 < k →
      hairsbreadthref01_Mul.l1 k (dL a n) (dL b m) (dL Y N) (i : Int) (c : Int) (j : Int) = some R := by
  have hai := dig_lt a i
  have hXlt : X < BB ^ (i + 1 + m) := by
    have h1 : X = a % BB ^ (i + 1) * b := by rw [hX, mod_grow, Nat.add_mul]; congr 1; ac_rfl
    rw [h1, Nat.pow_add BB (i + 1) m]
    have h2 := Nat.mod_lt a (pow_pos' (i + 1))
    calc a % BB ^ (i + 1) * b ≤ a % BB ^ (i + 1) * BB ^ m := Nat.mul_le_mul_left _ (Nat.le_of_lt hb)
      _ < BB ^ (i + 1) * BB ^ m := Nat.mul_lt_mul_of_pos_right h2 (pow_pos' m)
  have stop : ∀ (j k Y c : Nat), m ≤ j → c = 0 → Y + c * BB ^ (i + j) = a % BB ^ i * b + a / BB ^ i % BB * (b % BB ^ j) * BB ^ i → K0 + 1 < k →
      hairsbreadthref01_Mul.l1 k (dL a n) (dL b m) (dL Y N) (i : Int) (c : Int) (j : Int) = some R := by
    intro j k Y c hj hc hY hk
    obtain ⟨k, rfl⟩ : ∃ t, k = t + 1 := ⟨k - 1, by omega⟩
    subst hc
    have hbm : b % BB ^ j = b := Nat.mod_eq_of_lt (Nat.lt_of_lt_of_le hb (Nat.pow_le_pow_right (by decide) hj))
    rw [Nat.zero_mul, Nat.add_zero, hbm, ← hX] at hY
    subst hY
    simp only [hairsbreadthref01_Mul.l1, dL_len]
    rw [if_neg (by omega), if_neg (by omega), wr64 (by omega) (by omega)]
    exact hout k (by omega)
  intro d
  induction d with
  | zero =>
    intro j k Y c hj hY hc hk
    refine stop j k Y c (by omega) ?_ hY (by omega)
    have hbm : b % BB ^ j = b := Nat.mod_eq_of_lt (Nat.lt_of_lt_of_le hb (Nat.pow_le_pow_right (by decide) (by omega)))
    rw [hbm, ← hX] at hY
    have e : i + j = i + 1 + m := by omega
    rw [e] at hY
    refine Nat.eq_zero_of_not_pos fun hpos => ?_
    have := Nat.le_mul_of_pos_left (BB ^ (i + 1 + m)) hpos
    omega
  | succ d ih =>
    intro j k Y c hj hY hc hk
    by_cases hstop : m ≤ j ∧ c = 0
    · exact stop j k Y c hstop.1 hstop.2 hY (by omega)
    · obtain ⟨k, rfl⟩ : ∃ t, k = t + 1 := ⟨k - 1, by omega⟩
      have hbj := dig_lt b j
      have hYd := dig_lt Y (i + j)
      have hcond : (j : Int) < (m : Int) ∨ (¬ (j : Int) < (m : Int) ∧ (c : Int) > 0) := by omega
      have hxy : a / BB ^ i % BB * (b / BB ^ j % BB) ≤ 4294967295 * 4294967295 := Nat.mul_le_mul (by omega) (by omega)
      have hval := setD_val Y (i + j) ((c + a / BB ^ i % BB * (b / BB ^ j % BB) + Y / BB ^ (i + j) % BB) % BB)
      have hnext := ih (j + 1) k (setD Y (i + j) ((c + a / BB ^ i % BB * (b / BB ^ j % BB) + Y / BB ^ (i + j) % BB) % BB)) ((c + a / BB ^ i % BB * (b / BB ^ j % BB) + Y / BB ^ (i + j) % BB) / BB) (by omega)
        (by
          rw [mod_grow b j, Nat.mul_add, Nat.add_mul]
          have e1 : i + (j + 1) = i + j + 1 := by omega
          have e2 : a / BB ^ i % BB * (b / BB ^ j % BB * BB ^ j) * BB ^ i = a / BB ^ i % BB * (b / BB ^ j % BB) * BB ^ (i + j) := by rw [Nat.pow_add]; ac_rfl
          rw [e1, e2, Nat.pow_succ]
          refine carry_step (Y := Y) (cxy := c + a / BB ^ i % BB * (b / BB ^ j % BB)) rfl hval ?_
          rw [Nat.add_mul, ← Nat.add_assoc, hY, Nat.add_assoc])
        (by
          have h5 : c < 4294967296 := hc
          have h6 : c + a / BB ^ i % BB * (b / BB ^ j % BB) + Y / BB ^ (i + j) % BB < 4294967296 * 4294967296 := by omega
          exact (Nat.div_lt_iff_lt_mul (by decide)).2 h6)
        (by omega)
      rw [← dL_set (Nat.mod_lt _ (by decide))] at hnext
      have hc5 : c < 4294967296 := hc
      simp only [hairsbreadthref01_Mul.l1, dL_len]
      have e3 : (j : Int) + 1 = ((j + 1 : Nat) : Int) := by omega
      have e4 : (i : Int) + (j : Int) = ((i + j : Nat) : Int) := by omega
      have body : ∀ t : Int, t = ((b / BB ^ j % BB : Nat) : Int) → hairsbreadthref01_Mul.l1 k (dL a n) (dL b m)
          ((dL Y N).set ((((i + j : Nat) : Int)).toNat) ((IntKind.u64.wrap ((IntKind.u64.wrap ((c : Int) + (IntKind.u64.wrap ((IntKind.u64.wrap (((a / BB ^ i % BB : Nat) : Int))) * (IntKind.u64.wrap t))))) + (IntKind.u64.wrap ((Y / BB ^ (i + j) % BB : Nat) : Int)))) % 4294967296)) (i : Int)
          ((IntKind.u64.wrap ((IntKind.u64.wrap ((c : Int) + (IntKind.u64.wrap ((IntKind.u64.wrap (((a / BB ^ i % BB : Nat) : Int))) * (IntKind.u64.wrap t))))) + (IntKind.u64.wrap ((Y / BB ^ (i + j) % BB : Nat) : Int)))) / 4294967296) ((j + 1 : Nat) : Int) = some R := by
        rintro t rfl
        generalize a / BB ^ i % BB = x at *
        generalize b / BB ^ j % BB = y at *
        generalize Y / BB ^ (i + j) % BB = z at *
        have e5 : (x : Int) * (y : Int) = ((x * y : Nat) : Int) := by simp
        rw [u64n (n := (x : Int)) (by omega) (by omega), u64n (n := (y : Int)) (by omega) (by omega), u64n (n := (z : Int)) (by omega) (by omega), e5]
        generalize x * y = xy at *
        rw [u64n (n := (xy : Int)) (by omega) (by omega), u64n (n := (c : Int) + xy) (by omega) (by omega), u64n (n := (c : Int) + xy + z) (by omega) (by omega), Int.toNat_natCast]
        have e6 : ((c : Int) + xy + z) % 4294967296 = (((c + xy + z) % BB : Nat) : Int) := by rw [BBv]; omega
        have e7 : ((c : Int) + xy + z) / 4294967296 = (((c + xy + z) / BB : Nat) : Int) := by rw [BBv]; omega
        rw [e6, e7]
        exact hnext
      rcases hcond with h1 | ⟨h1, h2⟩
      · rw [if_pos h1, if_pos (by omega), if_pos (by omega), digit_dL hb (by omega), Option.bind_some, e4, wr64 (n := ((i + j : Nat) : Int)) (by omega) (by omega), if_pos (by omega), if_pos (by omega), rd_dL a (by omega) (by omega), rd_dL Y (by omega) (by omega), e3, wr64 (n := ((j + 1 : Nat) : Int)) (by omega) (by omega), Int.toNat_natCast]
        exact body _ rfl
      · rw [if_neg h1, if_pos h2, if_pos (by omega), if_pos (by omega), digit_dL hb (by omega), Option.bind_some, e4, wr64 (n := ((i + j : Nat) : Int)) (by omega) (by omega), if_pos (by omega), if_pos (by omega), rd_dL a (by omega) (by omega), rd_dL Y (by omega) (by omega), e3, wr64 (n := ((j + 1 : Nat) : Int)) (by omega) (by omega), Int.toNat_natCast]
        exact body _ rfl
theorem mul_rounds {a b n m N : Nat} (hn : n ≤ 100000) (hm : m ≤ 100000) (hN : N = n + m + 1) (ha : a < BB ^ n) (hb : b < BB ^ m) : ∀ (d i k : Nat), n - i = d → i ≤ n → d * (m + 4) + N + 10 < k →
    hairsbreadthref01_Mul.l0 k (dL a n) (dL b m) (dL (a % BB ^ i * b) N) (i : Int) = some (own (a * b)) := by
  intro d
  induction d with
  | zero =>
    intro i k hd hi hk
    obtain ⟨k, rfl⟩ : ∃ t, k = t + 1 := ⟨k - 1, by omega⟩
    have e : i = n := by omega
    subst e
    simp only [hairsbreadthref01_Mul.l0, dL_len]
    rw [if_neg (by omega), Nat.mod_eq_of_lt ha]
    have hlt : a * b < BB ^ N := by
      rw [hN, Nat.pow_succ, Nat.pow_add]
      calc a * b ≤ a * BB ^ m := Nat.mul_le_mul_left _ (Nat.le_of_lt hb)
        _ < BB ^ i * BB ^ m := Nat.mul_lt_mul_of_pos_right ha (pow_pos' m)
        _ ≤ BB ^ i * BB ^ m * BB := Nat.le_mul_of_pos_right _ (by decide)
    rw [trim_own hlt (by omega) (by omega)]
    rfl
  | succ d ih =>
    intro i k hd hi hk
    obtain ⟨k, rfl⟩ : ∃ t, k = t + 1 := ⟨k - 1, by omega⟩
    have e1 : (d + 1) * (m + 4) = d * (m + 4) + m + 4 := by rw [Nat.add_mul]; omega
    rw [e1] at hk
    simp only [hairsbreadthref01_Mul.l0, dL_len]
    rw [if_pos (by omega)]
    have hX : a % BB ^ (i + 1) * b = a % BB ^ i * b + a / BB ^ i % BB * b * BB ^ i := by rw [mod_grow, Nat.add_mul]; congr 1; ac_rfl
    refine mul_inner (X := a % BB ^ (i + 1) * b) (K0 := d * (m + 4) + N + 10) hn hm hN ha hb (by omega) hX (fun k hk => ih (i + 1) k (by omega) (by omega) hk) (m + 1) 0 k _ 0 (by omega) ?_ (by decide) (by omega)
    rw [Nat.pow_zero, Nat.mod_one, Nat.mul_zero, Nat.zero_mul, Nat.zero_mul]
theorem mul_own {a b k : Nat} (ha : nd a ≤ 100000) (hb : nd b ≤ 100000) (hk : nd a * (nd b + 4) + nd a + nd b + 20 < k) : hairsbreadthref01_Mul.f k (own a) (own b) = some (own (a * b)) := by
  unfold hairsbreadthref01_Mul.f own
  rw [dL_len, dL_len]
  have e : wrap64 (wrap64 ((nd a : Int) + (nd b : Int)) + 1) = ((nd a + nd b + 1 : Nat) : Int) := by rw [wr64 (n := (nd a : Int) + (nd b : Int)) (by omega) (by omega), wr64 (by omega) (by omega)]; omega
  rw [e, if_pos (by omega), Int.toNat_natCast, if_pos (by omega)]
  have h := mul_rounds (N := nd a + nd b + 1) ha hb rfl (lt_nd a) (lt_nd b) (nd a) 0 k (by omega) (by omega) (by omega)
  rw [Nat.pow_zero, Nat.mod_one, Nat.zero_mul, dL_zero] at h
  exact h
end Go.Ev
end
