/- Part 37 of 46 of what the theorem stands on. -/
import Derived.Test.YtkbfmpomeejadaaGreatDoorRembj
import Derived.Test.YtkbfmpomeejadaaGreatDoorRembb
import Derived.Laws.Bits64b

section
namespace Go.Ev
open Go.RowKit Go.Proofs.YtkbfmpomeejadaaGreatDoorW.PrintWords
open Go.Proofs.YtkbfmpomeejadaaGreatDoor.Ra
/-- The base. -/
abbrev BB : Nat := 4294967296
/-- So many digits of a number, the lowest first. -/
def dL (a : Nat) : Nat → List Int
  | 0 => []
  | n + 1 => dL a n ++ [((a / BB ^ n % BB : Nat) : Int)]
theorem dL_len (a : Nat) : ∀ n, (dL a n).length = n
  | 0 => rfl
  | n + 1 => by simp [dL, dL_len a n]
theorem dL_get (a : Nat) : ∀ {n i : Nat}, i < n → (dL a n)[i]? = some ((a / BB ^ i % BB : Nat) : Int)
  | 0, i, h => by omega
  | n + 1, i, h => by
    by_cases hi : i < n
    · simp only [dL]
      rw [List.getElem?_append_left (by rw [dL_len]; exact hi), dL_get a hi]
    · have : i = n := by omega
      subst this
      simp only [dL]
      rw [List.getElem?_append_right (by rw [dL_len]; exact Nat.le_refl _), dL_len, Nat.sub_self]
      rfl
theorem dL_congr {a b : Nat} : ∀ {n : Nat}, (∀ i, i < n → a / BB ^ i % BB = b / BB ^ i % BB) → dL a n = dL b n
  | 0, _ => rfl
  | n + 1, h => by
    simp only [dL]
    rw [dL_congr fun i hi => h i (by omega), h n (by omega)]
theorem pow_pos' (n : Nat) : 0 < BB ^ n := Nat.pow_pos (by decide)
/-- Digits below a place are those of the rest. -/
theorem dig_add (a c : Nat) {i n : Nat} (h : i < n) : (a + c * BB ^ n) / BB ^ i % BB = a / BB ^ i % BB := by
  obtain ⟨k, rfl⟩ : ∃ k, n = i + (k + 1) := ⟨n - i - 1, by omega⟩
  have e : c * BB ^ (i + (k + 1)) = BB ^ i * (BB * (c * BB ^ k)) := by
    rw [Nat.pow_add, Nat.pow_succ]
    ac_rfl
  rw [e, Nat.add_mul_div_left _ _ (pow_pos' i), Nat.add_mul_mod_self_left]
theorem dL_add (a c n : Nat) : dL (a + c * BB ^ n) n = dL a n := dL_congr fun _ hi => dig_add a c hi
theorem dL_take (a : Nat) {n m : Nat} (h : m ≤ n) : (dL a n).take m = dL a m := by
  refine List.ext_getElem? fun i => ?_
  rw [List.getElem?_take]
  by_cases hi : i < m
  · rw [if_pos hi, dL_get a (by omega), dL_get a hi]
  · rw [if_neg hi, List.getElem?_eq_none (by rw [dL_len]; omega)]
theorem rd_dL (a : Nat) {n : Nat} {i : Int} (h0 : 0 ≤ i) (h1 : i < n) : rd (dL a n) i = ((a / BB ^ i.toNat % BB : Nat) : Int) := by
  unfold rd
  rw [List.getD_eq_getElem?_getD, dL_get a (by omega)]
  rfl
/-- How many digits a number has. -/
theorem nd_le {a n : Nat} (h : a < BB ^ n) : nd a ≤ n := by
  unfold nd
  by_cases h0 : a = 0
  · subst h0; exact Nat.zero_le _
  · have hb : Nat.beq a 0 = false := by cases hb : Nat.beq a 0 with | false => rfl | true => exact absurd (Nat.eq_of_beq_eq_true hb) h0
    rw [hb]
    simp only [cond_false]
    have h1 := Nat.log2_self_le h0
    have h2 : 2 ^ a.log2 < 2 ^ (32 * n) := by
      have : BB ^ n = 2 ^ (32 * n) := by rw [Nat.pow_mul]
      rw [← this]
      exact Nat.lt_of_le_of_lt h1 h
    have := (Nat.pow_lt_pow_iff_right (by decide : 1 < 2)).1 h2
    omega
theorem lt_nd (a : Nat) : a < BB ^ nd a := by
  unfold nd
  by_cases h0 : a = 0
  · subst h0; decide
  · have hb : Nat.beq a 0 = false := by cases hb : Nat.beq a 0 with | false => rfl | true => exact absurd (Nat.eq_of_beq_eq_true hb) h0
    rw [hb]
    simp only [cond_false]
    have h1 : a < 2 ^ (a.log2 + 1) := Nat.lt_log2_self
    have h2 : BB ^ (a.log2 / 32 + 1) = 2 ^ (32 * (a.log2 / 32 + 1)) := by rw [Nat.pow_mul]
    rw [h2]
    exact Nat.lt_of_lt_of_le h1 (Nat.pow_le_pow_right (by decide) (by omega))
theorem nd_eq {a n : Nat} (h : a < BB ^ (n + 1)) (h2 : BB ^ n ≤ a) : nd a = n + 1 := by
  have h3 := nd_le h
  have h4 := lt_nd a
  have h5 : BB ^ n < BB ^ nd a := Nat.lt_of_le_of_lt h2 h4
  have := (Nat.pow_lt_pow_iff_right (by decide : 1 < BB)).1 h5
  omega
theorem dig_top {a n : Nat} (h : a < BB ^ (n + 1)) : a / BB ^ n % BB = a / BB ^ n := by
  refine Nat.mod_eq_of_lt ?_
  rw [Nat.div_lt_iff_lt_mul (pow_pos' n), Nat.mul_comm, ← Nat.pow_succ]
  exact h
theorem wr64 {n : Int} (h0 : -9223372036854775808 ≤ n) (h1 : n < 9223372036854775808) : wrap64 n = n := by unfold wrap64; omega
theorem digit_dL {a n : Nat} (h : a < BB ^ n) {i : Int} (h0 : 0 ≤ i) : hairsbreadthref01_digit.f (dL a n) i = some ((a / BB ^ i.toNat % BB : Nat) : Int) := by
  unfold hairsbreadthref01_digit.f
  rw [dL_len]
  by_cases h1 : i < (n : Int)
  · rw [if_pos h1, if_pos h0, rd_dL a h0 h1]
  · rw [if_neg h1]
    have : a / BB ^ i.toNat = 0 := Nat.div_eq_of_lt (Nat.lt_of_lt_of_le h (Nat.pow_le_pow_right (by decide) (by omega)))
    rw [this]
    rfl
theorem trim_dL : ∀ (n a k : Nat), n ≤ 1000000 → n < k → hairsbreadthref01_Trim.f k (dL a n) = some (dL a (nd (a % BB ^ n)))
  | 0, a, k, _, hk => by
    obtain ⟨k, rfl⟩ : ∃ m, k = m + 1 := ⟨k - 1, by omega⟩
    unfold hairsbreadthref01_Trim.f
    have hlen : ((dL a 0).length : Int) = 0 := rfl
    simp only [hairsbreadthref01_Trim.l0]
    rw [hlen, if_neg (by omega)]
    have : a % BB ^ 0 = 0 := by rw [Nat.pow_zero, Nat.mod_one]
    rw [this]
    rfl
  | n + 1, a, k, hn, hk => by
    obtain ⟨k, rfl⟩ : ∃ m, k = m + 1 := ⟨k - 1, by omega⟩
    have ih := trim_dL n a k (by omega) (by omega)
    unfold hairsbreadthref01_Trim.f at ih ⊢
    have hlen : ((dL a (n + 1)).length : Int) = (n : Int) + 1 := by rw [dL_len]; omega
    simp only [hairsbreadthref01_Trim.l0]
    rw [hlen, wr64 (by omega) (by omega), if_pos (by omega), if_pos (by omega), if_pos (by omega), rd_dL a (by omega) (by omega)]
    have e1 : ((n : Int) + 1 - 1).toNat = n := by omega
    rw [e1, dL_take a (by omega)]
    have hm : a % BB ^ (n + 1) = a % BB ^ n + BB ^ n * (a / BB ^ n % BB) := by rw [Nat.pow_succ, Nat.mod_mul]
    have hr := Nat.mod_lt a (pow_pos' n)
    by_cases h0 : a / BB ^ n % BB = 0
    · rw [if_pos (by rw [h0]; rfl), if_pos (by omega), ih, hm, h0, Nat.mul_zero, Nat.add_zero]
    · rw [if_neg (by omega)]
      have h1 : nd (a % BB ^ (n + 1)) = n + 1 := by
        refine nd_eq (Nat.mod_lt _ (pow_pos' _)) ?_
        rw [hm]
        have : BB ^ n ≤ BB ^ n * (a / BB ^ n % BB) := Nat.le_mul_of_pos_right _ (by omega)
        exact Nat.le_trans this (Nat.le_add_left _ _)
      rw [h1]
/-- A number's own digits. -/
def own (a : Nat) : List Int := dL a (nd a)
theorem trim_own {n a k : Nat} (h : a < BB ^ n) (hn : n ≤ 1000000) (hk : n < k) : hairsbreadthref01_Trim.f k (dL a n) = some (own a) := by
  rw [trim_dL n a k hn hk, Nat.mod_eq_of_lt h]
  rfl
theorem of_own {k v : Nat} (h : v < 18446744073709551616) (hk : 2 < k) : hairsbreadthref01_Of.f k (v : Int) = some (own v) := by
  unfold hairsbreadthref01_Of.f
  have e : ([(v : Int) % 4294967296, ((v : Int) / 4294967296) % 4294967296] : List Int) = dL v 2 := by
    simp only [dL, List.nil_append, Nat.pow_zero, Nat.pow_one, Nat.div_one, List.cons_append]
    rfl
  rw [e, trim_own (n := 2) (by omega) (by omega) hk]
  rfl
theorem big_own {k a : Nat} (h : a < 2 ^ 128) (hk : 4 < k) : hairsbreadthref01_Big.f k (hiW a) (loW a) = some (own a) := by
  unfold hairsbreadthref01_Big.f
  have e : ([(loW a) % 4294967296, (loW a / 4294967296) % 4294967296, (hiW a) % 4294967296, (hiW a / 4294967296) % 4294967296] : List Int) = dL a 4 := by
    rw [hiW_eq, loW_eq]
    simp only [dL, List.nil_append, List.cons_append, Nat.pow_zero, Nat.pow_one, Nat.div_one]
    have e2 : BB ^ 2 = 18446744073709551616 := by decide
    have e3 : BB ^ 3 = 79228162514264337593543950336 := by decide
    have e1 : BB = 4294967296 := rfl
    rw [e2, e3, e1]
    congr 1
    · omega
    · congr 1
      · omega
      · congr 1
        · omega
        · congr 1
          omega
  rw [e, trim_own (n := 4) (by rw [p128] at h; exact h) (by omega) hk]
  rfl
end Go.Ev
end

section
namespace Go.Ev
open Go.RowKit Go.Proofs.YtkbfmpomeejadaaGreatDoorW.PrintWords
open Go.Proofs.YtkbfmpomeejadaaGreatDoor.Ra
theorem BBv : BB = 4294967296 := rfl
theorem dig_lt (a i : Nat) : a / BB ^ i % BB < 4294967296 := Nat.mod_lt _ (by decide)
/-- One more digit of a sum that has grown by so much at a place. -/
theorem dL_grow (X d : Nat) (m : Nat) : dL (X + d * BB ^ m) (m + 1) = dL X m ++ [(((X / BB ^ m + d) % BB : Nat) : Int)] := by
  simp only [dL]
  rw [dL_add, Nat.add_mul_div_right _ _ (pow_pos' m)]
theorem grow_carry (X d m : Nat) : (X + d * BB ^ m) / BB ^ (m + 1) = (X / BB ^ m + d) / BB := by
  rw [Nat.pow_succ, ← Nat.div_div_eq_div_mul, Nat.add_mul_div_right _ _ (pow_pos' m)]
theorem mod_grow (a i : Nat) : a % BB ^ (i + 1) = a % BB ^ i + a / BB ^ i % BB * BB ^ i := by
  rw [Nat.pow_succ, Nat.mod_mul, Nat.mul_comm (BB ^ i)]
theorem u64n {n : Int} (h0 : 0 ≤ n) (h1 : n < 18446744073709551616) : IntKind.u64.wrap n = n := u64s n h0 h1
theorem add_rounds {a b n m : Nat} (ha : a < BB ^ n) (hb : b < BB ^ m) (hn : n ≤ 500000) (hm : m ≤ 500000) : ∀ (d i k : Nat), max n m - i = d → i ≤ max n m → 2 * d + max n m + 10 < k →
    hairsbreadthref01_Add.l0 k (dL a n) (dL b m) (dL (a % BB ^ i + b % BB ^ i) i) (((a % BB ^ i + b % BB ^ i) / BB ^ i : Nat) : Int) (i : Int) = some (own (a + b)) := by
  intro d
  induction d with
  | zero =>
    intro i k hd hi hk
    obtain ⟨k, rfl⟩ : ∃ j, k = j + 2 := ⟨k - 2, by omega⟩
    have e : i = max n m := by omega
    have ea : a % BB ^ i = a := Nat.mod_eq_of_lt (Nat.lt_of_lt_of_le ha (Nat.pow_le_pow_right (by decide) (by omega)))
    have eb : b % BB ^ i = b := Nat.mod_eq_of_lt (Nat.lt_of_lt_of_le hb (Nat.pow_le_pow_right (by decide) (by omega)))
    have hlt : a + b < BB ^ (i + 1) := by
      rw [Nat.pow_succ]
      have h1 : a < BB ^ i := by rw [← ea]; exact Nat.mod_lt _ (pow_pos' i)
      have h2 : b < BB ^ i := by rw [← eb]; exact Nat.mod_lt _ (pow_pos' i)
      rw [BBv] at h1 h2 ⊢
      omega
    rw [ea, eb]
    simp only [hairsbreadthref01_Add.l0, hairsbreadthref01_Add.j1]
    simp only [dL_len]
    rw [if_neg (by omega), decide_eq_false (by omega), if_neg (by decide), if_pos (by omega)]
    have e2 : dL (a + b) i ++ [(((a + b) / BB ^ i : Nat) : Int) % 4294967296] = dL (a + b) (i + 1) := by
      simp only [dL]
      congr 2
    rw [e2, trim_own hlt (by omega) (by omega)]
    rfl
  | succ d ih =>
    intro i k hd hi hk
    obtain ⟨k, rfl⟩ : ∃ j, k = j + 2 := ⟨k - 2, by omega⟩
    have ih := ih (i + 1) k (by omega) (by omega) (by omega)
    have hda := dig_lt a i
    have hdb := dig_lt b i
    have hc : (a % BB ^ i + b % BB ^ i) / BB ^ i ≤ 1 := by
      have h1 := Nat.mod_lt a (pow_pos' i)
      have h2 := Nat.mod_lt b (pow_pos' i)
      have : (a % BB ^ i + b % BB ^ i) / BB ^ i < 2 := by
        rw [Nat.div_lt_iff_lt_mul (pow_pos' i)]
        omega
      omega
    have step : hairsbreadthref01_Add.j1 (k + 1) (dL a n) (dL b m) (dL (a % BB ^ i + b % BB ^ i) i) (((a % BB ^ i + b % BB ^ i) / BB ^ i : Nat) : Int) (i : Int) true = some (own (a + b)) := by
      simp only [hairsbreadthref01_Add.j1, if_true]
      rw [digit_dL ha (by omega), digit_dL hb (by omega), Option.bind_some, Option.bind_some, dL_len, if_pos (by omega), Int.toNat_natCast]
      have hX : a % BB ^ (i + 1) + b % BB ^ (i + 1) = (a % BB ^ i + b % BB ^ i) + (a / BB ^ i % BB + b / BB ^ i % BB) * BB ^ i := by
        rw [mod_grow, mod_grow, Nat.add_mul]
        omega
      rw [hX, dL_grow, grow_carry] at ih
      generalize (a % BB ^ i + b % BB ^ i) / BB ^ i = c at *
      generalize a / BB ^ i % BB = x at *
      generalize b / BB ^ i % BB = y at *
      rw [u64n (n := (x : Int)) (by omega) (by omega), u64n (n := (y : Int)) (by omega) (by omega), u64n (n := (c : Int) + x) (by omega) (by omega), u64n (by omega) (by omega), wr64 (by omega) (by omega)]
      have e1 : ((c : Int) + x + y) % 4294967296 = (((c + (x + y)) % BB : Nat) : Int) := by rw [BBv]; omega
      have e2 : ((c : Int) + x + y) / 4294967296 = (((c + (x + y)) / BB : Nat) : Int) := by rw [BBv]; omega
      have e3 : (i : Int) + 1 = ((i + 1 : Nat) : Int) := by omega
      rw [e1, e2, e3]
      exact ih
    rw [hairsbreadthref01_Add.l0]
    simp only [dL_len]
    by_cases h1 : (i : Int) < (n : Int)
    · rw [if_pos h1]
      exact step
    · rw [if_neg h1, decide_eq_true (by omega : (i : Int) < (m : Int))]
      exact step
theorem add_own {a b k : Nat} (ha : nd a ≤ 500000) (hb : nd b ≤ 500000) (hk : 3 * max (nd a) (nd b) + 10 < k) : hairsbreadthref01_Add.f k (own a) (own b) = some (own (a + b)) := by
  unfold hairsbreadthref01_Add.f
  have := add_rounds (lt_nd a) (lt_nd b) ha hb (max (nd a) (nd b)) 0 k (by omega) (by omega) (by omega)
  rw [Nat.pow_zero, Nat.mod_one, Nat.mod_one] at this
  exact this
theorem sub_c {p q P : Nat} (hp : p < P) : (p + P - q) / P ≤ 1 := by
  refine Nat.le_of_lt_succ ?_
  rw [Nat.div_lt_iff_lt_mul (by omega)]
  omega
theorem sub_step {p q P x y : Nat} (hq : q < P) (hy : y ≤ 4294967295) : p + x * P + P * 4294967296 - (q + y * P) = (p + P - q) + (x + 4294967295 - y) * P := by
  obtain ⟨z, hz⟩ : ∃ z, x + 4294967295 = z + y := ⟨x + 4294967295 - y, by omega⟩
  have e1 : x + 4294967295 - y = z := by omega
  have e2 : (x + 4294967295) * P = (z + y) * P := by rw [hz]
  rw [Nat.add_mul, Nat.add_mul] at e2
  rw [e1]
  omega
theorem sub_rounds {a b n m : Nat} (hab : b ≤ a) (ha : a < BB ^ n) (hb : b < BB ^ m) (hn : n ≤ 500000) : ∀ (d i k : Nat), n - i = d → i ≤ n → d + n + 10 < k →
    hairsbreadthref01_Sub.l0 k (dL a n) (dL b m) (dL (a % BB ^ i + BB ^ i - b % BB ^ i) i) (1 - (((a % BB ^ i + BB ^ i - b % BB ^ i) / BB ^ i : Nat) : Int)) (i : Int) = some (own (a - b)) := by
  intro d
  induction d with
  | zero =>
    intro i k hd hi hk
    obtain ⟨k, rfl⟩ : ∃ j, k = j + 1 := ⟨k - 1, by omega⟩
    have e : i = n := by omega
    subst e
    have ea : a % BB ^ i = a := Nat.mod_eq_of_lt ha
    have eb : b % BB ^ i = b := Nat.mod_eq_of_lt (Nat.lt_of_le_of_lt hab ha)
    rw [ea, eb]
    simp only [hairsbreadthref01_Sub.l0]
    rw [dL_len, if_neg (by omega)]
    have e2 : a + BB ^ i - b = (a - b) + 1 * BB ^ i := by omega
    rw [e2, dL_add, trim_own (by omega) (by omega) (by omega)]
    rfl
  | succ d ih =>
    intro i k hd hi hk
    obtain ⟨k, rfl⟩ : ∃ j, k = j + 1 := ⟨k - 1, by omega⟩
    have ih := ih (i + 1) k (by omega) (by omega) (by omega)
    have hda := dig_lt a i
    have hdb := dig_lt b i
    have h1 := Nat.mod_lt a (pow_pos' i)
    have h2 := Nat.mod_lt b (pow_pos' i)
    have hc : (a % BB ^ i + BB ^ i - b % BB ^ i) / BB ^ i ≤ 1 := sub_c h1
    simp only [hairsbreadthref01_Sub.l0]
    rw [dL_len, if_pos (by omega), digit_dL ha (by omega), digit_dL hb (by omega), Option.bind_some, Option.bind_some, dL_len, if_pos (by omega), Int.toNat_natCast]
    have hX : a % BB ^ (i + 1) + BB ^ (i + 1) - b % BB ^ (i + 1) = (a % BB ^ i + BB ^ i - b % BB ^ i) + (a / BB ^ i % BB + 4294967295 - b / BB ^ i % BB) * BB ^ i := by
      rw [mod_grow a, mod_grow b, Nat.pow_succ]
      exact sub_step h2 (by omega)
    rw [hX, dL_grow, grow_carry] at ih
    generalize (a % BB ^ i + BB ^ i - b % BB ^ i) / BB ^ i = c at *
    generalize a / BB ^ i % BB = x at *
    generalize b / BB ^ i % BB = y at *
    rw [u64n (n := (x : Int)) (by omega) (by omega), u64n (n := (y : Int)) (by omega) (by omega), u64n (n := (x : Int) + 4294967296) (by omega) (by omega), u64n (n := (x : Int) + 4294967296 - y) (by omega) (by omega), u64n (n := (x : Int) + 4294967296 - y - (1 - c)) (by omega) (by omega),
      u64n (n := 1 - ((x : Int) + 4294967296 - y - (1 - c)) / 4294967296) (by omega) (by omega), wr64 (by omega) (by omega)]
    have e1 : ((x : Int) + 4294967296 - y - (1 - c)) % 4294967296 = (((c + (x + 4294967295 - y)) % BB : Nat) : Int) := by rw [BBv]; omega
    have e2 : ((x : Int) + 4294967296 - y - (1 - c)) / 4294967296 = (((c + (x + 4294967295 - y)) / BB : Nat) : Int) := by rw [BBv]; omega
    have e3 : (i : Int) + 1 = ((i + 1 : Nat) : Int) := by omega
    rw [e1, e2, e3]
    exact ih
theorem sub_own {a b k : Nat} (hab : b ≤ a) (ha : nd a ≤ 500000) (hk : 2 * nd a + 10 < k) : hairsbreadthref01_Sub.f k (own a) (own b) = some (own (a - b)) := by
  unfold hairsbreadthref01_Sub.f
  have := sub_rounds hab (lt_nd a) (lt_nd b) ha (nd a) 0 k (by omega) (by omega) (by omega)
  rw [Nat.pow_zero, Nat.mod_one, Nat.mod_one] at this
  exact this
end Go.Ev
end
