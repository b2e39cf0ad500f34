/- Part 39 of 46 of what the theorem stands on. -/
import Derived.Test.YtkbfmpomeejadaaGreatDoorRembl

section
namespace Go.Ev
open Go.RowKit Go.Proofs.YtkbfmpomeejadaaGreatDoorW.PrintWords
open Go.Proofs.YtkbfmpomeejadaaGreatDoor.Ra
theorem nd_mono {a b : Nat} (h : a ≤ b) : nd a ≤ nd b := nd_le (Nat.lt_of_le_of_lt h (lt_nd b))
theorem nd_twice {a b : Nat} (h : a ≤ 2 * b + 1) : nd a ≤ nd b + 1 := by
  refine nd_le ?_
  have := lt_nd b
  rw [Nat.pow_succ]
  rw [BBv] at *
  omega
theorem bit_own {a : Nat} {i : Nat} (hi : i ≤ 100000000) : hairsbreadthref01_Bit.f (own a) (i : Int) = some (decide (a / 2 ^ i % 2 = 1)) := by
  unfold hairsbreadthref01_Bit.f own
  have hdiv : Int.tdiv (i : Int) 32 = ((i / 32 : Nat) : Int) := by rw [Int.tdiv_eq_ediv_of_nonneg (by omega)]; omega
  have hmod : Int.tmod (i : Int) 32 = ((i % 32 : Nat) : Int) := by rw [Int.tmod_eq_emod_of_nonneg (by omega)]; omega
  have hr : i % 32 < 32 := Nat.mod_lt _ (by decide)
  rw [if_pos (by omega), hdiv, hmod, wr64 (by omega) (by omega), digit_dL (lt_nd a) (by omega), Option.bind_some, if_pos (by omega), Int.toNat_natCast]
  have hd := dig_lt a (i / 32)
  have e1 : a / 2 ^ i = a / BB ^ (i / 32) / 2 ^ (i % 32) := by
    rw [Nat.div_div_eq_div_mul, ← two_pow_split]
    congr 2
    omega
  have e2 : a / BB ^ (i / 32) % BB / 2 ^ (i % 32) % 2 = a / BB ^ (i / 32) / 2 ^ (i % 32) % 2 := by
    have h32 : BB = 2 ^ (i % 32) * 2 ^ (32 - i % 32) := by
      rw [← Nat.pow_add, show i % 32 + (32 - i % 32) = 32 by omega]
    rw [h32, Nat.mod_mul_right_div_self]
    exact Nat.mod_mod_of_dvd _ (by
      rw [show 32 - i % 32 = (31 - i % 32) + 1 by omega, Nat.pow_succ]
      exact Nat.dvd_mul_left _ _)
  rw [e1, ← e2]
  generalize a / BB ^ (i / 32) % BB = x at *
  have hs : Go.Proofs.YtkbfmpomeejadaaGreatDoorW.PrintWords.shr .u32 (x : Int) ((i % 32 : Nat) : Int) = ((x / 2 ^ (i % 32) : Nat) : Int) := by
    unfold Go.Proofs.YtkbfmpomeejadaaGreatDoorW.PrintWords.shr
    have : min (((i % 32 : Nat) : Int)).toNat IntKind.u32.bits = i % 32 := by simp [IntKind.bits]; omega
    have h2 : (2 : Int) ^ (i % 32) = ((2 ^ (i % 32) : Nat) : Int) := by simp
    rw [this, h2]
    rfl
  rw [hs]
  have hx : x / 2 ^ (i % 32) ≤ x := Nat.div_le_self _ _
  generalize x / 2 ^ (i % 32) = y at *
  have hb : Go.bits .and .u32 (y : Int) 1 = ((y % 2 : Nat) : Int) := by
    unfold Go.bits
    show IntKind.u32.wrap ((BitVec.ofInt 32 (y : Int) &&& BitVec.ofInt 32 1).toNat : Int) = _
    rw [BitVec.toNat_and]
    have e1 : (BitVec.ofInt 32 1).toNat = 2 ^ 1 - 1 := by decide
    rw [e1, Nat.and_two_pow_sub_one_eq_mod, BitVec.toNat_ofInt, IntKind.wrap_u32]
    omega
  rw [hb]
  congr 1
  by_cases h : y % 2 = 1
  · rw [h]; rfl
  · have : y % 2 = 0 := by omega
    rw [this]; rfl
theorem div_next (A d b : Nat) (hd : 0 < d) (hb : b ≤ 1) : (2 * A + b) / d = 2 * (A / d) + (if d ≤ 2 * (A % d) + b then 1 else 0) ∧ (2 * A + b) % d = if d ≤ 2 * (A % d) + b then 2 * (A % d) + b - d else 2 * (A % d) + b := by
  have h1 := Nat.div_add_mod A d
  have h2 := Nat.mod_lt A hd
  have e : 2 * A + b = (2 * (A % d) + b) + d * (2 * (A / d)) := by
    have : d * (2 * (A / d)) = 2 * (d * (A / d)) := by ac_rfl
    omega
  rw [e, Nat.add_mul_div_left _ _ hd, Nat.add_mul_mod_self_left]
  by_cases h : d ≤ 2 * (A % d) + b
  · rw [if_pos h, if_pos h]
    have h3 : (2 * (A % d) + b) / d = 1 := by
      refine Nat.div_eq_of_lt_le ?_ ?_ <;> omega
    have h4 : (2 * (A % d) + b) % d = 2 * (A % d) + b - d := by
      rw [Nat.mod_eq_sub_mod h, Nat.mod_eq_of_lt (by omega)]
    rw [h3, h4]
    exact ⟨by omega, rfl⟩
  · rw [if_neg h, if_neg h, Nat.div_eq_of_lt (by omega), Nat.mod_eq_of_lt (by omega)]
    exact ⟨by omega, rfl⟩
theorem half_next (a i : Nat) : a / 2 ^ i = 2 * (a / 2 ^ (i + 1)) + a / 2 ^ i % 2 := by
  rw [Nat.pow_succ, ← Nat.div_div_eq_div_mul]
  omega
theorem set_bit {Q i n : Nat} (h : Q % 2 ^ (i + 1) = 0) (hi : i / 32 < n) :
    (dL Q n).set (i / 32) (Go.bits .or .u32 (rd (dL Q n) ((i / 32 : Nat) : Int)) (Go.Proofs.YtkbfmpomeejadaaGreatDoorW.PrintWords.shl .u32 1 ((i % 32 : Nat) : Int))) = dL (Q + 2 ^ i) n := by
  have hr : i % 32 < 32 := Nat.mod_lt _ (by decide)
  have hd := dig_lt Q (i / 32)
  rw [rd_dL Q (by omega) (by omega), Int.toNat_natCast]
  have hs : Go.Proofs.YtkbfmpomeejadaaGreatDoorW.PrintWords.shl .u32 1 ((i % 32 : Nat) : Int) = ((2 ^ (i % 32) : Nat) : Int) := by
    unfold Go.Proofs.YtkbfmpomeejadaaGreatDoorW.PrintWords.shl
    have : min (((i % 32 : Nat) : Int)).toNat IntKind.u32.bits = i % 32 := by simp [IntKind.bits]; omega
    have h2 : (1 : Int) * (2 : Int) ^ (i % 32) = ((2 ^ (i % 32) : Nat) : Int) := by simp
    have h3 : 2 ^ (i % 32) ≤ 2 ^ 31 := Nat.pow_le_pow_right (by decide) (by omega)
    have h4 := Nat.two_pow_pos (i % 32)
    rw [this, h2, IntKind.wrap_u32]
    omega
  have hpw : 2 ^ (i % 32) ≤ 2 ^ 31 := Nat.pow_le_pow_right (by decide) (by omega)
  have hpi : 2 ^ i = 2 ^ (i % 32) * BB ^ (i / 32) := by
    have := two_pow_split (i / 32) (i % 32)
    rw [show 32 * (i / 32) + i % 32 = i by omega] at this
    rw [this, Nat.mul_comm]
  have hz : Q / BB ^ (i / 32) % BB % 2 ^ (i % 32 + 1) = 0 := by
    have e1 : 2 ^ (i + 1) = BB ^ (i / 32) * 2 ^ (i % 32 + 1) := by
      have := two_pow_split (i / 32) (i % 32 + 1)
      rw [show 32 * (i / 32) + (i % 32 + 1) = i + 1 by omega] at this
      exact this
    have h32 : BB = 2 ^ (i % 32 + 1) * 2 ^ (31 - i % 32) := by
      rw [← Nat.pow_add, show i % 32 + 1 + (31 - i % 32) = 32 by omega]
    have e2 : Q / BB ^ (i / 32) % 2 ^ (i % 32 + 1) = 0 := by
      rw [← Nat.mod_mul_right_div_self, ← e1, h, Nat.zero_div]
    have gen : ∀ x, x % 2 ^ (i % 32 + 1) = 0 → x % BB % 2 ^ (i % 32 + 1) = 0 := fun x hx => by rw [h32, Nat.mod_mul_right_mod, hx]
    exact gen _ e2
  have hor : Q / BB ^ (i / 32) % BB ||| 2 ^ (i % 32) = Q / BB ^ (i / 32) % BB + 2 ^ (i % 32) := by
    obtain ⟨t, ht⟩ : ∃ t, Q / BB ^ (i / 32) % BB = 2 ^ (i % 32 + 1) * t := by
      obtain ⟨t, ht⟩ := Nat.dvd_of_mod_eq_zero hz
      exact ⟨t, ht⟩
    rw [ht]
    exact (Nat.two_pow_add_eq_or_of_lt (Nat.pow_lt_pow_right (by decide) (by omega)) t).symm
  have hlt : Q / BB ^ (i / 32) % BB + 2 ^ (i % 32) < BB := by
    rw [← hor]
    exact Nat.or_lt_two_pow (n := 32) hd (Nat.lt_of_le_of_lt hpw (by decide))
  have hb : Go.bits .or .u32 ((Q / BB ^ (i / 32) % BB : Nat) : Int) ((2 ^ (i % 32) : Nat) : Int) = ((Q / BB ^ (i / 32) % BB + 2 ^ (i % 32) : Nat) : Int) := by
    rw [← hor] at hlt ⊢
    unfold Go.bits
    show IntKind.u32.wrap ((BitVec.ofInt 32 ((Q / BB ^ (i / 32) % BB : Nat) : Int) ||| BitVec.ofInt 32 ((2 ^ (i % 32) : Nat) : Int)).toNat : Int) = _
    have e1 : ∀ x : Nat, x < 4294967296 → (BitVec.ofInt 32 (x : Int)).toNat = x := fun x hx => by rw [BitVec.toNat_ofInt]; omega
    rw [BitVec.toNat_or, e1 _ hd, e1 _ (by omega), IntKind.wrap_u32]
    rw [BBv] at *
    omega
  rw [hs, hb, dL_set hlt]
  congr 1
  have hv := setD_val Q (i / 32) (Q / BB ^ (i / 32) % BB + 2 ^ (i % 32))
  rw [Nat.add_mul, ← hpi] at hv
  omega
theorem div_rounds {a d n : Nat} (hd0 : 0 < d) (hn : n = nd a) (ha : nd a ≤ 100000) (hd : nd d ≤ 100000) : ∀ (i k : Nat), i ≤ lenN a → 3 * i + n + 4 * nd d + 60 < k →
    hairsbreadthref01_Div.l0 k (own a) (own d) (dL (a / 2 ^ i / d * 2 ^ i) n) (own (a / 2 ^ i % d)) ((i : Int) - 1) = some (own (a / d), own (a % d))
  | 0, k, _, hk => by
    obtain ⟨k, rfl⟩ : ∃ t, k = t + 1 := ⟨k - 1, by omega⟩
    simp only [hairsbreadthref01_Div.l0]
    rw [if_neg (by omega), Nat.pow_zero, Nat.div_one, Nat.mul_one, trim_own (n := n) (Nat.lt_of_le_of_lt (Nat.div_le_self _ _) (by rw [hn]; exact lt_nd a)) (by omega) (by omega)]
    rfl
  | i + 1, k, hi, hk => by
    obtain ⟨k, rfl⟩ : ∃ t, k = t + 2 := ⟨k - 2, by omega⟩
    have ih := div_rounds hd0 hn ha hd i k (by omega) (by omega)
    have hlen : lenN a ≤ 32 * nd a := by
      refine lenN_le ?_
      have := lt_nd a
      rw [show (BB : Nat) = 2 ^ 32 from rfl, ← Nat.pow_mul] at this
      exact this
    have hmlt := Nat.mod_lt (a / 2 ^ (i + 1)) hd0
    have hndm : nd (a / 2 ^ (i + 1) % d) ≤ nd d := nd_mono (Nat.le_of_lt hmlt)
    have hnext := div_next (a / 2 ^ (i + 1)) d (a / 2 ^ i % 2) hd0 (by omega)
    rw [← half_next] at hnext
    have hQ0 : a / 2 ^ (i + 1) / d * 2 ^ (i + 1) % 2 ^ (i + 1) = 0 := Nat.mul_mod_left _ _
    have hdbl : a / 2 ^ (i + 1) / d * 2 ^ (i + 1) = 2 * (a / 2 ^ (i + 1) / d) * 2 ^ i := by rw [Nat.pow_succ]; ac_rfl
    have e0 : ((i + 1 : Nat) : Int) - 1 = (i : Int) := by omega
    rw [e0]
    generalize hA : a / 2 ^ (i + 1) = A at *
    generalize hr : A % d = r at *
    have h2r : 2 * r + a / 2 ^ i % 2 ≤ 2 * d + 1 := by omega
    have hnd2 : nd (2 * r + a / 2 ^ i % 2) ≤ nd d + 1 := nd_twice h2r
    -- behind the bit
    have tail : hairsbreadthref01_Div.j1 (k + 1) (own a) (own d) (dL (A / d * 2 ^ (i + 1)) n) (own (2 * r + a / 2 ^ i % 2)) (i : Int) = some (own (a / d), own (a % d)) := by
      simp only [hairsbreadthref01_Div.j1]
      rw [cmp_own (by omega) (by omega) (by omega), Option.bind_some]
      by_cases hge : d ≤ 2 * r + a / 2 ^ i % 2
      · rw [if_pos hge, if_pos hge] at hnext
        have hc : cmpN (2 * r + a / 2 ^ i % 2) d ≥ 0 := by
          unfold cmpN
          rw [decide_eq_false (by omega : ¬ 2 * r + a / 2 ^ i % 2 < d), cond_false]
          cases decide (d < 2 * r + a / 2 ^ i % 2) <;> decide
        have hdiv : Int.tdiv (i : Int) 32 = ((i / 32 : Nat) : Int) := by rw [Int.tdiv_eq_ediv_of_nonneg (by omega)]; omega
        have hmod : Int.tmod (i : Int) 32 = ((i % 32 : Nat) : Int) := by rw [Int.tmod_eq_emod_of_nonneg (by omega)]; omega
        rw [if_pos hc, sub_own hge (by omega) (by omega), Option.bind_some, hdiv, hmod, wr64 (n := ((i / 32 : Nat) : Int)) (by omega) (by omega), if_pos (by omega), dL_len, if_pos (by omega), if_pos (by omega), Int.toNat_natCast, set_bit hQ0 (by omega), wr64 (by omega) (by omega)]
        have e1 : A / d * 2 ^ (i + 1) + 2 ^ i = a / 2 ^ i / d * 2 ^ i := by rw [hnext.1, Nat.add_mul, Nat.one_mul, hdbl]
        rw [e1, ← hnext.2]
        exact ih
      · rw [if_neg hge, if_neg hge] at hnext
        have hc : ¬ cmpN (2 * r + a / 2 ^ i % 2) d ≥ 0 := by
          unfold cmpN
          rw [decide_eq_true (by omega : 2 * r + a / 2 ^ i % 2 < d), cond_true]
          decide
        rw [if_neg hc, wr64 (by omega) (by omega)]
        have e1 : A / d * 2 ^ (i + 1) = a / 2 ^ i / d * 2 ^ i := by rw [hnext.1, hdbl, Nat.add_zero]
        rw [e1, ← hnext.2]
        exact ih
    rw [hairsbreadthref01_Div.l0, if_pos (by omega)]
    have hs := shl_own (a := r) (s := 1) (k := k + 1) (by omega) (by omega) (by omega)
    have e3 : ((1 : Nat) : Int) = 1 := rfl
    rw [e3] at hs
    have hb1 : i ≤ 100000000 := by omega
    rw [hs, Option.bind_some, bit_own hb1, Option.bind_some]
    have e4 : r * 2 ^ 1 = 2 * r := by omega
    rw [e4]
    by_cases hb : a / 2 ^ i % 2 = 1
    · have ho := of_own (k := k + 1) (v := 1) (by omega) (by omega)
      rw [e3] at ho
      have hnd2' := hnd2
      rw [hb] at tail hnd2'
      have hnda : nd (2 * r) ≤ nd d + 1 := nd_twice (by omega)
      have hnd1 : nd 1 = 1 := rfl
      rw [decide_eq_true hb, if_pos rfl, ho, Option.bind_some, add_own (by omega) (by omega) (by omega), Option.bind_some]
      exact tail
    · have h0 : a / 2 ^ i % 2 = 0 := by omega
      rw [h0, Nat.add_zero] at tail
      rw [decide_eq_false hb, if_neg (by decide)]
      exact tail
theorem div_own {a d k : Nat} (hd0 : 0 < d) (ha : nd a ≤ 100000) (hd : nd d ≤ 100000) (hk : 100 * nd a + 4 * nd d + 100 < k) : hairsbreadthref01_Div.f k (own a) (own d) = some (own (a / d), own (a % d)) := by
  unfold hairsbreadthref01_Div.f
  have hl : (own a).length = nd a := dL_len _ _
  have hlen : lenN a ≤ 32 * nd a := by
    refine lenN_le ?_
    have := lt_nd a
    rw [show (BB : Nat) = 2 ^ 32 from rfl, ← Nat.pow_mul] at this
    exact this
  rw [hl, if_pos (by omega), if_pos (by omega), len_own (by omega) (by omega), Option.bind_some, Int.toNat_natCast, wr64 (by omega) (by omega)]
  have h := div_rounds hd0 rfl ha hd (lenN a) k (Nat.le_refl _) (by omega)
  have e : a / 2 ^ lenN a = 0 := Nat.div_eq_of_lt (lenN_lt a)
  rw [e, Nat.zero_div, Nat.zero_mul, Nat.zero_mod, dL_zero] at h
  exact h
end Go.Ev
end

section
namespace Go.Ev
open Go.Proofs Go.RowKit Go.Proofs.YtkbfmpomeejadaaGreatDoorW.PrintWords Go.Proofs.YtkbfmpomeejadaaGreatDoorW.PrintMore
open Go.Proofs.YtkbfmpomeejadaaGreatDoor.Ra
theorem ofDig_get : ∀ (ds : List Nat), (∀ d ∈ ds, d < 4294967296) → ∀ (i d : Nat), ds[i]? = some d → ofDig ds / BB ^ i % BB = d
  | [], _, i, d, h => by simp at h
  | x :: ds, hb, 0, d, h => by
    simp only [List.getElem?_cons_zero, Option.some.injEq] at h
    subst h
    have := hb x (by simp)
    rw [Nat.pow_zero, Nat.div_one]
    simp only [ofDig]
    rw [BBv, Nat.add_mul_mod_self_left, Nat.mod_eq_of_lt this]
  | x :: ds, hb, i + 1, d, h => by
    have hx := hb x (by simp)
    have ih := ofDig_get ds (fun d hd => hb d (by simp [hd])) i d (by simpa using h)
    have e : ofDig (x :: ds) / BB ^ (i + 1) = ofDig ds / BB ^ i := by
      rw [Nat.pow_succ, Nat.mul_comm, ← Nat.div_div_eq_div_mul]
      congr 1
      simp only [ofDig]
      rw [BBv, Nat.add_mul_div_left _ _ (by decide), Nat.div_eq_of_lt hx, Nat.zero_add]
    rw [e, ih]
theorem own_of {ds : List Nat} (h1 : ∀ d ∈ ds, d < 4294967296) (h2 : ds.getLast? ≠ some 0) : own (ofDig ds) = ds.map (fun d : Nat => (d : Int)) := by
  unfold own
  rw [nd_len ds h1 h2]
  refine List.ext_getElem? fun i => ?_
  by_cases hi : i < ds.length
  · rw [dL_get _ hi, List.getElem?_map, List.getElem?_eq_getElem hi, ofDig_get ds h1 i _ (List.getElem?_eq_getElem hi)]
    rfl
  · rw [List.getElem?_eq_none (by rw [dL_len]; omega), List.getElem?_eq_none (by rw [List.length_map]; omega)]
/-- What is known of a number handed in. -/
theorem natC {w : World} {a : Nat} {v : Value} (h : NatRep w a v) (ha : nd a ≤ 100000) : ∃ A c, v = .slice A (own a).length c ∧ (own a).length ≤ c ∧ Kd.C (Kd.int .u32) w A (own a).length (own a) := by
  obtain ⟨ds, h1, h2, rfl, ⟨rfl, A, c, rfl⟩ | ⟨ad, cap, hne, rfl, hc, hb, hcell⟩⟩ := h
  · refine ⟨A, c, rfl, Nat.zero_le _, rfl, by decide, fun hn => absurd hn (Nat.lt_irrefl 0)⟩
  · have he := own_of h1 h2
    have hl : (own (ofDig ds)).length = ds.length := by rw [he, List.length_map]
    have hnd := nd_len ds h1 h2
    refine ⟨some ad, cap, by rw [hl], by rw [hl]; exact hc, rfl, by rw [hl]; omega, fun _ => ⟨ad, rfl, fun j p hj => ⟨[.int .u32 p], rfl, rfl, fun i u hu => ?_⟩⟩⟩
    cases i with
    | zero =>
      simp only [List.getElem?_cons_zero, Option.some.injEq] at hu
      subst hu
      rw [he, List.getElem?_map, Option.map_eq_some_iff] at hj
      obtain ⟨d, hd, rfl⟩ := hj
      have := hcell j d hd
      show w.cell? (ad.add (j * 1 + 0)) = _
      rw [Nat.mul_one, Nat.add_zero]
      exact this
    | succ i => simp at hu
/-- The digits, as natural numbers. -/
def digs (r : Nat) : Nat → List Nat
  | 0 => []
  | n + 1 => r % BB :: digs (r / BB) n
theorem digs_len (n : Nat) : ∀ r, (digs r n).length = n := by
  induction n with
  | zero => exact fun _ => rfl
  | succ n ih => intro r; simp only [digs, List.length_cons, ih]
theorem digs_get (n : Nat) : ∀ {r i : Nat}, i < n → (digs r n)[i]? = some (r / BB ^ i % BB) := by
  induction n with
  | zero => intro r i h; omega
  | succ n ih =>
    intro r i h
    cases i with
    | zero =>
      rw [Nat.pow_zero, Nat.div_one]
      rfl
    | succ i =>
      have := ih (r := r / BB) (i := i) (by omega)
      rw [Nat.div_div_eq_div_mul, Nat.mul_comm BB, ← Nat.pow_succ] at this
      simp only [digs, List.getElem?_cons_succ]
      exact this
theorem digs_lt (n : Nat) : ∀ r, ∀ d ∈ digs r n, d < 4294967296 := by
  induction n with
  | zero => intro r d hd; cases hd
  | succ n ih =>
    intro r d hd
    simp only [digs, List.mem_cons] at hd
    rcases hd with rfl | hd
    · exact Nat.mod_lt _ (by decide)
    · exact ih _ d hd
theorem digs_of (n : Nat) : ∀ r : Nat, r < BB ^ n → ofDig (digs r n) = r := by
  induction n with
  | zero =>
    intro r h
    rw [Nat.pow_zero] at h
    have : r = 0 := by omega
    subst this
    rfl
  | succ n ih =>
    intro r h
    have h2 : r / BB < BB ^ n := by
      rw [Nat.div_lt_iff_lt_mul (by decide), ← Nat.pow_succ]
      exact h
    show r % BB + 4294967296 * ofDig (digs (r / BB) n) = r
    rw [ih _ h2]
    exact Nat.mod_add_div r BB
theorem foot_block {w : World} {ok : Nat → Prop} {ad : Addr} {n : Nat} {xs : List Int} (h : Kd.F (Kd.int .u32) w ok (some ad) n xs) (hn : 0 < n) (hx : xs.length = n) : ok ad.block ∧ ad.block < w.heap.size := by
  have hnow := Kd.F_now h
  have hcell : ∀ W, Kd.C (Kd.int .u32) W (some ad) n xs → ∃ u, W.cell? ad = some u := fun W hC => by
    obtain ⟨ad', e, hc⟩ := hC.2.2 hn
    cases e
    obtain ⟨c, h1, h2, h3⟩ := hc 0 xs[0] (List.getElem?_eq_getElem (by omega))
    have := h3 0 (.int .u32 xs[0]) (by rw [show c = [.int .u32 xs[0]] from h2]; rfl)
    rw [Nat.zero_mul] at this
    exact ⟨_, this⟩
  have hlt : ad.block < w.heap.size := by
    obtain ⟨u, hu⟩ := hcell w hnow
    unfold World.cell? at hu
    split at hu
    · rename_i hb
      exact (Array.getElem?_eq_some_iff.1 hb).1
    · cases hu
  refine ⟨Classical.byContradiction fun hno => ?_, hlt⟩
  have hC := h { w with heap := w.heap.setIfInBounds ad.block (Obj.deferred none) } (fun k hk _ => by
    have hne : k ≠ ad.block := fun e => hno (e ▸ hk)
    simp [Array.getElem?_setIfInBounds_ne (Ne.symm hne)])
  obtain ⟨u, hu⟩ := hcell _ hC
  unfold World.cell? at hu
  have : (w.heap.setIfInBounds ad.block (Obj.deferred none))[ad.block]? = some (.deferred none) := by
    simp [hlt]
  simp only [this] at hu
  cases hu
/-- What is known of a number handed back. -/
theorem natV {w w' : World} {far : Nat → Prop} {r base : Nat} {v : Value} (h : Kd.V (Kd.int .u32) 192 w' base (fun k => w.heap.size ≤ k) v (own r)) : LfRel { pureE w far with w := w' } (.nat r) v := by
  obtain ⟨A, c, rfl, hl, hF⟩ := h
  have hlen : (own r).length = nd r := dL_len _ _
  by_cases h0 : r = 0
  · subst h0
    refine ⟨⟨[], by simp, by simp, rfl, .inl ⟨rfl, A, c, rfl⟩⟩, fun b hb => ?_⟩
    have : (own 0).length = 0 := rfl
    rw [this] at hb
    cases A <;> cases hb
  · obtain ⟨hp, hge⟩ := nd_pos h0
    have hpos : 0 < (own r).length := by rw [hlen]; exact hp
    have hC := Kd.F_now hF
    obtain ⟨ad, rfl, hc⟩ := hC.2.2 hpos
    obtain ⟨hok, hlt⟩ := foot_block hF hpos rfl
    have hlt' := lt_nd r
    refine ⟨⟨digs r (nd r), ?_, ?_, digs_of _ _ hlt', .inr ⟨ad, c, ?_, ?_, ?_, hlt, fun i d hd => ?_⟩⟩, fun b hb => ?_⟩
    · exact digs_lt _ _
    · rw [List.getLast?_eq_getElem?]
      rw [digs_len, digs_get _ (by omega)]
      intro hz
      have hz := Option.some.inj hz
      have e2 : nd r = nd r - 1 + 1 := by omega
      rw [e2] at hlt'
      rw [dig_top hlt'] at hz
      have := Nat.div_pos hge (pow_pos' _)
      omega
    · intro hz
      have : (digs r (nd r)).length = 0 := by rw [hz]; rfl
      rw [digs_len] at this
      omega
    · rw [digs_len, hlen]
    · rw [digs_len, ← hlen]
      exact hl
    · have hi : i < nd r := by
        have := (List.getElem?_eq_some_iff.1 hd).1
        rw [digs_len] at this
        exact this
      rw [digs_get _ hi] at hd
      have hd := Option.some.inj hd
      obtain ⟨cs, h1, h2, h3⟩ := hc i ((r / BB ^ i % BB : Nat) : Int) (dL_get r hi)
      have := h3 0 (.int .u32 ((r / BB ^ i % BB : Nat) : Int)) (by rw [show cs = [.int .u32 ((r / BB ^ i % BB : Nat) : Int)] from h2]; rfl)
      rw [← hd]
      have e : i * (Kd.int .u32).sz + 0 = i := by show i * 1 + 0 = i; omega
      rw [e] at this
      exact this
    · have hb : some ad.block = some b := by
        obtain ⟨m, hm⟩ : ∃ m, (own r).length = m + 1 := ⟨(own r).length - 1, by omega⟩
        rw [hm] at hb
        exact hb
      cases hb
      refine ⟨hlt, id, fun hlt2 => ?_⟩
      have : ad.block < w.heap.size := hlt2
      omega
/-- A number that is not too long. -/
def dM : Dec Nat where
  dec := fun | .fv (.one (.nat n)) => bif decide (nd n ≤ 50000) then some n else none | _ => none
  enc := fun n => .fv (.one (.nat n))
  ok := fun n => nd n ≤ 50000
  inv := by
    intro x a h
    split at h
    · obtain ⟨h1, h2⟩ := bif_inv h
      cases h2
      exact ⟨rfl, of_decide_eq_true h1⟩
    · cases h
  back := by
    intro a h
    show (bif decide (nd a ≤ 50000) then some a else none) = some a
    rw [decide_eq_true h]; rfl
def rN (r : Nat) : AV := .fv (.one (.nat r))
def rNN (r : Nat × Nat) : AV := .tup [.one (.nat r.1), .one (.nat r.2)]
theorem all2_nat1 {E : Env} {a : Nat} {vs : List Value} (h : All2 (ArgRel E) [aN a] vs) : ∃ v, vs = [v] ∧ NatRep E.w a v := by
  cases h with
  | cons h t => cases t with
    | nil => exact ⟨_, rfl, h.1⟩
theorem all2_nat2 {E : Env} {a b : Nat} {vs : List Value} (h : All2 (ArgRel E) [aN a, aN b] vs) : ∃ v u, vs = [v, u] ∧ NatRep E.w a v ∧ NatRep E.w b u := by
  cases h with
  | cons h t => cases t with
    | cons h2 t => cases t with
      | nil => exact ⟨_, _, rfl, h.1, h2.1⟩
theorem all2_natI {E : Env} {a : Nat} {n : Int} {vs : List Value} (h : All2 (ArgRel E) [aN a, aI n] vs) : ∃ v, vs = [v, .int .i64 n] ∧ NatRep E.w a v := by
  cases h with
  | cons h t => cases t with
    | cons h2 t => cases t with
      | nil =>
        have e : _ = Value.int .i64 n := h2
        exact ⟨_, by rw [e], h.1⟩
noncomputable def nAdd : Ctr := ctr2 66 dM dM (fun a b => some (a + b)) rN
theorem nAdd_ok (D : Data) : CtrOk Tryz.prog D nAdd := by
  refine .inl ⟨callable_of Tryz.func66 (by kernel_rfl) (by kernel_rfl), fun w far args vs r _ ha hr => ?_⟩
  obtain ⟨a, b, rfl, h1, h2, hr⟩ := ctr2_inv (f := 0) (res := rN) hr
  cases hr
  have h1 : nd a ≤ 50000 := h1
  have h2 : nd b ≤ 50000 := h2
  obtain ⟨v, u, rfl, hv, hu⟩ := all2_nat2 ha
  obtain ⟨A, c, rfl, hc, hC⟩ := natC hv (by omega)
  obtain ⟨A', c', rfl, hc', hC'⟩ := natC hu (by omega)
  refine (hairsbreadthref01_Add.calls _ A c _ A' c' _ _ w hC hc hC' hc' (add_own (k := 3 * max (nd a) (nd b) + 11) (by omega) (by omega) (by omega))).mono ?_
  rintro e w' ⟨v, rfl, hV, hb⟩
  exact ⟨v, rfl, hb, natV hV⟩
noncomputable def nSub : Ctr := ctr2 59 dM dM (fun a b => bif decide (b ≤ a) then some (a - b) else none) rN
theorem nSub_ok (D : Data) : CtrOk Tryz.prog D nSub := by
  refine .inl ⟨callable_of Tryz.func59 (by kernel_rfl) (by kernel_rfl), fun w far args vs r _ ha hr => ?_⟩
  obtain ⟨a, b, rfl, h1, h2, hr⟩ := ctr2_inv (f := 0) (res := rN) hr
  obtain ⟨hle, hr⟩ := bif_inv hr
  have hle : b ≤ a := of_decide_eq_true hle
  cases hr
  have h1 : nd a ≤ 50000 := h1
  have h2 : nd b ≤ 50000 := h2
  obtain ⟨v, u, rfl, hv, hu⟩ := all2_nat2 ha
  obtain ⟨A, c, rfl, hc, hC⟩ := natC hv (by omega)
  obtain ⟨A', c', rfl, hc', hC'⟩ := natC hu (by omega)
  refine (hairsbreadthref01_Sub.calls _ A c _ A' c' _ _ w hC hc hC' hc' (sub_own (k := 2 * nd a + 11) hle (by omega) (by omega))).mono ?_
  rintro e w' ⟨v, rfl, hV, hb⟩
  exact ⟨v, rfl, hb, natV hV⟩
noncomputable def nMul : Ctr := ctr2 65 dM dM (fun a b => some (a * b)) rN
theorem nMul_ok (D : Data) : CtrOk Tryz.prog D nMul := by
  refine .inl ⟨callable_of Tryz.func65 (by kernel_rfl) (by kernel_rfl), fun w far args vs r _ ha hr => ?_⟩
  obtain ⟨a, b, rfl, h1, h2, hr⟩ := ctr2_inv (f := 0) (res := rN) hr
  cases hr
  have h1 : nd a ≤ 50000 := h1
  have h2 : nd b ≤ 50000 := h2
  obtain ⟨v, u, rfl, hv, hu⟩ := all2_nat2 ha
  obtain ⟨A, c, rfl, hc, hC⟩ := natC hv (by omega)
  obtain ⟨A', c', rfl, hc', hC'⟩ := natC hu (by omega)
  refine (hairsbreadthref01_Mul.calls _ A c _ A' c' _ _ w hC hc hC' hc' (mul_own (k := nd a * (nd b + 4) + nd a + nd b + 21) (by omega) (by omega) (by omega))).mono ?_
  rintro e w' ⟨v, rfl, hV, hb⟩
  exact ⟨v, rfl, hb, natV hV⟩
noncomputable def nDiv : Ctr := ctr2 123 dM dM (fun a b => bif decide (0 < b) then some (a / b, a % b) else none) rNN
theorem nDiv_ok (D : Data) : CtrOk Tryz.prog D nDiv := by
  refine .inl ⟨callable_of Tryz.func123 (by kernel_rfl) (by kernel_rfl), fun w far args vs r _ ha hr => ?_⟩
  obtain ⟨a, b, rfl, h1, h2, hr⟩ := ctr2_inv (f := 0) (res := rNN) hr
  obtain ⟨hle, hr⟩ := bif_inv hr
  have hle : 0 < b := of_decide_eq_true hle
  cases hr
  have h1 : nd a ≤ 50000 := h1
  have h2 : nd b ≤ 50000 := h2
  obtain ⟨v, u, rfl, hv, hu⟩ := all2_nat2 ha
  obtain ⟨A, c, rfl, hc, hC⟩ := natC hv (by omega)
  obtain ⟨A', c', rfl, hc', hC'⟩ := natC hu (by omega)
  refine (hairsbreadthref01_Div.calls _ A c _ A' c' _ _ _ w hC hc hC' hc' (div_own (k := 100 * nd a + 4 * nd b + 101) hle (by omega) (by omega) (by omega))).mono ?_
  rintro e w' ⟨v, u, rfl, hV, hU, hb⟩
  exact ⟨_, rfl, hb, [v, u], rfl, .cons (natV hV) (.cons (natV hU) .nil)⟩
noncomputable def nCmp : Ctr := ctr2 58 dM dM (fun a b => some (cmpN a b)) rI
theorem nCmp_ok (D : Data) : CtrOk Tryz.prog D nCmp := by
  refine .inl ⟨callable_of Tryz.func58 (by kernel_rfl) (by kernel_rfl), fun w far args vs r _ ha hr => ?_⟩
  obtain ⟨a, b, rfl, h1, h2, hr⟩ := ctr2_inv (f := 0) (res := rI) hr
  cases hr
  have h1 : nd a ≤ 50000 := h1
  have h2 : nd b ≤ 50000 := h2
  obtain ⟨v, u, rfl, hv, hu⟩ := all2_nat2 ha
  obtain ⟨A, c, rfl, hc, hC⟩ := natC hv (by omega)
  obtain ⟨A', c', rfl, hc', hC'⟩ := natC hu (by omega)
  refine (hairsbreadthref01_Cmp.calls _ A c _ A' c' _ _ w hC hc hC' hc' (cmp_own (k := nd a + 2) (by omega) (by omega) (by omega))).mono ?_
  rintro e w' ⟨rfl, hd⟩
  exact ⟨_, rfl, hd.below, rfl⟩
noncomputable def nShl : Ctr := ctr2 56 dM dI (fun a n => bif decide (0 ≤ n) && decide (n ≤ 1000000) then some (a * 2 ^ n.toNat) else none) rN
theorem nShl_ok (D : Data) : CtrOk Tryz.prog D nShl := by
  refine .inl ⟨callable_of Tryz.func56 (by kernel_rfl) (by kernel_rfl), fun w far args vs r _ ha hr => ?_⟩
  obtain ⟨a, n, rfl, h1, h2, hr⟩ := ctr2_inv (f := 0) (res := rN) hr
  obtain ⟨hle, hr⟩ := bif_inv hr
  simp only [Bool.and_eq_true, decide_eq_true_eq] at hle
  cases hr
  have h1 : nd a ≤ 50000 := h1
  obtain ⟨s, rfl⟩ : ∃ s : Nat, n = s := ⟨n.toNat, by omega⟩
  obtain ⟨v, rfl, hv⟩ := all2_natI ha
  obtain ⟨A, c, rfl, hc, hC⟩ := natC hv (by omega)
  refine (hairsbreadthref01_Shl.calls _ A c _ _ _ w hC hc (shl_own (k := 2 * nd a + s + 11) (by omega) (by omega) (by omega))).mono ?_
  rintro e w' ⟨v, rfl, hV, hb⟩
  exact ⟨v, rfl, hb, natV hV⟩
noncomputable def nShr : Ctr := ctr2 120 dM dI (fun a n => bif decide (0 ≤ n) && decide (n ≤ 1000000) then some (a / 2 ^ n.toNat) else none) rN
theorem nShr_ok (D : Data) : CtrOk Tryz.prog D nShr := by
  refine .inl ⟨callable_of Tryz.func120 (by kernel_rfl) (by kernel_rfl), fun w far args vs r _ ha hr => ?_⟩
  obtain ⟨a, n, rfl, h1, h2, hr⟩ := ctr2_inv (f := 0) (res := rN) hr
  obtain ⟨hle, hr⟩ := bif_inv hr
  simp only [Bool.and_eq_true, decide_eq_true_eq] at hle
  cases hr
  have h1 : nd a ≤ 50000 := h1
  obtain ⟨s, rfl⟩ : ∃ s : Nat, n = s := ⟨n.toNat, by omega⟩
  obtain ⟨v, rfl, hv⟩ := all2_natI ha
  obtain ⟨A, c, rfl, hc, hC⟩ := natC hv (by omega)
  refine (hairsbreadthref01_Shr.calls _ A c _ _ _ w hC hc (shr_own (k := 2 * nd a + 2 * s + 11) (by omega) (by omega) (by omega))).mono ?_
  rintro e w' ⟨v, rfl, hV, hb⟩
  exact ⟨v, rfl, hb, natV hV⟩
noncomputable def nLen : Ctr := ctr1 117 dM (fun a => some ((lenN a : Nat) : Int)) rI
theorem nLen_ok (D : Data) : CtrOk Tryz.prog D nLen := by
  refine .inl ⟨callable_of Tryz.func117 (by kernel_rfl) (by kernel_rfl), fun w far args vs r _ ha hr => ?_⟩
  obtain ⟨a, rfl, h1, hr⟩ := ctr1_inv (f := 0) (res := rI) hr
  cases hr
  have h1 : nd a ≤ 50000 := h1
  obtain ⟨v, rfl, hv⟩ := all2_nat1 ha
  obtain ⟨A, c, rfl, hc, hC⟩ := natC hv (by omega)
  refine (hairsbreadthref01_Len.calls _ A c _ _ w hC hc (len_own (k := 33) (by omega) (by omega))).mono ?_
  rintro e w' ⟨rfl, hd⟩
  exact ⟨_, rfl, hd.below, rfl⟩
noncomputable def nDigit : Ctr := ctr2 124 dM dI (fun a n => bif decide (0 ≤ n) then some ((a / BB ^ n.toNat % BB : Nat) : Int) else none) (fun r => .fv (.one (.int .u32 r)))
theorem nDigit_ok (D : Data) : CtrOk Tryz.prog D nDigit := by
  refine .inl ⟨callable_of Tryz.func124 (by kernel_rfl) (by kernel_rfl), fun w far args vs r _ ha hr => ?_⟩
  obtain ⟨a, n, rfl, h1, h2, hr⟩ := ctr2_inv (f := 0) (res := fun r => .fv (.one (.int .u32 r))) hr
  obtain ⟨hle, hr⟩ := bif_inv hr
  have hle : 0 ≤ n := of_decide_eq_true hle
  cases hr
  have h1 : nd a ≤ 50000 := h1
  obtain ⟨v, rfl, hv⟩ := all2_natI ha
  obtain ⟨A, c, rfl, hc, hC⟩ := natC hv (by omega)
  refine (hairsbreadthref01_digit.calls A c _ n _ w hC hc (digit_dL (lt_nd a) hle)).mono ?_
  rintro e w' ⟨rfl, hd⟩
  exact ⟨_, rfl, hd.below, rfl⟩
noncomputable def nBit : Ctr := ctr2 144 dM dI (fun a n => bif decide (0 ≤ n) && decide (n ≤ 100000000) then some (decide (a / 2 ^ n.toNat % 2 = 1)) else none) rT
theorem nBit_ok (D : Data) : CtrOk Tryz.prog D nBit := by
  refine .inl ⟨callable_of Tryz.func144 (by kernel_rfl) (by kernel_rfl), fun w far args vs r _ ha hr => ?_⟩
  obtain ⟨a, n, rfl, h1, h2, hr⟩ := ctr2_inv (f := 0) (res := rT) hr
  obtain ⟨hle, hr⟩ := bif_inv hr
  simp only [Bool.and_eq_true, decide_eq_true_eq] at hle
  cases hr
  have h1 : nd a ≤ 50000 := h1
  obtain ⟨s, rfl⟩ : ∃ s : Nat, n = s := ⟨n.toNat, by omega⟩
  obtain ⟨v, rfl, hv⟩ := all2_natI ha
  obtain ⟨A, c, rfl, hc, hC⟩ := natC hv (by omega)
  refine (hairsbreadthref01_Bit.calls A c _ _ _ w hC hc (bit_own (by omega))).mono ?_
  rintro e w' ⟨rfl, hd⟩
  exact ⟨_, rfl, hd.below, rfl⟩
noncomputable def nOf : Ctr := ctr1 122 dX (fun v => some v.toNat) rN
theorem nOf_ok (D : Data) : CtrOk Tryz.prog D nOf := by
  refine .inl ⟨callable_of Tryz.func122 (by kernel_rfl) (by kernel_rfl), fun w far args vs r _ ha hr => ?_⟩
  obtain ⟨x, rfl, h1, hr⟩ := ctr1_inv (f := 0) (res := rN) hr
  cases hr
  have h1 := okU_spec h1
  obtain ⟨n, rfl⟩ : ∃ n : Nat, x = n := ⟨x.toNat, by omega⟩
  have hvs : vs = [.int .u64 (n : Int)] := by
    cases ha with
    | cons h t => cases t with
      | nil =>
        have e : _ = Value.int .u64 (n : Int) := h
        rw [e]
  subst hvs
  refine (hairsbreadthref01_Of.calls _ _ _ w (of_own (k := 3) (by omega) (by omega))).mono ?_
  rintro e w' ⟨v, rfl, hV, hb⟩
  exact ⟨v, rfl, hb, natV hV⟩
noncomputable def nBig : Ctr := ctr1 126 dB (fun a => some a) rN
theorem nBig_ok (D : Data) : CtrOk Tryz.prog D nBig := by
  refine .inl ⟨callable_of Tryz.func126 (by kernel_rfl) (by kernel_rfl), fun w far args vs r _ ha hr => ?_⟩
  obtain ⟨a, rfl, h1, hr⟩ := ctr1_inv (f := 0) (res := rN) hr
  have hr : a = r := Option.some.inj hr
  subst hr
  have h1 : a < 2 ^ 128 := h1
  have hvs : vs = [.agg #[.int .u64 (hiW a), .int .u64 (loW a)]] := by
    cases ha with
    | cons h t => cases t with
      | nil =>
        obtain ⟨us, e, h2⟩ := h
        obtain ⟨us1, rfl, h3⟩ := all2_int h2
        obtain ⟨us2, rfl, h4⟩ := all2_int h3
        obtain rfl := all2_nil h4
        rw [e]
  subst hvs
  refine (hairsbreadthref01_Big.calls _ _ _ _ w (big_own (k := 5) h1 (by omega))).mono ?_
  rintro e w' ⟨v, rfl, hV, hb⟩
  exact ⟨v, rfl, hb, natV hV⟩
end Go.Ev
end
