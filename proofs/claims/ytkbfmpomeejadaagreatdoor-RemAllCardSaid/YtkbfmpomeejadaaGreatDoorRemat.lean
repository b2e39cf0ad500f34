/- Part 20 of 46 of what the theorem stands on. -/
import Derived.Test.YtkbfmpomeejadaaGreatDoorRemas

section
namespace Go.Ev
open Go.Proofs
/-- A word that is in range. -/
def okU (x : Int) : Bool := decide (0 ≤ x) && decide (x < 18446744073709551616)
theorem okU_spec {x : Int} (h : okU x = true) : 0 ≤ x ∧ x < 18446744073709551616 := by
  unfold okU at h
  simpa using h
/-- Two words as a number. -/
def bt (hi lo : Int) : Option Nat := bif okU hi && okU lo then some (hi.toNat * 18446744073709551616 + lo.toNat) else none
def bits (n : Nat) : FV := .agg [.int .u64 ((n / 18446744073709551616 % 18446744073709551616 : Nat) : Int), .int .u64 ((n % 18446744073709551616 : Nat) : Int)]
theorem bt_inv {hi lo : Int} {a : Nat} (h : bt hi lo = some a) : a < 2 ^ 128 ∧ hi = ((a / 18446744073709551616 % 18446744073709551616 : Nat) : Int) ∧ lo = ((a % 18446744073709551616 : Nat) : Int) := by
  unfold bt at h
  obtain ⟨h1, h2⟩ := bif_inv h
  rw [Bool.and_eq_true] at h1
  have h3 := okU_spec h1.1
  have h4 := okU_spec h1.2
  cases h2
  omega
theorem bt_bits (n : Nat) (h : n < 2 ^ 128) : bt ((n / 18446744073709551616 % 18446744073709551616 : Nat) : Int) ((n % 18446744073709551616 : Nat) : Int) = some n := by
  unfold bt okU
  have h1 : decide ((0 : Int) ≤ ((n / 18446744073709551616 % 18446744073709551616 : Nat) : Int)) = true := decide_eq_true (by omega)
  have h2 : decide (((n / 18446744073709551616 % 18446744073709551616 : Nat) : Int) < 18446744073709551616) = true := decide_eq_true (by omega)
  have h3 : decide ((0 : Int) ≤ ((n % 18446744073709551616 : Nat) : Int)) = true := decide_eq_true (by omega)
  have h4 : decide (((n % 18446744073709551616 : Nat) : Int) < 18446744073709551616) = true := decide_eq_true (by omega)
  rw [h1, h2, h4]
  refine congrArg some ?_
  show (((n / 18446744073709551616 % 18446744073709551616 : Nat) : Int)).toNat * 18446744073709551616 + (((n % 18446744073709551616 : Nat) : Int)).toNat = n
  omega
theorem wordAt_zero_of {a j : Nat} (h : a < 2 ^ (64 * j)) : wordAt a j = 0 := by
  unfold wordAt
  rw [Nat.div_eq_of_lt h]
theorem wds2 {a : Nat} (h : a < 2 ^ 128) : Wds [((a % 18446744073709551616 : Nat) : Int), ((a / 18446744073709551616 % 18446744073709551616 : Nat) : Int)] a := by
  intro i h0 h1
  unfold wd
  by_cases hn : i < 0
  · simp [hn]
  · by_cases h2 : (2 : Int) ≤ i
    · have : wordAt a i.toNat = 0 := wordAt_zero_of (Nat.lt_of_lt_of_le h (Nat.pow_le_pow_right (by decide) (by omega)))
      simp [hn, h2, this]
    · have : i = 0 ∨ i = 1 := by omega
      rcases this with rfl | rfl
      · simp [wdL, wordAt]
      · simp [wdL, wordAt]
def leftN (a : Nat) (n : Int) : Nat := a * 2 ^ (min n.toNat 128) % 2 ^ 128
def rightN (a : Nat) (n : Int) : Nat := a / 2 ^ (min n.toNat 128)
def kLeft (hi lo n : Int) : Option Nat := (bt hi lo).map fun a => leftN a n
def kRight (hi lo n : Int) : Option Nat := (bt hi lo).map fun a => rightN a n
def cLeft : Ctr := { f := 89, R := Nat, K := fun | [.fv (.agg [.int .u64 hi, .int .u64 lo]), .fv (.one (.int .i64 n))] => kLeft hi lo n | _ => none, res := fun r => .fv (bits r) }
def cRight : Ctr := { f := 163, R := Nat, K := fun | [.fv (.agg [.int .u64 hi, .int .u64 lo]), .fv (.one (.int .i64 n))] => kRight hi lo n | _ => none, res := fun r => .fv (bits r) }
theorem mx_eq (x y : Int) : mx x y = max x y := by
  unfold mx
  by_cases h : x < y
  · rw [decide_eq_true h]; simp only [cond_true]; omega
  · rw [decide_eq_false h]; simp only [cond_false]; omega
theorem mn_eq (x y : Int) : mn x y = min x y := by
  unfold mn
  by_cases h : y < x
  · rw [decide_eq_true h]; simp only [cond_true]; omega
  · rw [decide_eq_false h]; simp only [cond_false]; omega
theorem moved_words {a t : Nat} : movedAt a (t : Int) 0 = a * 2 ^ t % 2 ^ 128 % 18446744073709551616 ∧ movedAt a (t : Int) 1 = a * 2 ^ t % 2 ^ 128 / 18446744073709551616 % 18446744073709551616 := by
  unfold movedAt
  rw [if_pos (by omega), Int.toNat_natCast]
  generalize a * 2 ^ t = x
  have h1 : (2 : Nat) ^ (64 * 0) = 1 := by decide
  have h2 : (2 : Nat) ^ (64 * 1) = 18446744073709551616 := by decide
  have h4 : (2 : Nat) ^ 128 = 340282366920938463463374607431768211456 := by decide
  rw [h1, h2, h4]
  omega
theorem left_ok : CtrOk Tryz.prog dS cLeft := by
  refine ctr_of mixed dS_ok (callable_of Tryz.func89 (by kernel_rfl) (by kernel_rfl)) Tryz.func89 400 fun xs r h => ?_
  unfold cLeft at h
  simp only at h
  split at h
  · rename_i hi lo n
    have h : Option.map (fun a => leftN a n) (bt hi lo) = some (show Nat from r) := h
    rw [Option.map_eq_some_iff] at h
    obtain ⟨a, ha, hr⟩ := h
    have hr : leftN a n = r := hr
    subst hr
    obtain ⟨hlt, rfl, rfl⟩ := bt_inv ha
    refine ⟨?_, rfl⟩
    rw [left_eq]
    have hc : clamp (mx n 0) 128 = ((min n.toNat 128 : Nat) : Int) := by
      unfold clamp
      rw [mx_eq, mx_eq, mn_eq]
      omega
    rw [hc]
    have z0 : (0 : Int) = ((0 : Nat) : Int) := rfl
    have z1 : (1 : Int) = ((1 : Nat) : Int) := rfl
    rw [z0, z1, mvW_spec (wds2 hlt) (by omega) (by omega) (by decide), mvW_spec (wds2 hlt) (by omega) (by omega) (by decide)]
    rw [(moved_words (a := a) (t := min n.toNat 128)).1, (moved_words (a := a) (t := min n.toNat 128)).2]
    rfl
  · cases h
theorem moved_right {a t : Nat} (ha : a < 2 ^ 128) : movedAt a (-(t : Int)) 0 = a / 2 ^ t % 18446744073709551616 ∧ movedAt a (-(t : Int)) 1 = a / 2 ^ t / 18446744073709551616 % 18446744073709551616 := by
  have e : (if 0 ≤ -(t : Int) then a * 2 ^ (-(t : Int)).toNat else a / 2 ^ (- -(t : Int)).toNat) = a / 2 ^ t := by
    cases t with
    | zero => simp
    | succ t => rw [if_neg (by omega), Int.neg_neg, Int.toNat_natCast]
  unfold movedAt
  rw [e]
  have h1 : (2 : Nat) ^ (64 * 0) = 1 := by decide
  have h2 : (2 : Nat) ^ (64 * 1) = 18446744073709551616 := by decide
  rw [h1, h2]
  omega
theorem right_ok : CtrOk Tryz.prog dS cRight := by
  refine ctr_of mixed dS_ok (callable_of Tryz.func163 (by kernel_rfl) (by kernel_rfl)) Tryz.func163 400 fun xs r h => ?_
  unfold cRight at h
  simp only at h
  split at h
  · rename_i hi lo n
    have h : Option.map (fun a => rightN a n) (bt hi lo) = some (show Nat from r) := h
    rw [Option.map_eq_some_iff] at h
    obtain ⟨a, ha, hr⟩ := h
    have hr : rightN a n = r := hr
    subst hr
    obtain ⟨hlt, rfl, rfl⟩ := bt_inv ha
    refine ⟨?_, rfl⟩
    rw [right_eq]
    have hc : clamp (IntKind.i64.wrap (0 - mn (mx n 0) 128)) 128 = -((min n.toNat 128 : Nat) : Int) := by
      rw [mx_eq, mn_eq, i64w _ (by omega) (by omega)]
      unfold clamp
      rw [mx_eq, mn_eq]
      omega
    rw [hc]
    have z0 : (0 : Int) = ((0 : Nat) : Int) := rfl
    have z1 : (1 : Int) = ((1 : Nat) : Int) := rfl
    rw [z0, z1, mvW_spec (wds2 hlt) (by omega) (by omega) (by decide), mvW_spec (wds2 hlt) (by omega) (by omega) (by decide)]
    rw [(moved_right (t := min n.toNat 128) hlt).1, (moved_right (t := min n.toNat 128) hlt).2]
    rfl
  · cases h
end Go.Ev
end

section
namespace Go.Ev
open Go.Proofs
/-- Four words as a number, the least first. -/
def wt (a b c d : Int) : Option Nat := bif okU a && okU b && okU c && okU d then some (a.toNat + 2 ^ 64 * b.toNat + 2 ^ 128 * c.toNat + 2 ^ 192 * d.toNat) else none
def wide (n : Nat) : FV := .agg [.int .u64 (wordAt n 0 : Nat), .int .u64 (wordAt n 1 : Nat), .int .u64 (wordAt n 2 : Nat), .int .u64 (wordAt n 3 : Nat)]
theorem wordAt0 (n : Nat) : wordAt n 0 = n % 18446744073709551616 := by
  unfold wordAt
  rw [show (2 : Nat) ^ (64 * 0) = 1 by decide, Nat.div_one]
theorem wordAt_succ (n j : Nat) : wordAt n (j + 1) = wordAt (n / 18446744073709551616) j := by
  unfold wordAt
  rw [Nat.div_div_eq_div_mul, Nat.mul_add, Nat.pow_add, Nat.mul_comm (2 ^ (64 * j))]
theorem wt_inv {a b c d : Int} {n : Nat} (h : wt a b c d = some n) : n < 2 ^ 256 ∧ a = (wordAt n 0 : Nat) ∧ b = (wordAt n 1 : Nat) ∧ c = (wordAt n 2 : Nat) ∧ d = (wordAt n 3 : Nat) := by
  unfold wt at h
  obtain ⟨h1, h2⟩ := bif_inv h
  simp only [Bool.and_eq_true] at h1
  have ha := okU_spec h1.1.1.1
  have hb := okU_spec h1.1.1.2
  have hc := okU_spec h1.1.2
  have hd := okU_spec h1.2
  cases h2
  rw [wordAt_succ _ 0, wordAt_succ _ 1, wordAt_succ _ 0, wordAt_succ _ 2, wordAt_succ _ 1, wordAt_succ _ 0, wordAt0, wordAt0, wordAt0, wordAt0]
  omega
theorem wds4 {n : Nat} (h : n < 2 ^ 256) : Wds [((wordAt n 0 : Nat) : Int), ((wordAt n 1 : Nat) : Int), ((wordAt n 2 : Nat) : Int), ((wordAt n 3 : Nat) : Int)] n := by
  intro i h0 h1
  unfold wd
  by_cases hn : i < 0
  · simp [hn]
  · by_cases h4 : (4 : Int) ≤ i
    · have : wordAt n i.toNat = 0 := wordAt_zero_of (Nat.lt_of_lt_of_le h (Nat.pow_le_pow_right (by decide) (by omega)))
      simp [hn, h4, this]
    · have : i = 0 ∨ i = 1 ∨ i = 2 ∨ i = 3 := by omega
      rcases this with rfl | rfl | rfl | rfl <;> simp [wdL]
theorem movedAt_left (n t i : Nat) : movedAt n (t : Int) i = wordAt (n * 2 ^ t) i := by
  unfold movedAt wordAt
  rw [if_pos (by omega), Int.toNat_natCast]
theorem movedAt_right (n t i : Nat) : movedAt n (-(t : Int)) i = wordAt (n / 2 ^ t) i := by
  unfold movedAt wordAt
  congr 2
  cases t with
  | zero => simp
  | succ t => rw [if_neg (by omega), Int.neg_neg, Int.toNat_natCast]
theorem wordAt_mod (n i : Nat) (hi : i < 4) : wordAt (n % 2 ^ 256) i = wordAt n i := by
  refine Nat.eq_of_testBit_eq fun k => ?_
  rw [wordAt_bit, wordAt_bit, Nat.testBit_mod_two_pow]
  by_cases hk : k < 64
  · have : 64 * i + k < 256 := by omega
    simp [hk, this]
  · simp [hk]
def wideLeftN (a : Nat) (n : Int) : Nat := a * 2 ^ (min n.toNat 256) % 2 ^ 256
def wideRightN (a : Nat) (n : Int) : Nat := a / 2 ^ (min n.toNat 256)
def kWideLeft (a b c d n : Int) : Option Nat := (wt a b c d).map fun x => wideLeftN x n
def kWideRight (a b c d n : Int) : Option Nat := (wt a b c d).map fun x => wideRightN x n
def cWideLeft : Ctr := { f := 171, R := Nat, K := fun | [.fv (.agg [.int .u64 a, .int .u64 b, .int .u64 c, .int .u64 d]), .fv (.one (.int .i64 n))] => kWideLeft a b c d n | _ => none, res := fun r => .fv (wide r) }
def cWideRight : Ctr := { f := 245, R := Nat, K := fun | [.fv (.agg [.int .u64 a, .int .u64 b, .int .u64 c, .int .u64 d]), .fv (.one (.int .i64 n))] => kWideRight a b c d n | _ => none, res := fun r => .fv (wide r) }
theorem wideLeft_ok : CtrOk Tryz.prog dS cWideLeft := by
  refine ctr_of mixed dS_ok (callable_of Tryz.func171 (by kernel_rfl) (by kernel_rfl)) Tryz.func171 400 fun xs r h => ?_
  unfold cWideLeft at h
  simp only at h
  split at h
  · rename_i a b c d n
    have h : Option.map (fun x => wideLeftN x n) (wt a b c d) = some (show Nat from r) := h
    rw [Option.map_eq_some_iff] at h
    obtain ⟨x, hx, hr⟩ := h
    have hr : wideLeftN x n = r := hr
    subst hr
    obtain ⟨hlt, rfl, rfl, rfl, rfl⟩ := wt_inv hx
    refine ⟨?_, rfl⟩
    rw [wideLeft_eq]
    have hc : clamp (mx n 0) 256 = ((min n.toNat 256 : Nat) : Int) := by
      unfold clamp
      rw [mx_eq, mx_eq, mn_eq]
      omega
    rw [hc]
    have z0 : (0 : Int) = ((0 : Nat) : Int) := rfl
    have z1 : (1 : Int) = ((1 : Nat) : Int) := rfl
    have z2 : (2 : Int) = ((2 : Nat) : Int) := rfl
    have z3 : (3 : Int) = ((3 : Nat) : Int) := rfl
    rw [z0, z1, z2, z3, mvW_spec (wds4 hlt) (by omega) (by omega) (by decide), mvW_spec (wds4 hlt) (by omega) (by omega) (by decide), mvW_spec (wds4 hlt) (by omega) (by omega) (by decide), mvW_spec (wds4 hlt) (by omega) (by omega) (by decide)]
    rw [movedAt_left, movedAt_left, movedAt_left, movedAt_left]
    show _ = some (AV.fv (wide (x * 2 ^ (min n.toNat 256) % 2 ^ 256)))
    unfold wide
    rw [wordAt_mod _ 0 (by decide), wordAt_mod _ 1 (by decide), wordAt_mod _ 2 (by decide), wordAt_mod _ 3 (by decide)]
  · cases h
theorem wideRight_ok : CtrOk Tryz.prog dS cWideRight := by
  refine ctr_of mixed dS_ok (callable_of Tryz.func245 (by kernel_rfl) (by kernel_rfl)) Tryz.func245 400 fun xs r h => ?_
  unfold cWideRight at h
  simp only at h
  split at h
  · rename_i a b c d n
    have h : Option.map (fun x => wideRightN x n) (wt a b c d) = some (show Nat from r) := h
    rw [Option.map_eq_some_iff] at h
    obtain ⟨x, hx, hr⟩ := h
    have hr : wideRightN x n = r := hr
    subst hr
    obtain ⟨hlt, rfl, rfl, rfl, rfl⟩ := wt_inv hx
    refine ⟨?_, rfl⟩
    rw [wideRight_eq]
    have hc : clamp (IntKind.i64.wrap (0 - mn (mx n 0) 256)) 256 = -((min n.toNat 256 : Nat) : Int) := by
      rw [mx_eq, mn_eq, i64w _ (by omega) (by omega)]
      unfold clamp
      rw [mx_eq, mn_eq]
      omega
    rw [hc]
    have z0 : (0 : Int) = ((0 : Nat) : Int) := rfl
    have z1 : (1 : Int) = ((1 : Nat) : Int) := rfl
    have z2 : (2 : Int) = ((2 : Nat) : Int) := rfl
    have z3 : (3 : Int) = ((3 : Nat) : Int) := rfl
    rw [z0, z1, z2, z3, mvW_spec (wds4 hlt) (by omega) (by omega) (by decide), mvW_spec (wds4 hlt) (by omega) (by omega) (by decide), mvW_spec (wds4 hlt) (by omega) (by omega) (by decide), mvW_spec (wds4 hlt) (by omega) (by omega) (by decide)]
    rw [movedAt_right, movedAt_right, movedAt_right, movedAt_right]
    rfl
  · cases h
end Go.Ev
end
