/- Part 19 of 46 of what the theorem stands on. -/
import Derived.Test.YtkbfmpomeejadaaGreatDoorRemar

section
namespace Go.Ev
open Go.Proofs
noncomputable def funsS : List (Nat × Func) := [(238, Tryz.f238), (164, Tryz.f164), (165, Tryz.f165), (166, Tryz.f166), (305, Tryz.f305), (240, Tryz.f240), (241, Tryz.f241)]
noncomputable def bS0 : Base := { funs := funsS, eqs := [], ctrs := [] }
theorem bS0_ok : BaseOk bS0 where
  funs := by
    intro x hx
    simp only [bS0, funsS, List.mem_cons, List.not_mem_nil, or_false] at hx
    rcases hx with rfl | rfl | rfl | rfl | rfl | rfl | rfl
    · exact ⟨Tryz.func238, callable_of Tryz.func238 (by kernel_rfl) (by kernel_rfl)⟩
    · exact ⟨Tryz.func164, callable_of Tryz.func164 (by kernel_rfl) (by kernel_rfl)⟩
    · exact ⟨Tryz.func165, callable_of Tryz.func165 (by kernel_rfl) (by kernel_rfl)⟩
    · exact ⟨Tryz.func166, callable_of Tryz.func166 (by kernel_rfl) (by kernel_rfl)⟩
    · exact ⟨Tryz.func305, callable_of Tryz.func305 (by kernel_rfl) (by kernel_rfl)⟩
    · exact ⟨Tryz.func240, callable_of Tryz.func240 (by kernel_rfl) (by kernel_rfl)⟩
    · exact ⟨Tryz.func241, callable_of Tryz.func241 (by kernel_rfl) (by kernel_rfl)⟩
  eqs := by simp [bS0]
  ctrs := by simp [bS0]
noncomputable def sum238 : Sm := sumOf (dat bS0) 50 238 (prI .u64) (fun r => .one (.int .u64 r))
noncomputable def sum305 : Sm := sumOf (dat bS0) 50 305 (prI .u64) (fun r => .one (.int .u64 r))
noncomputable def dS : Data := { dat bS0 with sums := [sum238, sum305] }
theorem dS_ok : DataOk Tryz.prog dS where
  types := bS0_ok.data.types
  eqs := bS0_ok.data.eqs
  ctrs := bS0_ok.data.ctrs
  funs := bS0_ok.data.funs
  sums := fun f s hs => by
    have hs : lookS [sum238, sum305] f = some s := hs
    simp only [lookS] at hs
    cases h1 : Nat.beq sum238.f f with
    | true =>
      rw [h1] at hs
      cases hs
      have := Nat.eq_of_beq_eq_true h1
      subst this
      exact sumOf_ok (D := dat bS0) (D' := dS) (n := 50) (f := 238) mixed bS0_ok.data rfl (prI_ok .u64)
    | false =>
      rw [h1] at hs
      simp only [cond_false] at hs
      cases h2 : Nat.beq sum305.f f with
      | true =>
        rw [h2] at hs
        cases hs
        have := Nat.eq_of_beq_eq_true h2
        subst this
        exact sumOf_ok (D := dat bS0) (D' := dS) (n := 50) (f := 305) mixed bS0_ok.data rfl (prI_ok .u64)
      | false => rw [h2] at hs; cases hs
/-- A word of a list, nought outside. -/
def wdL : List Int → Nat → Int → Option Int
  | [], _, _ => none
  | x :: l, j, i => bif decide (i = (j : Int)) then some x else wdL l (j + 1) i
def wd (l : List Int) (i : Int) : Option Int :=
  bif decide (i < 0) then some 0 else bif decide ((l.length : Int) ≤ i) then some 0 else wdL l 0 i
def wOr (x y : Int) : Int := IntKind.u64.wrap (BitVec.ofInt IntKind.u64.bits x ||| BitVec.ofInt IntKind.u64.bits y).toNat
/-- One word of what moved makes. -/
def mvW {R : Type} (l : List Int) (n : Int) (i : Int) (k : Int → Option R) : Option R :=
  (wd l (IntKind.i64.wrap (i - shr .i64 n 6))).bind fun r =>
    bif decide (0 ≤ IntKind.u64.wrap (IntKind.i64.wrap (BitVec.ofInt IntKind.i64.bits n &&& BitVec.ofInt IntKind.i64.bits 63).toNat)) then
      (wd l (IntKind.i64.wrap (IntKind.i64.wrap (i - shr .i64 n 6) - 1))).bind fun r1 =>
        bif decide (0 ≤ IntKind.u64.wrap (63 - IntKind.u64.wrap (IntKind.i64.wrap (BitVec.ofInt IntKind.i64.bits n &&& BitVec.ofInt IntKind.i64.bits 63).toNat))) then
          k (wOr (shl .u64 r (IntKind.u64.wrap (IntKind.i64.wrap (BitVec.ofInt IntKind.i64.bits n &&& BitVec.ofInt IntKind.i64.bits 63).toNat)))
            (shr .u64 (shr .u64 r1 1) (IntKind.u64.wrap (63 - IntKind.u64.wrap (IntKind.i64.wrap (BitVec.ofInt IntKind.i64.bits n &&& BitVec.ofInt IntKind.i64.bits 63).toNat)))))
        else none
    else none
def clamp (n c : Int) : Int := mx (-c) (mn n c)
theorem left_eq (hi lo n : Int) : funC dS 400 Tryz.f89 [.fv (.agg [.int .u64 hi, .int .u64 lo]), .fv (.one (.int .i64 n))] some =
    mvW [lo, hi] (clamp (mx n 0) 128) 0 fun a => mvW [lo, hi] (clamp (mx n 0) 128) 1 fun b => some (.fv (.agg [.int .u64 b, .int .u64 a])) := by kernel_rfl
theorem right_eq (hi lo n : Int) : funC dS 400 Tryz.f163 [.fv (.agg [.int .u64 hi, .int .u64 lo]), .fv (.one (.int .i64 n))] some =
    mvW [lo, hi] (clamp (IntKind.i64.wrap (0 - mn (mx n 0) 128)) 128) 0 fun a => mvW [lo, hi] (clamp (IntKind.i64.wrap (0 - mn (mx n 0) 128)) 128) 1 fun b => some (.fv (.agg [.int .u64 b, .int .u64 a])) := by kernel_rfl
theorem wideLeft_eq (a b c d n : Int) : funC dS 400 Tryz.f171 [.fv (.agg [.int .u64 a, .int .u64 b, .int .u64 c, .int .u64 d]), .fv (.one (.int .i64 n))] some =
    mvW [a, b, c, d] (clamp (mx n 0) 256) 0 fun x => mvW [a, b, c, d] (clamp (mx n 0) 256) 1 fun y => mvW [a, b, c, d] (clamp (mx n 0) 256) 2 fun z => mvW [a, b, c, d] (clamp (mx n 0) 256) 3 fun u =>
      some (.fv (.agg [.int .u64 x, .int .u64 y, .int .u64 z, .int .u64 u])) := by kernel_rfl
theorem wideRight_eq (a b c d n : Int) : funC dS 400 Tryz.f245 [.fv (.agg [.int .u64 a, .int .u64 b, .int .u64 c, .int .u64 d]), .fv (.one (.int .i64 n))] some =
    mvW [a, b, c, d] (clamp (IntKind.i64.wrap (0 - mn (mx n 0) 256)) 256) 0 fun x => mvW [a, b, c, d] (clamp (IntKind.i64.wrap (0 - mn (mx n 0) 256)) 256) 1 fun y => mvW [a, b, c, d] (clamp (IntKind.i64.wrap (0 - mn (mx n 0) 256)) 256) 2 fun z => mvW [a, b, c, d] (clamp (IntKind.i64.wrap (0 - mn (mx n 0) 256)) 256) 3 fun u =>
      some (.fv (.agg [.int .u64 x, .int .u64 y, .int .u64 z, .int .u64 u])) := by kernel_rfl
end Go.Ev
end

section
namespace Go.Ev
open Go.Proofs
theorem u64w (n : Int) : IntKind.u64.wrap n = n % 18446744073709551616 := by simp [IntKind.wrap, IntKind.bits, IntKind.signed]
theorem i64w (n : Int) (h0 : -9223372036854775808 ≤ n) (h1 : n < 9223372036854775808) : IntKind.i64.wrap n = n := by
  simp [IntKind.wrap, IntKind.bits, IntKind.signed]
  omega
theorem u64s (n : Int) (h0 : 0 ≤ n) (h1 : n < 18446744073709551616) : IntKind.u64.wrap n = n := by rw [u64w]; omega
theorem and63 (n : Int) : ((BitVec.ofInt 64 n &&& BitVec.ofInt 64 63).toNat : Int) = n % 64 := by
  rw [BitVec.toNat_and]
  have h1 : (BitVec.ofInt 64 63).toNat = 2 ^ 6 - 1 := by decide
  rw [h1, Nat.and_two_pow_sub_one_eq_mod, BitVec.toNat_ofInt]
  omega
theorem shr6 (n : Int) : shr .i64 n 6 = n / 64 := by
  unfold shr
  have : (2 : Int) ^ (min (6 : Int).toNat IntKind.i64.bits) = 64 := by decide
  rw [this, Int.fdiv_eq_ediv]
  simp
theorem wOr_nat (x y : Nat) (hx : x < 2 ^ 64) (hy : y < 2 ^ 64) : wOr x y = ((x ||| y : Nat) : Int) := by
  unfold wOr
  have h1 : (BitVec.ofInt IntKind.u64.bits (x : Int)).toNat = x := by
    rw [BitVec.toNat_ofInt]
    simp [IntKind.bits]
    omega
  have h2 : (BitVec.ofInt IntKind.u64.bits (y : Int)).toNat = y := by
    rw [BitVec.toNat_ofInt]
    simp [IntKind.bits]
    omega
  have h3 : x ||| y < 2 ^ 64 := Nat.or_lt_two_pow hx hy
  rw [BitVec.toNat_or, h1, h2, u64s _ (by omega) (by omega)]
theorem shl_nat (x s : Nat) (hs : s < 64) : shl .u64 x s = ((x * 2 ^ s % 2 ^ 64 : Nat) : Int) := by
  unfold shl
  have : min (s : Int).toNat IntKind.u64.bits = s := by simp [IntKind.bits]; omega
  rw [this, u64w]
  have : ((x : Int) * 2 ^ s) = ((x * 2 ^ s : Nat) : Int) := by simp
  rw [this]
  omega
theorem shr_nat (x s : Nat) (hs : s < 64) : shr .u64 x s = ((x / 2 ^ s : Nat) : Int) := by
  unfold shr
  have : min (s : Int).toNat IntKind.u64.bits = s := by simp [IntKind.bits]; omega
  have h2 : (2 : Int) ^ s = ((2 ^ s : Nat) : Int) := by simp
  rw [this, h2]
  exact (Int.ofNat_fdiv x (2 ^ s)).symm
/-- A list of words is a number. -/
def Wds (l : List Int) (a : Nat) : Prop := ∀ i : Int, -1000 < i → i < 1000 → wd l i = some (if i < 0 then 0 else ((wordAt a i.toNat : Nat) : Int))
/-- The place of a number moved. -/
def movedAt (a : Nat) (n : Int) (i : Nat) : Nat := (if 0 ≤ n then a * 2 ^ n.toNat else a / 2 ^ (-n).toNat) / 2 ^ (64 * i) % 2 ^ 64
theorem movedAt_low {a s q i : Nat} (h : i < q) : movedAt a (64 * (q : Int) + s) i = 0 := by
  unfold movedAt
  have h1 : (0 : Int) ≤ 64 * (q : Int) + s := by omega
  have h2 : (64 * (q : Int) + s).toNat = 64 * i + 64 + (64 * (q - i - 1) + s) := by omega
  rw [if_pos h1, h2, Nat.pow_add, Nat.pow_add]
  have h3 : a * (2 ^ (64 * i) * 2 ^ 64 * 2 ^ (64 * (q - i - 1) + s)) = (a * 2 ^ (64 * (q - i - 1) + s) * 2 ^ 64) * 2 ^ (64 * i) := by
    simp [Nat.mul_assoc, Nat.mul_comm, Nat.mul_left_comm]
  rw [h3, Nat.mul_div_cancel _ (Nat.two_pow_pos _), Nat.mul_mod_left]
theorem movedAt_zero {a s i : Nat} : movedAt a (64 * (i : Int) + s) i = a * 2 ^ s % 2 ^ 64 := by
  unfold movedAt
  have h1 : (0 : Int) ≤ 64 * (i : Int) + s := by omega
  have h2 : (64 * (i : Int) + s).toNat = 64 * i + s := by omega
  rw [if_pos h1, h2, Nat.pow_add]
  have h3 : a * (2 ^ (64 * i) * 2 ^ s) = (a * 2 ^ s) * 2 ^ (64 * i) := by
    simp [Nat.mul_assoc, Nat.mul_comm, Nat.mul_left_comm]
  rw [h3, Nat.mul_div_cancel _ (Nat.two_pow_pos _)]
theorem movedAt_high {a s i j : Nat} {q : Int} (hs : s < 64) (h : (i : Int) = q + (j + 1)) : movedAt a (64 * q + s) i = a * 2 ^ s / 2 ^ (64 * (j + 1)) % 2 ^ 64 := by
  unfold movedAt
  by_cases hq : 0 ≤ q
  · have h1 : (0 : Int) ≤ 64 * q + s := by omega
    have h2 : (64 * q + s).toNat = s + 64 * q.toNat := by omega
    have h3 : 64 * i = 64 * (j + 1) + 64 * q.toNat := by omega
    rw [if_pos h1, h2, h3, Nat.pow_add, Nat.pow_add 2 (64 * (j + 1)), ← Nat.mul_assoc, Nat.mul_div_mul_right _ _ (Nat.two_pow_pos _)]
  · have h1 : ¬ (0 : Int) ≤ 64 * q + s := by omega
    rw [if_neg h1, Nat.div_div_eq_div_mul, ← Nat.pow_add]
    have h2 : 64 * (j + 1) = (-(64 * q + s)).toNat + 64 * i + s := by omega
    rw [h2, Nat.pow_add 2 _ s, Nat.mul_div_mul_right _ _ (Nat.two_pow_pos _)]
theorem mvW_spec {R : Type} {l : List Int} {a : Nat} (hl : Wds l a) {n : Int} (h0 : -512 ≤ n) (h1 : n ≤ 512) {i : Nat} (hi : i < 8) (k : Int → Option R) : mvW l n i k = k (movedAt a n i : Nat) := by
  obtain ⟨s, hs, hsn⟩ : ∃ s : Nat, s < 64 ∧ n % 64 = s := ⟨(n % 64).toNat, by omega, by omega⟩
  have hn : n = 64 * (n / 64) + s := by omega
  generalize hq : n / 64 = q at hn
  have e1 : IntKind.u64.wrap (IntKind.i64.wrap ((BitVec.ofInt IntKind.i64.bits n &&& BitVec.ofInt IntKind.i64.bits 63).toNat : Int)) = (s : Int) := by
    have : ((BitVec.ofInt IntKind.i64.bits n &&& BitVec.ofInt IntKind.i64.bits 63).toNat : Int) = n % 64 := and63 n
    rw [this, hsn, i64w _ (by omega) (by omega), u64s _ (by omega) (by omega)]
  have e2 : IntKind.u64.wrap (63 - (s : Int)) = ((63 - s : Nat) : Int) := by
    rw [u64s _ (by omega) (by omega)]; omega
  have e3 : IntKind.i64.wrap ((i : Int) - q) = (i : Int) - q := i64w _ (by omega) (by omega)
  have e4 : IntKind.i64.wrap ((i : Int) - q - 1) = (i : Int) - q - 1 := i64w _ (by omega) (by omega)
  unfold mvW
  rw [e1, e2, shr6, hq, e3, e4, hl _ (by omega) (by omega), hl _ (by omega) (by omega)]
  have d1 : decide (0 ≤ (s : Int)) = true := by simp
  have d2 : decide (0 ≤ ((63 - s : Nat) : Int)) = true := by simp
  simp only [Option.bind_some, d1, d2, cond_true]
  congr 1
  have hz : (0 : Int) = ((0 : Nat) : Int) := rfl
  rw [hn]
  by_cases hp : (i : Int) - q < 0
  · have hp2 : (i : Int) - q - 1 < 0 := by omega
    rw [if_pos hp, if_pos hp2]
    obtain ⟨t, ht⟩ : ∃ t : Nat, q = t := ⟨q.toNat, by omega⟩
    subst ht
    rw [movedAt_low (by omega), hz, shl_nat 0 s hs, show (1 : Int) = ((1 : Nat) : Int) from rfl, shr_nat 0 1 (by decide), shr_nat _ _ (by omega), wOr_nat _ _ (by simp) (by simp)]
    simp
  · by_cases hp0 : (i : Int) - q = 0
    · have hp2 : (i : Int) - q - 1 < 0 := by omega
      have hqi : q = i := by omega
      rw [if_neg hp, if_pos hp2]
      subst hqi
      rw [movedAt_zero, hz, shl_nat _ s hs, show (1 : Int) = ((1 : Nat) : Int) from rfl, shr_nat 0 1 (by decide), shr_nat _ _ (by omega), wOr_nat _ _ (Nat.mod_lt _ (by decide)) (by simp)]
      have : ((i : Int) - i).toNat = 0 := by omega
      rw [this, word_moved0]
      simp
    · have hp2 : ¬ (i : Int) - q - 1 < 0 := by omega
      obtain ⟨j, hj⟩ : ∃ j : Nat, (i : Int) - q = ((j + 1 : Nat) : Int) := ⟨((i : Int) - q - 1).toNat, by omega⟩
      rw [if_neg hp, if_neg hp2]
      have t1 : ((i : Int) - q).toNat = j + 1 := by omega
      have t2 : ((i : Int) - q - 1).toNat = j := by omega
      rw [t1, t2, movedAt_high (j := j) hs (by omega), shl_nat _ s hs, show (1 : Int) = ((1 : Nat) : Int) from rfl, shr_nat _ 1 (by decide), shr_nat _ _ (by omega),
        wOr_nat _ _ (Nat.mod_lt _ (by decide)) ?_]
      · rw [← word_moved a j s hs, Nat.pow_one]
      · have := wordAt_lt a j
        have h5 : wordAt a j / 2 ^ 1 / 2 ^ (63 - s) ≤ wordAt a j := Nat.le_trans (Nat.div_le_self _ _) (Nat.div_le_self _ _)
        omega
end Go.Ev
end
