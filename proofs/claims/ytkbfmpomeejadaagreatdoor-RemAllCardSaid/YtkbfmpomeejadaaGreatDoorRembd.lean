/- Part 30 of 46 of what the theorem stands on. -/
import Derived.Test.YtkbfmpomeejadaaGreatDoorRembb
import Derived.Test.YtkbfmpomeejadaaGreatDoorRembc

section
namespace Go.Ev
open Go.Proofs Go.RowKit
noncomputable def e3 : Base := (e2.with gNext).fun_ [(176, Tryz.f176)]
theorem e3_ok : BaseOk e3 := (e2_ok.with next_ok).fun_ (by
  intro x hx
  simp only [List.mem_cons, List.not_mem_nil, or_false] at hx
  obtain rfl := hx
  exact ⟨Tryz.func176, by kernel_rfl, by kernel_rfl⟩)
def cOne : Code → Code | .seq a _ => a | .block _ a => a | .loop a => a | c => c
def cTwo : Code → Code | .seq _ b => b | c => c
noncomputable def modC : Code := match Tryz.f107.body with | some c => c | none => .skip
noncomputable def modR0 : Code := cOne modC
noncomputable def modX : Code := cTwo modC
noncomputable def modR1 : Code := cOne modX
noncomputable def modY : Code := cTwo modX
noncomputable def modR3 : Code := cOne modY
noncomputable def modZ : Code := cTwo modY
noncomputable def modR4 : Code := cOne modZ
noncomputable def modU : Code := cTwo modZ
noncomputable def modA : Code := cOne modU
noncomputable def modV : Code := cTwo modU
noncomputable def modR5 : Code := cOne modA
noncomputable def modI : Code := cOne (cOne (cTwo modA))
noncomputable abbrev B2 (x : Nat) : List Lf := [.int .u64 (hiW x), .int .u64 (loW x)]
abbrev Z2 : List Lf := [.int .u64 0, .int .u64 0]
noncomputable abbrev own2 (x : Nat) : Bool × Nat × Bool × List Lf := (true, 2, true, B2 x)
abbrev avP (i : Nat) : AV := .fv (.one (.ptr i 0))
abbrev avI (n : Int) : AV := .fv (.one (.int .i64 n))
abbrev avF : AV := .fn 176 [] [.one (.ptr 4 0), .one (.ptr 5 0), .one (.ptr 7 0)]
theorem mod_r0 (n : Nat) (r : Nat) (by_ : Int) (d : Nat) : (evC (dat e3) (n + 10) 33 modR0 (argsT (arg0 (dat e3) 0 [aB r, aI by_, aB d])) (mem0 (dat e3) [aB r, aI by_, aB d]) [] fun e t m _ => some (watch [1, 3, 5, 6] [(4, 2), (5, 2), (6, 2)] e t m)) =
    some (.normal, [avI by_, avP 4, avP 5, avP 6], 7, [own2 r, own2 d, (true, 2, true, Z2)]) := by kernel_rfl
theorem mod_r1 (n : Nat) (r : Nat) (by_ : Int) (d : Nat) (tm : Tm) (m : Mem) (ws : List Loc) (g4 g5 g6 : Nat → Lf) : (evC (dat e3) (n + 10) 33 modR1 (can tm [(1, avI by_), (3, avP 4), (5, avP 5), (6, avP 6)])
    (canM m 7 [(4, mkB g4 (B2 r)), (5, mkB g5 (B2 d)), (6, mkB g6 Z2)]) ws fun e t m _ => some (watch [1, 3, 5, 6] [(4, 2), (5, 2), (6, 2)] e t m)) =
    (qCmp [aB r, aB d]).bind fun c => bif decide (0 ≤ c) then some (.ret, [avI by_, avP 4, avP 5, avP 6], 7, [own2 r, own2 d, (true, 2, true, Z2)]) else
      bif decide (by_ < 0) then some (.ret, [avI by_, avP 4, avP 5, avP 6], 7, [own2 r, own2 d, (true, 2, true, Z2)]) else
      bif decide (40000 < by_) then some (.ret, [avI by_, avP 4, avP 5, avP 6], 7, [own2 r, own2 d, (true, 2, true, Z2)]) else
      some (.normal, [avI by_, avP 4, avP 5, avP 6], 7, [own2 r, own2 d, (true, 2, true, Z2)]) := by kernel_rfl
theorem mod_r3 (n : Nat) (r : Nat) (by_ : Int) (d : Nat) (tm : Tm) (m : Mem) (ws : List Loc) (g4 g5 g6 : Nat → Lf) : (evC (dat e3) (n + 10) 33 modR3 (can tm [(1, avI by_), (3, avP 4), (5, avP 5), (6, avP 6)])
    (canM m 7 [(4, mkB g4 (B2 r)), (5, mkB g5 (B2 d)), (6, mkB g6 Z2)]) ws fun e t m _ => some (watch [1, 3, 5, 6, 9] [(4, 2), (5, 2), (6, 2), (7, 1)] e t m)) =
    some (.normal, [avI by_, avP 4, avP 5, avP 6, avP 7], 8, [own2 r, own2 d, (true, 2, true, Z2), (true, 1, true, [.bool false])]) := by kernel_rfl
theorem mod_r4 (n : Nat) (r : Nat) (by_ : Int) (d : Nat) (tm : Tm) (m : Mem) (ws : List Loc) (g4 g5 g6 g7 : Nat → Lf) : (evC (dat e3) (n + 10) 33 modR4 (can tm [(1, avI by_), (3, avP 4), (5, avP 5), (6, avP 6), (9, avP 7)])
    (canM m 8 [(4, mkB g4 (B2 r)), (5, mkB g5 (B2 d)), (6, mkB g6 Z2), (7, mkB g7 [.bool false])]) ws fun e t m _ => some (watch [1, 3, 5, 6, 9, 10] [(4, 2), (5, 2), (6, 2), (7, 1)] e t m)) =
    some (.normal, [avI by_, avP 4, avP 5, avP 6, avP 7, avF], 8, [own2 r, own2 d, (true, 2, true, Z2), (true, 1, true, [.bool false])]) := by kernel_rfl
theorem mod_r5 (n : Nat) (r : Nat) (by_ : Int) (d : Nat) (tm : Tm) (m : Mem) (ws : List Loc) (g4 g5 g6 g7 : Nat → Lf) : (evC (dat e3) (n + 10) 33 modR5 (can tm [(1, avI by_), (3, avP 4), (5, avP 5), (6, avP 6), (9, avP 7), (10, avF)])
    (canM m 8 [(4, mkB g4 (B2 r)), (5, mkB g5 (B2 d)), (6, mkB g6 Z2), (7, mkB g7 [.bool false])]) ws fun e t m _ => some (watch [3, 5, 6, 9, 10, 25, 26] [(4, 2), (5, 2), (6, 2), (7, 1)] e t m)) =
    some (.normal, [avP 4, avP 5, avP 6, avP 7, avF, avI by_, avI 0], 8, [own2 r, own2 d, (true, 2, true, Z2), (true, 1, true, [.bool false])]) := by kernel_rfl
theorem mod_round (n : Nat) (r : Nat) (odd : Bool) (by_ i : Int) (d : Nat) (tm : Tm) (m : Mem) (ws : List Loc) (g4 g5 g6 g7 : Nat → Lf) :
    (evC (dat e3) (n + 10) 33 modI (can tm [(3, avP 4), (5, avP 5), (6, avP 6), (9, avP 7), (10, avF), (25, avI by_), (26, avI i)])
    (canM m 8 [(4, mkB g4 (B2 r)), (5, mkB g5 (B2 d)), (6, mkB g6 Z2), (7, mkB g7 [.bool odd])]) ws fun e t m _ => some (watch [3, 5, 6, 9, 10, 25, 26] [(4, 2), (5, 2), (6, 2), (7, 1)] e t m)) =
    bif decide (i < by_) then (qNext [aB r, aU 0, aB d]).bind fun q => some (.normal, [avP 4, avP 5, avP 6, avP 7, avF, avI by_, avI (IntKind.wrap .i64 (i + 1))], 8, [own2 q.1, own2 d, (true, 2, true, Z2), (true, 1, true, [.bool q.2])])
    else some (.exit 0, [avP 4, avP 5, avP 6, avP 7, avF, avI by_, avI i], 8, [own2 r, own2 d, (true, 2, true, Z2), (true, 1, true, [.bool odd])]) := by kernel_rfl
noncomputable def rMod (r : Nat × Bool × Bool) : AV := .tup [bb r.1, .one (.bool r.2.1), .one (.bool r.2.2)]
noncomputable def modEnd (e : Ex) (tm : Tm) (m : Mem) (_ : List Loc) : Option AV :=
  match e with
  | .exit _ => none
  | _ => resC (dat e3) tm m Tryz.f107.results.toList [] fun l => tupC l some
theorem mod_last (n : Nat) (r : Nat) (odd : Bool) (by_ i : Int) (d : Nat) (tm : Tm) (m : Mem) (ws : List Loc) (g4 g5 g6 g7 : Nat → Lf) :
    (evC (dat e3) (n + 10) 33 modV (can tm [(3, avP 4), (5, avP 5), (6, avP 6), (9, avP 7), (10, avF), (25, avI by_), (26, avI i)])
    (canM m 8 [(4, mkB g4 (B2 r)), (5, mkB g5 (B2 d)), (6, mkB g6 Z2), (7, mkB g7 [.bool odd])]) ws modEnd) = some (rMod (r, odd, true)) := by kernel_rfl
end Go.Ev
end

section
namespace Go.Ev
open Go.Proofs Go.RowKit
theorem watch_mem {ts : List Nat} {ids : List (Nat × List Lf)} {e : Ex} {tm : Tm} {m : Mem} {vs : List AV} {x : Ex} {len : Nat}
    (h : watch ts (ids.map fun p => (p.1, p.2.length)) e tm m = (x, vs, len, ids.map fun p => (true, p.2.length, true, p.2))) : canM m len (ids.map fun p => (p.1, mkB (m.blk p.1).get p.2)) = m := by
  unfold watch at h
  simp only [Prod.mk.injEq, List.map_map] at h
  refine canM_eq h.2.2.1 fun p hp => ?_
  obtain ⟨q, hq, rfl⟩ := List.mem_map.1 hp
  have := List.map_inj_left.1 h.2.2.2 q hq
  simp only [Function.comp, Prod.mk.injEq] at this
  exact (mkB_eq this.1 this.2.1 (noEs_none this.2.2.1) this.2.2.2).symm
def modIt (d : Nat) : Nat → Nat × Bool → Nat × Bool
  | 0, s => s
  | n + 1, s => modIt d n (stepN s.1 0 d)
theorem stepN_lt {r d : Nat} (h : r < d) : (stepN r 0 d).1 < d := by
  unfold stepN
  by_cases h1 : d ≤ 2 * r + (0 : Int).toNat
  · rw [decide_eq_true h1]; simp only [cond_true]; simp at h1 ⊢; omega
  · rw [decide_eq_false h1]; simp only [cond_false]; simp at h1 ⊢; omega
theorem mod_loop {d : Nat} (hd : d < 2 ^ 128) (by_ : Int) (hby : by_ ≤ 40000) : ∀ (N n r : Nat) (odd : Bool) (i : Int) (tm : Tm) (m : Mem) (ws : List Loc), r < d → 0 ≤ i → by_ - i = N →
    can tm [(3, avP 4), (5, avP 5), (6, avP 6), (9, avP 7), (10, avF), (25, avI by_), (26, avI i)] = tm →
    canM m 8 [(4, mkB (m.blk 4).get (B2 r)), (5, mkB (m.blk 5).get (B2 d)), (6, mkB (m.blk 6).get Z2), (7, mkB (m.blk 7).get [.bool odd])] = m →
    ∃ t' m' ws', can t' [(3, avP 4), (5, avP 5), (6, avP 6), (9, avP 7), (10, avF), (25, avI by_), (26, avI by_)] = t' ∧
      canM m' 8 [(4, mkB (m'.blk 4).get (B2 (modIt d N (r, odd)).1)), (5, mkB (m'.blk 5).get (B2 d)), (6, mkB (m'.blk 6).get Z2), (7, mkB (m'.blk 7).get [.bool (modIt d N (r, odd)).2])] = m' ∧
      ∀ (R : Type) (k : Ex → Tm → Mem → List Loc → Option R), evC (dat e3) (n + N + 11) 33 (.loop modI) tm m ws k = k (.exit 0) t' m' ws' := by
  intro N
  induction N with
  | zero =>
    intro n r odd i tm m ws hr h0 hi ht hm
    have hround := mod_round n r odd by_ i d tm m ws (m.blk 4).get (m.blk 5).get (m.blk 6).get (m.blk 7).get
    rw [ht, hm, decide_eq_false (by omega : ¬ i < by_), cond_false] at hround
    obtain ⟨e, t', m', ws', hw, hk⟩ := loop_obs hround
    obtain ⟨rfl, h1, _⟩ := watch_tm hw
    have h2 := watch_mem (ids := [(4, B2 r), (5, B2 d), (6, Z2), (7, [.bool odd])]) hw
    have e1 : i = by_ := by omega
    rw [e1] at h1
    exact ⟨t', m', ws', h1, h2, fun R k => hk R k⟩
  | succ N ih =>
    intro n r odd i tm m ws hr h0 hi ht hm
    have hround := mod_round (n + N + 1) r odd by_ i d tm m ws (m.blk 4).get (m.blk 5).get (m.blk 6).get (m.blk 7).get
    rw [ht, hm, decide_eq_true (by omega : i < by_), cond_true, qNext_K (Nat.lt_trans hr hd) (by decide) hd hr (by decide), Option.bind_some, i64w _ (by omega) (by omega)] at hround
    obtain ⟨e, t', m', ws', hw, hk⟩ := loop_obs hround
    obtain ⟨rfl, h1, _⟩ := watch_tm hw
    have h2 := watch_mem (ids := [(4, B2 (stepN r 0 d).1), (5, B2 d), (6, Z2), (7, [.bool (stepN r 0 d).2])]) hw
    obtain ⟨t2, m2, ws2, h3, h4, hk2⟩ := ih n (stepN r 0 d).1 (stepN r 0 d).2 (i + 1) t' m' ws' (stepN_lt hr) (by omega) (by omega) h1 h2
    exact ⟨t2, m2, ws2, h3, h4, fun R k => (hk R k).trans (hk2 R k)⟩
/-- What follows behind a piece; behind a block. -/
def seqK {R : Type} (D : Data) (n nt : Nat) (b : Code) (k : Ex → Tm → Mem → List Loc → Option R) : Ex → Tm → Mem → List Loc → Option R :=
  fun e tm m ws => match e with | .normal => evC D n nt b tm m ws k | e => k e tm m ws
def blkK {R : Type} (id : Nat) (k : Ex → Tm → Mem → List Loc → Option R) : Ex → Tm → Mem → List Loc → Option R :=
  fun e tm m ws => match e with | .exit j => bif Nat.beq j id then k .normal tm m ws else k (.exit j) tm m ws | e => k e tm m ws
theorem seqK_normal {R : Type} (D : Data) (n nt : Nat) (b : Code) (k : Ex → Tm → Mem → List Loc → Option R) (tm : Tm) (m : Mem) (ws : List Loc) : seqK D n nt b k .normal tm m ws = evC D n nt b tm m ws k := rfl
theorem blkK_exit {R : Type} (k : Ex → Tm → Mem → List Loc → Option R) (tm : Tm) (m : Mem) (ws : List Loc) : blkK 0 k (.exit 0) tm m ws = k .normal tm m ws := rfl
theorem evC_seq {D : Data} {R : Type} (n nt : Nat) (a b : Code) (tm : Tm) (m : Mem) (ws : List Loc) (k : Ex → Tm → Mem → List Loc → Option R) :
    evC D (n + 1) nt (.seq a b) tm m ws k = evC D n nt a tm m ws (seqK D n nt b k) := rfl
theorem evC_block {D : Data} {R : Type} (n nt id : Nat) (a : Code) (tm : Tm) (m : Mem) (ws : List Loc) (k : Ex → Tm → Mem → List Loc → Option R) :
    evC D (n + 1) nt (.block id a) tm m ws k = evC D n nt a tm m ws (blkK id k) := rfl
theorem modC_seq : modC = .seq modR0 (.seq modR1 (.seq modR3 (.seq modR4 (.seq (.seq modR5 (.block 0 (.loop modI))) modV)))) := by kernel_rfl
theorem mod_start (n : Nat) (r : Nat) (by_ : Int) (d : Nat) : funC (dat e3) n Tryz.f107 [aB r, aI by_, aB d] some =
    evC (dat e3) n 33 modC (argsT (arg0 (dat e3) 0 [aB r, aI by_, aB d])) (mem0 (dat e3) [aB r, aI by_, aB d]) [] modEnd := by kernel_rfl
theorem mod_run {r d : Nat} {by_ : Int} (hd : d < 2 ^ 128) (hr : r < d) (h0 : 0 ≤ by_) (h1 : by_ ≤ 40000) (n : Nat) :
    funC (dat e3) (n + by_.toNat + 20) Tryz.f107 [aB r, aI by_, aB d] some = some (rMod ((modIt d by_.toNat (r, false)).1, (modIt d by_.toNat (r, false)).2, true)) := by
  rw [mod_start, modC_seq]
  generalize hN : by_.toNat = N
  obtain ⟨e, t1, m1, w1, hw, hk⟩ := seq_obs (mod_r0 (n + N + 9) r by_ d)
  obtain ⟨rfl, ht1, _⟩ := watch_tm hw
  have hm1 := watch_mem (ids := [(4, B2 r), (5, B2 d), (6, Z2)]) hw
  refine (hk _ _ _).trans ?_
  have h2 := mod_r1 (n + N + 8) r by_ d t1 m1 w1 (m1.blk 4).get (m1.blk 5).get (m1.blk 6).get
  have hc : cmpN r d = -1 := by unfold cmpN; rw [decide_eq_true hr]; rfl
  rw [show can t1 [(1, avI by_), (3, avP 4), (5, avP 5), (6, avP 6)] = t1 from ht1, show canM m1 7 [(4, mkB (m1.blk 4).get (B2 r)), (5, mkB (m1.blk 5).get (B2 d)), (6, mkB (m1.blk 6).get Z2)] = m1 from hm1,
    qCmp_K (Nat.lt_trans hr hd) hd, Option.bind_some, hc, decide_eq_false (by decide : ¬ (0 : Int) ≤ -1), decide_eq_false (by omega : ¬ by_ < 0), decide_eq_false (by omega : ¬ 40000 < by_), cond_false, cond_false, cond_false] at h2
  obtain ⟨e, t2, m2, w2, hw2, hk2⟩ := seq_obs h2
  obtain ⟨rfl, ht2, _⟩ := watch_tm hw2
  have hm2 := watch_mem (ids := [(4, B2 r), (5, B2 d), (6, Z2)]) hw2
  refine (hk2 _ _ _).trans ?_
  have h3 := mod_r3 (n + N + 7) r by_ d t2 m2 w2 (m2.blk 4).get (m2.blk 5).get (m2.blk 6).get
  rw [show can t2 [(1, avI by_), (3, avP 4), (5, avP 5), (6, avP 6)] = t2 from ht2, show canM m2 7 [(4, mkB (m2.blk 4).get (B2 r)), (5, mkB (m2.blk 5).get (B2 d)), (6, mkB (m2.blk 6).get Z2)] = m2 from hm2] at h3
  obtain ⟨e, t3, m3, w3, hw3, hk3⟩ := seq_obs h3
  obtain ⟨rfl, ht3, _⟩ := watch_tm hw3
  have hm3 := watch_mem (ids := [(4, B2 r), (5, B2 d), (6, Z2), (7, [.bool false])]) hw3
  refine (hk3 _ _ _).trans ?_
  have h4 := mod_r4 (n + N + 6) r by_ d t3 m3 w3 (m3.blk 4).get (m3.blk 5).get (m3.blk 6).get (m3.blk 7).get
  rw [show can t3 [(1, avI by_), (3, avP 4), (5, avP 5), (6, avP 6), (9, avP 7)] = t3 from ht3, show canM m3 8 [(4, mkB (m3.blk 4).get (B2 r)), (5, mkB (m3.blk 5).get (B2 d)), (6, mkB (m3.blk 6).get Z2), (7, mkB (m3.blk 7).get [.bool false])] = m3 from hm3] at h4
  obtain ⟨e, t4, m4, w4, hw4, hk4⟩ := seq_obs h4
  obtain ⟨rfl, ht4, _⟩ := watch_tm hw4
  have hm4 := watch_mem (ids := [(4, B2 r), (5, B2 d), (6, Z2), (7, [.bool false])]) hw4
  refine (hk4 _ _ _).trans ?_
  have h5 := mod_r5 (n + N + 4) r by_ d t4 m4 w4 (m4.blk 4).get (m4.blk 5).get (m4.blk 6).get (m4.blk 7).get
  rw [show can t4 [(1, avI by_), (3, avP 4), (5, avP 5), (6, avP 6), (9, avP 7), (10, avF)] = t4 from ht4, show canM m4 8 [(4, mkB (m4.blk 4).get (B2 r)), (5, mkB (m4.blk 5).get (B2 d)), (6, mkB (m4.blk 6).get Z2), (7, mkB (m4.blk 7).get [.bool false])] = m4 from hm4] at h5
  obtain ⟨e, t5, m5, w5, hw5, hk5⟩ := seq_obs h5
  obtain ⟨rfl, ht5, _⟩ := watch_tm hw5
  have hm5 := watch_mem (ids := [(4, B2 r), (5, B2 d), (6, Z2), (7, [.bool false])]) hw5
  obtain ⟨t6, m6, w6, ht6, hm6, hk6⟩ := mod_loop hd by_ h1 N (n + 2) r false 0 t5 m5 w5 hr (by omega) (by omega) ht5 hm5
  have e6 : n + 2 + N + 11 = n + N + 13 := by omega
  rw [e6] at hk6
  refine (evC_seq (n + N + 15) 33 (.seq modR5 (.block 0 (.loop modI))) modV t4 m4 w4 modEnd).trans ?_
  refine (hk5 _ _ _).trans ?_
  refine (evC_block (n + N + 13) 33 0 (.loop modI) t5 m5 w5 _).trans ?_
  refine (hk6 _ _).trans ?_
  rw [blkK_exit, seqK_normal]
  have h7 := mod_last (n + N + 5) (modIt d N (r, false)).1 (modIt d N (r, false)).2 by_ by_ d t6 m6 w6 (m6.blk 4).get (m6.blk 5).get (m6.blk 6).get (m6.blk 7).get
  rw [ht6, hm6] at h7
  have e7 : n + N + 5 + 10 = n + N + 15 := by omega
  rw [e7] at h7
  exact h7
noncomputable def gMod : Ctr := ctr3 107 dB dI dB (fun r b d => bif decide (r < d) && (decide (0 ≤ b) && decide (b ≤ 40000)) then some ((modIt d b.toNat (r, false)).1, (modIt d b.toNat (r, false)).2, true) else none) rMod
noncomputable def qMod : List Arg → Option (Nat × Bool × Bool) := gMod.K
theorem qMod_K {r d : Nat} {b : Int} (hd : d < 2 ^ 128) (hr : r < d) (h0 : 0 ≤ b) (h1 : b ≤ 40000) : qMod [aB r, aI b, aB d] = some ((modIt d b.toNat (r, false)).1, (modIt d b.toNat (r, false)).2, true) := by
  refine (ctr3_K (a := dB) (b := dI) (c := dB) (Nat.lt_trans hr hd) (okS_of (by omega) (by omega)) hd).trans ?_
  rw [decide_eq_true hr, decide_eq_true h0, decide_eq_true h1]
  rfl
theorem mod_ok : CtrOk Tryz.prog (dat e3) gMod := by
  refine ctr3_ok e3_ok ⟨Tryz.func107, by kernel_rfl, by kernel_rfl⟩ 40100 fun r b d z hr hb hd hz => ?_
  obtain ⟨hc, hz⟩ := bif_inv hz
  simp only [Bool.and_eq_true, decide_eq_true_eq] at hc
  cases hz
  refine ⟨?_, rfl⟩
  have := mod_run (r := r) (d := d) hd hc.1 hc.2.1 hc.2.2 (40080 - b.toNat)
  have e : 40080 - b.toNat + b.toNat + 20 = 40100 := by omega
  rw [e] at this
  exact this
end Go.Ev
end
