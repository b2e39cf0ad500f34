/- Part 29 of 46 of what the theorem stands on. -/
import Derived.Test.YtkbfmpomeejadaaGreatDoorRemap

section
namespace Go.Ev
section
variable {D : Data}
theorem obs_of {n nt : Nat} {c : Code} {tm : Tm} {m : Mem} {ws : List Loc} {O : Type} {obs : Ex → Tm → Mem → O} {o : O}
    (h : (evC D n nt c tm m ws fun e t m _ => some (obs e t m)) = some o) :
    ∃ e t' m' ws', obs e t' m' = o ∧ ∀ (R : Type) (k : Ex → Tm → Mem → List Loc → Option R), evC D n nt c tm m ws k = k e t' m' ws' := by
  have hn := evC_nat (D := D) n
  rw [hn] at h
  cases hs : (evC D n nt c tm m ws fun e t m w => some (e, t, m, w)) with
  | none => rw [hs] at h; cases h
  | some x =>
    rw [hs] at h
    obtain ⟨e, t', m', ws'⟩ := x
    refine ⟨e, t', m', ws', Option.some.inj h, fun R k => ?_⟩
    rw [hn, hs]
    rfl
theorem seq_obs {n nt : Nat} {a : Code} {tm : Tm} {m : Mem} {ws : List Loc} {O : Type} {obs : Ex → Tm → Mem → O} {o : O}
    (h : (evC D n nt a tm m ws fun e t m _ => some (obs e t m)) = some o) :
    ∃ e t' m' ws', obs e t' m' = o ∧ ∀ (R : Type) (b : Code) (k : Ex → Tm → Mem → List Loc → Option R),
      evC D (n + 1) nt (.seq a b) tm m ws k = (match e with | .normal => evC D n nt b t' m' ws' k | e => k e t' m' ws') := by
  obtain ⟨e, t', m', ws', h1, h2⟩ := obs_of h
  refine ⟨e, t', m', ws', h1, fun R b k => ?_⟩
  show evC D n nt a tm m ws _ = _
  rw [h2]
  cases e <;> rfl
theorem loop_obs {n nt : Nat} {a : Code} {tm : Tm} {m : Mem} {ws : List Loc} {O : Type} {obs : Ex → Tm → Mem → O} {o : O}
    (h : (evC D n nt a tm m ws fun e t m _ => some (obs e t m)) = some o) :
    ∃ e t' m' ws', obs e t' m' = o ∧ ∀ (R : Type) (k : Ex → Tm → Mem → List Loc → Option R),
      evC D (n + 1) nt (.loop a) tm m ws k = (match e with | .normal => evC D n nt (.loop a) t' m' ws' k | e => k e t' m' ws') := by
  obtain ⟨e, t', m', ws', h1, h2⟩ := obs_of h
  refine ⟨e, t', m', ws', h1, fun R k => ?_⟩
  show evC D n nt a tm m ws _ = _
  rw [h2]
  cases e <;> rfl
end
/-- Temporaries of which some are known. -/
def can (tm : Tm) : List (Nat × AV) → Tm
  | [] => tm
  | (t, v) :: l => putT (some t) v (can tm l)
theorem putT_seen {tm : Tm} {t : Nat} {v : AV} (h : tm t = v) : putT (some t) v tm = tm := by
  funext u
  show (bif Nat.beq u t then v else tm u) = tm u
  cases hb : Nat.beq u t with
  | true => rw [Nat.eq_of_beq_eq_true hb, h]; rfl
  | false => rfl
theorem can_eq {tm : Tm} : ∀ {l : List (Nat × AV)}, (∀ p ∈ l, tm p.1 = p.2) → can tm l = tm
  | [], _ => rfl
  | (t, v) :: l, h => by
    show putT (some t) v (can tm l) = tm
    rw [can_eq fun p hp => h p (by simp [hp])]
    exact putT_seen (h (t, v) (by simp))
/-- A block of cells of one's own. -/
def mkB (g : Nat → Lf) (l : List Lf) : Blk := { own := true, sz := l.length, get := fun j => bif Nat.blt j l.length then nthD (.cst undef) l j else g j }
theorem mkB_eq {b : Blk} {l : List Lf} (h1 : b.own = true) (h2 : b.sz = l.length) (h3 : b.es = none) (h4 : tab b.get 0 l.length = l) : mkB b.get l = b := by
  obtain ⟨own, sz, get, es⟩ := b
  simp only at h1 h2 h3 h4
  subst h1 h2 h3
  unfold mkB
  have key : ∀ (n : Nat) (r : List Lf) (off : Nat), tab get off n = r → ∀ j, j < n → nthD (.cst undef) r j = get (off + j) := by
    intro n
    induction n with
    | zero => intro r off _ j hj; omega
    | succ n ih =>
      intro r off hr j hj
      simp only [tab] at hr
      subst hr
      cases j with
      | zero => rfl
      | succ j =>
        show nthD _ (tab get (off + 1) n) j = _
        rw [ih _ (off + 1) rfl j (by omega)]
        congr 1
        omega
  have e : (fun j => bif Nat.blt j l.length then nthD (.cst undef) l j else get j) = get := by
    funext j
    cases hb : Nat.blt j l.length with
    | false => rfl
    | true =>
      have := key l.length l 0 h4 j (Nat.lt_of_succ_le (Nat.le_of_ble_eq_true hb))
      rw [Nat.zero_add] at this
      exact this
  rw [e]
/-- A memory of which some blocks are known. -/
def canM (m : Mem) (len : Nat) (l : List (Nat × Blk)) : Mem := { len, blk := fun i => match look l i with | some b => b | none => m.blk i }
theorem look_all {α : Type} {l : List (Nat × α)} {i : Nat} {b : α} (h : look l i = some b) : (i, b) ∈ l := by
  induction l with
  | nil => cases h
  | cons p l ih =>
    obtain ⟨n, a⟩ := p
    simp only [look] at h
    cases hb : Nat.beq n i with
    | true =>
      rw [hb] at h
      cases h
      rw [Nat.eq_of_beq_eq_true hb]
      simp
    | false =>
      rw [hb] at h
      exact List.mem_cons_of_mem _ (ih h)
theorem canM_eq {m : Mem} {len : Nat} {l : List (Nat × Blk)} (h : m.len = len) (hb : ∀ p ∈ l, m.blk p.1 = p.2) : canM m len l = m := by
  obtain ⟨len', blk⟩ := m
  simp only at h
  subst h
  unfold canM
  congr 1
  funext i
  cases hl : look l i with
  | none => rfl
  | some b => exact (hb _ (look_all hl)).symm
/-- What one looks at: temporaries, and blocks of so many cells. -/
def watch (ts : List Nat) (bs : List (Nat × Nat)) (e : Ex) (tm : Tm) (m : Mem) : Ex × List AV × Nat × List (Bool × Nat × Bool × List Lf) :=
  (e, ts.map tm, m.len, bs.map fun b => ((m.blk b.1).own, (m.blk b.1).sz, noEs (m.blk b.1).es, tab (m.blk b.1).get 0 b.2))
theorem noEs_none {x : Option (List (Lf × FV))} (h : noEs x = true) : x = none := by
  cases x with
  | none => rfl
  | some _ => cases h
theorem map_at {α β : Type} {f : α → β} : ∀ {l : List α} {r : List β}, l.map f = r → ∀ p ∈ l.zip r, f p.1 = p.2
  | [], _, _, p, hp => by simp at hp
  | a :: l, r, h, p, hp => by
    subst h
    simp only [List.map_cons, List.zip_cons_cons, List.mem_cons] at hp
    rcases hp with rfl | hp
    · rfl
    · exact map_at rfl p hp
/-- A state that one has looked at is what was seen, over something. -/
theorem watch_tm {ts : List Nat} {bs : List (Nat × Nat)} {e : Ex} {tm : Tm} {m : Mem} {vs : List AV} {x : Ex} {len : Nat} {cs : List (Bool × Nat × Bool × List Lf)}
    (h : watch ts bs e tm m = (x, vs, len, cs)) : e = x ∧ can tm (ts.zip vs) = tm ∧ m.len = len := by
  unfold watch at h
  simp only [Prod.mk.injEq] at h
  exact ⟨h.1, can_eq (map_at h.2.1), h.2.2.1⟩
end Go.Ev
end
