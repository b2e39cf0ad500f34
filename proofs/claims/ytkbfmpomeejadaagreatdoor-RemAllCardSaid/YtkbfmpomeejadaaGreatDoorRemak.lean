/- Part 11 of 46 of what the theorem stands on. -/
import Derived.Test.YtkbfmpomeejadaaGreatDoorRemaj

section
namespace Go.Ev
open Go.RowKit
section
variable {D : Data} {call : CallK} {R : Type}
theorem evO_tm {tm tm2 : Tm} {x : Operand} (h : ∀ t, x = .tmp t → tm t = tm2 t) : evO D tm x = evO D tm2 x := by
  cases x with
  | tmp t => simp only [evO, h t rfl]
  | const _ => rfl
  | func _ => rfl
  | global _ => rfl
theorem evOs_tm {tm tm2 : Tm} : ∀ {l : List Operand}, (∀ x ∈ l, evO D tm x = evO D tm2 x) → evOs D tm l = evOs D tm2 l
  | [], _ => rfl
  | x :: l, h => by
    simp only [evOs]
    rw [h x (by simp), evOs_tm (l := l) fun y hy => h y (by simp [hy])]
theorem partsL_tm {tm tm2 : Tm} : ∀ {l : List (Nat × Operand)}, (∀ x ∈ l, evO D tm x.2 = evO D tm2 x.2) → partsL D tm l = partsL D tm2 l
  | [], _ => rfl
  | (i, x) :: l, h => by
    simp only [partsL]
    rw [h (i, x) (by simp), partsL_tm (l := l) fun y hy => h y (by simp [hy])]
theorem optO_tm {tm tm2 : Tm} {x : Option Operand} (h : ∀ y, x = some y → evO D tm y = evO D tm2 y) : optO D tm x = optO D tm2 x := by
  cases x with
  | none => rfl
  | some x => simp only [optO, h x rfl]
theorem mem_tmpsOf {t : Nat} : ∀ {l : List Operand}, Operand.tmp t ∈ l → t ∈ tmpsOf l
  | x :: l, h => by
    rcases List.mem_cons.1 h with h | h
    · subst h; simp [tmpsOf]
    · have := mem_tmpsOf h
      cases x <;> simp [tmpsOf, this]
theorem opC_tm {o : Op} {slot : Nat} {tm tm2 : Tm} {m : Mem} {k : AV → Mem → Lab → Option R} (h : ∀ t ∈ tmpsOf o.operands.toList, tm t = tm2 t) :
    opC D call o slot tm m k = opC D call o slot tm2 m k := by
  have H : ∀ x ∈ o.operands.toList, evO D tm x = evO D tm2 x := fun x hx => evO_tm fun t e => h t (mem_tmpsOf (e ▸ hx))
  clear h
  cases o
  case makeFunc f first caps =>
    have h1 : evOs D tm caps.toList = evOs D tm2 caps.toList := evOs_tm fun x hx => H x (by simp [Op.operands] at hx ⊢; exact .inr hx)
    have h2 : evOs D tm first.toList = evOs D tm2 first.toList := evOs_tm fun x hx => H x (by simp [Op.operands] at hx ⊢; exact .inl hx)
    cases f with
    | func f => simp only [opC, h1, h2]
    | _ => rfl
  case build t ps =>
    have h1 : partsL D tm ps.toList = partsL D tm2 ps.toList := partsL_tm fun x hx => H x.2 (by simp [Op.operands]; exact ⟨x.1, by simpa using hx⟩)
    simp only [opC, h1]
  case buildSlice t n ps =>
    have h1 : partsL D tm ps.toList = partsL D tm2 ps.toList := partsL_tm fun x hx => H x.2 (by simp [Op.operands]; exact ⟨x.1, by simpa using hx⟩)
    simp only [opC, h1]
  case slice t x lo hi mx =>
    have h0 : evO D tm x = evO D tm2 x := H x (by simp [Op.operands])
    have h1 : optO D tm lo = optO D tm2 lo := optO_tm fun y e => H y (by subst e; simp [Op.operands])
    have h2 : optO D tm hi = optO D tm2 hi := optO_tm fun y e => H y (by subst e; simp [Op.operands])
    have h3 : optO D tm mx = optO D tm2 mx := optO_tm fun y e => H y (by subst e; simp [Op.operands])
    simp only [opC, h0, h1, h2, h3]
  case call c =>
    obtain ⟨callee, args, ts⟩ := c
    have h1 : evOs D tm args.toList = evOs D tm2 args.toList := evOs_tm fun x hx => H x (by simp [Op.operands, Call.operands] at hx ⊢; exact .inr hx)
    cases callee with
    | value f =>
      have h0 : evO D tm f = evO D tm2 f := H f (by simp [Op.operands, Call.operands])
      simp only [opC, h0, h1]
    | builtin b => simp only [opC, h1]
    | invoke _ _ => rfl
  case makeMap t r => cases r <;> rfl
  all_goals
    simp [Op.operands] at H
    simp only [opC, H]
theorem natI' {i : Int} {n : Nat} {β : Type} {F : Nat → Option R} {G : Nat → Option β} {k : β → Option R} (h : ∀ j, F j = (G j).bind k) :
    idxC i n F = (idxC i n G).bind k := by
  rw [idxC_nat i n F, idxC_nat i n G, Option.bind_assoc]
  congr 1
  funext j
  exact h j
def stillOp : Op → Bool
  | .box _ _ | .buildSlice _ _ _ | .makeSlice _ _ _ | .makeMap _ _ | .load _ _ | .lookup _ _ _ _ | .store _ _ _ | .insert _ _ _ _ => false
  | .call { callee := .value _, .. } => false
  | _ => true
/-- An operation that neither looks at memory nor changes it. -/
theorem opC_pure {o : Op} (hp : stillOp o = true) (slot : Nat) (tm : Tm) (m m0 : Mem) (k : AV → Mem → Lab → Option R) :
    opC D call o slot tm m k = (opC D call o slot tm m0 fun v _ _ => some v).bind fun v => k v m .p := by
  unfold opC
  all_goals dsimp only
  split
  all_goals try (simp [stillOp] at hp; done)
  all_goals clear hp
  all_goals try unfold asI
  all_goals try unfold asP
  all_goals try unfold asB
  all_goals repeat' split
  all_goals first
    | rfl
    | exact bif_nat rfl
    | (simp only [cond_true, cond_false]; exact bif_nat rfl)
    | exact binC_nat _ _ _ _ _
    | exact unC_nat _ _ _
    | exact convC_nat _ _ _
    | exact sliceC_nat _ _ _ _ _ _
    | exact builtC_nat _ _ _ _
    | exact natI _ _ (fun k j => k (AV.fv (FV.one (Lf.ptr _ (_ + j * _))))) (fun v => k v m .p) (fun _ => rfl)
    | (dsimp only; refine natI' ?_; intro j; split <;> rfl)
    | (rename_i b _; cases b <;> rfl)
    | (simp only []; rename_i n _ _; cases Nat.beq n 0 <;> rfl)
    | skip
/-- What changes of elder blocks is in the list. -/
structure Honest (m m' : Mem) (ws : List Loc) : Prop where
  len : m.len ≤ m'.len
  sz : ∀ id, id < m.len → (m'.blk id).sz = (m.blk id).sz
  own : ∀ id, id < m.len → (m'.blk id).own = (m.blk id).own
  non : ∀ id, id < m.len → ((m'.blk id).es = none ↔ (m.blk id).es = none)
  es : ∀ id, id < m.len → apartL (id, 0, 1) ws = true → (m'.blk id).es = (m.blk id).es
  get : ∀ id j, id < m.len → apartL (id, j, 1) ws = true → (m'.blk id).get j = (m.blk id).get j
theorem Honest.refl (m : Mem) : Honest m m [] := ⟨Nat.le_refl _, fun _ _ => rfl, fun _ _ => rfl, fun _ _ => .rfl, fun _ _ _ => rfl, fun _ _ _ _ => rfl⟩
theorem apartL_append {a : Loc} {l r : List Loc} : apartL a (l ++ r) = (apartL a l && apartL a r) := by
  induction l with
  | nil => rfl
  | cons b l ih => simp [apartL, ih, Bool.and_assoc]
theorem Honest.trans {m m1 m2 : Mem} {ws us : List Loc} (h : Honest m m1 ws) (k : Honest m1 m2 us) : Honest m m2 (us ++ ws) where
  len := Nat.le_trans h.len k.len
  sz := fun id hid => (k.sz id (Nat.lt_of_lt_of_le hid h.len)).trans (h.sz id hid)
  own := fun id hid => (k.own id (Nat.lt_of_lt_of_le hid h.len)).trans (h.own id hid)
  non := fun id hid => (k.non id (Nat.lt_of_lt_of_le hid h.len)).trans (h.non id hid)
  es := fun id hid ha => by
    rw [apartL_append, Bool.and_eq_true] at ha
    exact (k.es id (Nat.lt_of_lt_of_le hid h.len) ha.1).trans (h.es id hid ha.2)
  get := fun id j hid ha => by
    rw [apartL_append, Bool.and_eq_true] at ha
    exact (k.get id j (Nat.lt_of_lt_of_le hid h.len) ha.1).trans (h.get id j hid ha.2)
structure AgreeAt (m m2 : Mem) (l : Loc) : Prop where
  len : l.1 < m.len → l.1 < m2.len
  sz : (m2.blk l.1).sz = (m.blk l.1).sz
  non : (m.blk l.1).es = none → (m2.blk l.1).es = none
  es : l.2.1 = 0 → 0 < l.2.2 → (m2.blk l.1).es = (m.blk l.1).es
  get : ∀ j, l.2.1 ≤ j → j < l.2.1 + l.2.2 → (m2.blk l.1).get j = (m.blk l.1).get j
def Agree (m m2 : Mem) (ls : List Loc) : Prop := ∀ l ∈ ls, AgreeAt m m2 l
structure Shape (m m2 : Mem) (id : Nat) : Prop where
  len : id < m.len → id < m2.len
  sz : (m2.blk id).sz = (m.blk id).sz
  own : (m2.blk id).own = (m.blk id).own
  non : (m.blk id).es = none → (m2.blk id).es = none
abbrev Dir := Mem → Option (AV × Mem × Lab)
/-- What a step's label says of it. -/
def Local (f : Dir) (slot : Nat) (m m' : Mem) (v : AV) : Lab → Prop
  | .p => m' = m ∧ ∀ m2, f m2 = some (v, m2, .p)
  | .r ls => m' = m ∧ ∀ m2, Agree m m2 ls → f m2 = some (v, m2, .r ls)
  | .w l => ∃ cells : List Lf, cells.length = l.2.2 ∧ m' = m.put l.1 l.2.1 cells ∧ (m.blk l.1).es = none ∧ ∀ m2, Shape m m2 l.1 → f m2 = some (v, m2.put l.1 l.2.1 cells, .w l)
  | .a i => i = slot ∧ ∃ b : Blk, m' = m.set i b ∧ ∀ m2, f m2 = some (v, m2.set i b, .a i)
  | .c n ws => n = m.len ∧ Honest m m' ws
def trip (v : AV) (m : Mem) (l : Lab) : Option (AV × Mem × Lab) := some (v, m, l)
def CallHonest (call : CallK) : Prop :=
  ∀ (R : Type) (f : FuncId) (as : List AV) (m : Mem) (k : AV → Mem → List Loc → Option R) (r : R), call R f as m k = some r → ∃ v m' ws, k v m' ws = some r ∧ Honest m m' ws
theorem tab_congr {g g2 : Nat → Lf} : ∀ {n off : Nat}, (∀ j, off ≤ j → j < off + n → g2 j = g j) → tab g2 off n = tab g off n
  | 0, _, _ => rfl
  | n + 1, off, h => by
    simp only [tab]
    rw [h off (Nat.le_refl _) (by omega), tab_congr (n := n) (off := off + 1) fun j h1 h2 => h j (by omega) (by omega)]
theorem loadC_local {t id off : Nat} {m : Mem} {v : AV} {l : Loc} (h : loadC D t m id off (fun v l => some (v, l)) = some (v, l)) {m2 : Mem} (ha : AgreeAt m m2 l) :
    loadC D t m2 id off (fun v l => some (v, l)) = some (v, l) := by
  unfold loadC at h ⊢
  split at h
  · cases h
  · rename_i ty hty
    obtain ⟨hc, h⟩ := bif_inv h
    simp only [Bool.and_eq_true] at hc
    obtain ⟨⟨⟨hsz, hid⟩, hes⟩, hp⟩ := hc
    have hl : l = (id, off, ty.size) := by
      cases hag : isAggD ty.desc with
      | true => rw [hag] at h; simp only [cond_true, Option.some.injEq, Prod.mk.injEq] at h; exact h.2.symm
      | false =>
        rw [hag] at h
        simp only [cond_false] at h
        obtain ⟨h1, h⟩ := bif_inv h
        simp only [Option.some.injEq, Prod.mk.injEq] at h
        rw [← h.2, Nat.eq_of_beq_eq_true h1]
    subst hl
    have e1 : (m2.blk id).sz = (m.blk id).sz := ha.sz
    have e2 : Nat.blt id m2.len = true := blt_iff.2 (ha.len (blt_iff.1 hid))
    have e3 : noEs (m2.blk id).es = true := by rw [ha.non (noEs_eq hes)]; rfl
    simp only [e1, e2, e3, hsz, hp, Bool.and_self, cond_true]
    cases hag : isAggD ty.desc with
    | true =>
      rw [hag] at h
      simp only [cond_true] at h ⊢
      rw [tab_congr (g := (m.blk id).get) (g2 := (m2.blk id).get) fun j h1 h2 => ha.get j h1 h2]
      exact h
    | false =>
      rw [hag] at h
      simp only [cond_false] at h ⊢
      obtain ⟨h1, h⟩ := bif_inv h
      rw [h1, ha.get off (Nat.le_refl _) (by have := blt_iff.1 hp; simp; omega)]
      exact h
end
end Go.Ev
end

section
namespace Go.Ev
open Go.RowKit
section
variable {D : Data} {call : CallK} {R : Type}
theorem lookupC_local {t : Nat} {m m2 : Mem} {x i : AV} {ok : Bool} {v : AV} {l : Loc} (h : lookupC D m t x i ok (fun v l => some (v, l)) = some (v, l)) (ha : AgreeAt m m2 l) :
    lookupC D m2 t x i ok (fun v l => some (v, l)) = some (v, l) := by
  unfold lookupC at h ⊢
  split at h
  · rename_i id key kt et _ _ _ _
    split at h
    · rename_i es kty ety hes _ _
      split at h
      · cases h
      · rename_i z hz
        obtain ⟨hc, h⟩ := bif_inv h
        simp only [Bool.and_eq_true] at hc
        have hl : l = (id, 0, 1) := by
          simp only [findC_eq] at h
          split at h <;> simp_all
        subst hl
        have e1 : (m2.blk id).es = some es := by rw [ha.es rfl (by simp)]; exact hes
        have e2 : Nat.blt id m2.len = true := blt_iff.2 (ha.len (blt_iff.1 hc.1))
        simp only [*, Bool.and_self, cond_true]
    · cases h
  · cases h
theorem toArg_local {t : Nat} {m m2 : Mem} {a : AV} {x : Arg} {ls : List Loc} (h : toArg D m t a = some (x, ls)) (ha : Agree m m2 ls) : toArg D m2 t a = some (x, ls) := by
  unfold toArg at h ⊢
  split at h
  · rename_i id off n c
    split at h
    · split at h
      · rename_i te hte
        obtain ⟨hc, h⟩ := bif_inv h
        simp only [Bool.and_eq_true] at hc
        obtain ⟨⟨⟨⟨⟨h0, h1⟩, h2⟩, h3⟩, h4⟩, h5⟩ := hc
        simp only [Option.some.injEq, Prod.mk.injEq] at h
        obtain ⟨hx, hl⟩ := h
        subst hl
        have hA := ha _ (List.mem_singleton.2 rfl)
        have e1 : (m2.blk id).sz = (m.blk id).sz := hA.sz
        have e2 : Nat.blt id m2.len = true := blt_iff.2 (hA.len (blt_iff.1 h2))
        have e3 : noEs (m2.blk id).es = true := by rw [hA.non (noEs_eq h3)]; rfl
        have e4 : tab (m2.blk id).get off (n * te.size) = tab (m.blk id).get off (n * te.size) := tab_congr fun j h1 h2 => hA.get j h1 h2
        simp only [e1, e2, e3, e4, h0, h1, h4, h5, Bool.and_self, cond_true, hx]
      · cases h
    · cases h
  · exact h
theorem toArgs_local {m m2 : Mem} : ∀ {as : List AV} {ts : List Nat} {xs : List Arg} {ls : List Loc}, toArgs D m ts as = some (xs, ls) → Agree m m2 ls → toArgs D m2 ts as = some (xs, ls)
  | [], ts, xs, ls, h, _ => by cases ts <;> exact h
  | a :: as, [], xs, ls, h, _ => by cases h
  | a :: as, t :: ts, xs, ls, h, ha => by
    simp only [toArgs] at h ⊢
    split at h
    · cases h
    · rename_i x l hx
      split at h
      · cases h
      · rename_i ys zs hy
        simp only [Option.some.injEq, Prod.mk.injEq] at h
        obtain ⟨rfl, rfl⟩ := h
        rw [toArg_local hx fun l hl => ha l (by simp [hl])]
        simp only
        rw [toArgs_local hy fun l hl => ha l (by simp [hl])]
theorem local_still {f : Dir} {X : Option AV} {slot : Nat} {m m' : Mem} {v : AV} {l : Lab} (hf : ∀ m2, f m2 = X.bind fun v => some (v, m2, .p)) (h : f m = some (v, m', l)) : Local f slot m m' v l := by
  rw [hf] at h
  cases hX : X with
  | none => rw [hX] at h; cases h
  | some u =>
    rw [hX] at h
    simp only [Option.bind_some, Option.some.injEq, Prod.mk.injEq] at h
    obtain ⟨rfl, rfl, rfl⟩ := h
    exact ⟨rfl, fun m2 => by rw [hf, hX]; rfl⟩
theorem callF_local (hC : CallHonest call) {f : FuncId} {ts : List Nat} {as : List AV} {slot : Nat} {m m' : Mem} {v : AV} {l : Lab} (h : callF D call f ts as m trip = some (v, m', l)) :
    Local (fun m2 => callF D call f ts as m2 trip) slot m m' v l := by
  unfold callF at h
  split at h
  · rename_i c hc
    split at h
    · cases h
    · rename_i xs ls hx
      cases hr : c.K xs with
      | none => rw [hr] at h; cases h
      | some r =>
        rw [hr] at h
        simp only [Option.bind_some, trip, Option.some.injEq, Prod.mk.injEq] at h
        obtain ⟨rfl, rfl, rfl⟩ := h
        cases ls with
        | nil =>
          refine ⟨rfl, fun m2 => ?_⟩
          simp only [callF, hc]
          rw [toArgs_local hx fun l hl => by simp at hl]
          simp [hr, trip, labOf]
        | cons a ls =>
          refine ⟨rfl, fun m2 ha => ?_⟩
          simp only [callF, hc]
          rw [toArgs_local hx ha]
          simp [hr, trip, labOf]
  · split at h
    · rename_i s hs
      cases hr : s.K as m with
      | none => rw [hr] at h; cases h
      | some r =>
        rw [hr] at h
        simp only [Option.bind_some, trip, Option.some.injEq, Prod.mk.injEq] at h
        obtain ⟨rfl, rfl, rfl⟩ := h
        exact ⟨rfl, Honest.refl _⟩
    · cases hy : Nat.beq f yId with
      | true => rw [hy] at h; cases h
      | false =>
      rw [hy] at h
      obtain ⟨v1, m1, ws, h, hh⟩ := hC _ _ _ _ _ _ h
      simp only [trip, Option.some.injEq, Prod.mk.injEq] at h
      obtain ⟨rfl, rfl, rfl⟩ := h
      exact ⟨rfl, hh⟩
theorem put_blk_ne {m : Mem} {id off : Nat} {l : List Lf} {i : Nat} (h : i ≠ id) : (m.put id off l).blk i = m.blk i := by
  have : Nat.beq i id = false := Bool.eq_false_iff.2 fun e => h (Nat.eq_of_beq_eq_true e)
  simp [Mem.put, Mem.set, this]
theorem set_blk_ne {m : Mem} {id : Nat} {b : Blk} {i : Nat} (h : i ≠ id) : (m.set id b).blk i = m.blk i := by
  have : Nat.beq i id = false := Bool.eq_false_iff.2 fun e => h (Nat.eq_of_beq_eq_true e)
  simp [Mem.set, this]
theorem set_blk_eq {m : Mem} {id : Nat} {b : Blk} : (m.set id b).blk id = b := by simp [Mem.set]
theorem insertC_honest {t : Nat} {m m' : Mem} {x i v : AV} {l : Loc} (h : insertC D m t x i v (fun m l => some (m, l)) = some (m', l)) : Honest m m' [l] := by
  unfold insertC at h
  split at h
  · rename_i id key kt _ _ _ _ u _ _
    split at h
    · rename_i es kty hes _
      obtain ⟨hc, h⟩ := bif_inv h
      rw [findC_eq] at h
      have h' : some (m.set id { m.blk id with es := some (es ++ [(key, u)]) }, (id, 0, 1)) = some (m', l) := by
        split at h
        · cases h
        · exact h
        · cases h
      simp only [Option.some.injEq, Prod.mk.injEq] at h'
      obtain ⟨rfl, rfl⟩ := h'
      refine ⟨Nat.le_refl _, fun i hi => ?_, fun i hi => ?_, fun i hi => ?_, fun i hi ha => ?_, fun i j hi ha => ?_⟩
      all_goals by_cases e : i = id
      all_goals first
        | (rw [set_blk_ne e]; done)
        | (subst e; rw [set_blk_eq])
      · simp [hes]
      · simp [apartL, Loc.apart] at ha
    · cases h
  · cases h
/-- What the label of an operation says of it. -/
theorem op_local (hC : CallHonest call) {o : Op} {slot : Nat} {tm : Tm} {m m' : Mem} {v : AV} {l : Lab} (h : opC D call o slot tm m trip = some (v, m', l)) :
    Local (fun m2 => opC D call o slot tm m2 trip) slot m m' v l := by
  cases hs : stillOp o with
  | true => exact local_still (fun m2 => opC_pure hs slot tm m2 m trip) h
  | false =>
    cases o
    all_goals try (simp [stillOp] at hs; done)
    case box t x =>
      simp only [opC] at h ⊢
      split at h
      · cases h
      · rename_i a ha
        split at h
        · cases h
        · rename_i u hu
          simp only [trip, Option.some.injEq, Prod.mk.injEq] at h
          obtain ⟨rfl, rfl, rfl⟩ := h
          exact ⟨rfl, _, rfl, fun m2 => by simp only [hu, trip]⟩
    case buildSlice t n ps =>
      simp only [opC] at h ⊢
      split at h
      · rename_i hp ht
        split at h
        · cases h
        · rename_i ts hts
          obtain ⟨hc, h⟩ := bif_inv h
          split at h
          · cases h
          · rename_i u hu
            simp only [trip, Option.some.injEq, Prod.mk.injEq] at h
            obtain ⟨rfl, rfl, rfl⟩ := h
            exact ⟨rfl, _, rfl, fun m2 => by simp only [hc, hu, trip, cond_true]⟩
      · cases h
    case makeSlice t n c =>
      simp only [opC] at h ⊢
      split at h
      · cases h
      · rename_i a ha
        split at h
        · cases h
        · rename_i b hb
          obtain ⟨q, y, e1, h2⟩ := asI_inv h
          clear h
          obtain ⟨q', y', e2, h⟩ := asI_inv h2
          clear h2
          subst e1 e2
          split at h
          · split at h
            · cases h
            · rename_i ts hts
              obtain ⟨hc, h⟩ := bif_inv h
              simp only [trip, Option.some.injEq, Prod.mk.injEq] at h
              obtain ⟨rfl, rfl, rfl⟩ := h
              exact ⟨rfl, _, rfl, fun m2 => by simp only [asI, hc, trip, cond_true]⟩
          · cases h
    case makeMap t r =>
      cases r with
      | some r => cases h
      | none =>
        simp only [opC, trip, Option.some.injEq, Prod.mk.injEq] at h ⊢
        obtain ⟨rfl, rfl, rfl⟩ := h
        exact ⟨rfl, _, rfl, fun m2 => rfl⟩
    case load t x =>
      simp only [opC] at h ⊢
      split at h
      · cases h
      · rename_i a ha
        obtain ⟨id, off, e1, h2⟩ := asP_inv h
        clear h
        have h := h2
        clear h2
        subst e1
        rw [loadC_nat] at h
        cases hl : loadC D t m id off (fun v l => some (v, l)) with
        | none => rw [hl] at h; cases h
        | some p =>
          obtain ⟨u, l'⟩ := p
          rw [hl] at h
          simp only [Option.bind_some, trip, Option.some.injEq, Prod.mk.injEq] at h
          obtain ⟨rfl, rfl, rfl⟩ := h
          refine ⟨rfl, fun m2 ha => ?_⟩
          simp only [asP]
          rw [loadC_nat, loadC_local hl (ha _ (List.mem_singleton.2 rfl))]
          rfl
    case lookup t x i ok =>
      simp only [opC] at h ⊢
      split at h
      · cases h
      · rename_i a ha
        split at h
        · cases h
        · rename_i b hb
          rw [lookupC_nat] at h
          cases hl : lookupC D m t a b ok (fun v l => some (v, l)) with
          | none => rw [hl] at h; cases h
          | some p =>
            obtain ⟨u, l'⟩ := p
            rw [hl] at h
            simp only [Option.bind_some, trip, Option.some.injEq, Prod.mk.injEq] at h
            obtain ⟨rfl, rfl, rfl⟩ := h
            refine ⟨rfl, fun m2 ha => ?_⟩
            simp only
            rw [lookupC_nat, lookupC_local hl (ha _ (List.mem_singleton.2 rfl))]
            rfl
    case insert t x i v =>
      simp only [opC] at h ⊢
      split at h
      · cases h
      · split at h
        · cases h
        · split at h
          · cases h
          · rename_i _ a _ _ b _ _ c _
            rw [insertC_nat] at h
            cases hl : insertC D m t a b c (fun v l => some (v, l)) with
            | none => rw [hl] at h; cases h
            | some p =>
              obtain ⟨u, l'⟩ := p
              rw [hl] at h
              simp only [Option.bind_some, trip, Option.some.injEq, Prod.mk.injEq] at h
              obtain ⟨rfl, rfl, rfl⟩ := h
              exact ⟨rfl, insertC_honest hl⟩
    case store t a x =>
      simp only [opC] at h ⊢
      split at h
      · cases h
      · split at h
        · cases h
        · rename_i _ a _ _ b _
          obtain ⟨id, off, e1, h2⟩ := asP_inv h
          clear h
          have h := h2
          clear h2
          subst e1
          split at h
          · rename_i u ty hu hty
            obtain ⟨hc, h⟩ := bif_inv h
            simp only [Bool.and_eq_true] at hc
            obtain ⟨⟨⟨⟨⟨h1, h2⟩, h3⟩, h4⟩, h5⟩, h6⟩ := hc
            simp only [trip, Option.some.injEq, Prod.mk.injEq] at h
            obtain ⟨rfl, rfl, rfl⟩ := h
            refine ⟨u.cells, rfl, rfl, noEs_eq h4, fun m2 hs => ?_⟩
            have e1 : (m2.blk id).sz = (m.blk id).sz := hs.sz
            have e2 : Nat.blt id m2.len = true := blt_iff.2 (hs.len (blt_iff.1 h6))
            have e3 : noEs (m2.blk id).es = true := by rw [hs.non (noEs_eq h4)]; rfl
            have e4 : (m2.blk id).own = true := by rw [hs.own]; exact h3
            simp only [asP, hu, h1, h2, e1, e2, e3, e4, h5, Bool.and_self, cond_true, trip]
          · cases h
    case call c =>
      obtain ⟨callee, args, ts⟩ := c
      cases callee with
      | value f =>
        simp only [opC] at h ⊢
        split at h
        · cases h
        · split at h
          · split at h
            · obtain ⟨v', m1, ws, h1, hh⟩ := hC _ _ _ _ _ _ h
              simp only [trip, Option.some.injEq, Prod.mk.injEq] at h1
              obtain ⟨rfl, rfl, rfl⟩ := h1
              exact ⟨rfl, hh⟩
            · cases h
          split at h
          · exact callF_local hC h
          · cases h
      | builtin b => simp [stillOp] at hs
      | invoke _ _ => simp [stillOp] at hs
end
end Go.Ev
end
