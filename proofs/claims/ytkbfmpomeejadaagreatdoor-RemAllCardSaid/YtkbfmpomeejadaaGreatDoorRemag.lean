/- Part 7 of 46 of what the theorem stands on. -/
import Derived.Test.YtkbfmpomeejadaaGreatDoorRemaf

section
namespace Go.Ev
open Go.RowKit
section
variable {P : Program} {D : Data} {call : CallK}
/-- The blocks that a callee may find numbers in. -/
def farOf (E : Env) : Nat → Prop := fun b => b < E.w.heap.size ∧ ¬ E.own b ∧ (b < E.B0 → E.far b)
def isPure : Lf → Bool
  | .ptr _ _ | .slc _ _ _ _ | .map _ | .clo _ _ => false
  | _ => true
theorem pureL_cons {x : Lf} {l : List Lf} (h : pureL (x :: l) = true) : isPure x = true ∧ pureL l = true := by
  cases x <;> simp_all [pureL, isPure]
theorem toPure {E : Env} {x : Lf} {v : Value} (h : LfRel E x v) (hp : isPure x = true) : LfRel (pureE E.w (farOf E)) x v := by
  cases x <;> simp only [LfRel, isPure, reduceCtorEq] at h hp ⊢ <;> try exact h
  refine ⟨h.1, fun b hb => ?_⟩
  obtain ⟨h1, h2, h3⟩ := h.2 b hb
  exact ⟨h1, fun e => e, fun _ => ⟨h1, h2, h3⟩⟩
theorem toPureL {E : Env} : ∀ {l : List Lf} {vs : List Value}, All2 (LfRel E) l vs → pureL l = true → All2 (LfRel (pureE E.w (farOf E))) l vs
  | [], _, h, _ => by cases h; exact .nil
  | x :: l, _, h, hp => by
    cases h with
    | cons h t => obtain ⟨h1, h2⟩ := pureL_cons hp; exact .cons (toPure h h1) (toPureL t h2)
theorem toPureF {E : Env} {x : FV} {v : Value} (h : FVRel E x v) (hp : pureL x.cells = true) : FVRel (pureE E.w (farOf E)) x v := by
  cases x with
  | one x => exact toPure h (pureL_cons hp).1
  | agg l => obtain ⟨vs, rfl, h⟩ := h; exact ⟨vs, rfl, toPureL h hp⟩
/-- Back: what a callee has handed back. -/
theorem ofPure {E : Env} (hM : ∀ b, E.own b → b < E.w.heap.size) (hB : E.B0 ≤ E.w.heap.size) {w' : World} {x : Lf} {v : Value} (h : LfRel { pureE E.w (farOf E) with w := w' } x v) : LfRel { E with w := w' } x v := by
  cases x <;> simp only [LfRel] at h ⊢ <;> try exact h
  · refine ⟨h.1, fun b hb => ?_⟩
    obtain ⟨h1, _, h3⟩ := h.2 b hb
    refine ⟨h1, fun ho => (h3 (hM b ho)).2.1 ho, fun hlt => (h3 (Nat.lt_of_lt_of_le hlt hB)).2.2 hlt⟩
  · obtain ⟨b, base, h, _⟩ := h; cases h
  · obtain ⟨b, base, h, _⟩ := h; cases h
  · obtain ⟨b, base, h, _⟩ := h; cases h
  · obtain ⟨vs, h1, h2⟩ := h
    exact ⟨vs, h1, h2.imp fun _ _ ⟨b, base, e, _⟩ => (by cases e)⟩
theorem ofPureF {E : Env} (hM : ∀ b, E.own b → b < E.w.heap.size) (hB : E.B0 ≤ E.w.heap.size) {w' : World} {x : FV} {v : Value} (h : FVRel { pureE E.w (farOf E) with w := w' } x v) : FVRel { E with w := w' } x v := by
  cases x with
  | one x => exact ofPure hM hB h
  | agg l => obtain ⟨vs, rfl, h⟩ := h; exact ⟨vs, rfl, h.imp fun _ _ => ofPure hM hB⟩
theorem ofPureA {E : Env} (hM : ∀ b, E.own b → b < E.w.heap.size) (hB : E.B0 ≤ E.w.heap.size) {w' : World} {x : AV} {v : Value} (h : AVRel { pureE E.w (farOf E) with w := w' } x v) : AVRel { E with w := w' } x v := by
  cases x with
  | fv x => exact ofPureF hM hB h
  | tup l => obtain ⟨vs, rfl, h⟩ := h; exact ⟨vs, rfl, h.imp fun _ _ => ofPureF hM hB⟩
  | fn f b l => obtain ⟨us, vs, rfl, h1, h2⟩ := h; exact ⟨us, vs, rfl, h1.imp fun _ _ => ofPureF hM hB, h2.imp fun _ _ => ofPureF hM hB⟩
  | yld => obtain ⟨l, h, _⟩ := h; cases h
theorem toArg_rel {E : Env} {m : Mem} (hG : Good D E m) {t : Nat} {a : AV} {v : Value} (h : AVRel E a v) {x : Arg} {ls : List Loc} (ht : toArg D m t a = some (x, ls)) : ArgRel (pureE E.w (farOf E)) x v := by
  unfold toArg at ht
  split at ht
  · rename_i id off n c
    split at ht
    · rename_i e _ _ _ hty
      split at ht
      · rename_i te hte
        obtain ⟨hc, ht⟩ := bif_inv ht
        simp only [Option.some.injEq, Prod.mk.injEq] at ht
        obtain ⟨rfl, _⟩ := ht
        simp only [Bool.and_eq_true] at hc
        obtain ⟨⟨⟨⟨⟨c0, c1⟩, c2⟩, c3⟩, _⟩, c4⟩ := hc
        obtain ⟨b, base, hp, rfl⟩ := h
        rw [Nat.eq_of_beq_eq_true c0]
        obtain ⟨vs, hl, hcell, hr⟩ := cells_of hG.mem (blt_iff.1 c2) hp (noEs_eq c3) (ble_iff.1 c1)
        refine ⟨b, base + off, rfl, win_lt hG.mem hp, fun j x hx => ?_⟩
        obtain ⟨u, hu, hru⟩ := (toPureL hr c4).get hx
        exact ⟨u, hcell j u hu, hru⟩
      · cases ht
    · cases ht
  · split at ht
    · rename_i y hy
      obtain ⟨hc, ht⟩ := bif_inv ht
      simp only [Option.some.injEq, Prod.mk.injEq] at ht
      obtain ⟨rfl, _⟩ := ht
      exact toPureF (flat_rel h hy) hc
    · cases ht
theorem toArgs_rel {E : Env} {m : Mem} (hG : Good D E m) : ∀ {ts : List Nat} {as : List AV} {vs : List Value} {xs : List Arg} {ls : List Loc}, All2 (AVRel E) as vs → toArgs D m ts as = some (xs, ls) →
    All2 (ArgRel (pureE E.w (farOf E))) xs vs
  | ts, [], vs, xs, ls, h, ht => by
    cases h
    cases ts <;> simp [toArgs] at ht <;> (obtain ⟨rfl, _⟩ := ht; exact .nil)
  | [], _ :: _, _, _, _, _, ht => by simp [toArgs] at ht
  | t :: ts, a :: as, vs, xs, ls, h, ht => by
    cases h with
    | cons h hh =>
      simp only [toArgs] at ht
      split at ht
      · cases ht
      · rename_i x l hx
        split at ht
        · cases ht
        · rename_i ys l' hy
          simp only [Option.some.injEq, Prod.mk.injEq] at ht
          obtain ⟨rfl, _⟩ := ht
          exact .cons (toArg_rel hG h hx) (toArgs_rel hG hh hy)
/-- Behind a callee that leaves all that was there. -/
theorem below_ext {E : Env} {w' : World} (hb : Below E.w.heap.size E.w w') : Ext E { E with w := w' } :=
  ⟨rfl, rfl, fun _ _ h => h, fun _ h => h, fun _ h => .inl h, hb.os, hb.tape, hb.output, hb.size, fun b h _ => hb.block b h, rfl⟩
theorem below_mem {E : Env} {m : Mem} (hM : MemRel E m) {w' : World} (hb : Below E.w.heap.size E.w w') : MemRel { E with w := w' } m where
  blk := fun id hid => (hM.blk id hid).ext (below_ext hb) rfl (fun h => h) fun b base hp => hb.block b (win_lt hM hp)
  low := hM.low
  one := hM.one
  own := fun b h => ⟨(hM.own b h).1, Nat.lt_of_lt_of_le (hM.own b h).2 hb.size⟩
  B0 := Nat.le_trans hM.B0 hb.size
theorem All2.both {α β : Type} {R S : α → β → Prop} : ∀ {l : List α} {r r' : List β}, All2 R l r → All2 S l r' → All2 (fun a b => S a b ∧ ∃ b0, R a b0) l r'
  | [], _, _, h, k => by cases h; cases k; exact .nil
  | a :: l, _, _, h, k => by
    cases h with
    | cons h t => cases k with
      | cons k u => exact .cons ⟨k, _, h⟩ (All2.both t u)
theorem back_lf {E E' : Env} (hx : Ext E E') {x : Lf} {v v0 : Value} (h : LfRel E' x v) (h0 : LfRel E x v0) : LfRel { E with w := E'.w } x v := by
  cases x <;> simp only [LfRel] at h h0 ⊢ <;> try exact h
  · refine ⟨h.1, fun b hb => ?_⟩
    obtain ⟨h1, h2, h3⟩ := h.2 b hb
    exact ⟨h1, fun e => h2 (hx.own b e), fun e => by rw [← hx.far]; exact h3 (by rw [hx.B0]; exact e)⟩
  · obtain ⟨b, base, h, rfl⟩ := h
    obtain ⟨b', base', h', _⟩ := h0
    rw [hx.pi _ _ h'] at h
    cases h
    exact ⟨_, _, h', rfl⟩
  · obtain ⟨b, base, h, rfl⟩ := h
    obtain ⟨b', base', h', _⟩ := h0
    rw [hx.pi _ _ h'] at h
    cases h
    exact ⟨_, _, h', rfl⟩
  · obtain ⟨b, base, h, rfl⟩ := h
    obtain ⟨b', base', h', _⟩ := h0
    rw [hx.pi _ _ h'] at h
    cases h
    exact ⟨_, _, h', rfl⟩
  · obtain ⟨vs, h1, h2⟩ := h
    obtain ⟨vs0, _, h3⟩ := h0
    refine ⟨vs, h1, (h3.both h2).imp fun p u ⟨⟨b, base, e, hu⟩, u0, b', base', e', _⟩ => ?_⟩
    rw [hx.pi _ _ e'] at e
    cases e
    exact ⟨_, _, e', hu⟩
theorem back_fv {E E' : Env} (hx : Ext E E') {x : FV} {v v0 : Value} (h : FVRel E' x v) (h0 : FVRel E x v0) : FVRel { E with w := E'.w } x v := by
  cases x with
  | one x => exact back_lf hx h h0
  | agg l =>
    obtain ⟨vs, rfl, h⟩ := h
    obtain ⟨vs0, _, h0⟩ := h0
    exact ⟨vs, rfl, (h0.both h).imp fun _ _ ⟨p, _, q⟩ => back_lf hx p q⟩
theorem back_pure {E E' : Env} (hx : Ext E E') {x : Lf} {v : Value} (h : LfRel E' x v) (hp : isPure x = true) : LfRel { E with w := E'.w } x v := by
  cases x <;> simp only [LfRel, isPure, reduceCtorEq] at h hp ⊢ <;> try exact h
  refine ⟨h.1, fun b hb => ?_⟩
  obtain ⟨h1, h2, h3⟩ := h.2 b hb
  exact ⟨h1, fun e => h2 (hx.own b e), fun e => by rw [← hx.far]; exact h3 (by rw [hx.B0]; exact e)⟩
theorem back_pureL {E E' : Env} (hx : Ext E E') : ∀ {l : List Lf} {vs : List Value}, All2 (LfRel E') l vs → pureL l = true → All2 (LfRel { E with w := E'.w }) l vs
  | [], _, h, _ => by cases h; exact .nil
  | x :: l, _, h, hp => by
    cases h with
    | cons h t => obtain ⟨h1, h2⟩ := pureL_cons hp; exact .cons (back_pure hx h h1) (back_pureL hx t h2)
/-- A call that leaves the evaluator's memory as it was but for blocks of its own. -/
theorem back_mem {E E' : Env} (hx : Ext E E') {m m' : Mem} (hM : MemRel E m) (hM' : MemRel E' m') (hlen : m.len ≤ m'.len) (hb : ∀ id, id < m.len → m'.blk id = m.blk id) : MemRel { E with w := E'.w } m where
  blk := fun id hid => by
    have h0 := hM.blk id hid
    have h1 := hM'.blk id (Nat.lt_of_lt_of_le hid hlen)
    rw [hb id hid] at h1
    unfold BlkRel at h0 h1 ⊢
    cases hp : E.pi id with
    | none =>
      rw [hp] at h0
      simp only [hp]
      exact h0
    | some p =>
      obtain ⟨b, base⟩ := p
      simp only [hp]
      rw [hp] at h0
      rw [hx.pi _ _ hp] at h1
      obtain ⟨a1, a2, a3⟩ := h0
      obtain ⟨b1, b2, b3⟩ := h1
      refine ⟨a1, a2, ?_⟩
      cases hes : (m.blk id).es with
      | none =>
        simp only [hes] at a3 b3 ⊢
        intro j hj
        obtain ⟨v, c1, c2, c3⟩ := b3 j hj
        obtain ⟨v0, _, d2, _⟩ := a3 j hj
        exact ⟨v, c1, back_lf hx c2 d2, c3⟩
      | some es =>
        simp only [hes] at a3 b3 ⊢
        obtain ⟨z, en0, cl0, _, q0⟩ := a3
        obtain ⟨_, en, cl, hh, q⟩ := b3
        exact ⟨z, en, cl, hh, (q0.both q).imp fun _ _ ⟨⟨p1, p2⟩, e0, r1, r2⟩ => ⟨back_lf hx p1 r1, back_fv hx p2 r2⟩⟩
  low := hM.low
  one := hM.one
  own := fun b h => ⟨(hM.own b h).1, Nat.lt_of_lt_of_le (hM.own b h).2 hx.size⟩
  B0 := Nat.le_trans hM.B0 hx.size
end
end Go.Ev
end

section
namespace Go.Ev
open Go.RowKit
section
variable {P : Program} {D : Data} {call : CallK}
/-- What a call comes to. -/
def CallRes (P : Program) (f : FuncId) (vs : List Value) (E : Env) (m m' : Mem) (v : AV) : Prop :=
  (∃ u, (callFunc f vs.toArray).run P E.w = .ok (.value u) E.w ∧ AVRel E v u ∧ MemRel E m') ∨
  (Callable P f ∧ Calls P f vs.toArray E.w fun e w' => ∃ E' u, e = .returned u ∧ E'.w = w' ∧ Ext E E' ∧ (∀ id, id < m.len → E.pi id = none → E'.pi id = none) ∧
      (∀ id, id < m.len → E'.init id = E.init id) ∧ MemRel E' m' ∧ AVRel E' v u)
theorem callF_sound (hD : DataOk P D) (hC : CallOk P D call) {R : Type} {f : FuncId} {ts : List Nat} {as : List AV} {m : Mem} {k : AV → Mem → Lab → Option R} {r : R} (h : callF D call f ts as m k = some r) :
    ∃ v m' lab, k v m' lab = some r ∧ m.len ≤ m'.len ∧ ∀ E vs, Good D E m → All2 (AVRel E) as vs → CallRes P f vs E m m' v := by
  unfold callF at h
  split at h
  · rename_i c hc
    split at h
    · cases h
    · rename_i xs ls hxs
      rw [Option.bind_eq_some_iff] at h
      obtain ⟨q, hq, h⟩ := h
      refine ⟨_, m, _, h, Nat.le_refl _, fun E vs hG hvs => ?_⟩
      have hcf : c.f = f := by
        have : ∀ (l : List Ctr), lookC l f = some c → c.f = f := by
          intro l
          induction l with
          | nil => intro h; cases h
          | cons d l ih =>
            intro h
            unfold lookC at h
            cases hb : Nat.beq d.f f with
            | true => rw [hb] at h; cases h; exact Nat.eq_of_beq_eq_true hb
            | false => rw [hb] at h; exact ih h
        exact this _ hc
      have hargs := toArgs_rel hG hvs hxs
      rcases hD.ctrs _ _ hc with ⟨hcall, hk⟩ | hk
      · right
        rw [hcf] at hcall hk
        refine ⟨hcall, (hk E.w (farOf E) xs vs q hG.glob hargs hq).mono fun e w' ⟨v, he, hb, hv⟩ => ?_⟩
        exact ⟨{ E with w := w' }, v, he, rfl, below_ext hb, fun _ _ h => h, fun _ _ => rfl, below_mem hG.mem hb, ofPureA (fun b h => (hG.mem.own b h).2) hG.mem.B0 hv⟩
      · left
        rw [hcf] at hk
        obtain ⟨u, hu, hv⟩ := hk E.w (farOf E) xs vs q hargs hq
        exact ⟨u, hu, ofPureA (w' := E.w) (fun b h => (hG.mem.own b h).2) hG.mem.B0 hv, hG.mem⟩
  · split at h
    · rename_i s hs
      rw [Option.bind_eq_some_iff] at h
      obtain ⟨v, hv, h⟩ := h
      obtain ⟨x, m', ws, hx0, hpure, hE, hsame⟩ := hD.sums _ _ hs as m v hv
      rw [hx0] at h
      refine ⟨.fv x, m, _, h, Nat.le_refl _, fun E vs hG hvs => ?_⟩
      right
      refine ⟨hE.calls.1, (hE.calls.2 E vs hG.lower hvs).mono fun e w' ⟨E', u, he, hw, hx, _, _, hM', hu⟩ => ?_⟩
      subst hw
      refine ⟨{ E with w := E'.w }, u, he, rfl, ⟨rfl, rfl, fun _ _ h => h, fun _ h => h, fun _ h => .inl h, hx.os, hx.tape, hx.output, hx.size, hx.same, rfl⟩, fun _ _ h => h, fun _ _ => rfl, back_mem hx hG.mem hM' hE.len hsame, ?_⟩
      cases x with
      | one x => exact back_pure hx hu (pureL_cons hpure).1
      | agg l => obtain ⟨ws, rfl, hu⟩ := hu; exact ⟨ws, rfl, back_pureL hx hu hpure⟩
    · cases hy : Nat.beq f yId with
      | true => rw [hy] at h; cases h
      | false =>
        rw [hy] at h
        obtain ⟨v, m', ws, h, hE, _⟩ := hC R f as m _ r h
        have hE := hE hy
        exact ⟨v, m', _, h, hE.len, fun E vs hG hvs => .inr ⟨hE.calls.1, hE.calls.2 E vs hG.lower hvs⟩⟩
end
end Go.Ev
end
