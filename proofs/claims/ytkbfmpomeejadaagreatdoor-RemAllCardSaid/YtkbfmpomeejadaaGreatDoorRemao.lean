/- Part 15 of 46 of what the theorem stands on. -/
import Derived.Test.YtkbfmpomeejadaaGreatDoorRemai
import Derived.RangeFuncOwn

section
namespace Go.Ev
open Go.RowKit
/-- Two environments that differ by the loop's record alone, and by blocks that hold neither cells nor a map. -/
structure Turn (E E' : Env) : Prop where
  pi : E'.pi = E.pi
  own : E'.own = E.own
  B0 : E'.B0 = E.B0
  far : E'.far = E.far
  init : E'.init = E.init
  size : E'.w.heap.size = E.w.heap.size
  cell : ∀ a v, E.w.cell? a = some v → E'.w.cell? a = some v
  frozen : ∀ a v, E.w.cell? a = some v → E'.w.frozen? a = E.w.frozen? a
  map : ∀ (b : Nat) (en : Array MapEntry) (cl : Nat), E.w.heap[b]? = some (.map en cl) → E'.w.heap[b]? = some (.map en cl)
theorem Turn.setL (E : Env) (x : Option Nat) : Turn E { E with l := x } := ⟨rfl, rfl, rfl, rfl, rfl, rfl, fun _ _ h => h, fun _ _ _ => rfl, fun _ _ _ h => h⟩
theorem Turn.put {E : Env} {b : Nat} {o : Obj} (o' : Obj) (h : E.w.heap[b]? = some o) (hc : o.isCells = false) (hm : ∀ en cl, o ≠ .map en cl) (x : Option Nat) : Turn E { E with w := E.w.putObj b o', l := x } where
  pi := rfl
  own := rfl
  B0 := rfl
  far := rfl
  init := rfl
  size := World.putObj_size
  cell := fun a v hv => cell_kept hv (grownBy_putObj' _ _ _) fun r e => by cases e; exact ⟨o, h, hc⟩
  frozen := fun a v hv => frozen_kept hv (grownBy_putObj' _ _ _) fun r e => by cases e; exact ⟨o, h, hc⟩
  map := fun k en cl hk => by
    by_cases e : k = b
    · subst e; rw [h] at hk; cases hk; exact absurd rfl (hm _ _)
    · exact (World.putObj_heap_other e).trans hk
theorem NatRep.turn {w w' : World} {n : Nat} {v : Value} (h : NatRep w n v) (hs : w'.heap.size = w.heap.size) (hb : ∀ a v, w.cell? a = some v → w'.cell? a = some v) : NatRep w' n v := by
  obtain ⟨ds, h1, h2, h3, h | ⟨ad, cap, hne, rfl, hc, h4, h5⟩⟩ := h
  · exact ⟨ds, h1, h2, h3, .inl h⟩
  · exact ⟨ds, h1, h2, h3, .inr ⟨ad, cap, hne, rfl, hc, by rw [hs]; exact h4, fun i d hd => hb _ _ (h5 i d hd)⟩⟩
section
variable {E E' : Env}
theorem Turn.lf (k : Turn E E') {x : Lf} {v : Value} (h : LfRel E x v) : LfRel E' x v := by
  cases x <;> simp only [LfRel] at h ⊢ <;> try exact h
  case nat n =>
    refine ⟨h.1.turn k.size k.cell, fun b hb => ?_⟩
    obtain ⟨h1, h2, h3⟩ := h.2 b hb
    exact ⟨by rw [k.size]; exact h1, by rw [k.own]; exact h2, by rw [k.B0, k.far]; exact h3⟩
  all_goals rw [k.pi]; exact h
theorem Turn.fv (k : Turn E E') {x : FV} {v : Value} (h : FVRel E x v) : FVRel E' x v := by
  cases x with
  | one x => exact k.lf h
  | agg l => obtain ⟨vs, rfl, h⟩ := h; exact ⟨vs, rfl, h.imp fun _ _ => k.lf⟩
theorem Turn.av (k : Turn E E') (hl : E'.l = E.l) {x : AV} {v : Value} (h : AVRel E x v) : AVRel E' x v := by
  cases x with
  | fv x => exact k.fv h
  | tup l => obtain ⟨vs, rfl, h⟩ := h; exact ⟨vs, rfl, h.imp fun _ _ => k.fv⟩
  | fn f b l => obtain ⟨us, vs, rfl, h1, h2⟩ := h; exact ⟨us, vs, rfl, h1.imp fun _ _ => k.fv, h2.imp fun _ _ => k.fv⟩
  | yld => obtain ⟨l, h1, h2⟩ := h; exact ⟨l, hl.trans h1, h2⟩
theorem Turn.blk (k : Turn E E') {id : Nat} {B : Blk} (h : BlkRel E id B) : BlkRel E' id B := by
  unfold BlkRel at h ⊢
  rw [k.pi]
  cases hp : E.pi id with
  | none => rw [hp] at h; simpa [k.init] using h
  | some p =>
    obtain ⟨b, base⟩ := p
    rw [hp] at h
    obtain ⟨h1, h2, h3⟩ := h
    refine ⟨fun e => by rw [k.own]; exact h1 e, fun e => by rw [k.B0]; exact h2 e, ?_⟩
    cases hes : B.es with
    | none =>
      simp only [hes] at h3 ⊢
      intro j hj
      obtain ⟨v, hc, hv, hf⟩ := h3 j hj
      exact ⟨v, k.cell _ _ hc, k.lf hv, fun e => (k.frozen _ _ hc).trans (hf e)⟩
    | some es =>
      simp only [hes] at h3 ⊢
      obtain ⟨h0, en, cl, hh, ha⟩ := h3
      exact ⟨h0, en, cl, k.map _ _ _ hh, ha.imp fun _ _ ⟨x, y⟩ => ⟨k.lf x, k.fv y⟩⟩
theorem Turn.mem (k : Turn E E') {m : Mem} (h : MemRel E m) : MemRel E' m where
  blk := fun id hid => k.blk (h.blk id hid)
  low := by rw [k.pi]; exact h.low
  one := by rw [k.pi, k.own]; exact h.one
  own := by rw [k.own, k.B0, k.size]; exact h.own
  B0 := by rw [k.B0, k.size]; exact h.B0
theorem Turn.glob (k : Turn E E') {D : Data} (h : GlobOk D E.w) : GlobOk D E'.w := fun i g l hi => by
  obtain ⟨h1, h2⟩ := h i g l hi
  refine ⟨by rw [k.size]; exact h1, fun j x hx => ?_⟩
  obtain ⟨u, hu, hl⟩ := h2 j x hx
  exact ⟨u, k.cell _ _ hu, hl⟩
theorem Turn.good (k : Turn E E') {D : Data} {m : Mem} (h : Good D E m) : Good D.low E' m :=
  ⟨k.mem h.mem, k.glob h.glob, fun i g l hi => by rw [k.pi]; exact h.pi i g l hi, fun i g l hi => by rw [k.B0]; exact h.low i g l hi, fun _ h => by cases h⟩
end
/-- A round's parameters laid. -/
theorem setP_rel {E0 E : Env} (hc : ∀ x v, FVRel E0 x v → FVRel E x v) {nt : Nat} : ∀ {ps : List Nat} {as : List AV} {tm tm' : Tm} {vs : List Value} {tmps : Array Value}, setP nt ps as tm = some tm' → All2 (AVRel E0) as vs →
    tmps.size = nt → (∀ t, AVRel E (tm t) (tmps.getD t undef)) → ps.length = vs.length ∧ ((ps.zip vs).foldl (fun t (p : Nat × Value) => t.setIfInBounds p.1 p.2) tmps).size = nt ∧
      ∀ t, AVRel E (tm' t) (((ps.zip vs).foldl (fun t (p : Nat × Value) => t.setIfInBounds p.1 p.2) tmps).getD t undef)
  | [], [], tm, tm', vs, tmps, h, ha, hs, ht => by
    cases ha
    cases h
    exact ⟨rfl, hs, ht⟩
  | p :: ps, .fv v :: as, tm, tm', vs, tmps, h, ha, hs, ht => by
    cases ha with
    | @cons _ u _ us hu hus =>
      simp only [setP] at h
      obtain ⟨hp, h⟩ := bif_inv h
      have h0 : TRel false E tm { tmps, defers := [] } nt := ⟨hs, rfl, ht⟩
      have h1 := h0.put (v := .fv v) (hc v u hu) (d := some p) hp
      obtain ⟨e1, e2, e3⟩ := setP_rel hc h hus h1.size h1.val
      exact ⟨by simp [e1], e2, e3⟩
  | _ :: _, .tup _ :: _, _, _, _, _, h, _, _, _ => by cases h
  | _ :: _, .fn _ _ _ :: _, _, _, _, _, h, _, _, _ => by cases h
  | _ :: _, .yld :: _, _, _, _, _, h, _, _, _ => by cases h
  | [], _ :: _, _, _, _, _, h, _, _, _ => by cases h
  | _ :: _, [], _, _, _, _, h, _, _, _ => by cases h
theorem zip_fold (ps : Array Nat) (vs : List Value) (tmps : Array Value) :
    (ps.zip vs.toArray).foldl (fun tmps (t, a) => tmps.setIfInBounds t a) tmps = (ps.toList.zip vs).foldl (fun t (p : Nat × Value) => t.setIfInBounds p.1 p.2) tmps := by
  rw [← Array.foldl_toList, Array.toList_zip]
end Go.Ev
end
