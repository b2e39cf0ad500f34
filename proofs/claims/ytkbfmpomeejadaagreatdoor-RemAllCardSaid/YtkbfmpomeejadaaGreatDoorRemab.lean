/- Part 2 of 46 of what the theorem stands on. -/
import Derived.Test.YtkbfmpomeejadaaGreatDoorRemaa
import Derived.RangeFuncRecord
import Derived.OrdersIn
import Derived.LoopNIn
import Derived.Below
import Derived.Laws.Entries
import Derived.Laws.Cells
import Derived.ChangeKeysEq

section
namespace Go.Ev
open Go.RowKit
inductive All2 {α β : Type} (R : α → β → Prop) : List α → List β → Prop where
  | nil : All2 R [] []
  | cons {a : α} {b : β} {l : List α} {r : List β} (h : R a b) (t : All2 R l r) : All2 R (a :: l) (b :: r)
namespace All2
variable {α β : Type} {R R' : α → β → Prop}
theorem length {l : List α} {r : List β} (h : All2 R l r) : l.length = r.length := by
  induction h with
  | nil => rfl
  | cons _ _ ih => simp [ih]
theorem imp {l : List α} {r : List β} (h : All2 R l r) (k : ∀ a b, R a b → R' a b) : All2 R' l r := by
  induction h with
  | nil => exact .nil
  | cons h _ ih => exact .cons (k _ _ h) ih
theorem append {l l' : List α} {r r' : List β} (h : All2 R l r) (h' : All2 R l' r') : All2 R (l ++ l') (r ++ r') := by
  induction h with
  | nil => exact h'
  | cons h _ ih => exact .cons h ih
theorem drop {l : List α} {r : List β} (h : All2 R l r) (n : Nat) : All2 R (l.drop n) (r.drop n) := by
  induction h generalizing n with
  | nil => simp; exact .nil
  | cons h t ih =>
    cases n with
    | zero => exact .cons h t
    | succ n => simpa using ih n
theorem take {l : List α} {r : List β} (h : All2 R l r) (n : Nat) : All2 R (l.take n) (r.take n) := by
  induction h generalizing n with
  | nil => simp; exact .nil
  | cons h t ih =>
    cases n with
    | zero => simp; exact .nil
    | succ n => simpa using .cons h (ih n)
theorem get {l : List α} {r : List β} (h : All2 R l r) {i : Nat} {a : α} (hi : l[i]? = some a) : ∃ b, r[i]? = some b ∧ R a b := by
  induction h generalizing i with
  | nil => simp at hi
  | cons h t ih =>
    cases i with
    | zero => simp at hi; subst hi; exact ⟨_, rfl, h⟩
    | succ i => simpa using ih (by simpa using hi)
theorem get' {l : List α} {r : List β} (h : All2 R l r) {i : Nat} {b : β} (hi : r[i]? = some b) : ∃ a, l[i]? = some a ∧ R a b := by
  induction h generalizing i with
  | nil => simp at hi
  | cons h t ih =>
    cases i with
    | zero => simp at hi; subst hi; exact ⟨_, rfl, h⟩
    | succ i => simpa using ih (by simpa using hi)
end All2
theorem nthO_eq {α : Type} (l : List α) (i : Nat) : nthO l i = l[i]? := by
  induction l generalizing i with
  | nil => cases i <;> simp [nthO]
  | cons a l ih => cases i <;> simp [nthO, ih]
theorem nthD_eq {α : Type} (d : α) (l : List α) (i : Nat) : nthD d l i = l.getD i d := by
  induction l generalizing i with
  | nil => simp [nthD]
  | cons a l ih => cases i <;> simp [nthD, ih]
theorem memN_iff (n : Nat) (l : List Nat) : memN n l = true ↔ n ∈ l := by
  induction l with
  | nil => simp [memN]
  | cons a l ih =>
    simp only [memN, List.mem_cons]
    cases h : Nat.beq a n with
    | true => simp [Nat.eq_of_beq_eq_true h]
    | false => simp [ih]; intro e; subst e; simp at h
/-- A number of its digits to the base 2^32, the lowest first. -/
def ofDig : List Nat → Nat
  | [] => 0
  | d :: l => d + 4294967296 * ofDig l
/-- A slice of uint32 reads as a number: its digits, the last one not 0. -/
def NatRep (w : World) (n : Nat) (v : Value) : Prop :=
  ∃ ds : List Nat, (∀ d ∈ ds, d < 4294967296) ∧ ds.getLast? ≠ some 0 ∧ ofDig ds = n ∧
    ((ds = [] ∧ ∃ A c, v = .slice A 0 c) ∨
     ∃ ad cap, ds ≠ [] ∧ v = .slice (some ad) ds.length cap ∧ ds.length ≤ cap ∧ ad.block < w.heap.size ∧ ∀ i d : Nat, ds[i]? = some d → w.cell? (ad.add i) = some (.int .u32 d))
/-- The block that a slice with elements lies in. -/
def blkOf : Value → Option Nat
  | .slice (some a) (_ + 1) _ => some a.block
  | _ => none
structure Env where
  w : World
  pi : Nat → Option (Nat × Nat)
  own : Nat → Prop
  B0 : Nat
  far : Nat → Prop
  init : Nat → Blk
  /-- The record of the loop that yield is of. -/
  l : Option Nat := none
def LfRel (E : Env) : Lf → Value → Prop
  | .int k x, v => v = .int k x
  | .bool b, v => v = .bool b
  | .nat n, v => NatRep E.w n v ∧ ∀ b, blkOf v = some b → b < E.w.heap.size ∧ ¬ E.own b ∧ (b < E.B0 → E.far b)
  | .str s, v => v = .string s
  | .ptr id off, v => ∃ b base, E.pi id = some (b, base) ∧ v = .pointer (some ⟨b, base + off, none⟩)
  | .slc id off n c, v => ∃ b base, E.pi id = some (b, base) ∧ v = .slice (some ⟨b, base + off, none⟩) n c
  | .map id, v => ∃ b base, E.pi id = some (b, base) ∧ v = .map (some b)
  | .cst u, v => v = u ∧ ∀ cs, u ≠ .agg cs
  | .clo f cs, v => ∃ vs : List Value, v = .func (.func f) #[] vs.toArray ∧ All2 (fun (p : Nat × Nat) u => ∃ b base, E.pi p.1 = some (b, base) ∧ u = .pointer (some ⟨b, base + p.2, none⟩)) cs vs
theorem LfRel.notAgg {E : Env} {x : Lf} {v : Value} (h : LfRel E x v) (cs : Array Value) : v ≠ .agg cs := by
  cases x <;> simp only [LfRel] at h
  case int => subst h; simp
  case bool => subst h; simp
  case str => subst h; simp
  case nat =>
    obtain ⟨⟨ds, _, _, _, ⟨_, A, c, h⟩ | ⟨ad, cap, _, h, _⟩⟩, _⟩ := h
    · rw [h]; simp
    · rw [h]; simp
  case ptr => obtain ⟨b, base, _, rfl⟩ := h; simp
  case slc => obtain ⟨b, base, _, rfl⟩ := h; simp
  case map => obtain ⟨b, base, _, rfl⟩ := h; simp
  case clo => obtain ⟨vs, rfl, _⟩ := h; simp
  case cst => rw [h.1]; exact h.2 cs
theorem cells_of_notAgg {v : Value} (h : ∀ cs, v ≠ .agg cs) : v.cells = #[v] := by
  cases v <;> first | rfl | exact absurd rfl (h _)
def FVRel (E : Env) : FV → Value → Prop
  | .one x, v => LfRel E x v
  | .agg l, v => ∃ vs : List Value, v = .agg vs.toArray ∧ All2 (LfRel E) l vs
theorem FVRel.cells {E : Env} {x : FV} {v : Value} (h : FVRel E x v) : All2 (LfRel E) x.cells v.cells.toList := by
  cases x with
  | one x =>
    have := cells_of_notAgg (LfRel.notAgg h)
    rw [this]; exact .cons h .nil
  | agg l =>
    obtain ⟨vs, rfl, h⟩ := h
    simpa [FV.cells, Value.cells] using h
def AVRel (E : Env) : AV → Value → Prop
  | .fv x, v => FVRel E x v
  | .tup l, v => ∃ vs : List Value, v = .tuple vs.toArray ∧ All2 (FVRel E) l vs
  | .fn f first caps, v => ∃ us vs : List Value, v = .func (.func f) us.toArray vs.toArray ∧ All2 (FVRel E) first us ∧ All2 (FVRel E) caps vs
  | .yld, v => ∃ l, E.l = some l ∧ v = .func (.yield l) #[] #[]
theorem AVRel.undef (E : Env) : AVRel E undefA Go.undef := ⟨rfl, by simp [Go.undef]⟩
/-- A later environment. -/
structure Ext (E E' : Env) : Prop where
  B0 : E'.B0 = E.B0
  far : E'.far = E.far
  pi : ∀ id p, E.pi id = some p → E'.pi id = some p
  own : ∀ b, E.own b → E'.own b
  new : ∀ b, E'.own b → E.own b ∨ E.w.heap.size ≤ b
  os : E'.w.os = E.w.os
  tape : E'.w.tape = E.w.tape
  output : E'.w.output = E.w.output
  size : E.w.heap.size ≤ E'.w.heap.size
  same : ∀ b, b < E.w.heap.size → ¬ E.own b → E'.w.heap[b]? = E.w.heap[b]?
  l : E'.l = E.l
theorem Ext.refl (E : Env) : Ext E E := ⟨rfl, rfl, fun _ _ h => h, fun _ h => h, fun _ h => .inl h, rfl, rfl, rfl, Nat.le_refl _, fun _ _ _ => rfl, rfl⟩
theorem Ext.trans {A B C : Env} (h : Ext A B) (k : Ext B C) : Ext A C where
  B0 := k.B0.trans h.B0
  far := k.far.trans h.far
  pi := fun id p e => k.pi id p (h.pi id p e)
  own := fun b e => k.own b (h.own b e)
  new := fun b e => by
    rcases k.new b e with e | e
    · exact h.new b e
    · exact .inr (Nat.le_trans h.size e)
  os := k.os.trans h.os
  tape := k.tape.trans h.tape
  output := k.output.trans h.output
  size := Nat.le_trans h.size k.size
  same := fun b hb ho => by
    have : ¬ B.own b := fun e => by
      rcases h.new b e with e | e
      · exact ho e
      · omega
    rw [k.same b (Nat.lt_of_lt_of_le hb h.size) this, h.same b hb ho]
  l := k.l.trans h.l
theorem NatRep.ext {w w' : World} {n : Nat} {v : Value} (h : NatRep w n v) (hs : w.heap.size ≤ w'.heap.size)
    (hb : ∀ b, blkOf v = some b → w'.heap[b]? = w.heap[b]?) : NatRep w' n v := by
  obtain ⟨ds, h1, h2, h3, h | ⟨ad, cap, hne, rfl, hc, h4, h5⟩⟩ := h
  · exact ⟨ds, h1, h2, h3, .inl h⟩
  · refine ⟨ds, h1, h2, h3, .inr ⟨ad, cap, hne, rfl, hc, Nat.lt_of_lt_of_le h4 hs, fun i d hd => ?_⟩⟩
    rw [← h5 i d hd]
    have hblk : blkOf (.slice (some ad) ds.length cap) = some ad.block := by
      cases ds with
      | nil => exact absurd rfl hne
      | cons _ _ => rfl
    have hadd : (ad.add i).block = ad.block := by unfold Addr.add; split <;> rfl
    exact World.cell?_of_block (w := w) (by rw [hadd]; exact hb _ hblk)
theorem LfRel.ext {E E' : Env} (k : Ext E E') {x : Lf} {v : Value} (h : LfRel E x v) : LfRel E' x v := by
  cases x <;> simp only [LfRel] at h ⊢ <;> try exact h
  case nat n =>
    refine ⟨h.1.ext k.size fun b hb => ?_, fun b hb => ?_⟩
    · obtain ⟨h1, h2, _⟩ := h.2 b hb
      exact k.same b h1 h2
    · obtain ⟨h1, h2, h3⟩ := h.2 b hb
      refine ⟨Nat.lt_of_lt_of_le h1 k.size, fun e => ?_, fun e => ?_⟩
      · rcases k.new b e with e | e
        · exact h2 e
        · omega
      · rw [k.far]; exact h3 (by rw [← k.B0]; exact e)
  case ptr => obtain ⟨b, base, h1, h2⟩ := h; exact ⟨b, base, k.pi _ _ h1, h2⟩
  case slc => obtain ⟨b, base, h1, h2⟩ := h; exact ⟨b, base, k.pi _ _ h1, h2⟩
  case map => obtain ⟨b, base, h1, h2⟩ := h; exact ⟨b, base, k.pi _ _ h1, h2⟩
  case clo => obtain ⟨vs, h1, h2⟩ := h; exact ⟨vs, h1, h2.imp fun _ _ ⟨b, base, e1, e2⟩ => ⟨b, base, k.pi _ _ e1, e2⟩⟩
theorem FVRel.ext {E E' : Env} (k : Ext E E') {x : FV} {v : Value} (h : FVRel E x v) : FVRel E' x v := by
  cases x with
  | one x => exact LfRel.ext k h
  | agg l => obtain ⟨vs, rfl, h⟩ := h; exact ⟨vs, rfl, h.imp fun _ _ => LfRel.ext k⟩
theorem AVRel.ext {E E' : Env} (k : Ext E E') {x : AV} {v : Value} (h : AVRel E x v) : AVRel E' x v := by
  cases x with
  | fv x => exact FVRel.ext k h
  | tup l => obtain ⟨vs, rfl, h⟩ := h; exact ⟨vs, rfl, h.imp fun _ _ => FVRel.ext k⟩
  | fn f b l => obtain ⟨us, vs, rfl, h1, h2⟩ := h; exact ⟨us, vs, rfl, h1.imp fun _ _ => FVRel.ext k, h2.imp fun _ _ => FVRel.ext k⟩
  | yld => obtain ⟨l, h1, h2⟩ := h; exact ⟨l, k.l.trans h1, h2⟩
/-- A block stands as it is told. -/
def BlkRel (E : Env) (id : Nat) (B : Blk) : Prop :=
  match E.pi id with
  | none => B = E.init id
  | some (b, base) =>
    (B.own = true → base = 0 ∧ E.own b) ∧ (B.own = false → b < E.B0) ∧
    match B.es with
    | none => ∀ j, j < B.sz → ∃ v, E.w.cell? ⟨b, base + j, none⟩ = some v ∧ LfRel E (B.get j) v ∧ (B.own = true → E.w.frozen? ⟨b, base + j, none⟩ = false)
    | some es => B.sz = 0 ∧ ∃ (entries : Array MapEntry) (clock : Nat), E.w.heap[b]? = some (.map entries clock) ∧
        All2 (fun (x : Lf × FV) (e : MapEntry) => LfRel E x.1 e.key ∧ FVRel E x.2 e.val) es entries.toList
structure MemRel (E : Env) (m : Mem) : Prop where
  blk : ∀ id, id < m.len → BlkRel E id (m.blk id)
  low : ∀ id p, E.pi id = some p → id < m.len
  one : ∀ id id' b base base', E.pi id = some (b, base) → E.pi id' = some (b, base') → E.own b → id = id'
  own : ∀ b, E.own b → E.B0 ≤ b ∧ b < E.w.heap.size
  B0 : E.B0 ≤ E.w.heap.size
end Go.Ev
end

section
namespace Go.Ev
open Go.RowKit
section
variable {P : Program}
theorem leafs_rel (E : Env) (hn : ∀ w, NatRep w 0 (.slice none 0 0)) {v : Value} {x : Lf} (h : leafOf v = some x) : LfRel E x v := by
  unfold leafOf at h
  split at h <;> simp only [Option.some.injEq, reduceCtorEq] at h <;> subst h
  · rfl
  · rfl
  · rfl
  · exact ⟨hn _, fun b hb => by simp [blkOf] at hb⟩
  · rename_i h
    exact ⟨rfl, h⟩
theorem natRep_zero (w : World) : NatRep w 0 (.slice none 0 0) := ⟨[], by simp, by simp, rfl, .inl ⟨rfl, none, 0, rfl⟩⟩
theorem leafOf_rel (E : Env) {v : Value} {x : Lf} (h : leafOf v = some x) : LfRel E x v := leafs_rel E natRep_zero h
theorem leafs_all (E : Env) {l : List Value} {xs : List Lf} (h : leafs l = some xs) : All2 (LfRel E) xs l := by
  induction l generalizing xs with
  | nil => simp [leafs] at h; subst h; exact .nil
  | cons v l ih =>
    simp only [leafs] at h
    split at h
    · cases h
    · rename_i x hx
      split at h
      · cases h
      · rename_i ys hy
        cases h
        exact .cons (leafOf_rel E hx) (ih hy)
theorem ofV_rel (E : Env) {v : Value} {x : AV} (h : ofV v = some x) : AVRel E x v := by
  unfold ofV at h
  split at h
  · rename_i cs
    split at h
    · rename_i l hl
      cases h
      exact ⟨cs.toList, by simp, leafs_all E hl⟩
    · cases h
  · cases h
    exact ⟨[], [], rfl, .nil, .nil⟩
  · split at h
    · rename_i y hy
      cases h
      exact leafOf_rel E hy
    · cases h
/-- What a type's row says. -/
theorem tyOf_spec {t : Nat} {ty : Ty} (h : tyOf P t = some ty) : ∃ d i z, P.underlying t = some d ∧ P.info? t = some i ∧ i.zero = some z ∧
    ty.desc = redD d ∧ ty.size = i.size ∧ ty.bytes = i.bytes ∧ leafs z.cells.toList = some ty.zero ∧ isAggV z = isAggD ty.desc := by
  unfold tyOf at h
  split at h
  · rename_i d i hd hi
    split at h
    · rename_i z hz
      split at h
      · rename_i l hl
        cases hx : Bool.xor (isAggV z) (isAggD (redD d)) with
        | true => rw [hx] at h; cases h
        | false =>
          rw [hx] at h
          cases h
          exact ⟨d, i, z, hd, hi, hz, rfl, rfl, rfl, hl, by simpa using hx⟩
      · cases h
    · cases h
  · cases h
theorem run_under {t : Nat} {d : TypeDesc} (h : P.underlying t = some d) (w : World) : (underlying t).run P w = .ok d w := run_underlying h w
theorem run_info {t : Nat} {i : TypeInfo} (h : P.info? t = some i) (w : World) : (typeInfo t).run P w = .ok i w := by
  simp [typeInfo, h]
theorem run_size {t : Nat} {ty : Ty} (h : tyOf P t = some ty) (w : World) : (sizeOf t).run P w = .ok ty.size w := by
  obtain ⟨d, i, z, _, hi, _, _, hs, _⟩ := tyOf_spec h
  simp [sizeOf, run_info hi, hs]
theorem run_zero {t : Nat} {ty : Ty} (h : tyOf P t = some ty) : ∃ z : Value, (∀ w, (zeroValue t).run P w = .ok z w) ∧ leafs z.cells.toList = some ty.zero := by
  obtain ⟨d, i, z, _, hi, hz, _, _, _, hl, _⟩ := tyOf_spec h
  exact ⟨z, fun w => by simp [zeroValue, run_info hi, hz], hl⟩
theorem run_isAgg {t : Nat} {ty : Ty} (h : tyOf P t = some ty) (w : World) : (isAgg t).run P w = .ok (isAggD ty.desc) w := by
  obtain ⟨d, i, z, hd, _, _, he, _⟩ := tyOf_spec h
  rw [he]
  cases d <;> simp [isAgg, run_under hd, redD, isAggD]
theorem red_struct {d : TypeDesc} {fs : List (Nat × Nat)} (h : redD d = .struct fs) : ∃ a : Array Field, d = .struct a ∧ fs = a.toList.map fun f => (f.type, f.offset) := by
  cases d <;> simp [redD] at h
  exact ⟨_, rfl, h.symm⟩
theorem red_array {d : TypeDesc} {n e : Nat} (h : redD d = .array n e) : d = .array n e := by
  cases d <;> simp [redD] at h
  obtain ⟨rfl, rfl⟩ := h; rfl
theorem red_slice {d : TypeDesc} {e : Nat} (h : redD d = .slice e) : d = .slice e := by
  cases d <;> simp [redD] at h
  subst h; rfl
theorem red_map {d : TypeDesc} {k e : Nat} (h : redD d = .map k e) : d = .map k e := by
  cases d <;> simp [redD] at h
  obtain ⟨rfl, rfl⟩ := h; rfl
theorem red_int {d : TypeDesc} {k : IntKind} (h : redD d = .int k) : d = .int k := by
  cases d <;> simp [redD] at h
  subst h; rfl
theorem red_str {d : TypeDesc} (h : redD d = .str) : d = .string := by
  cases d <;> simp [redD] at h
  rfl
theorem red_func {d : TypeDesc} (h : redD d = .func) : ∃ a b c, d = .func a b c := by
  cases d <;> simp [redD] at h
  exact ⟨_, _, _, rfl⟩
theorem red_ptr {d : TypeDesc} (h : redD d = .ptr) : ∃ e, d = .pointer e := by
  cases d <;> simp [redD] at h
  exact ⟨_, rfl⟩
end
theorem ofList_get {l : List Lf} {j : Nat} (h : j < l.length) : l[j]? = some (ofList l j) := by
  simp [ofList, nthD_eq, List.getD, List.getElem?_eq_getElem h]
theorem ble_iff {a b : Nat} : Nat.ble a b = true ↔ a ≤ b := by rw [Nat.ble_eq]
theorem blt_iff {a b : Nat} : Nat.blt a b = true ↔ a < b := by unfold Nat.blt; rw [ble_iff]; rfl
def Env.push (E : Env) (slot : Nat) (o : Obj) : Env where
  w := { E.w with heap := E.w.heap.push o }
  pi := fun i => if i = slot then some (E.w.heap.size, 0) else E.pi i
  own := fun b => E.own b ∨ b = E.w.heap.size
  B0 := E.B0
  far := E.far
  init := E.init
  l := E.l
theorem heap_push (w : World) (o : Obj) (k : Nat) (h : k < w.heap.size) : ({ w with heap := w.heap.push o } : World).heap[k]? = w.heap[k]? := by
  show (w.heap.push o)[k]? = _
  rw [Array.getElem?_push, if_neg (by omega)]
theorem push_ext {E : Env} {slot : Nat} (o : Obj) (hp : E.pi slot = none) : Ext E (E.push slot o) where
  B0 := rfl
  far := rfl
  pi := fun id p e => by
    show (if id = slot then _ else _) = _
    rw [if_neg (by rintro rfl; rw [hp] at e; cases e)]; exact e
  own := fun _ h => .inl h
  new := fun b h => by
    rcases h with h | h
    · exact .inl h
    · exact .inr (by omega)
  os := rfl
  tape := rfl
  output := rfl
  size := by simp [Env.push]
  same := fun b hb _ => heap_push _ _ _ hb
  l := rfl
/-- No block but one's own and new ones turn: a block's row stays. -/
theorem BlkRel.ext {E E' : Env} (k : Ext E E') {id : Nat} {B : Blk} (h : BlkRel E id B) (hi : E'.init id = E.init id) (hn : E.pi id = none → E'.pi id = none)
    (hw : ∀ b base, E.pi id = some (b, base) → E'.w.heap[b]? = E.w.heap[b]?) : BlkRel E' id B := by
  unfold BlkRel at h ⊢
  cases hp : E.pi id with
  | none => rw [hp] at h; rw [hn hp]; simpa [hi] using h
  | some p =>
    obtain ⟨b, base⟩ := p
    rw [hp] at h; rw [k.pi _ _ hp]
    have hb := hw b base hp
    obtain ⟨h1, h2, h3⟩ := h
    refine ⟨fun e => ⟨(h1 e).1, k.own _ (h1 e).2⟩, fun e => by rw [k.B0]; exact h2 e, ?_⟩
    cases hes : B.es with
    | none =>
      simp only [hes] at h3 ⊢
      intro j hj
      obtain ⟨v, hc, hv, hf⟩ := h3 j hj
      exact ⟨v, (World.cell?_of_block (w := E.w) (a := ⟨b, base + j, none⟩) hb).trans hc, hv.ext k, fun e => (World.frozen?_of_block (w := E.w) (a := ⟨b, base + j, none⟩) hb).trans (hf e)⟩
    | some es =>
      simp only [hes] at h3 ⊢
      obtain ⟨h0, en, cl, hh, ha⟩ := h3
      exact ⟨h0, en, cl, hb.trans hh, ha.imp fun _ _ ⟨x, y⟩ => ⟨x.ext k, y.ext k⟩⟩
theorem blk_lt {E : Env} {m : Mem} (h : MemRel E m) {id b base : Nat} (hp : E.pi id = some (b, base)) (hs : (m.blk id).own = true) : b < E.w.heap.size := by
  have := h.blk id (h.low _ _ hp)
  unfold BlkRel at this
  rw [hp] at this
  exact (h.own _ (this.1 hs).2).2
theorem win_lt {E : Env} {m : Mem} (h : MemRel E m) {id b base : Nat} (hp : E.pi id = some (b, base)) : b < E.w.heap.size := by
  cases ho : (m.blk id).own with
  | true => exact blk_lt h hp ho
  | false =>
    have := h.blk id (h.low _ _ hp)
    unfold BlkRel at this
    rw [hp] at this
    exact Nat.lt_of_lt_of_le (this.2.1 ho) h.B0
/-- A new block of cells in a slot. -/
theorem push_cells {E : Env} {m m' : Mem} (hM : MemRel E m) {slot : Nat} (hs : slot < m.len) (hp : E.pi slot = none) (vs : List Value) (t : TypeId) (hl : m'.len = m.len)
    (ho : (m'.blk slot).own = true) (he : (m'.blk slot).es = none) (hg : ∀ j, j < (m'.blk slot).sz → ∃ v, vs[j]? = some v ∧ LfRel E ((m'.blk slot).get j) v)
    (hr : ∀ id, id ≠ slot → m'.blk id = m.blk id) : MemRel (E.push slot (.cells vs.toArray t)) m' where
  blk := fun id hid => by
    by_cases e : id = slot
    · subst e
      unfold BlkRel
      simp only [Env.push, if_true, ho, he]
      refine ⟨by simp, (fun h => by cases h), fun j hj => ?_⟩
      obtain ⟨v, h1, h2⟩ := hg j hj
      refine ⟨v, ?_, LfRel.ext (push_ext _ hp) h2, fun _ => ?_⟩
      · simp [World.cell?, h1]
      · simp only [World.frozen?, Array.getElem?_push_size]; simp
    · rw [hr id e]
      have hb := hM.blk id (by rw [← hl]; exact hid)
      refine hb.ext (push_ext _ hp) rfl (fun h => by simp [Env.push, e, h]) fun b base hpi => ?_
      exact heap_push _ _ _ (win_lt hM hpi)
  low := fun id p h => by
    rw [hl]
    by_cases e : id = slot
    · subst e; exact hs
    · simp only [Env.push, e, if_false] at h
      exact hM.low _ _ h
  one := fun id id' b base base' h h' ow => by
    simp only [Env.push] at h h' ow
    by_cases e : id = slot <;> by_cases e' : id' = slot
    · rw [e, e']
    · rw [if_pos e] at h; rw [if_neg e'] at h'
      have := win_lt hM h'
      simp only [Option.some.injEq, Prod.mk.injEq] at h
      omega
    · rw [if_neg e] at h; rw [if_pos e'] at h'
      have := win_lt hM h
      simp only [Option.some.injEq, Prod.mk.injEq] at h'
      omega
    · rw [if_neg e] at h; rw [if_neg e'] at h'
      rcases ow with ow | ow
      · exact hM.one _ _ _ _ _ h h' ow
      · have := win_lt hM h
        omega
  own := fun b h => by
    simp only [Env.push, Array.size_push] at h ⊢
    rcases h with h | h
    · have := hM.own b h; omega
    · have := hM.B0; omega
  B0 := by
    have := hM.B0
    simp only [Env.push, Array.size_push]; omega
/-- A new map in a slot. -/
theorem push_map {E : Env} {m m' : Mem} (hM : MemRel E m) {slot : Nat} (hs : slot < m.len) (hp : E.pi slot = none) (hl : m'.len = m.len)
    (ho : (m'.blk slot).own = true) (hz : (m'.blk slot).sz = 0) (he : (m'.blk slot).es = some []) (hr : ∀ id, id ≠ slot → m'.blk id = m.blk id) : MemRel (E.push slot (.map #[] 0)) m' where
  blk := fun id hid => by
    by_cases e : id = slot
    · subst e
      unfold BlkRel
      simp only [Env.push, if_true, ho, he]
      refine ⟨by simp, (fun h => by cases h), hz, #[], 0, ?_, .nil⟩
      simp
    · rw [hr id e]
      have hb := hM.blk id (by rw [← hl]; exact hid)
      refine hb.ext (push_ext _ hp) rfl (fun h => by simp [Env.push, e, h]) fun b base hpi => ?_
      exact heap_push _ _ _ (win_lt hM hpi)
  low := fun id p h => by
    rw [hl]
    by_cases e : id = slot
    · subst e; exact hs
    · simp only [Env.push, e, if_false] at h
      exact hM.low _ _ h
  one := fun id id' b base base' h h' ow => by
    simp only [Env.push] at h h' ow
    by_cases e : id = slot <;> by_cases e' : id' = slot
    · rw [e, e']
    · rw [if_pos e] at h; rw [if_neg e'] at h'
      have := win_lt hM h'
      simp only [Option.some.injEq, Prod.mk.injEq] at h
      omega
    · rw [if_neg e] at h; rw [if_pos e'] at h'
      have := win_lt hM h
      simp only [Option.some.injEq, Prod.mk.injEq] at h'
      omega
    · rw [if_neg e] at h; rw [if_neg e'] at h'
      rcases ow with ow | ow
      · exact hM.one _ _ _ _ _ h h' ow
      · have := win_lt hM h
        omega
  own := fun b h => by
    simp only [Env.push, Array.size_push] at h ⊢
    rcases h with h | h
    · have := hM.own b h; omega
    · have := hM.B0; omega
  B0 := by
    have := hM.B0
    simp only [Env.push, Array.size_push]; omega
/-- Cells of one block stored one behind the other. -/
theorem run_storeCells (P : Program) (b o : Nat) : ∀ (vs : List Value) (i : Nat) (w : World), (∀ j, j < vs.length → (w.cell? ⟨b, o + (i + j), none⟩).isSome = true) →
    (∀ j, j < vs.length → w.frozen? ⟨b, o + (i + j), none⟩ = false) → (∀ v ∈ vs, v.oneCell' = true) →
    ∃ w', (storeCells ⟨b, o, none⟩ vs i).run P w = .ok () w' ∧ w'.os = w.os ∧ w'.tape = w.tape ∧ w'.output = w.output ∧ w'.heap.size = w.heap.size ∧
      (∀ k, k ≠ b → w'.heap[k]? = w.heap[k]?) ∧ (∀ a, w'.frozen? a = w.frozen? a) ∧
      (∀ j, j < vs.length → w'.cell? ⟨b, o + (i + j), none⟩ = vs[j]?) ∧ (∀ k, k < o + i ∨ o + i + vs.length ≤ k → w'.cell? ⟨b, k, none⟩ = w.cell? ⟨b, k, none⟩)
  | [], i, w, _, _, _ => ⟨w, rfl, rfl, rfl, rfl, rfl, fun _ _ => rfl, fun _ => rfl, by simp, fun _ _ => rfl⟩
  | v :: vs, i, w, h1, h2, h3 => by
    have hadd : (⟨b, o, none⟩ : Addr).add i = ⟨b, o + i, none⟩ := by
      unfold Addr.add; split
      · rename_i h; subst h; rfl
      · rfl
    have c0 := h1 0 (by simp)
    have f0 := h2 0 (by simp)
    simp only [Nat.add_zero] at c0 f0
    obtain ⟨u, hu⟩ := Option.isSome_iff_exists.1 c0
    have hrun : (store ⟨b, o + i, none⟩ v).run P w = .ok () (w.setCell ⟨b, o + i, none⟩ v) := by
      rw [run_store P w _ v _ (h3 v (by simp)), hu]
      simp [f0]
    have hne : ∀ j : Nat, (⟨b, o + i, none⟩ : Addr) ≠ ⟨b, o + (i + 1 + j), none⟩ := fun j e => by
      simp only [Addr.mk.injEq] at e; omega
    obtain ⟨w', hr, a1, a2, a3, a4, a5, a6, a7, a8⟩ := run_storeCells P b o vs (i + 1) (w.setCell ⟨b, o + i, none⟩ v)
      (fun j hj => by rw [World.cell?_setCell_other _ _ _ _ (hne j)]; have := h1 (j + 1) (by simp; omega); rwa [show i + (j + 1) = i + 1 + j by omega] at this)
      (fun j hj => by rw [World.frozen?_setCell]; have := h2 (j + 1) (by simp; omega); rwa [show i + (j + 1) = i + 1 + j by omega] at this)
      (fun v hv => h3 v (by simp [hv]))
    refine ⟨w', ?_, a1, a2, a3, by simpa using a4, fun k hk => ?_, fun a => ?_, fun j hj => ?_, fun k hk => ?_⟩
    · simp only [storeCells, hadd, Sem.run_bind, hrun, Result.andThen, hr]
    · rw [a5 k hk, Below.heap_setCell _ _ _ _ hk]
    · rw [a6 a, World.frozen?_setCell]
    · cases j with
      | zero =>
        rw [a8 (o + (i + 0)) (by omega)]
        simp only [Nat.add_zero, List.getElem?_cons_zero]
        exact World.cell?_setCell_same' _ _ _ c0
      | succ j =>
        have := a7 j (by simp at hj; omega)
        rw [show i + (j + 1) = i + 1 + j by omega, this]; simp
    · have hk' : k < o + (i + 1) ∨ o + (i + 1) + vs.length ≤ k := by simp at hk; omega
      rw [a8 k hk']
      refine World.cell?_setCell_other _ _ _ _ (fun e => ?_)
      simp only [Addr.mk.injEq] at e
      simp at hk; omega
/-- A store into a block of one's own. -/
theorem put_rel {P : Program} {E : Env} {m : Mem} (hM : MemRel E m) {id off b base : Nat} {l : List Lf} {vs : List Value} (hid : id < m.len) (hp : E.pi id = some (b, base)) (ho : (m.blk id).own = true)
    (he : (m.blk id).es = none) (hsz : off + l.length ≤ (m.blk id).sz) (hl : All2 (LfRel E) l vs) (h1 : ∀ v ∈ vs, v.oneCell' = true) :
    ∃ w', (storeCells ⟨b, base + off, none⟩ vs).run P E.w = .ok () w' ∧ Ext E { E with w := w' } ∧ MemRel { E with w := w' } (m.put id off l) := by
  have hb := hM.blk id hid
  unfold BlkRel at hb
  rw [hp] at hb
  obtain ⟨hb1, hb2, hb3⟩ := hb
  obtain ⟨rfl, how⟩ := hb1 ho
  simp only [he] at hb3
  have hlen := hl.length
  obtain ⟨w', hr, a1, a2, a3, a4, a5, a6, a7, a8⟩ := run_storeCells P b (0 + off) vs 0 E.w
    (fun j hj => by obtain ⟨v, hc, _⟩ := hb3 (off + j) (by omega); simp only [Nat.zero_add] at hc ⊢; rw [hc]; rfl)
    (fun j hj => by obtain ⟨v, _, _, hf⟩ := hb3 (off + j) (by omega); simp only [Nat.zero_add] at hf ⊢; exact hf ho) h1
  have hx : Ext E { E with w := w' } := ⟨rfl, rfl, fun _ _ h => h, fun _ h => h, fun _ h => .inl h, a1, a2, a3, by simp [a4], fun k _ hno => a5 k (by rintro rfl; exact hno how), rfl⟩
  refine ⟨w', hr, hx, ?_⟩
  have hnew : ∀ j, j < (m.blk id).sz → ∃ v, w'.cell? ⟨b, 0 + j, none⟩ = some v ∧ LfRel { E with w := w' } (((m.put id off l).blk id).get j) v ∧ w'.frozen? ⟨b, 0 + j, none⟩ = false := by
    intro j hj
    obtain ⟨v, hc, hv, hf⟩ := hb3 j hj
    by_cases hin : off ≤ j ∧ j < off + l.length
    · obtain ⟨d, hd⟩ : ∃ d, j = off + d := ⟨j - off, by omega⟩
      subst hd
      have hdl : d < l.length := by omega
      obtain ⟨u, hu, hrel⟩ := hl.get (ofList_get hdl)
      refine ⟨u, ?_, ?_, by rw [a6]; exact hf ho⟩
      · have := a7 d (by omega)
        simp only [Nat.zero_add] at this ⊢
        rw [this, hu]
      · have : ((m.put id off l).blk id).get (off + d) = ofList l d := by
          simp only [Mem.put, Mem.set, Nat.beq_refl, cond_true]
          have e1 : Nat.ble off (off + d) = true := ble_iff.2 (by omega)
          have e2 : Nat.blt (off + d) (off + l.length) = true := blt_iff.2 (by omega)
          simp [e1, e2]
        rw [this]; exact hrel.ext hx
    · refine ⟨v, ?_, ?_, by rw [a6]; exact hf ho⟩
      · rw [← hc]; exact a8 _ (by omega)
      · have : ((m.put id off l).blk id).get j = (m.blk id).get j := by
          simp only [Mem.put, Mem.set, Nat.beq_refl, cond_true]
          have e : (Nat.ble off j && Nat.blt j (off + l.length)) = false := by
            rw [Bool.and_eq_false_iff]
            by_cases h : off ≤ j
            · right
              exact Bool.eq_false_iff.2 fun h' => hin ⟨h, blt_iff.1 h'⟩
            · left
              exact Bool.eq_false_iff.2 fun h' => h (ble_iff.1 h')
          simp [e]
        rw [this]; exact hv.ext hx
  refine ⟨fun i hi => ?_, hM.low, hM.one, fun k hk => by have := hM.own k hk; simpa [a4] using this, by have := hM.B0; simpa [a4] using this⟩
  by_cases e : i = id
  · subst e
    unfold BlkRel
    simp only [hp]
    have e1 : ((m.put i off l).blk i).own = (m.blk i).own := by simp [Mem.put, Mem.set]
    have e2 : ((m.put i off l).blk i).es = (m.blk i).es := by simp [Mem.put, Mem.set]
    have e3 : ((m.put i off l).blk i).sz = (m.blk i).sz := by simp [Mem.put, Mem.set]
    rw [e1, e2, e3, he]
    exact ⟨fun _ => ⟨by simp, how⟩, hb2, fun j hj => by obtain ⟨v, x, y, z⟩ := hnew j hj; exact ⟨v, x, y, fun _ => z⟩⟩
  · have e1 : (m.put id off l).blk i = m.blk i := by
      have : Nat.beq i id = false := Bool.eq_false_iff.2 fun h => e (Nat.eq_of_beq_eq_true h)
      simp [Mem.put, Mem.set, this]
    rw [e1]
    refine (hM.blk i hi).ext hx rfl (fun h => h) fun b' base' hp' => a5 b' ?_
    rintro rfl
    exact e (hM.one _ _ _ _ _ hp' hp how)
/-- An entry more of a map of one's own. -/
theorem insert_rel {E : Env} {m : Mem} (hM : MemRel E m) {id b base : Nat} {es : List (Lf × FV)} {x : Lf} {y : FV} {kv vv : Value} (hid : id < m.len) (hp : E.pi id = some (b, base))
    (ho : (m.blk id).own = true) (he : (m.blk id).es = some es) (hx : LfRel E x kv) (hy : FVRel E y vv) {entries : Array MapEntry} {clock : Nat} (hh : E.w.heap[b]? = some (.map entries clock)) :
    let w' : World := { E.w with heap := E.w.heap.setIfInBounds b (.map (entries.push { key := kv, val := vv, born := clock }) (clock + 1)) }
    Ext E { E with w := w' } ∧ MemRel { E with w := w' } (m.set id { m.blk id with es := some (es ++ [(x, y)]) }) := by
  intro w'
  have hb := hM.blk id hid
  unfold BlkRel at hb
  rw [hp] at hb
  obtain ⟨hb1, hb2, hb3⟩ := hb
  obtain ⟨rfl, how⟩ := hb1 ho
  simp only [he] at hb3
  obtain ⟨hz, en, cl, hh', ha⟩ := hb3
  rw [hh] at hh'
  cases hh'
  have hlt := (hM.own b how).2
  have hother : ∀ k, k ≠ b → w'.heap[k]? = E.w.heap[k]? := fun k hk => by
    show (E.w.heap.setIfInBounds b _)[k]? = _
    rw [Array.getElem?_setIfInBounds_ne (by omega)]
  have hext : Ext E { E with w := w' } := ⟨rfl, rfl, fun _ _ h => h, fun _ h => h, fun _ h => .inl h, rfl, rfl, rfl, by simp [w'], fun k _ hno => hother k (by rintro rfl; exact hno how), rfl⟩
  refine ⟨hext, fun i hi => ?_, hM.low, hM.one, fun k hk => by have := hM.own k hk; simpa [w'] using this, by have := hM.B0; simpa [w'] using this⟩
  by_cases e : i = id
  · subst e
    unfold BlkRel
    simp only [hp, Mem.set, Nat.beq_refl, cond_true]
    refine ⟨fun _ => ⟨by simp, how⟩, hb2, hz, entries.push { key := kv, val := vv, born := clock }, clock + 1, ?_, ?_⟩
    · show (E.w.heap.setIfInBounds b _)[b]? = _
      rw [Array.getElem?_setIfInBounds_self_of_lt hlt]
    · rw [Array.toList_push]
      exact (ha.imp fun _ _ ⟨p, q⟩ => ⟨p.ext hext, q.ext hext⟩).append (.cons ⟨hx.ext hext, hy.ext hext⟩ .nil)
  · have e1 : (m.set id { m.blk id with es := some (es ++ [(x, y)]) }).blk i = m.blk i := by
      have : Nat.beq i id = false := Bool.eq_false_iff.2 fun h => e (Nat.eq_of_beq_eq_true h)
      simp [Mem.set, this]
    rw [e1]
    refine (hM.blk i hi).ext hext rfl (fun h => h) fun b' base' hp' => hother b' ?_
    rintro rfl
    exact e (hM.one _ _ _ _ _ hp' hp how)
end Go.Ev
end
