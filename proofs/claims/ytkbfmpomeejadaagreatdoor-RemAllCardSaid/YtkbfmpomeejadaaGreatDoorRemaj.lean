/- Part 10 of 46 of what the theorem stands on. -/
import Derived.Test.YtkbfmpomeejadaaGreatDoorRemai

section
namespace Go.Ev
open Go.RowKit
section
variable {D : Data} {call : CallK} {R : Type}
theorem enumC_nat (i : Int) (k : Nat → Option R) : ∀ n j, enumC i k j n = (enumC i some j n).bind k
  | 0, _ => rfl
  | n + 1, j => by
    unfold enumC
    cases decide (i = (j : Int)) with
    | true => rfl
    | false => exact enumC_nat i k n (j + 1)
theorem idxC_nat (i : Int) (n : Nat) (k : Nat → Option R) : idxC i n k = (idxC i n some).bind k := by
  unfold idxC
  cases Nat.ble n 16 with
  | true => exact enumC_nat i k n 0
  | false => cases (decide (0 ≤ i) && decide (i < (n : Int))) <;> rfl
theorem bif_nat {α : Type} {c : Bool} {x : Option R} {y : Option α} {k : α → Option R} (h : x = y.bind k) : (bif c then x else none) = (bif c then y else none).bind k := by
  cases c
  · rfl
  · exact h
theorem foldI_nat (f : Int → Int → Int) (q : IntKind) (k : AV → Option R) : ∀ (l : List AV) (a : Int), foldI f q a l k = (foldI f q a l some).bind k
  | [], _ => rfl
  | x :: l, a => by
    rcases x with (x | _) | _ | _
    · cases x
      case int q' b =>
        simp only [foldI]
        exact bif_nat (foldI_nat f q k l _)
      all_goals rfl
    all_goals rfl
theorem boundC_nat (x : Option AV) (d y : Nat) (k : Nat → Option R) : boundC x d y k = (boundC x d y some).bind k := by
  unfold boundC
  split
  · rfl
  · rename_i a
    unfold asI
    split
    · exact bif_nat rfl
    · rfl
theorem binC_nat (op : BinOp) (t : Nat) (x y : AV) (k : AV → Option R) : binC D op t x y k = (binC D op t x y some).bind k := by
  unfold binC
  split
  · split
    · exact bif_nat rfl
    · exact bif_nat rfl
    · exact bif_nat rfl
    · exact bif_nat rfl
    · refine bif_nat ?_
      split
      · rfl
      · split <;> rfl
  · split
    · split <;> rfl
    · rfl
  · split
    · split <;> rfl
    · rfl
  · split
    · split <;> rfl
    · rfl
  · split
    · split <;> rfl
    · rfl
  · rfl
theorem loadC_nat (t : Nat) (m : Mem) (id off : Nat) (k : AV → Loc → Option R) : loadC D t m id off k = (loadC D t m id off fun v l => some (v, l)).bind fun x => k x.1 x.2 := by
  unfold loadC
  split
  · rfl
  · rename_i ty _
    cases (Nat.ble (off + ty.size) (m.blk id).sz && Nat.blt id m.len && noEs (m.blk id).es && Nat.blt 0 ty.size) with
    | false => rfl
    | true =>
      cases isAggD ty.desc with
      | true => rfl
      | false => simp only [cond_true, cond_false]; exact bif_nat rfl
theorem sliceC_nat (t : Nat) (a : AV) (lo hi mx : Option AV) (k : AV → Option R) : sliceC D t a lo hi mx k = (sliceC D t a lo hi mx some).bind k := by
  unfold sliceC
  have key : ∀ (id off c n size : Nat), (bif !(mx.isSome && hi.isNone) then boundC mx c c fun m => boundC hi n m fun h => boundC lo 0 h fun l =>
        bif !(Nat.beq m l) then k (.fv (.one (.slc id (off + l * size) (h - l) (m - l)))) else none
      else none) = (bif !(mx.isSome && hi.isNone) then boundC mx c c fun m => boundC hi n m fun h => boundC lo 0 h fun l =>
        bif !(Nat.beq m l) then some (.fv (.one (.slc id (off + l * size) (h - l) (m - l)))) else none
      else none).bind k := by
    intro id off c n size
    cases (!(mx.isSome && hi.isNone)) with
    | false => rfl
    | true =>
      simp only [cond_true]
      rw [boundC_nat mx, boundC_nat (R := AV) mx, Option.bind_assoc]
      congr 1
      funext m
      rw [boundC_nat hi, boundC_nat (R := AV) hi, Option.bind_assoc]
      congr 1
      funext h
      rw [boundC_nat lo, boundC_nat (R := AV) lo, Option.bind_assoc]
      congr 1
      funext l
      cases (!(Nat.beq m l)) <;> rfl
  split
  · split
    · rfl
    · exact key _ _ _ _ _
  · split
    · rfl
    · exact key _ _ _ _ _
  · rfl
theorem builtC_nat (b : Builtin) (ts : List Nat) (as : List AV) (k : AV → Option R) : builtC D b ts as k = (builtC D b ts as some).bind k := by
  unfold builtC
  repeat' split
  all_goals first
    | rfl
    | exact foldI_nat _ _ _ _ _
theorem unC_nat (op : UnOp) (x : AV) (k : AV → Option R) : unC op x k = (unC op x some).bind k := by
  unfold unC
  split <;> rfl
theorem convC_nat (dst : Nat) (x : AV) (k : AV → Option R) : convC D dst x k = (convC D dst x some).bind k := by
  unfold convC
  split
  · unfold asI; split <;> rfl
  · rfl
def CallNat (call : CallK) : Prop := ∀ (R : Type) (f : FuncId) (as : List AV) (m : Mem) (k : AV → Mem → List Loc → Option R),
  call R f as m k = (call _ f as m fun v m l => some (v, m, l)).bind fun x => k x.1 x.2.1 x.2.2
theorem callF_nat (hC : CallNat call) (f : FuncId) (ts : List Nat) (as : List AV) (m : Mem) (k : AV → Mem → Lab → Option R) :
    callF D call f ts as m k = (callF D call f ts as m fun v m l => some (v, m, l)).bind fun x => k x.1 x.2.1 x.2.2 := by
  unfold callF
  split
  · split
    · rfl
    · rw [Option.bind_assoc]; rfl
  · split
    · rw [Option.bind_assoc]; rfl
    · cases Nat.beq f yId with
      | true => rfl
      | false =>
        simp only [cond_false]
        rw [hC R, hC (AV × Mem × Lab), Option.bind_assoc]; rfl
theorem findC_nat (d : TD) (x : Lf) {α : Type} (found : FV → Option α) (no : Option α) (k : α → Option R) (es : List (Lf × FV)) :
    findC d x (fun v => (found v).bind k) (no.bind k) es = (findC d x found no es).bind k := by
  rw [findC_eq, findC_eq]
  cases srch d x es with
  | none => rfl
  | some r => cases r <;> rfl
theorem lookupC_nat (m : Mem) (t : Nat) (x i : AV) (ok : Bool) (k : AV → Loc → Option R) : lookupC D m t x i ok k = (lookupC D m t x i ok fun v l => some (v, l)).bind fun x => k x.1 x.2 := by
  unfold lookupC
  repeat' split
  all_goals first
    | rfl
    | skip
  rename_i kty _ _ _ _ _ _ _
  cases (Nat.blt _ m.len && keyTD _) with
  | false => rfl
  | true =>
    simp only [cond_true]
    exact findC_nat _ _ (fun v => some (bif ok then AV.tup [v, FV.one (Lf.bool true)] else AV.fv v, (_, 0, 1))) (some (_, (_, 0, 1))) (fun (x : AV × Loc) => k x.1 x.2) _
theorem insertC_nat (m : Mem) (t : Nat) (x i v : AV) (k : Mem → Loc → Option R) : insertC D m t x i v k = (insertC D m t x i v fun v l => some (v, l)).bind fun x => k x.1 x.2 := by
  unfold insertC
  repeat' split
  all_goals first
    | rfl
    | skip
  cases (Nat.blt _ m.len && _ && keyTD _) with
  | false => rfl
  | true =>
    simp only [cond_true]
    exact findC_nat _ _ (fun _ => none) (some (_, (_, 0, 1))) (fun (x : Mem × Loc) => k x.1 x.2) _
theorem nat1 {α β : Type} {F : {R : Type} → (α → Option R) → Option R} (h : ∀ {R : Type} (k : α → Option R), F k = (F some).bind k) (g : α → β) (k : β → Option R) :
    F (fun v => k (g v)) = (F (fun v => some (g v))).bind k := by
  rw [h, h (fun v => some (g v)), Option.bind_assoc]
  rfl
theorem nat2 {α β γ : Type} {F : {R : Type} → (α → β → Option R) → Option R} (h : ∀ {R : Type} (k : α → β → Option R), F k = (F fun a b => some (a, b)).bind fun x => k x.1 x.2) (g : α → β → γ) (k : γ → Option R) :
    F (fun a b => k (g a b)) = (F (fun a b => some (g a b))).bind k := by
  rw [h, h (fun a b => some (g a b)), Option.bind_assoc]
  rfl
theorem natI (i : Int) (n : Nat) {β : Type} (F : {R : Type} → (β → Option R) → Nat → Option R) (k : β → Option R) (h : ∀ j, F k j = (F some j).bind k) :
    idxC i n (F k) = (idxC i n (F some)).bind k := by
  rw [idxC_nat i n (F k), idxC_nat i n (F some), Option.bind_assoc]
  congr 1
  funext j
  exact h j
theorem opC_nat (hC : CallNat call) (o : Op) (slot : Nat) (tm : Tm) (m : Mem) (k : AV → Mem → Lab → Option R) :
    opC D call o slot tm m k = (opC D call o slot tm m fun v m l => some (v, m, l)).bind fun x => k x.1 x.2.1 x.2.2 := by
  unfold opC
  all_goals dsimp only
  split
  all_goals try unfold asI
  all_goals try unfold asP
  all_goals try unfold asB
  all_goals repeat' split
  all_goals first
    | rfl
    | exact bif_nat rfl
    | (simp only [cond_true, cond_false]; exact bif_nat rfl)
    | skip
  all_goals first
    | exact nat1 (fun k => binC_nat _ _ _ _ k) (fun v => (v, m, Lab.p)) (fun (x : AV × Mem × Lab) => k x.1 x.2.1 x.2.2)
    | exact nat1 (fun k => unC_nat _ _ k) (fun v => (v, m, Lab.p)) (fun (x : AV × Mem × Lab) => k x.1 x.2.1 x.2.2)
    | exact nat1 (fun k => convC_nat _ _ k) (fun v => (v, m, Lab.p)) (fun (x : AV × Mem × Lab) => k x.1 x.2.1 x.2.2)
    | exact nat1 (fun k => sliceC_nat _ _ _ _ _ k) (fun v => (v, m, Lab.p)) (fun (x : AV × Mem × Lab) => k x.1 x.2.1 x.2.2)
    | exact nat1 (fun k => builtC_nat _ _ _ k) (fun v => (v, m, Lab.p)) (fun (x : AV × Mem × Lab) => k x.1 x.2.1 x.2.2)
    | exact nat2 (fun k => loadC_nat _ _ _ _ k) (fun v l => (v, m, Lab.r [l])) (fun (x : AV × Mem × Lab) => k x.1 x.2.1 x.2.2)
    | exact nat2 (fun k => lookupC_nat _ _ _ _ _ k) (fun v l => (v, m, Lab.r [l])) (fun (x : AV × Mem × Lab) => k x.1 x.2.1 x.2.2)
    | exact nat2 (fun k => insertC_nat _ _ _ _ _ k) (fun m' l => (undefA, m', Lab.c m.len [l])) (fun (x : AV × Mem × Lab) => k x.1 x.2.1 x.2.2)
    | exact natI _ _ (fun k j => k (AV.fv (FV.one (Lf.ptr _ (_ + j * _))), m, Lab.p)) (fun (x : AV × Mem × Lab) => k x.1 x.2.1 x.2.2) (fun _ => rfl)
    | exact natI _ _ (fun k j => match partL D _ _ (j * _) with | some v => k (AV.fv v, m, Lab.p) | none => none) (fun (x : AV × Mem × Lab) => k x.1 x.2.1 x.2.2) (fun j => by dsimp only; split <;> rfl)
    | (rename_i b _; cases b <;> rfl)
    | (simp only []; rename_i n _ _; cases Nat.beq n 0 <;> rfl)
    | exact callF_nat hC _ _ _ _ _
    | (rw [hC R, hC (AV × Mem × Lab), Option.bind_assoc]; rfl)
end
end Go.Ev
end
