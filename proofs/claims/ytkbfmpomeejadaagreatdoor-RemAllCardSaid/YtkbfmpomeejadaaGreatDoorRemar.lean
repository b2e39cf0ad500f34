/- Part 18 of 46 of what the theorem stands on. -/
import Derived.Test.YtkbfmpomeejadaaGreatDoorProg
import Derived.Test.YtkbfmpomeejadaaGreatDoorRemaa
import Derived.KernelRfl
import Derived.Test.YtkbfmpomeejadaaGreatDoorRemaq

section
namespace Go.Ev
def types : List (Nat × Ty) := [
  (25, ⟨.struct [(23, 0), (23, 1)], 2, 16, [.int .u64 0, .int .u64 0]⟩),
  (3, ⟨.int .i64, 1, 8, [.int .i64 0]⟩),
  (28, ⟨.struct [(25, 0), (26, 2)], 3, 24, [.int .u64 0, .int .u64 0, .int .u8 0]⟩),
  (22, ⟨.int .u8, 1, 1, [.int .u8 0]⟩),
  (23, ⟨.int .u64, 1, 8, [.int .u64 0]⟩),
  (78, ⟨.array 4 23, 4, 32, [.int .u64 0, .int .u64 0, .int .u64 0, .int .u64 0]⟩),
  (35, ⟨.struct [(4, 0), (33, 1), (3, 2)], 3, 40, [.bool false, .nat 0, .int .i64 0]⟩),
  (33, ⟨.slice 192, 1, 24, [.nat 0]⟩),
  (9, ⟨.str, 1, 16, [.str .empty]⟩),
  (4, ⟨.bool, 1, 1, [.bool false]⟩),
  (5, ⟨.int .u8, 1, 1, [.int .u8 0]⟩),
  (72, ⟨.struct [(4, 0), (70, 1), (3, 2), (25, 3)], 5, 32, [.bool false, .int .u8 0, .int .i64 0, .int .u64 0, .int .u64 0]⟩),
  (40, ⟨.struct [(5, 0), (5, 1), (5, 2), (5, 3), (5, 4), (25, 5), (25, 7), (25, 9)], 11, 56, [.int .u8 0, .int .u8 0, .int .u8 0, .int .u8 0, .int .u8 0, .int .u64 0, .int .u64 0, .int .u64 0, .int .u64 0, .int .u64 0, .int .u64 0]⟩),
  (97, ⟨.struct [(95, 0), (4, 1)], 2, 2, [.int .u8 0, .bool false]⟩),
  (330, ⟨.struct [(3, 0), (78, 1)], 5, 40, [.int .i64 0, .int .u64 0, .int .u64 0, .int .u64 0, .int .u64 0]⟩),
  (70, ⟨.int .u8, 1, 1, [.int .u8 0]⟩),
  (192, ⟨.int .u32, 1, 4, [.int .u32 0]⟩),
  (128, ⟨.slice 9, 1, 24, [.nat 0]⟩),
  (95, ⟨.int .u8, 1, 1, [.int .u8 0]⟩),
  (111, ⟨.struct [(22, 0), (22, 1), (109, 2), (97, 3), (25, 5), (25, 7), (25, 9)], 11, 56, [.int .u8 0, .int .u8 0, .int .u8 0, .int .u8 0, .bool false, .int .u64 0, .int .u64 0, .int .u64 0, .int .u64 0, .int .u64 0, .int .u64 0]⟩),
  (26, ⟨.int .u8, 1, 1, [.int .u8 0]⟩),
  (43, ⟨.struct [(41, 0), (25, 1), (26, 3)], 4, 32, [.int .i64 0, .int .u64 0, .int .u64 0, .int .u8 0]⟩),
  (53, ⟨.slice 5, 1, 24, [.nat 0]⟩),
  (93, ⟨.slice 25, 1, 24, [.nat 0]⟩),
  (99, ⟨.struct [(4, 0), (33, 1), (3, 2), (4, 3)], 4, 48, [.bool false, .nat 0, .int .i64 0, .bool false]⟩),
  (213, ⟨.struct [(23, 0), (26, 1)], 2, 16, [.int .u64 0, .int .u8 0]⟩),
  (244, ⟨.slice 23, 1, 24, [.nat 0]⟩),
  (21, ⟨.int .i32, 1, 4, [.int .i32 0]⟩),
  (131, ⟨.struct [(9, 0), (40, 1)], 12, 72, [.str .empty, .int .u8 0, .int .u8 0, .int .u8 0, .int .u8 0, .int .u8 0, .int .u64 0, .int .u64 0, .int .u64 0, .int .u64 0, .int .u64 0, .int .u64 0]⟩),
  (109, ⟨.int .u8, 1, 1, [.int .u8 0]⟩),
  (115, ⟨.struct [(3, 0), (112, 1), (113, 2)], 3, 24, [.int .i64 0, .cst .nilFunc, .cst .nilFunc]⟩),
  (240, ⟨.struct [(3, 0), (3, 1), (3, 2)], 3, 24, [.int .i64 0, .int .i64 0, .int .i64 0]⟩),
  (142, ⟨.struct [(140, 0), (53, 1)], 2, 32, [.cst (.pointer none), .nat 0]⟩),
  (332, ⟨.struct [(330, 0), (4, 5), (4, 6), (4, 7)], 8, 48, [.int .i64 0, .int .u64 0, .int .u64 0, .int .u64 0, .int .u64 0, .bool false, .bool false, .bool false]⟩),
  (264, ⟨.struct [(262, 0), (3, 2), (78, 3)], 7, 56, [.int .i64 0, .int .i64 0, .int .i64 0, .int .u64 0, .int .u64 0, .int .u64 0, .int .u64 0]⟩),
  (294, ⟨.map 9 292, 1, 8, [.cst (.map none)]⟩),
  (297, ⟨.ptr, 1, 8, [.cst (.pointer none)]⟩),
  (201, ⟨.map 5 115, 1, 8, [.cst (.map none)]⟩),
  (56, ⟨.slice 43, 1, 24, [.nat 0]⟩),
  (41, ⟨.int .i64, 1, 8, [.int .i64 0]⟩),
  (54, ⟨.ptr, 1, 8, [.cst (.pointer none)]⟩),
  (180, ⟨.struct [(25, 0), (25, 2), (4, 4)], 5, 40, [.int .u64 0, .int .u64 0, .int .u64 0, .int .u64 0, .bool false]⟩),
  (52, ⟨.slice 40, 1, 24, [.nat 0]⟩),
  (341, ⟨.struct [(23, 0), (23, 1)], 2, 16, [.int .u64 0, .int .u64 0]⟩),
  (164, ⟨.struct [(162, 0), (72, 2)], 7, 48, [.int .i64 0, .int .i64 0, .bool false, .int .u8 0, .int .i64 0, .int .u64 0, .int .u64 0]⟩),
  (162, ⟨.struct [(3, 0), (3, 1)], 2, 16, [.int .i64 0, .int .i64 0]⟩),
  (262, ⟨.struct [(3, 0), (3, 1)], 2, 16, [.int .i64 0, .int .i64 0]⟩),
  (193, ⟨.int .u64, 1, 8, [.int .u64 0]⟩),
  (62, ⟨.slice 131, 1, 24, [.nat 0]⟩),
  (45, ⟨.func, 1, 8, [.cst .nilFunc]⟩),
  (140, ⟨.ptr, 1, 8, [.cst (.pointer none)]⟩),
  (288, ⟨.slice 290, 1, 24, [.nat 0]⟩),
  (2, ⟨.int .i64, 1, 8, [.int .i64 0]⟩),
  (372, ⟨.slice 72, 1, 24, [.nat 0]⟩),
  (400, ⟨.array 2 78, 8, 64, [.int .u64 0, .int .u64 0, .int .u64 0, .int .u64 0, .int .u64 0, .int .u64 0, .int .u64 0, .int .u64 0]⟩),
  (414, ⟨.struct [(5, 0), (5, 1)], 2, 2, [.int .u8 0, .int .u8 0]⟩),
  (139, ⟨.struct [(54, 0), (5, 1), (5, 2)], 3, 16, [.cst (.pointer none), .int .u8 0, .int .u8 0]⟩),
  (310, ⟨.int .u8, 1, 1, [.int .u8 0]⟩),
  (324, ⟨.struct [(4, 0), (260, 1), (26, 2)], 3, 24, [.bool false, .cst .nilFunc, .int .u8 0]⟩),
  (154, ⟨.slice 26, 1, 24, [.nat 0]⟩),
  (216, ⟨.int .u8, 1, 1, [.int .u8 0]⟩),
  (144, ⟨.func, 1, 8, [.cst .nilFunc]⟩),
  (275, ⟨.map 109 273, 1, 8, [.cst (.map none)]⟩),
  (290, ⟨.struct [(3, 0), (3, 1)], 2, 16, [.int .i64 0, .int .i64 0]⟩),
  (299, ⟨.struct [(128, 0)], 1, 24, [.nat 0]⟩),
  (366, ⟨.map 95 364, 1, 8, [.cst (.map none)]⟩),
  (120, ⟨.struct [(26, 0)], 1, 1, [.int .u8 0]⟩),
  (134, ⟨.slice 144, 1, 24, [.nat 0]⟩),
  (122, ⟨.struct [(120, 0)], 1, 1, [.int .u8 0]⟩),
  (358, ⟨.array 24 5, 24, 24, [.int .u8 0, .int .u8 0, .int .u8 0, .int .u8 0, .int .u8 0, .int .u8 0, .int .u8 0, .int .u8 0, .int .u8 0, .int .u8 0, .int .u8 0, .int .u8 0, .int .u8 0, .int .u8 0, .int .u8 0, .int .u8 0, .int .u8 0, .int .u8 0, .int .u8 0, .int .u8 0, .int .u8 0, .int .u8 0, .int .u8 0, .int .u8 0]⟩),
  (254, ⟨.slice 3, 1, 24, [.nat 0]⟩),
  (178, ⟨.func, 1, 8, [.cst .nilFunc]⟩),
  (314, ⟨.array 2 313, 2, 16, [.cst .nilFunc, .cst .nilFunc]⟩),
  (327, ⟨.map 70 260, 1, 8, [.cst (.map none)]⟩),
  (384, ⟨.slice 22, 1, 24, [.nat 0]⟩),
  (357, ⟨.func, 1, 8, [.cst .nilFunc]⟩),
  (391, ⟨.slice 392, 1, 24, [.nat 0]⟩),
  (171, ⟨.func, 1, 8, [.cst .nilFunc]⟩),
  (300, ⟨.other, 1, 8, [.cst (.pointer none)]⟩),
  (303, ⟨.array 4 240, 12, 96, [.int .i64 0, .int .i64 0, .int .i64 0, .int .i64 0, .int .i64 0, .int .i64 0, .int .i64 0, .int .i64 0, .int .i64 0, .int .i64 0, .int .i64 0, .int .i64 0]⟩),
  (321, ⟨.slice 324, 1, 24, [.nat 0]⟩),
  (385, ⟨.array 4 341, 8, 64, [.int .u64 0, .int .u64 0, .int .u64 0, .int .u64 0, .int .u64 0, .int .u64 0, .int .u64 0, .int .u64 0]⟩),
  (396, ⟨.array 20 23, 20, 160, [.int .u64 0, .int .u64 0, .int .u64 0, .int .u64 0, .int .u64 0, .int .u64 0, .int .u64 0, .int .u64 0, .int .u64 0, .int .u64 0, .int .u64 0, .int .u64 0, .int .u64 0, .int .u64 0, .int .u64 0, .int .u64 0, .int .u64 0, .int .u64 0, .int .u64 0, .int .u64 0]⟩),
  (349, ⟨.array 5 9, 5, 80, [.str .empty, .str .empty, .str .empty, .str .empty, .str .empty]⟩),
  (415, ⟨.array 16 414, 32, 32, [.int .u8 0, .int .u8 0, .int .u8 0, .int .u8 0, .int .u8 0, .int .u8 0, .int .u8 0, .int .u8 0, .int .u8 0, .int .u8 0, .int .u8 0, .int .u8 0, .int .u8 0, .int .u8 0, .int .u8 0, .int .u8 0, .int .u8 0, .int .u8 0, .int .u8 0, .int .u8 0, .int .u8 0, .int .u8 0, .int .u8 0, .int .u8 0, .int .u8 0, .int .u8 0, .int .u8 0, .int .u8 0, .int .u8 0, .int .u8 0, .int .u8 0, .int .u8 0]⟩),
  (418, ⟨.array 32 5, 32, 32, [.int .u8 0, .int .u8 0, .int .u8 0, .int .u8 0, .int .u8 0, .int .u8 0, .int .u8 0, .int .u8 0, .int .u8 0, .int .u8 0, .int .u8 0, .int .u8 0, .int .u8 0, .int .u8 0, .int .u8 0, .int .u8 0, .int .u8 0, .int .u8 0, .int .u8 0, .int .u8 0, .int .u8 0, .int .u8 0, .int .u8 0, .int .u8 0, .int .u8 0, .int .u8 0, .int .u8 0, .int .u8 0, .int .u8 0, .int .u8 0, .int .u8 0, .int .u8 0]⟩),
  (137, ⟨.ptr, 1, 8, [.cst (.pointer none)]⟩),
  (204, ⟨.array 3 25, 6, 48, [.int .u64 0, .int .u64 0, .int .u64 0, .int .u64 0, .int .u64 0, .int .u64 0]⟩),
  (246, ⟨.func, 1, 8, [.cst .nilFunc]⟩),
  (250, ⟨.func, 1, 8, [.cst .nilFunc]⟩),
  (251, ⟨.func, 1, 8, [.cst .nilFunc]⟩),
  (307, ⟨.func, 1, 8, [.cst .nilFunc]⟩),
  (374, ⟨.func, 1, 8, [.cst .nilFunc]⟩),
  (375, ⟨.array 2 72, 10, 64, [.bool false, .int .u8 0, .int .i64 0, .int .u64 0, .int .u64 0, .bool false, .int .u8 0, .int .i64 0, .int .u64 0, .int .u64 0]⟩),
  (401, ⟨.func, 1, 8, [.cst .nilFunc]⟩),
  (405, ⟨.array 2 25, 4, 32, [.int .u64 0, .int .u64 0, .int .u64 0, .int .u64 0]⟩),
  (409, ⟨.array 2 330, 10, 80, [.int .i64 0, .int .u64 0, .int .u64 0, .int .u64 0, .int .u64 0, .int .i64 0, .int .u64 0, .int .u64 0, .int .u64 0, .int .u64 0]⟩),
  (83, ⟨.ptr, 1, 8, [.cst (.pointer none)]⟩),
  (113, ⟨.func, 1, 8, [.cst .nilFunc]⟩),
  (112, ⟨.func, 1, 8, [.cst .nilFunc]⟩),
  (228, ⟨.ptr, 1, 8, [.cst (.pointer none)]⟩),
  (229, ⟨.func, 1, 8, [.cst .nilFunc]⟩),
  (234, ⟨.ptr, 1, 8, [.cst (.pointer none)]⟩),
  (313, ⟨.func, 1, 8, [.cst .nilFunc]⟩),
  (260, ⟨.func, 1, 8, [.cst .nilFunc]⟩),
  (392, ⟨.ptr, 1, 8, [.cst (.pointer none)]⟩),
  (364, ⟨.func, 1, 8, [.cst .nilFunc]⟩),
  (292, ⟨.func, 1, 8, [.cst .nilFunc]⟩),
  (273, ⟨.func, 1, 8, [.cst .nilFunc]⟩)]
theorem types_ok : types.map (fun x => tyOf Go.Proofs.Tryz.prog x.1) = types.map (fun x => some x.2) := by kernel_rfl
end Go.Ev
end

section
namespace Go.Ev
open Go.Proofs (Tryz.prog)
open Go.Proofs
theorem callable_of {P : Program} {f : FuncId} {fn : Func} (hf : P.funcs[f]? = some fn) (hn : (fn.name == "runtime.NumGoroutine") = false) (hb : fn.body.isNone = false) : Callable P f := by
  intro args w
  have h1 : ¬ fn.name = "runtime.NumGoroutine" := by simpa using hn
  have h2 : ¬ fn.body = none := fun e => by rw [e] at hb; cases hb
  unfold callFunc
  simp [hf, h1, h2]
theorem look_mem {α : Type} {t : Nat} {a : α} : ∀ {l : List (Nat × α)}, look l t = some a → (t, a) ∈ l
  | [], h => by cases h
  | (n, b) :: l, h => by
    simp only [look] at h
    cases hb : Nat.beq n t with
    | true =>
      rw [hb] at h
      cases h
      rw [Nat.eq_of_beq_eq_true hb]
      simp
    | false =>
      rw [hb] at h
      exact List.mem_cons_of_mem _ (look_mem h)
theorem lookC_mem {f : Nat} {c : Ctr} : ∀ {l : List Ctr}, lookC l f = some c → c ∈ l ∧ c.f = f
  | [], h => by cases h
  | b :: l, h => by
    simp only [lookC] at h
    cases hb : Nat.beq b.f f with
    | true =>
      rw [hb] at h
      cases h
      exact ⟨by simp, Nat.eq_of_beq_eq_true hb⟩
    | false =>
      rw [hb] at h
      exact ⟨List.mem_cons_of_mem _ (lookC_mem h).1, (lookC_mem h).2⟩
theorem map_mem {α β : Type} {f g : α → β} : ∀ {l : List α}, l.map f = l.map g → ∀ a ∈ l, f a = g a
  | [], _, a, ha => by simp at ha
  | b :: l, h, a, ha => by
    simp only [List.map_cons, List.cons.injEq] at h
    rcases List.mem_cons.1 ha with rfl | ha
    · exact h.1
    · exact map_mem h.2 a ha
def tabFormat : List Lf := [.int .i64 16, .int .i64 11, .int .i64 15, .int .i64 32, .int .i64 24, .int .i64 127, .int .i64 64, .int .i64 53, .int .i64 1023, .int .i64 128, .int .i64 113, .int .i64 16383]
/-- What is known of the program ahead of all contracts. -/
structure Base where
  funs : List (Nat × Func)
  eqs : List (Nat × List (Option IntKind))
  ctrs : List Ctr
def dat (b : Base) : Data := { types, globs := [(0, tabFormat)], eqs := b.eqs, funs := b.funs, sums := [], ctrs := b.ctrs }
structure BaseOk (b : Base) : Prop where
  funs : ∀ x ∈ b.funs, Tryz.prog.funcs[x.1]? = some x.2 ∧ Callable Tryz.prog x.1
  eqs : ∀ x ∈ b.eqs, EqOk Tryz.prog x.1 x.2
  ctrs : ∀ c ∈ b.ctrs, CtrOk Tryz.prog (dat b) c
theorem BaseOk.data {b : Base} (h : BaseOk b) : DataOk Tryz.prog (dat b) where
  types := fun t ty ht => by
    have ht : look types t = some ty := ht
    exact map_mem (f := fun x : Nat × Ty => tyOf Tryz.prog x.1) (g := fun x => some x.2) types_ok (t, ty) (look_mem ht)
  eqs := fun t ks ht => by
    have ht : look b.eqs t = some ks := ht
    exact h.eqs (t, ks) (look_mem ht)
  ctrs := fun f c hc => by
    have hc : lookC b.ctrs f = some c := hc
    exact h.ctrs c (lookC_mem hc).1
  funs := fun f fn hf => by
    have hf : look b.funs f = some fn := hf
    exact h.funs (f, fn) (look_mem hf)
  sums := fun f s hs => by
    have hs : (none : Option Sm) = some s := hs
    cases hs
theorem mixed : Tryz.prog.follows .mixedOrders = true := by kernel_rfl
def Base.with (b : Base) (c : Ctr) : Base := { b with ctrs := c :: b.ctrs }
theorem BaseOk.with {b : Base} (h : BaseOk b) {c : Ctr} (hc : CtrOk Tryz.prog (dat b) c) : BaseOk (b.with c) where
  funs := h.funs
  eqs := h.eqs
  ctrs := fun d hd => by
    rcases List.mem_cons.1 hd with rfl | hd
    · exact hc
    · exact h.ctrs d hd
def b0 : Base := { funs := [], eqs := [], ctrs := [] }
theorem b0_ok : BaseOk b0 := ⟨by simp [b0], by simp [b0], by simp [b0]⟩
/-- format.Known -/
def cKnown : Ctr := { f := 36, R := Bool, K := fun | [.fv (.one (.int .u8 f))] => some (decide (IntKind.wrap .i64 f < 4)) | _ => none, res := fun r => .fv (.one (.bool r)) }
theorem known_ok : CtrOk Tryz.prog (dat b0) cKnown := by
  refine ctr_of mixed b0_ok.data (callable_of Tryz.func36 (by kernel_rfl) (by kernel_rfl)) Tryz.func36 100 fun xs r h => ?_
  unfold cKnown at h
  simp only at h
  split at h
  · rename_i f
    cases h
    exact ⟨by kernel_rfl, rfl⟩
  · cases h
end Go.Ev
end

section
namespace Go.Ev
open Go.RowKit
/-- What is handed back where nothing was written. -/
def only {R : Type} (pr : FV → Option R) (v : AV) (ws : List Loc) : Option R :=
  match v, ws with
  | .fv x, [] => pr x
  | _, _ => none
def sumOf (D : Data) (n : Nat) (f : FuncId) {R : Type} (pr : FV → Option R) (res : R → FV) : Sm :=
  { f, R, K := fun xs m => callC D n R f xs m fun v _ ws => only pr v ws, res := fun r => .fv (res r) }
theorem sumOf_ok {P : Program} {D D' : Data} (hm : P.follows .mixedOrders = true) (hD : DataOk P D) (hg : D'.globs = D.globs) {n : Nat} {f : FuncId} {R : Type} {pr : FV → Option R} {res : R → FV}
    (hpr : ∀ x r, pr x = some r → x = res r ∧ pureL (res r).cells = true) (hf : Nat.beq f yId = false := by rfl) : SumOk P D' f (sumOf D n f pr res) := by
  intro xs m r h
  have h : callC D n R f xs m (fun v _ ws => only pr v ws) = some r := h
  obtain ⟨v, m', ws, h, hE, _, hH⟩ := callC_sound hD (evC_sound hm n hD.low) h
  have hE := hE hf
  unfold only at h
  split at h
  · rename_i x _
    obtain ⟨rfl, hp⟩ := hpr _ _ h
    refine ⟨_, m', [], rfl, hp, ⟨hE.len, hE.calls.1, fun E vs hG ha => hE.calls.2 E vs ⟨hG.mem, ?_, ?_, ?_, ?_⟩ ha⟩, fun id hid => ?_⟩
    · have := hG.glob
      unfold GlobOk at this ⊢
      rwa [show D'.low.globs = D.low.globs from hg] at this
    · have := hG.pi
      rwa [show D'.low.globs = D.low.globs from hg] at this
    · have := hG.low
      rwa [show D'.low.globs = D.low.globs from hg] at this
    · exact fun _ h => by cases h
    · have h1 := hH.own id hid
      have h2 := hH.sz id hid
      have h3 := hH.es id hid rfl
      have h4 : (m'.blk id).get = (m.blk id).get := funext fun j => hH.get id j hid rfl
      cases hb : m'.blk id
      cases hb' : m.blk id
      simp_all
  · cases h
def prI (q : IntKind) : FV → Option Int
  | .one (.int q' x) => bif decide (q' = q) then some x else none
  | _ => none
theorem prI_ok (q : IntKind) : ∀ x r, prI q x = some r → x = .one (.int q r) ∧ pureL (FV.cells (.one (.int q r))) = true := by
  intro x r h
  unfold prI at h
  split at h
  · obtain ⟨h1, h2⟩ := bif_inv h
    cases h2
    rw [of_decide_eq_true h1]
    exact ⟨rfl, rfl⟩
  · cases h
end Go.Ev
end

section
namespace Go.Ev
/-- The word at a place of a number. -/
def wordAt (a j : Nat) : Nat := a / 2 ^ (64 * j) % 2 ^ 64
theorem wordAt_lt (a j : Nat) : wordAt a j < 2 ^ 64 := Nat.mod_lt _ (by decide)
theorem wordAt_bit (a j k : Nat) : (wordAt a j).testBit k = (decide (k < 64) && a.testBit (64 * j + k)) := by
  unfold wordAt
  rw [Nat.testBit_mod_two_pow, Nat.testBit_div_two_pow, Nat.add_comm]
/-- One word of a number that is moved up by less than a word. -/
theorem word_moved (a j s : Nat) (hs : s < 64) :
    (wordAt a (j + 1) * 2 ^ s % 2 ^ 64) ||| (wordAt a j / 2 / 2 ^ (63 - s)) = a * 2 ^ s / 2 ^ (64 * (j + 1)) % 2 ^ 64 := by
  refine Nat.eq_of_testBit_eq fun k => ?_
  simp only [Nat.testBit_or, Nat.testBit_mod_two_pow, Nat.testBit_mul_two_pow, Nat.testBit_div_two_pow, Nat.testBit_div_two, wordAt_bit]
  by_cases hk : k < 64
  · by_cases hks : s ≤ k
    · have e1 : ¬ (k + (63 - s) + 1 < 64) := by omega
      have e2 : s ≤ k + 64 * (j + 1) := by omega
      have e3 : 64 * (j + 1) + (k - s) = k + 64 * (j + 1) - s := by omega
      have e4 : k - s < 64 := by omega
      simp [hk, hks, e1, e2, e3, e4]
    · have e1 : k + (63 - s) + 1 < 64 := by omega
      have e2 : s ≤ k + 64 * (j + 1) := by omega
      have e3 : 64 * j + (k + (63 - s) + 1) = k + 64 * (j + 1) - s := by omega
      simp [hk, hks, e1, e2, e3]
  · have e1 : ¬ (k + (63 - s) + 1 < 64) := by omega
    simp [hk, e1]
theorem word_moved0 (a s : Nat) : (wordAt a 0 * 2 ^ s % 2 ^ 64) = a * 2 ^ s % 2 ^ 64 := by
  unfold wordAt
  simp [Nat.mod_mul_mod]
end Go.Ev
end
