/- Part 3 of 46 of what the theorem stands on. -/
import Derived.Test.YtkbfmpomeejadaaGreatDoorRemab

section
namespace Go.Ev
open Go.RowKit
/-- The listed variables hold what is told of them. -/
def GlobOk (D : Data) (w : World) : Prop :=
  ∀ (i g : Nat) (l : List Lf), D.globs[i]? = some (g, l) → g < w.heap.size ∧ ∀ (j : Nat) (x : Lf), l[j]? = some x → ∃ u, w.cell? ⟨g, j, none⟩ = some u ∧ leafOf u = some x
/-- No block of one's own; natural numbers lie where 'far' says. -/
def pureE (w : World) (far : Nat → Prop) : Env := { w, pi := fun _ => none, own := fun _ => False, B0 := w.heap.size, far, init := fun _ => ⟨true, 0, fun _ => .cst undef, none⟩ }
def ArgRel (E : Env) : Arg → Value → Prop
  | .fv x, v => FVRel E x v
  | .lst n cells, v => ∃ b off, v = .slice (some ⟨b, off, none⟩) n n ∧ b < E.w.heap.size ∧ ∀ j x, cells[j]? = some x → ∃ u, E.w.cell? ⟨b, off + j, none⟩ = some u ∧ LfRel E x u
def Callable (P : Program) (f : FuncId) : Prop := ∀ (args : Array Value) (w : World), (callFunc f args).run P w = .ok (.enter f args) w
def CtrPost (w : World) (far : Nat → Prop) (x : AV) : Ending → World → Prop := fun e w' =>
  ∃ v, e = .returned v ∧ Below w.heap.size w w' ∧ AVRel { pureE w far with w := w' } x v
/-- A contract that holds of the program. -/
def CtrOk (P : Program) (D : Data) (c : Ctr) : Prop :=
  (Callable P c.f ∧ ∀ (w : World) (far : Nat → Prop) (args : List Arg) (vs : List Value) (r : c.R), GlobOk D w → All2 (ArgRel (pureE w far)) args vs → c.K args = some r →
    Calls P c.f vs.toArray w (CtrPost w far (c.res r))) ∨
  (∀ (w : World) (far : Nat → Prop) (args : List Arg) (vs : List Value) (r : c.R), All2 (ArgRel (pureE w far)) args vs → c.K args = some r →
    ∃ u, (callFunc c.f vs.toArray).run P w = .ok (.value u) w ∧ AVRel (pureE w far) (c.res r) u)
/-- '==' of structs and arrays of one type, leaf by leaf. -/
def EqOk (P : Program) (t : Nat) (ks : List (Option IntKind)) : Prop :=
  ∀ (E : Env) (l r : List Lf) (vs us : List Value) (c : Bool) (w : World), eqL ks l r = some c → All2 (LfRel E) l vs → All2 (LfRel E) r us →
    (∀ op x y, (eqGuard op t x y (.agg vs.toArray) (.agg us.toArray)).run P w = .ok () w) ∧ (Op.equal t (.agg vs.toArray) (.agg us.toArray)).run P w = .ok c w
theorem Ext.setL {E E' : Env} (k : Ext E E') (x : Option Nat) : Ext { E with l := x } { E' with l := x } where
  B0 := k.B0
  far := k.far
  pi := k.pi
  own := k.own
  new := k.new
  os := k.os
  tape := k.tape
  output := k.output
  size := k.size
  same := k.same
  l := rfl
/-- The loop's record waits for a round. -/
def YOk (E : Env) (l : Nat) (rd : Rd) : Prop :=
  ¬ E.own l ∧ ∃ (fn : FuncId) (tmps : Array Value) (D0 : Nat) (l0 : Option Nat),
    E.w.heap[l]? = some (.loop { state := .ready, pending := none, fn, tmps, params := rd.ps, assign := rd.assign, body := rd.body, defers := D0 }) ∧
    tmps.size = rd.nt ∧ ∀ t, AVRel { E with l := l0 } (rd.tm t) (tmps.getD t undef)
theorem lt_of_heap {w : World} {l : Nat} {o : Obj} (h : w.heap[l]? = some o) : l < w.heap.size := (Array.getElem?_eq_some_iff.1 h).1
theorem YOk.ext {E E' : Env} (k : Ext E E') {l : Nat} {rd : Rd} (h : YOk E l rd) : YOk E' l rd := by
  obtain ⟨h1, fn, tmps, D0, l0, h2, h3, h4⟩ := h
  have hlt := lt_of_heap h2
  refine ⟨fun e => ?_, fn, tmps, D0, l0, (k.same l hlt h1).trans h2, h3, fun t => (h4 t).ext (k.setL l0)⟩
  rcases k.new l e with e | e
  · exact h1 e
  · omega
structure Good (D : Data) (E : Env) (m : Mem) : Prop where
  mem : MemRel E m
  glob : GlobOk D E.w
  pi : ∀ (i g : Nat) (l : List Lf), D.globs[i]? = some (g, l) → E.pi i = some (g, 0)
  low : ∀ (i g : Nat) (l : List Lf), D.globs[i]? = some (g, l) → g < E.B0
  yok : ∀ rd, D.yo = some rd → ∃ l, E.l = some l ∧ YOk E l rd
theorem Good.lower {D : Data} {E : Env} {m : Mem} (h : Good D E m) : Good D.low E m := ⟨h.mem, h.glob, h.pi, h.low, fun _ h => by cases h⟩
theorem Good.ext {D : Data} {E E' : Env} {m m' : Mem} (h : Good D E m) (k : Ext E E') (hm : MemRel E' m') : Good D E' m' where
  mem := hm
  glob := fun i g l hi => by
    obtain ⟨h1, h2⟩ := h.glob i g l hi
    refine ⟨Nat.lt_of_lt_of_le h1 k.size, fun j x hx => ?_⟩
    obtain ⟨u, hu, hl⟩ := h2 j x hx
    refine ⟨u, ?_, hl⟩
    rw [← hu]
    refine World.cell?_of_block (w := E.w) (k.same g h1 fun ho => ?_)
    have := (h.mem.own g ho).1
    have := h.low i g l hi
    omega
  pi := fun i g l hi => k.pi _ _ (h.pi i g l hi)
  low := fun i g l hi => by rw [k.B0]; exact h.low i g l hi
  yok := fun rd hrd => by
    obtain ⟨l, h1, h2⟩ := h.yok rd hrd
    exact ⟨l, k.l.trans h1, h2.ext k⟩
/-- What a call that is entered in place comes to. -/
structure Entered (P : Program) (D : Data) (f : FuncId) (as : List AV) (m : Mem) (v : AV) (m' : Mem) (ws : List Loc) : Prop where
  len : m.len ≤ m'.len
  calls : Callable P f ∧ ∀ (E : Env) (vs : List Value), Good D.low E m → All2 (AVRel E) as vs →
    Calls P f vs.toArray E.w fun e w' => ∃ E' u, e = .returned u ∧ E'.w = w' ∧ Ext E E' ∧ (∀ id, id < m.len → E.pi id = none → E'.pi id = none) ∧
      (∀ id, id < m.len → E'.init id = E.init id) ∧ MemRel E' m' ∧ AVRel E' v u
/-- What a call of yield comes to. -/
structure Rounded (P : Program) (D : Data) (as : List AV) (m : Mem) (v : AV) (m' : Mem) : Prop where
  len : m.len ≤ m'.len
  round : ∀ (E : Env) (vs : List Value) (l : Nat), Good D E m → E.l = some l → All2 (AVRel E) as vs →
    ∃ fn tmps assign body, (Instr.yield l vs.toArray).run P E.w = .ok (.round l fn tmps assign body) E.w ∧
      RoundIn Fence.wide 0 P l fn tmps assign body E.w fun e w' => ∃ E' u, e = .returned u ∧ E'.w = w' ∧ Ext E E' ∧ (∀ id, id < m.len → E.pi id = none → E'.pi id = none) ∧
        (∀ id, id < m.len → E'.init id = E.init id) ∧ MemRel E' m' ∧ AVRel E' v u
def CallOk (P : Program) (D : Data) (call : CallK) : Prop :=
  ∀ (R : Type) (f : FuncId) (as : List AV) (m : Mem) (k : AV → Mem → List Loc → Option R) (r : R), call R f as m k = some r →
    ∃ v m' ws, k v m' ws = some r ∧ (Nat.beq f yId = false → Entered P D f as m v m' ws) ∧ (Nat.beq f yId = true → Rounded P D as m v m')
/-- A function's summary: what it comes to whatever lies in memory beside. -/
def SumOk (P : Program) (D : Data) (f : FuncId) (s : Sm) : Prop :=
  ∀ as m r, s.K as m = some r → ∃ x m' ws, s.res r = .fv x ∧ pureL x.cells = true ∧ Entered P D f as m (.fv x) m' ws ∧ ∀ id, id < m.len → m'.blk id = m.blk id
structure DataOk (P : Program) (D : Data) : Prop where
  types : ∀ t ty, look D.types t = some ty → tyOf P t = some ty
  eqs : ∀ t ks, look D.eqs t = some ks → EqOk P t ks
  ctrs : ∀ f c, lookC D.ctrs f = some c → CtrOk P D c
  funs : ∀ f fn, look D.funs f = some fn → P.funcs[f]? = some fn ∧ Callable P f
  sums : ∀ f s, lookS D.sums f = some s → SumOk P D f s
theorem DataOk.low {P : Program} {D : Data} (h : DataOk P D) : DataOk P D.low := ⟨h.types, h.eqs, h.ctrs, h.funs, fun f s hs as m r hk => by
  obtain ⟨x, m', ws, h1, h2, hE, h3⟩ := h.sums f s hs as m r hk
  exact ⟨x, m', ws, h1, h2, ⟨hE.len, hE.calls⟩, h3⟩⟩
theorem DataOk.iter {P : Program} {D : Data} (h : DataOk P D) (rd : Rd) : DataOk P (D.iter rd) := ⟨h.types, h.eqs, h.ctrs, h.funs, fun f s hs as m r hk => by
  obtain ⟨x, m', ws, h1, h2, hE, h3⟩ := h.sums f s hs as m r hk
  exact ⟨x, m', ws, h1, h2, ⟨hE.len, hE.calls⟩, h3⟩⟩
/-- The wide fence, of a round's frame perhaps. -/
def FR (ro : Option Nat) : Fence := { Fence.wide with round := ro }
structure OpPost (E : Env) (m : Mem) (slot : Nat) (al : Bool) (m' : Mem) (v : AV) (E' : Env) (u : Value) : Prop where
  ext : Ext E E'
  none : ∀ id, id < m.len → (id ≠ slot ∨ al = false) → E.pi id = none → E'.pi id = none
  init : ∀ id, id < m.len → E'.init id = E.init id
  mem : MemRel E' m'
  val : AVRel E' v u
/-- What an operation comes to in the machine. -/
def OpRes (P : Program) (o : Oper) (a : Act) (E : Env) (post : Env → Value → Prop) : Prop :=
  (∃ E' u, (execOp a.eval o).run P E.w = .ok (.value u) E'.w ∧ post E' u) ∨
  (∃ E', (execOp a.eval o).run P E.w = .ok .skip E'.w ∧ post E' undef) ∨
  (∃ f args, (execOp a.eval o).run P E.w = .ok (.enter f args) E.w ∧ Calls P f args E.w fun e w' => ∃ E' u, e = .returned u ∧ E'.w = w' ∧ post E' u) ∨
  (∃ l fn tmps assign body, (execOp a.eval o).run P E.w = .ok (.round l fn tmps assign body) E.w ∧ RoundIn Fence.wide 0 P l fn tmps assign body E.w fun e w' => ∃ E' u, e = .returned u ∧ E'.w = w' ∧ post E' u)
theorem OpRes.wp {P : Program} {o : Oper} {a : Act} {E : Env} {post : Env → Value → Prop} (h : OpRes P o a E post) (hd : ∀ c, o.op ≠ .defer c) {ro : Option Nat} {K : Act → World → Prop} {Q : Exit → Act → World → Prop}
    (hk : ∀ E' u, post E' u → K (a.put o.dst u) E'.w) : o.wpIn (FR ro) 0 P a E.w K Q := by
  unfold Oper.wpIn
  rw [Oper.semAt_eq _ _ _ hd]
  refine ⟨fun _ _ => trivial, ?_⟩
  rcases h with ⟨E', u, h, hp⟩ | ⟨E', h, hp⟩ | ⟨f, args, h, hc⟩ | ⟨l, fn, tmps, assign, body, h, hc⟩
  · rw [h]; exact hk E' u hp
  · rw [h]; exact hk E' _ hp
  · rw [h]
    refine ⟨fun h => (by cases h), ?_⟩
    have hc := (callsIn_wide (n := 0)).2 hc
    refine CallsIn.mono (F := FR ro) (n := 0) hc fun e w' he => ?_
    obtain ⟨E', u, rfl, rfl, hp⟩ := he
    exact hk E' u hp
  · rw [h]
    refine ⟨fun h => (by cases h), ?_⟩
    refine RoundIn.mono (F := FR ro) (n := 0) hc fun e w' he => ?_
    obtain ⟨E', u, rfl, rfl, hp⟩ := he
    exact hk E' u hp
structure SlotOk (D : Data) (E : Env) (m : Mem) (o : Op) (slot : Nat) : Prop where
  low : isAl o = true → slot < m.len
  pi : isAl o = true → E.pi slot = none
  zero : ∀ t, o = .alloc t → ∃ ty, look D.types t = some ty ∧ E.init slot = { own := true, sz := ty.zero.length, get := ofList ty.zero }
section
variable {R : Type}
theorem bif_inv {c : Bool} {x : Option R} {r : R} (h : (bif c then x else none) = some r) : c = true ∧ x = some r := by
  cases c <;> simp_all
theorem asB_inv {a : AV} {k : Bool → Option R} {r : R} (h : asB a k = some r) : ∃ b, a = .fv (.one (.bool b)) ∧ k b = some r := by
  unfold asB at h; split at h
  · exact ⟨_, rfl, h⟩
  · cases h
theorem asI_inv {a : AV} {k : IntKind → Int → Option R} {r : R} (h : asI a k = some r) : ∃ q x, a = .fv (.one (.int q x)) ∧ k q x = some r := by
  unfold asI at h; split at h
  · exact ⟨_, _, rfl, h⟩
  · cases h
theorem asP_inv {a : AV} {k : Nat → Nat → Option R} {r : R} (h : asP a k = some r) : ∃ id off, a = .fv (.one (.ptr id off)) ∧ k id off = some r := by
  unfold asP at h; split at h
  · exact ⟨_, _, rfl, h⟩
  · cases h
theorem enumC_inv {i : Int} {k : Nat → Option R} {r : R} : ∀ {n j : Nat}, enumC i k j n = some r → ∃ d, d < n ∧ i = ((j + d : Nat) : Int) ∧ k (j + d) = some r
  | 0, _, h => by simp [enumC] at h
  | n + 1, j, h => by
    unfold enumC at h
    cases hd : decide (i = (j : Int)) with
    | true => rw [hd] at h; exact ⟨0, by omega, by simpa using of_decide_eq_true hd, h⟩
    | false =>
      rw [hd] at h
      obtain ⟨d, h1, h2, h3⟩ := enumC_inv h
      exact ⟨d + 1, by omega, by rw [h2]; omega, by rw [show j + (d + 1) = j + 1 + d by omega]; exact h3⟩
theorem idxC_inv {i : Int} {n : Nat} {k : Nat → Option R} {r : R} (h : idxC i n k = some r) : ∃ j, j < n ∧ i = (j : Int) ∧ k j = some r := by
  unfold idxC at h
  cases hb : Nat.ble n 16 with
  | true =>
    rw [hb] at h
    obtain ⟨d, h1, h2, h3⟩ := enumC_inv h
    exact ⟨d, h1, by simpa using h2, by simpa using h3⟩
  | false =>
    rw [hb] at h
    obtain ⟨h1, h2⟩ := bif_inv h
    simp at h1
    exact ⟨i.toNat, by omega, by omega, h2⟩
end
section
variable {P : Program} {D : Data}
theorem look_globs {g i : Nat} : ∀ {l : List (Nat × List Lf)} {j : Nat}, idxG l g j = some i → ∃ d c, i = j + d ∧ l[d]? = some (g, c)
  | [], _, h => by simp [idxG] at h
  | (n, c) :: l, j, h => by
    unfold idxG at h
    cases hb : Nat.beq n g with
    | true =>
      rw [hb] at h
      cases h
      exact ⟨0, c, rfl, by rw [Nat.eq_of_beq_eq_true hb]; rfl⟩
    | false =>
      rw [hb] at h
      obtain ⟨d, c', h1, h2⟩ := look_globs h
      exact ⟨d + 1, c', by omega, by simpa using h2⟩
theorem evO_rel {E : Env} {m : Mem} (hG : Good D E m) {tm : Tm} {a : Act} (ht : ∀ t, AVRel E (tm t) (a.tmps.getD t undef)) {x : Operand} {v : AV} (h : evO D tm x = some v) : AVRel E v (a.eval x) := by
  cases x with
  | tmp t => simp only [evO, Option.some.injEq] at h; subst h; exact ht t
  | const c => exact ofV_rel E h
  | func f => simp only [evO, Option.some.injEq] at h; subst h; exact ⟨[], [], rfl, .nil, .nil⟩
  | global g =>
    simp only [evO, Option.map_eq_some_iff] at h
    obtain ⟨i, hi, rfl⟩ := h
    obtain ⟨d, c, rfl, hd⟩ := look_globs hi
    refine ⟨g, 0, ?_, rfl⟩
    simpa using hG.pi d g c hd
theorem evOs_rel {E : Env} {m : Mem} (hG : Good D E m) {tm : Tm} {a : Act} (ht : ∀ t, AVRel E (tm t) (a.tmps.getD t undef)) : ∀ {l : List Operand} {as : List AV}, evOs D tm l = some as → All2 (AVRel E) as (l.map a.eval)
  | [], as, h => by simp [evOs] at h; subst h; exact .nil
  | x :: l, as, h => by
    simp only [evOs] at h
    split at h
    · cases h
    · rename_i v hv
      split at h
      · cases h
      · rename_i vs hvs
        cases h
        exact .cons (evO_rel hG ht hv) (evOs_rel hG ht hvs)
theorem ptrs_rel {E : Env} : ∀ {l : List FV} {cs : List (Nat × Nat)} {vs : List Value}, ptrsOf l = some cs → All2 (FVRel E) l vs → All2 (fun (p : Nat × Nat) u => ∃ b base, E.pi p.1 = some (b, base) ∧ u = .pointer (some ⟨b, base + p.2, none⟩)) cs vs
  | [], _, _, h, k => by cases h; cases k; exact .nil
  | x :: l, _, _, h, k => by
    cases k with
    | cons k t =>
      unfold ptrsOf at h
      split at h
      · rename_i e; cases e
      · rename_i e
        cases e
        split at h
        · rename_i r hr
          cases h
          exact .cons k (ptrs_rel hr t)
        · cases h
      · cases h
theorem ptrF_rel {E : Env} : ∀ {cs : List (Nat × Nat)} {vs : List Value}, All2 (fun (p : Nat × Nat) u => ∃ b base, E.pi p.1 = some (b, base) ∧ u = .pointer (some ⟨b, base + p.2, none⟩)) cs vs → All2 (FVRel E) (cs.map ptrF) vs
  | _, _, .nil => .nil
  | _, _, .cons h t => .cons h (ptrF_rel t)
theorem flat_rel {E : Env} {x : AV} {y : FV} {v : Value} (h : AVRel E x v) (hf : x.flat = some y) : FVRel E y v := by
  unfold AV.flat at hf
  split at hf <;> (try simp only [Option.some.injEq, reduceCtorEq] at hf)
  · subst hf; exact h
  · subst hf
    obtain ⟨us, vs, rfl, h1, h⟩ := h
    cases h1
    cases h
    exact ⟨rfl, by simp⟩
  · split at hf
    · rename_i cs hcs
      cases hf
      obtain ⟨us, vs, rfl, h1, h⟩ := h
      cases h1
      exact ⟨vs, rfl, ptrs_rel hcs h⟩
    · cases hf
theorem flats_rel {E : Env} : ∀ {l : List AV} {vs : List Value} {ys : List FV}, All2 (AVRel E) l vs → flats l = some ys → All2 (FVRel E) ys vs
  | [], vs, ys, h, hf => by cases h; simp [flats] at hf; subst hf; exact .nil
  | x :: l, vs, ys, h, hf => by
    cases h with
    | cons h t =>
      simp only [flats] at hf
      split at hf
      · cases hf
      · rename_i y hy
        split at hf
        · cases hf
        · rename_i zs hz
          cases hf
          exact .cons (flat_rel h hy) (flats_rel t hz)
theorem asFn_rel {E : Env} {x : AV} {f : FuncId} {first caps : List FV} {v : Value} (h : AVRel E x v) (hf : x.asFn = some (f, first, caps)) :
    ∃ us vs : List Value, v = .func (.func f) us.toArray vs.toArray ∧ All2 (FVRel E) first us ∧ All2 (FVRel E) caps vs := by
  unfold AV.asFn at hf
  split at hf <;> simp only [Option.some.injEq, Prod.mk.injEq, reduceCtorEq] at hf
  · obtain ⟨rfl, rfl, rfl⟩ := hf; exact h
  · obtain ⟨rfl, rfl, rfl⟩ := hf; exact ⟨[], [], h.1, .nil, .nil⟩
  · obtain ⟨rfl, rfl, rfl⟩ := hf
    obtain ⟨vs, h1, h2⟩ := h
    exact ⟨[], vs, h1, .nil, ptrF_rel h2⟩
theorem all2_tab {E : Env} {get : Nat → Lf} : ∀ {n off : Nat} {vs : List Value}, vs.length = n → (∀ j v, vs[j]? = some v → LfRel E (get (off + j)) v) → All2 (LfRel E) (tab get off n) vs
  | 0, off, vs, hl, h => by
    have : vs = [] := List.eq_nil_of_length_eq_zero hl
    subst this; exact .nil
  | n + 1, off, vs, hl, h => by
    match vs, hl with
    | v :: vs, hl =>
      refine .cons (by simpa using h 0 v rfl) (all2_tab (by simpa using hl) fun j u hu => ?_)
      have := h (j + 1) u (by simpa using hu)
      rwa [show off + (j + 1) = off + 1 + j by omega] at this
theorem noEs_eq {e : Option (List (Lf × FV))} (h : noEs e = true) : e = none := by cases e <;> simp_all [noEs]
/-- Cells of a block, read. -/
theorem cells_of {E : Env} {m : Mem} (hM : MemRel E m) {id b base off n : Nat} (hid : id < m.len) (hp : E.pi id = some (b, base)) (he : (m.blk id).es = none) (hs : off + n ≤ (m.blk id).sz) :
    ∃ vs : List Value, vs.length = n ∧ (∀ j v, vs[j]? = some v → E.w.cell? ⟨b, base + off + j, none⟩ = some v) ∧ All2 (LfRel E) (tab (m.blk id).get off n) vs := by
  have hb := hM.blk id hid
  unfold BlkRel at hb
  rw [hp] at hb
  obtain ⟨_, _, hb⟩ := hb
  simp only [he] at hb
  have key : ∀ n, off + n ≤ (m.blk id).sz → ∃ vs : List Value, vs.length = n ∧ ∀ j v, vs[j]? = some v → E.w.cell? ⟨b, base + off + j, none⟩ = some v ∧ LfRel E ((m.blk id).get (off + j)) v := by
    intro n
    induction n with
    | zero => exact fun _ => ⟨[], rfl, by simp⟩
    | succ n ih =>
      intro h
      obtain ⟨vs, hl, hv⟩ := ih (by omega)
      obtain ⟨v, hc, hr, _⟩ := hb (off + n) (by omega)
      refine ⟨vs ++ [v], by simp [hl], fun j u hu => ?_⟩
      by_cases hj : j < vs.length
      · rw [List.getElem?_append_left hj] at hu; exact hv j u hu
      · rw [List.getElem?_append_right (by omega)] at hu
        have : j - vs.length = 0 := by
          rcases Nat.eq_zero_or_pos (j - vs.length) with h0 | h0
          · exact h0
          · rw [List.getElem?_eq_none (by simp; omega)] at hu; cases hu
        rw [this] at hu
        simp at hu; subst hu
        have hjn : j = n := by omega
        subst hjn
        exact ⟨by rw [Nat.add_assoc]; exact hc, hr⟩
  obtain ⟨vs, hl, hv⟩ := key n hs
  exact ⟨vs, hl, fun j v h => (hv j v h).1, all2_tab hl fun j v h => (hv j v h).2⟩
theorem addr_add (b o n : Nat) : (⟨b, o, none⟩ : Addr).add n = ⟨b, o + n, none⟩ := by
  unfold Addr.add; split
  · rename_i h; subst h; rfl
  · rfl
/-- A load. -/
theorem load_sound {R : Type} (hD : DataOk P D) {t id off : Nat} {m : Mem} {k : AV → Loc → Option R} {r : R} (h : loadC D t m id off k = some r) :
    ∃ v l, k v l = some r ∧ ∀ E b base, MemRel E m → E.pi id = some (b, base) → ∃ u, (loadVar t ⟨b, base + off, none⟩).run P E.w = .ok u E.w ∧ AVRel E v u := by
  unfold loadC at h
  split at h
  · cases h
  · rename_i ty hty
    obtain ⟨hc, h⟩ := bif_inv h
    simp only [Bool.and_eq_true] at hc
    obtain ⟨⟨⟨hsz, hid⟩, hes⟩, _⟩ := hc
    have hsz := ble_iff.1 hsz
    have hid := blt_iff.1 hid
    have hes := noEs_eq hes
    have hT := hD.types _ _ hty
    cases ha : isAggD ty.desc with
    | true =>
      rw [ha] at h
      refine ⟨_, _, h, fun E b base hM hp => ?_⟩
      obtain ⟨vs, hl, hc, hr⟩ := cells_of hM hid hp hes hsz
      refine ⟨.agg vs.toArray, ?_, ⟨vs, rfl, hr⟩⟩
      have := run_loadCells_list (P := P) E.w ⟨b, base + off, none⟩ vs (fun j v hv => by rw [addr_add]; exact hc j v hv)
      simp [loadVar, run_isAgg hT, ha, run_size hT, ← hl, this]
    | false =>
      rw [ha] at h
      simp only [cond_false] at h
      obtain ⟨h1, h⟩ := bif_inv h
      have h1 := Nat.eq_of_beq_eq_true h1
      refine ⟨_, _, h, fun E b base hM hp => ?_⟩
      obtain ⟨vs, hl, hc, hr⟩ := cells_of hM hid hp hes hsz
      rw [h1] at hl hr
      match vs, hl with
      | [v], _ =>
        cases hr with
        | cons hr _ =>
          refine ⟨v, ?_, hr⟩
          have := hc 0 v rfl
          simp only [Nat.add_zero] at this
          simp [loadVar, run_isAgg hT, ha, this]
end
end Go.Ev
end
