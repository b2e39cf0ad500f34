/- Part 4 of 46 of what the theorem stands on. -/
import Derived.Test.YtkbfmpomeejadaaGreatDoorRemac

section
namespace Go.Ev
open Go.RowKit
/-- What is shown of one operation. -/
def OpSound (P : Program) (D : Data) (call : CallK) (o : Oper) : Prop :=
  ∀ (R : Type) (slot : Nat) (tm : Tm) (m : Mem) (k : AV → Mem → Lab → Option R) (r : R), opC D call o.op slot tm m k = some r →
    ∃ v m' lab, k v m' lab = some r ∧ m.len ≤ m'.len ∧ ∀ (E : Env) (a : Act), Good D E m → (∀ t, AVRel E (tm t) (a.tmps.getD t undef)) → SlotOk D E m o.op slot →
      OpRes P o a E (OpPost E m slot (isAl o.op) m' v)
section
variable {P : Program} {D : Data} {call : CallK}
theorem post_same {E : Env} {m : Mem} {slot : Nat} {al : Bool} {v : AV} {u : Value} (hM : MemRel E m) (hv : AVRel E v u) : OpPost E m slot al m v E u :=
  ⟨Ext.refl E, fun _ _ _ h => h, fun _ _ => rfl, hM, hv⟩
theorem res_val {o : Oper} {a : Act} {E : Env} {m : Mem} {slot : Nat} {al : Bool} {v : AV} {u : Value} (hM : MemRel E m) (hv : AVRel E v u)
    (h : (execOp a.eval o).run P E.w = .ok (.value u) E.w) : OpRes P o a E (OpPost E m slot al m v) := .inl ⟨E, u, h, post_same hM hv⟩
theorem ev_inv {R : Type} {tm : Tm} {x : Operand} {k : AV → Option R} {r : R} (h : (match evO D tm x with | none => none | some a => k a) = some r) :
    ∃ v, evO D tm x = some v ∧ k v = some r := by
  split at h
  · cases h
  · exact ⟨_, by assumption, h⟩
theorem snd_move {o : Oper} {x : Operand} (ho : o.op = .move x ∨ o.op = .assign x) : OpSound P D call o := by
  intro R slot tm m k r h
  have h' : (match evO D tm x with | none => none | some a => k a m .p) = some r := by
    rcases ho with ho | ho <;> rw [ho] at h <;> exact h
  obtain ⟨v, hv, h⟩ := ev_inv h'
  refine ⟨v, m, _, h, Nat.le_refl _, fun E a hG ht _ => res_val hG.mem (evO_rel hG ht hv) ?_⟩
  rcases ho with ho | ho <;> simp [execOp, ho]
theorem snd_pick {o : Oper} {c x y : Operand} (ho : o.op = .pick c x y) : OpSound P D call o := by
  intro R slot tm m k r h
  rw [ho] at h
  simp only [opC] at h
  obtain ⟨cv, hc, h⟩ := ev_inv h
  obtain ⟨xv, hx, h⟩ := ev_inv h
  obtain ⟨yv, hy, h⟩ := ev_inv h
  obtain ⟨b, rfl, h⟩ := asB_inv h
  cases b with
  | true =>
    refine ⟨xv, m, _, h, Nat.le_refl _, fun E a hG ht _ => res_val hG.mem (evO_rel hG ht hx) ?_⟩
    have : a.eval c = .bool true := evO_rel hG ht hc
    simp [execOp, ho, this, asBool]
  | false =>
    refine ⟨yv, m, _, h, Nat.le_refl _, fun E a hG ht _ => res_val hG.mem (evO_rel hG ht hy) ?_⟩
    have : a.eval c = .bool false := evO_rel hG ht hc
    simp [execOp, ho, this, asBool]
theorem push_none {E : Env} {slot : Nat} {o : Obj} {n : Nat} : ∀ id, id < n → (id ≠ slot ∨ true = false) → E.pi id = none → (E.push slot o).pi id = none := by
  intro id _ h he
  rcases h with h | h
  · simp [Env.push, h, he]
  · cases h
theorem snd_alloc (hD : DataOk P D) {o : Oper} {t : Nat} (ho : o.op = .alloc t) : OpSound P D call o := by
  intro R slot tm m k r h
  rw [ho] at h
  simp only [opC] at h
  refine ⟨_, m, _, h, Nat.le_refl _, fun E a hG ht hS => ?_⟩
  have hal : isAl o.op = true := by rw [ho]; rfl
  have hp := hS.pi hal
  obtain ⟨ty, hty, hi⟩ := hS.zero t ho
  obtain ⟨z, hz, hl⟩ := run_zero (hD.types _ _ hty)
  have hz2 := leafs_all E hl
  have hblk : m.blk slot = { own := true, sz := ty.zero.length, get := ofList ty.zero } := by
    have := hG.mem.blk slot (hS.low hal)
    unfold BlkRel at this
    rw [hp] at this
    rw [this, hi]
  refine .inl ⟨E.push slot (.cells z.cells t), .pointer (some ⟨E.w.heap.size, 0, none⟩), ?_, push_ext _ hp, ?_, fun _ _ => rfl, ?_, ⟨_, 0, by simp [Env.push], rfl⟩⟩
  · simp [execOp, ho, Instr.alloc, hz, newVar, newRow, Env.push]
  · rw [hal]; exact push_none
  · have := push_cells (m' := m) hG.mem (hS.low hal) hp z.cells.toList t rfl (by rw [hblk]) (by rw [hblk]) (by
      rw [hblk]
      intro j hj
      obtain ⟨v, h1, h2⟩ := hz2.get (ofList_get hj)
      exact ⟨v, h1, h2⟩) (fun _ _ => rfl)
    simpa using this
theorem set_blk (m : Mem) (id : Nat) (b : Blk) : (m.set id b).blk id = b := by simp [Mem.set]
theorem set_other (m : Mem) {id i : Nat} (b : Blk) (h : i ≠ id) : (m.set id b).blk i = m.blk i := by
  have : Nat.beq i id = false := Bool.eq_false_iff.2 fun e => h (Nat.eq_of_beq_eq_true e)
  simp [Mem.set, this]
theorem snd_box {o : Oper} {t : Nat} {x : Operand} (ho : o.op = .box t x) : OpSound P D call o := by
  intro R slot tm m k r h
  rw [ho] at h
  simp only [opC] at h
  obtain ⟨xv, hx, h⟩ := ev_inv h
  split at h
  · cases h
  · rename_i v hv
    refine ⟨_, _, _, h, Nat.le_refl _, fun E a hG ht hS => ?_⟩
    have hal : isAl o.op = true := by rw [ho]; rfl
    have hp := hS.pi hal
    have hr := (flat_rel (evO_rel hG ht hx) hv).cells
    refine .inl ⟨E.push slot (.cells (a.eval x).cells t), .pointer (some ⟨E.w.heap.size, 0, none⟩), ?_, push_ext _ hp, ?_, fun _ _ => rfl, ?_, ⟨_, 0, by simp [Env.push], rfl⟩⟩
    · simp [execOp, ho, Instr.box, newVar, newRow, Env.push]
    · rw [hal]; exact push_none
    · have := push_cells (m' := m.set slot { own := true, sz := v.cells.length, get := ofList v.cells }) hG.mem (hS.low hal) hp (a.eval x).cells.toList t rfl (by rw [set_blk]) (by rw [set_blk]) (by
        rw [set_blk]
        intro j hj
        obtain ⟨u, h1, h2⟩ := hr.get (ofList_get hj)
        exact ⟨u, h1, h2⟩) (fun _ h => set_other _ _ h)
      simpa using this
theorem snd_load (hD : DataOk P D) {o : Oper} {t : Nat} {x : Operand} (ho : o.op = .load t x) : OpSound P D call o := by
  intro R slot tm m k r h
  rw [ho] at h
  simp only [opC] at h
  obtain ⟨xv, hx, h⟩ := ev_inv h
  obtain ⟨id, off, rfl, h1⟩ := asP_inv h
  obtain ⟨v, l, h, hs⟩ := load_sound hD h1
  refine ⟨v, m, _, h, Nat.le_refl _, fun E a hG ht _ => ?_⟩
  obtain ⟨b, base, hp, he⟩ := evO_rel hG ht hx
  obtain ⟨u, hu, hr⟩ := hs E b base hG.mem hp
  refine res_val hG.mem hr ?_
  simp [execOp, ho, Instr.loadAt, he, Instr.sureAddr, hu]
theorem okCells_one {E : Env} : ∀ {l : List Lf} {vs : List Value}, okCells l = true → All2 (LfRel E) l vs → ∀ v ∈ vs, v.oneCell' = true
  | [], _, _, h, v, hv => by cases h; cases hv
  | x :: l, _, hok, h, v, hv => by
    cases h with
    | cons h t =>
      rename_i u us
      have hok' : okCells l = true ∧ u.oneCell' = true := by
        cases x <;> simp only [LfRel] at h <;> (try simp only [okCells] at hok)
        case int => exact ⟨hok, by rw [h]; rfl⟩
        case bool => exact ⟨hok, by rw [h]; rfl⟩
        case str => exact ⟨hok, by rw [h]; rfl⟩
        case nat =>
          refine ⟨hok, ?_⟩
          obtain ⟨⟨ds, _, _, _, ⟨_, A, c, h⟩ | ⟨ad, cap, _, h, _⟩⟩, _⟩ := h
          · rw [h]; rfl
          · rw [h]; rfl
        case ptr => obtain ⟨_, _, _, h⟩ := h; exact ⟨hok, by rw [h]; rfl⟩
        case slc => obtain ⟨_, _, _, h⟩ := h; exact ⟨hok, by rw [h]; rfl⟩
        case map => obtain ⟨_, _, _, h⟩ := h; exact ⟨hok, by rw [h]; rfl⟩
        case clo => obtain ⟨_, h, _⟩ := h; exact ⟨hok, by rw [h]; rfl⟩
        case cst w =>
          rw [h.1]
          cases w <;> first | exact ⟨hok, rfl⟩ | (simp [okCells] at hok)
      rcases List.mem_cons.1 hv with rfl | hv
      · exact hok'.2
      · exact okCells_one hok'.1 t v hv
theorem snd_store (hD : DataOk P D) {o : Oper} {t : Nat} {x y : Operand} (ho : o.op = .store t x y) : OpSound P D call o := by
  intro R slot tm m k r h
  rw [ho] at h
  simp only [opC] at h
  obtain ⟨xv, hx, h⟩ := ev_inv h
  obtain ⟨yv, hy, h⟩ := ev_inv h
  obtain ⟨id, off, rfl, h⟩ := asP_inv h
  split at h
  · rename_i v ty hv hty
    obtain ⟨hc, h⟩ := bif_inv h
    simp only [Bool.and_eq_true] at hc
    obtain ⟨⟨⟨⟨⟨c1, c2⟩, c3⟩, c4⟩, c5⟩, c6⟩ := hc
    have c2 := Nat.eq_of_beq_eq_true c2
    have c4 := noEs_eq c4
    have c5 := ble_iff.1 c5
    have c6 := blt_iff.1 c6
    refine ⟨_, _, _, h, Nat.le_refl _, fun E a hG ht _ => ?_⟩
    obtain ⟨b, base, hp, he⟩ := evO_rel hG ht hx
    have hr := (flat_rel (evO_rel hG ht hy) hv).cells
    obtain ⟨w', hrun, hext, hmem⟩ := put_rel (P := P) hG.mem c6 hp c3 c4 c5 hr (okCells_one c1 hr)
    refine .inr (.inl ⟨{ E with w := w' }, ?_, hext, fun _ _ _ h => h, fun _ _ => rfl, hmem, AVRel.undef _⟩)
    have hsize : (a.eval y).cells.size = ty.size := by
      have := hr.length
      simp at this; omega
    simp [execOp, ho, Instr.storeAt, he, Instr.sureAddr, storeVar, run_size (hD.types _ _ hty), hsize, hrun]
  · cases h
theorem snd_nilCheck {o : Oper} {x : Operand} (ho : o.op = .nilCheck x) : OpSound P D call o := by
  intro R slot tm m k r h
  rw [ho] at h
  simp only [opC] at h
  obtain ⟨xv, hx, h⟩ := ev_inv h
  split at h
  · refine ⟨_, _, _, h, Nat.le_refl _, fun E a hG ht _ => ?_⟩
    have hr := evO_rel hG ht hx
    refine res_val hG.mem hr ?_
    obtain ⟨b, base, hp, he⟩ := hr
    simp [execOp, ho, he]
  · refine ⟨_, _, _, h, Nat.le_refl _, fun E a hG ht _ => ?_⟩
    have hr := evO_rel hG ht hx
    refine res_val hG.mem hr ?_
    obtain ⟨us, vs, he, _⟩ := hr
    simp [execOp, ho, he]
  · refine ⟨_, _, _, h, Nat.le_refl _, fun E a hG ht _ => ?_⟩
    have hr := evO_rel hG ht hx
    refine res_val hG.mem hr ?_
    obtain ⟨l, _, he⟩ := hr
    simp [execOp, ho, he]
  · cases h
theorem snd_unOp {o : Oper} {op : UnOp} {t : Nat} {x : Operand} (ho : o.op = .unOp op t x) : OpSound P D call o := by
  intro R slot tm m k r h
  rw [ho] at h
  simp only [opC] at h
  obtain ⟨xv, hx, h⟩ := ev_inv h
  unfold unC at h
  split at h
  · refine ⟨_, _, _, h, Nat.le_refl _, fun E a hG ht _ => ?_⟩
    have he : a.eval x = _ := evO_rel hG ht hx
    refine res_val hG.mem (u := .int _ _) rfl ?_
    simp [execOp, ho, he, Op.unary, Op.intArith]
  · refine ⟨_, _, _, h, Nat.le_refl _, fun E a hG ht _ => ?_⟩
    have he : a.eval x = _ := evO_rel hG ht hx
    refine res_val hG.mem (u := .bool _) rfl ?_
    simp [execOp, ho, he, Op.unary]
  · cases h
theorem snd_convert (hD : DataOk P D) {o : Oper} {s t : Nat} {x : Operand} (ho : o.op = .convert s t x) : OpSound P D call o := by
  intro R slot tm m k r h
  rw [ho] at h
  simp only [opC] at h
  obtain ⟨xv, hx, h⟩ := ev_inv h
  split at h
  · cases h
  rename_i sy hs
  obtain ⟨ds, _, _, hds, _⟩ := tyOf_spec (hD.types _ _ hs)
  unfold convC at h
  split at h
  · rename_i q _ _ _ hty
    obtain ⟨q', n, rfl, h⟩ := asI_inv h
    obtain ⟨d, i, z, hd, _, _, hde, _⟩ := tyOf_spec (hD.types _ _ hty)
    obtain rfl := red_int hde.symm
    refine ⟨_, _, _, h, Nat.le_refl _, fun E a hG ht _ => ?_⟩
    have he : a.eval x = _ := evO_rel hG ht hx
    refine res_val hG.mem (u := .int _ _) rfl ?_
    simp [execOp, ho, he, convert, run_under hds, run_under hd, Conv.intToInt]
  · cases h
end
end Go.Ev
end

section
namespace Go.Ev
open Go.RowKit
section
variable {P : Program} {D : Data} {call : CallK}
theorem eqGuard_int (op : BinOp) (t : Nat) (x y : Operand) (j q : IntKind) (a b : Int) (w : World) : (eqGuard op t x y (.int j a) (.int q b)).run P w = .ok () w := by
  unfold eqGuard; cases op <;> rfl
theorem eqGuard_bool (op : BinOp) (t : Nat) (x y : Operand) (a b : Bool) (w : World) : (eqGuard op t x y (.bool a) (.bool b)).run P w = .ok () w := by
  unfold eqGuard; cases op <;> rfl
theorem eqGuard_func (op : BinOp) (t : Nat) (x y : Operand) (f : Fn) (l r : Array Value) (w : World) : (eqGuard op t x y (.func f l r) .nilFunc).run P w = .ok () w := by
  unfold eqGuard; cases op <;> rfl
theorem eqGuard_ptr (op : BinOp) (t : Nat) (x y : Operand) (a b : Option Addr) (w : World) : (eqGuard op t x y (.pointer a) (.pointer b)).run P w = .ok () w := by
  unfold eqGuard; cases op <;> rfl
theorem equal_of {t : Nat} {x y : Value} {b : Bool} (h : ∀ d w, (Op.equalIn (d + 1) t x y).run P w = .ok b w) (w : World) : (Op.equal t x y).run P w = .ok b w := by
  unfold Op.equal Op.maxDepth
  exact h 9999 w
theorem binC_sound (hD : DataOk P D) {op : BinOp} {t : Nat} {x y : AV} {R : Type} {k : AV → Option R} {r : R} (h : binC D op t x y k = some r) :
    ∃ v, k v = some r ∧ ∀ E vx vy (ox oy : Operand), AVRel E x vx → AVRel E y vy → ∃ u, (eqGuard op t ox oy vx vy).run P E.w = .ok () E.w ∧ (binOp op t vx vy).run P E.w = .ok u E.w ∧ AVRel E v u := by
  unfold binC at h
  split at h
  · rename_i q a q' b
    have hi : ∀ (v : Value) (V : AV), (∀ w, (binOp op t (.int q a) (.int q' b)).run P w = .ok v w) → (∀ E, AVRel E V v) → ∀ E vx vy (ox oy : Operand), AVRel E (.fv (.one (.int q a))) vx →
        AVRel E (.fv (.one (.int q' b))) vy → ∃ u, (eqGuard op t ox oy vx vy).run P E.w = .ok () E.w ∧ (binOp op t vx vy).run P E.w = .ok u E.w ∧ AVRel E V u := by
      intro v V hv hV E vx vy ox oy hx hy
      have hx : vx = .int q a := hx
      have hy : vy = .int q' b := hy
      subst hx hy
      exact ⟨v, eqGuard_int _ _ _ _ _ _ _ _ _, hv _, hV E⟩
    split at h
    · obtain ⟨hc, h'⟩ := bif_inv h
      clear h
      have hb : ¬ b < 0 := by simpa using hc
      exact ⟨_, h', hi (.int q (shl q a b)) _ (fun w => by simp [binOp, Op.shift, hb, shl]) fun _ => rfl⟩
    · obtain ⟨hc, h'⟩ := bif_inv h
      clear h
      have hb : ¬ b < 0 := by simpa using hc
      exact ⟨_, h', hi (.int q (shr q a b)) _ (fun w => by simp [binOp, Op.shift, hb, shr]) fun _ => rfl⟩
    · obtain ⟨hc, h'⟩ := bif_inv h
      clear h
      simp only [Bool.and_eq_true, decide_eq_true_eq, Bool.not_eq_true', decide_eq_false_iff_not] at hc
      obtain ⟨rfl, hb⟩ := hc
      exact ⟨_, h', hi (.int q (q.wrap (a.tdiv b))) _ (fun w => by simp [binOp, Op.intDiv, hb]) fun _ => rfl⟩
    · obtain ⟨hc, h'⟩ := bif_inv h
      clear h
      simp only [Bool.and_eq_true, decide_eq_true_eq, Bool.not_eq_true', decide_eq_false_iff_not] at hc
      obtain ⟨rfl, hb⟩ := hc
      exact ⟨_, h', hi (.int q (a.tmod b)) _ (fun w => by simp [binOp, Op.intDiv, hb]) fun _ => rfl⟩
    · obtain ⟨hc, h'⟩ := bif_inv h
      clear h
      have hq : q = q' := by simpa using hc
      subst hq
      split at h'
      · rename_i c hc
        exact ⟨_, h', hi (.int q c) _ (fun w => by cases op <;> simp only [intOp, Option.some.injEq, reduceCtorEq] at hc <;> subst hc <;> simp [binOp, Op.intArith, Op.intBits]) fun _ => rfl⟩
      · split at h'
        · rename_i hn c hc
          exact ⟨_, h', hi (.bool c) _ (fun w => by cases op <;> simp only [intCmp, Option.some.injEq, reduceCtorEq] at hc <;> subst hc <;> simp [binOp, Op.intCmp] <;> rfl) fun _ => rfl⟩
        · cases h'
  · rename_i a b
    split at h
    · rename_i hty
      obtain ⟨d, i, z, hd, _, _, hde, _⟩ := tyOf_spec (hD.types _ _ hty)
      have hde : d = .bool := by cases d <;> simp [redD] at hde; rfl
      subst hde
      have heq : ∀ w, (Op.equal t (.bool a) (.bool b)).run P w = .ok (a == b) w := fun w => by
        refine equal_of (fun d w => ?_) w
        simp [Op.equalIn, run_under hd]
      split at h
      · refine ⟨_, h, fun E vx vy ox oy hx hy => ?_⟩
        have hx : vx = .bool a := hx
        have hy : vy = .bool b := hy
        subst hx hy
        exact ⟨.bool (a == b), eqGuard_bool _ _ _ _ _ _ _, by simp [binOp, heq], rfl⟩
      · refine ⟨_, h, fun E vx vy ox oy hx hy => ?_⟩
        have hx : vx = .bool a := hx
        have hy : vy = .bool b := hy
        subst hx hy
        exact ⟨.bool (!(a == b)), eqGuard_bool _ _ _ _ _ _ _, by simp [binOp, heq], rfl⟩
      · cases h
    · cases h
  · rename_i l r'
    split at h
    · rename_i ks hks
      have hE := hD.eqs _ _ hks
      split at h
      · rename_i c hc
        refine ⟨_, h, fun E vx vy ox oy hx hy => ?_⟩
        obtain ⟨vs, rfl, h1⟩ := hx
        obtain ⟨us, rfl, h2⟩ := hy
        obtain ⟨e1, e2⟩ := hE E _ _ vs us c E.w hc h1 h2
        exact ⟨.bool c, e1 _ _ _, by simp [binOp, e2], rfl⟩
      · rename_i c hc
        refine ⟨_, h, fun E vx vy ox oy hx hy => ?_⟩
        obtain ⟨vs, rfl, h1⟩ := hx
        obtain ⟨us, rfl, h2⟩ := hy
        obtain ⟨e1, e2⟩ := hE E _ _ vs us c E.w hc h1 h2
        exact ⟨.bool (!c), e1 _ _ _, by simp [binOp, e2], rfl⟩
      · cases h
    · cases h
  · split at h
    · rename_i fc hty hfn
      obtain ⟨d, i, z, hd, _, _, hde, _⟩ := tyOf_spec (hD.types _ _ hty)
      obtain ⟨pa, pb, pc, rfl⟩ := red_func hde.symm
      have hrel : ∀ E vx vy, AVRel E x vx → AVRel E (.fv (.one (.cst .nilFunc))) vy → ∃ f l r, vx = .func f l r ∧ vy = .nilFunc := by
        intro E vx vy hx hy
        obtain ⟨us, vs, e, _⟩ := asFn_rel (f := fc.1) (first := fc.2.1) (caps := fc.2.2) hx hfn
        exact ⟨_, _, _, e, hy.1⟩
      have heq : ∀ f l r w, (Op.equal t (.func f l r) .nilFunc).run P w = .ok false w := fun f l r w => by
        refine equal_of (fun d w => ?_) w
        simp [Op.equalIn, run_under hd]
      split at h
      · refine ⟨_, h, fun E vx vy ox oy hx hy => ?_⟩
        obtain ⟨f, l, r, rfl, rfl⟩ := hrel E vx vy hx hy
        exact ⟨.bool false, eqGuard_func _ _ _ _ _ _ _ _, by simp [binOp, heq], rfl⟩
      · refine ⟨_, h, fun E vx vy ox oy hx hy => ?_⟩
        obtain ⟨f, l, r, rfl, rfl⟩ := hrel E vx vy hx hy
        exact ⟨.bool true, eqGuard_func _ _ _ _ _ _ _ _, by simp [binOp, heq], rfl⟩
      · cases h
    · cases h
  · split at h
    · rename_i hty
      obtain ⟨d, i, z, hd, _, _, hde, _⟩ := tyOf_spec (hD.types _ _ hty)
      obtain ⟨e, rfl⟩ := red_ptr hde.symm
      have heq : ∀ a w, (Op.equal t (.pointer (some a)) (.pointer none)).run P w = .ok false w := fun a w => by
        refine equal_of (fun d w => ?_) w
        simp [Op.equalIn, run_under hd]
      split at h
      · refine ⟨_, h, fun E vx vy ox oy hx hy => ?_⟩
        obtain ⟨b, base, _, rfl⟩ := hx
        obtain rfl := hy.1
        exact ⟨.bool false, eqGuard_ptr _ _ _ _ _ _ _, by simp [binOp, heq], rfl⟩
      · refine ⟨_, h, fun E vx vy ox oy hx hy => ?_⟩
        obtain ⟨b, base, _, rfl⟩ := hx
        obtain rfl := hy.1
        exact ⟨.bool true, eqGuard_ptr _ _ _ _ _ _ _, by simp [binOp, heq], rfl⟩
      · cases h
    · cases h
  · cases h
theorem snd_binOp (hD : DataOk P D) {o : Oper} {op : BinOp} {t t' : Nat} {x y : Operand} (ho : o.op = .binOp op t x y t') : OpSound P D call o := by
  intro R slot tm m k r h
  rw [ho] at h
  simp only [opC] at h
  obtain ⟨xv, hx, h⟩ := ev_inv h
  obtain ⟨yv, hy, h⟩ := ev_inv h
  obtain ⟨v, h, hs⟩ := binC_sound hD h
  refine ⟨v, m, _, h, Nat.le_refl _, fun E a hG ht _ => ?_⟩
  obtain ⟨u, h1, h2, h3⟩ := hs E _ _ x y (evO_rel hG ht hx) (evO_rel hG ht hy)
  refine res_val hG.mem h3 ?_
  simp [execOp, ho, h1, h2]
end
end Go.Ev
end
