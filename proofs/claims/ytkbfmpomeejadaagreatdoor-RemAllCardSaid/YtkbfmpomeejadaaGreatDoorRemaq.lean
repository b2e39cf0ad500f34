/- Part 17 of 46 of what the theorem stands on. -/
import Derived.Test.YtkbfmpomeejadaaGreatDoorRemap

section
namespace Go.Ev
open Go.RowKit
section
variable {P : Program} {D : Data} {R : Type}
def pureLf : Lf → Bool
  | .ptr _ _ | .slc _ _ _ _ | .map _ | .clo _ _ => false
  | _ => true
def pureLs : List Lf → Bool
  | [] => true
  | x :: l => pureLf x && pureLs l
def pureFV : FV → Bool
  | .one x => pureLf x
  | .agg l => pureLs l
def pureFVs : List FV → Bool
  | [] => true
  | x :: l => pureFV x && pureFVs l
/-- No pointer in it. -/
def pureAV : AV → Bool
  | .fv x => pureFV x
  | .tup l => pureFVs l
  | .fn _ b l => pureFVs b && pureFVs l
  | .yld => false
theorem LfRel.pure {E : Env} {w : World} {far : Nat → Prop} (hB : E.B0 = w.heap.size) (hfar : E.far = far) {x : Lf} {v : Value} (h : LfRel E x v) (hp : pureLf x = true) : LfRel { pureE w far with w := E.w } x v := by
  cases x <;> simp only [LfRel] at h ⊢ <;> try exact h
  case nat n =>
    refine ⟨h.1, fun b hb => ?_⟩
    obtain ⟨h1, h2, h3⟩ := h.2 b hb
    exact ⟨h1, id, fun hlt => by have := h3 (by rw [hB]; exact hlt); rw [hfar] at this; exact this⟩
  all_goals cases hp
theorem LfRel.pures {E : Env} {w : World} {far : Nat → Prop} (hB : E.B0 = w.heap.size) (hfar : E.far = far) {l : List Lf} {vs : List Value} (h : All2 (LfRel E) l vs) : pureLs l = true → All2 (LfRel { pureE w far with w := E.w }) l vs := by
  induction h with
  | nil => exact fun _ => .nil
  | cons h _ ih =>
    intro hp
    simp only [pureLs, Bool.and_eq_true] at hp
    exact .cons (h.pure hB hfar hp.1) (ih hp.2)
theorem FVRel.pure {E : Env} {w : World} {far : Nat → Prop} (hB : E.B0 = w.heap.size) (hfar : E.far = far) {x : FV} {v : Value} (h : FVRel E x v) (hp : pureFV x = true) : FVRel { pureE w far with w := E.w } x v := by
  cases x with
  | one x => exact LfRel.pure hB hfar h hp
  | agg l => obtain ⟨vs, rfl, h⟩ := h; exact ⟨vs, rfl, LfRel.pures hB hfar h hp⟩
theorem FVRel.pures {E : Env} {w : World} {far : Nat → Prop} (hB : E.B0 = w.heap.size) (hfar : E.far = far) {l : List FV} {vs : List Value} (h : All2 (FVRel E) l vs) : pureFVs l = true → All2 (FVRel { pureE w far with w := E.w }) l vs := by
  induction h with
  | nil => exact fun _ => .nil
  | cons h _ ih =>
    intro hp
    simp only [pureFVs, Bool.and_eq_true] at hp
    exact .cons (h.pure hB hfar hp.1) (ih hp.2)
theorem AVRel.pure {E : Env} {w : World} {far : Nat → Prop} (hB : E.B0 = w.heap.size) (hfar : E.far = far) {x : AV} {v : Value} (h : AVRel E x v) (hp : pureAV x = true) : AVRel { pureE w far with w := E.w } x v := by
  cases x with
  | fv x => exact FVRel.pure hB hfar h hp
  | tup l => obtain ⟨vs, rfl, h⟩ := h; exact ⟨vs, rfl, FVRel.pures hB hfar h hp⟩
  | fn f b l =>
    obtain ⟨us, vs, rfl, h1, h2⟩ := h
    simp only [pureAV, Bool.and_eq_true] at hp
    exact ⟨us, vs, rfl, FVRel.pures hB hfar h1 hp.1, FVRel.pures hB hfar h2 hp.2⟩
  | yld => cases hp
/-- Where a call's blocks lie. -/
def pi0 (D : Data) (as : List Arg) (vs : List Value) (id : Nat) : Option (Nat × Nat) :=
  if id < D.globs.length then (D.globs[id]?).map fun g => (g.1, 0)
  else match as[id - D.globs.length]?, vs[id - D.globs.length]? with
    | some (.lst _ _), some (.slice (some a) _ _) => some (a.block, a.off)
    | _, _ => none
def env0 (D : Data) (as : List Arg) (vs : List Value) (w : World) (far : Nat → Prop) : Env :=
  { w, pi := pi0 D as vs, own := fun _ => False, B0 := w.heap.size, far, init := (mem0 D as).blk }
theorem env0_ext (as : List Arg) (vs : List Value) (w : World) (far : Nat → Prop) : Ext (pureE w far) (env0 D as vs w far) :=
  ⟨rfl, rfl, fun _ _ h => (by cases h), fun _ h => h, fun _ h => h.elim, rfl, rfl, rfl, Nat.le_refl _, fun _ _ _ => rfl, rfl⟩
theorem args0_rel {as : List Arg} {vs : List Value} {w : World} {far : Nat → Prop} (h : All2 (ArgRel (pureE w far)) as vs) : ∀ {i : Nat} {as' : List Arg} {vs' : List Value}, All2 (ArgRel (pureE w far)) as' vs' →
    (∀ j, as'[j]? = as[i + j]?) → (∀ j, vs'[j]? = vs[i + j]?) → All2 (AVRel (env0 D as vs w far)) (arg0 D i as') vs' := by
  intro i as' vs' h'
  induction h' generalizing i with
  | nil => exact fun _ _ => .nil
  | @cons a v l r hav t ih =>
    intro h1 h2
    have ih := ih (i := i + 1) (fun j => by have := h1 (j + 1); simpa [Nat.add_assoc, Nat.add_comm 1 j] using this) (fun j => by have := h2 (j + 1); simpa [Nat.add_assoc, Nat.add_comm 1 j] using this)
    cases a with
    | fv x => exact .cons (FVRel.ext (env0_ext as vs w far) hav) ih
    | lst n cells =>
      refine .cons ?_ ih
      obtain ⟨b, off, rfl, hb, hc⟩ := hav
      refine ⟨b, off, ?_, rfl⟩
      show pi0 D as vs _ = _
      have ha : as[i]? = some (.lst n cells) := by have := h1 0; simpa using this.symm
      have hv : vs[i]? = some (.slice (some ⟨b, off, none⟩) n n) := by have := h2 0; simpa using this.symm
      have e : D.globs.length + i - D.globs.length = i := by omega
      have e2 : ¬ (D.globs.length + i < D.globs.length) := by omega
      unfold pi0
      rw [if_neg e2, e, ha, hv]
theorem mem0_rel {as : List Arg} {vs : List Value} {w : World} {far : Nat → Prop} (hg : GlobOk D w) (h : All2 (ArgRel (pureE w far)) as vs) : MemRel (env0 D as vs w far) (mem0 D as) := by
  have hx := env0_ext (D := D) as vs w far
  refine ⟨fun id hid => ?_, fun id p hp => ?_, fun _ _ _ _ _ _ _ h => h.elim, fun _ h => h.elim, Nat.le_refl _⟩
  · unfold BlkRel
    show match pi0 D as vs id with | none => _ | some (b, base) => _
    by_cases hlt : id < D.globs.length
    · obtain ⟨gg, hgg⟩ : ∃ x, D.globs[id]? = some x := ⟨_, List.getElem?_eq_getElem hlt⟩
      obtain ⟨g, l⟩ := gg
      have hp : pi0 D as vs id = some (g, 0) := by unfold pi0; rw [if_pos hlt, hgg]; rfl
      rw [hp]
      have hb : (mem0 D as).blk id = { own := false, sz := l.length, get := ofList l } := by
        have : Nat.blt id D.globs.length = true := blt_iff.2 hlt
        simp [mem0, this, nthD_eq, hgg]
      rw [hb]
      obtain ⟨h1, h2⟩ := hg id g l hgg
      refine ⟨by simp, fun _ => h1, fun j hj => ?_⟩
      obtain ⟨u, hu, hl⟩ := h2 j _ (ofList_get hj)
      exact ⟨u, by rw [Nat.zero_add]; exact hu, leafOf_rel _ hl, by simp⟩
    · have hb0 : Nat.blt id D.globs.length = false := Bool.eq_false_iff.2 fun h => hlt (blt_iff.1 h)
      have hid2 : id - D.globs.length < as.length := by
        have : id < D.globs.length + as.length := hid
        omega
      cases hpi : pi0 D as vs id with
      | none => rfl
      | some p =>
        obtain ⟨b, base⟩ := p
        unfold pi0 at hpi
        rw [if_neg hlt] at hpi
        split at hpi
        · rename_i n cells a _ _ ha hv
          obtain ⟨v, hv', hr⟩ := h.get ha
          rw [hv'] at hv
          cases hv
          obtain ⟨b', off, e, hb', hc⟩ := hr
          cases e
          simp only [Option.some.injEq, Prod.mk.injEq] at hpi
          obtain ⟨rfl, rfl⟩ := hpi
          have hb : (mem0 D as).blk id = { own := false, sz := cells.length, get := ofList cells } := by
            simp [mem0, hb0, nthD_eq, ha]
          simp only [hb]
          refine ⟨by simp, fun _ => hb', fun j hj => ?_⟩
          obtain ⟨u, hu, hl⟩ := hc j _ (ofList_get hj)
          exact ⟨u, hu, hl.ext hx, by simp⟩
        · cases hpi
  · show id < D.globs.length + as.length
    have hp : pi0 D as vs id = some p := hp
    unfold pi0 at hp
    split at hp
    · omega
    · split at hp
      · rename_i ha _
        have : id - D.globs.length < as.length := by
          rcases Nat.lt_or_ge (id - D.globs.length) as.length with h | h
          · exact h
          · rw [List.getElem?_eq_none h] at ha; cases ha
        omega
      · cases hp
theorem DefOk.marks {top : Bool} {E : Env} {ds : List Deferred} (h : DefOk top E ds) : (∀ d ∈ ds, MarkOk E d) ∧ ds.Pairwise (· ≠ ·) := by
  cases top with
  | false =>
    have h : ds = [] := h
    subst h
    exact ⟨by simp, .nil⟩
  | true => exact h
/-- The marks are taken up one behind the other. -/
theorem leaves_marks {fn : Func} {tmps : Array Value} {Q : Ending → World → Prop} (J : Env → Prop) (hJ : ∀ E b, J E → E.B0 ≤ b → E.w.heap[b]? = some (.deferred (some [])) → J { E with w := E.w.putObj b (.deferred none) })
    (hfin : ∀ E, J E → ∃ u, (results fn tmps).run P E.w = .ok u E.w ∧ Q (.returned u) E.w) : ∀ (ds : List Deferred) (E : Env), (∀ d ∈ ds, MarkOk E d) → ds.Pairwise (· ≠ ·) → J E → LeavesInM Fence.wide 0 P fn tmps Q ds .returning E.w
  | [], E, _, _, h => hfin E h
  | d :: ds, E, h1, h2, h3 => by
    obtain ⟨b, rfl, hb, hno, hB⟩ := h1 d (by simp)
    have h2 := List.pairwise_cons.1 h2
    refine ⟨by simp, .inl ⟨b, _, rfl, run_takeDeferred hb, leaves_marks J hJ hfin ds { E with w := E.w.putObj b (.deferred none) } (fun d hd => ?_) h2.2 (hJ E b h3 hB hb)⟩⟩
    obtain ⟨b', rfl, hb', hno', hB'⟩ := h1 d (by simp [hd])
    refine ⟨b', rfl, ?_, hno', hB'⟩
    have hne : b' ≠ b := fun e => h2.1 _ hd (by rw [e])
    exact (World.putObj_heap_other hne).trans hb'
/-- What the evaluator says of a whole function, the machine does. -/
theorem funC_calls (hm : P.follows .mixedOrders = true) (hD : DataOk P D) (hy : D.yo = none) {f : FuncId} {fn : Func} (hf : P.funcs[f]? = some fn) {fuel : Nat} {as : List Arg} {k : AV → Option R} {r : R} (h : funC D fuel fn as k = some r) :
    ∃ v, k v = some r ∧ (pureAV v = true → ∀ (w : World) (far : Nat → Prop) (vs : List Value), GlobOk D w → All2 (ArgRel (pureE w far)) as vs → Calls P f vs.toArray w (CtrPost w far v)) := by
  unfold funC at h
  split at h
  · cases h
  · rename_i c hb
    obtain ⟨hle, h⟩ := bif_inv h
    obtain ⟨e, tm', m', ws', h, hs⟩ := evC_sound hm _ hD _ _ _ _ _ _ _ _ h
    have hex : (∀ j, e ≠ .exit j) ∧ (resC D tm' m' fn.results.toList [] fun l => tupC l k) = some r := by
      cases e with
      | normal => exact ⟨by simp, h⟩
      | ret => exact ⟨by simp, h⟩
      | exit j => cases h
    obtain ⟨v, h, hr⟩ := results_sound hD hex.2
    refine ⟨v, h, fun hp w far vs hg ha => ?_⟩
    have ha0 := args0_rel (D := D) ha (i := 0) ha (fun j => by simp) (fun j => by simp)
    have hG : Good D (env0 D as vs w far) (mem0 D as) := by
      refine ⟨mem0_rel hg ha, hg, fun i g l hi => ?_, fun i g l hi => (hg i g l hi).1, fun rd h => by rw [hy] at h; cases h⟩
      show pi0 D as vs i = _
      have : i < D.globs.length := by
        rcases Nat.lt_or_ge i D.globs.length with h | h
        · exact h
        · rw [List.getElem?_eq_none h] at hi; cases hi
      unfold pi0
      rw [if_pos this, hi]
      rfl
    refine (callsIn_wide (n := 0)).1 (callsIn_of_wp_marks (F := Fence.wide) (n := 0) hf hb trivial (wpr_wp (ro := none) (hs.wp (env0 D as vs w far) _ hG ⟨?_, ?_, ?_⟩ none (fun _ => rfl) _ ?_)) rfl)
    · have hl := ble_iff.1 hle
      rw [ha.length] at hl
      simp
      omega
    · cases D.top with
      | false => rfl
      | true => exact ⟨by simp, .nil⟩
    · exact argsT_rel ha0 _
    · intro E' a' hx hn hi hM ht
      have hbel : Below w.heap.size w E'.w := ⟨hx.os, hx.tape, hx.output, hx.size, fun b hb => hx.same b hb fun h => h⟩
      have hd := ht.defers.marks
      have hp : LeavesInM Fence.wide 0 P fn a'.tmps (CtrPost w far v) a'.defers .returning E'.w := by
        refine leaves_marks (fun E => MemRel E m' ∧ (∀ t, AVRel E (tm' t) (a'.tmps.getD t undef)) ∧ Below w.heap.size w E.w ∧ E.B0 = w.heap.size ∧ E.far = far) (fun E b h hB hb => ?_) (fun E h => ?_) a'.defers E' hd.1 hd.2 ⟨hM, ht.val, hbel, hx.B0, hx.far⟩
        · obtain ⟨h1, h2, h3, h4, h5⟩ := h
          have hT := Turn.put (E := E) (.deferred none) hb rfl (fun _ _ h => by cases h) E.l
          refine ⟨hT.mem h1, fun t => hT.av rfl (h2 t), ⟨h3.os, h3.tape, h3.output, ?_, fun k hk => ?_⟩, h4, h5⟩
          · show w.heap.size ≤ (E.w.putObj b _).heap.size
            rw [World.putObj_size]
            exact h3.size
          · exact (World.putObj_heap_other (by omega)).trans (h3.block k hk)
        · obtain ⟨h1, h2, h3, h4, h5⟩ := h
          obtain ⟨u, hu, hru⟩ := hr E a'.tmps h1 h2
          exact ⟨u, hu, u, rfl, h3, hru.pure h4 h5 hp⟩
      cases e with
      | normal => exact hp
      | ret => exact hp
      | exit j => exact absurd rfl (hex.1 j)
/-- A contract, by the evaluator. -/
theorem ctr_of (hm : P.follows .mixedOrders = true) (hD : DataOk P D) {c : Ctr} (hcall : Callable P c.f) {fn : Func} (hf : P.funcs[c.f]? = some fn) (fuel : Nat)
    (h : ∀ as r, c.K as = some r → funC D fuel fn as some = some (c.res r) ∧ pureAV (c.res r) = true) (hy : D.yo = none := by rfl) : CtrOk P D c := by
  refine .inl ⟨hcall, fun w far as vs r hg ha hK => ?_⟩
  obtain ⟨h1, h2⟩ := h as r hK
  obtain ⟨v, e, hc⟩ := funC_calls hm hD hy hf h1
  cases e
  exact hc h2 w far vs hg ha
end
end Go.Ev
end
