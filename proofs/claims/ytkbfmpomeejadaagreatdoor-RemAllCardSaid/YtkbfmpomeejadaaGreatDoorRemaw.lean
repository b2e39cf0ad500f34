/- Part 23 of 46 of what the theorem stands on. -/
import Derived.Test.YtkbfmpomeejadaaGreatDoorRows
import Derived.Test.YtkbfmpomeejadaaGreatDoorRemav
import Derived.OpenShut
import Derived.LaidMore
import Derived.ProofKit
import Derived.ChangeSame
import Derived.ChangeVars
import Derived.Stop.Joined
import Derived.JoinedOf
import Derived.KernelRfl

section
namespace Go.Ev
open Go.RowKit
def valL : Lf → Value
  | .int k x => .int k x
  | .bool b => .bool b
  | _ => undef
def okLf : Option IntKind → Lf → Prop
  | some k, .int q x => q = k ∧ (Lit.int k x).wf = true
  | none, .bool _ => True
  | _, _ => False
mutual
def flatD {H : Type} : DataW H → List Lf
  | .lit (.int k x) => [.int k x]
  | .lit (.bool b) => [.bool b]
  | .agg l => flatDs l
  | _ => []
def flatDs {H : Type} : List (DataW H) → List Lf
  | [] => []
  | d :: l => flatD d ++ flatDs l
end
def fieldsK (f : Nat → Option (List (Option IntKind))) (c : Nat → Nat) : List Field → Nat → Option (List (Option IntKind))
  | [], _ => some []
  | x :: l, off => match f x.type with
    | none => none
    | some ks => bif Nat.beq x.offset off && Nat.beq (c x.type) ks.length then (fieldsK f c l (off + ks.length)).map (ks ++ ·) else none
def repK (ks : List (Option IntKind)) : Nat → List (Option IntKind)
  | 0 => []
  | n + 1 => ks ++ repK ks n
/-- The kinds of a type's cells, where these are numbers and bools. -/
def kindsOf (P : Program) : Nat → Nat → Option (List (Option IntKind))
  | 0, _ => none
  | n + 1, t => match P.underlying t with
    | some (.int k) => some [some k]
    | some .bool => some [none]
    | some (.struct fs) => match fieldsK (kindsOf P n) P.cellsOf fs.toList 0 with
      | none => none
      | some ks => bif Nat.beq (P.cellsOf t) ks.length then some ks else none
    | some (.array m e) => match kindsOf P n e with
      | none => none
      | some ks => bif Nat.beq (P.cellsOf e) ks.length && Nat.beq (P.cellsOf t) (repK ks m).length then some (repK ks m) else none
    | _ => none
section
variable {P : Program} {H : Type} {enc : TypeId × Value → H} {w : World} {base : Nat} {sp : Nat → Bool} {held : Bool}
/-- What is shown of a type's reading. -/
def FlatOk (ks : List (Option IntKind)) (cs : List Value) (x : DataW H × List MemPlace) : Prop := ∃ ls : List Lf, cs = ls.map valL ∧ All2 okLf ks ls ∧ flatD x.1 = ls ∧ x.2 = []
theorem fields_flat {f : Nat → Option (List (Option IntKind))} {m : Nat} {cs : List Value} (hf : ∀ t ks, f t = some ks → ∀ {cs : List Value} {x : DataW H × List MemPlace}, DataW.trod enc P w base sp held m t cs = some x → FlatOk ks cs x) :
    ∀ (l : List Field) (off : Nat) (ks : List (Option IntKind)) (ys : List (DataW H × List MemPlace)), fieldsK f P.cellsOf l off = some ks → ys.length = l.length →
      (∀ (i : Nat) (x : Field), l[i]? = some x → DataW.trod enc P w base sp held m x.type ((cs.drop x.offset).take (P.cellsOf x.type)) = ys[i]?) →
      ∃ ls : List Lf, (cs.drop off).take ks.length = ls.map valL ∧ All2 okLf ks ls ∧ flatDs (ys.map (·.1)) = ls ∧ ys.flatMap (·.2) = []
  | [], off, ks, ys, h, hl, _ => by
    cases h
    have : ys = [] := List.eq_nil_of_length_eq_zero hl
    subst this
    exact ⟨[], by simp, .nil, rfl, rfl⟩
  | x :: l, off, ks, ys, h, hl, hy => by
    simp only [fieldsK] at h
    split at h
    · cases h
    · rename_i k1 hk
      obtain ⟨hc, h⟩ := bif_inv h
      obtain ⟨k2, h2, rfl⟩ := Option.map_eq_some_iff.1 h
      simp only [Bool.and_eq_true] at hc
      have e1 := Nat.eq_of_beq_eq_true hc.1
      have e2 := Nat.eq_of_beq_eq_true hc.2
      match ys, hl with
      | y :: ys, hl =>
        have h0 := hy 0 x rfl
        rw [e1, e2] at h0
        obtain ⟨l1, a1, a2, a3, a4⟩ := hf _ _ hk (show DataW.trod enc P w base sp held m x.type _ = some y from h0)
        obtain ⟨l2, b1, b2, b3, b4⟩ := fields_flat hf l _ k2 ys h2 (by simpa using hl) (fun i z hz => by have := hy (i + 1) z (by simpa using hz); simpa using this)
        refine ⟨l1 ++ l2, ?_, a2.append b2, ?_, ?_⟩
        · rw [List.length_append, List.take_add, a1, List.drop_drop, b1, List.map_append]
        · simp only [List.map_cons, flatDs, a3, b3]
        · simp only [List.flatMap_cons, a4, b4, List.append_nil]
theorem elems_flat {f : Nat → Option (List (Option IntKind))} {m e : Nat} {cs : List Value} {ks : List (Option IntKind)} (hf : ∀ {cs : List Value} {x : DataW H × List MemPlace}, DataW.trod enc P w base sp held m e cs = some x → FlatOk ks cs x)
    (hc : P.cellsOf e = ks.length) : ∀ (n off : Nat) (ys : List (DataW H × List MemPlace)), ys.length = n → (∀ i, i < n → DataW.trod enc P w base sp held m e ((cs.drop ((off + i) * P.cellsOf e)).take (P.cellsOf e)) = ys[i]?) →
      ∃ ls : List Lf, (cs.drop (off * P.cellsOf e)).take (repK ks n).length = ls.map valL ∧ All2 okLf (repK ks n) ls ∧ flatDs (ys.map (·.1)) = ls ∧ ys.flatMap (·.2) = []
  | 0, off, ys, hl, _ => by
    have : ys = [] := List.eq_nil_of_length_eq_zero hl
    subst this
    exact ⟨[], by simp [repK], .nil, rfl, rfl⟩
  | n + 1, off, ys, hl, hy => by
    match ys, hl with
    | y :: ys, hl =>
      have h0 := hy 0 (by omega)
      obtain ⟨l1, a1, a2, a3, a4⟩ := hf (show DataW.trod enc P w base sp held m e _ = some y from h0)
      obtain ⟨l2, b1, b2, b3, b4⟩ := elems_flat (f := f) hf hc n (off + 1) ys (by simpa using hl) (fun i hi => by have := hy (i + 1) (by omega); rw [show off + (i + 1) = off + 1 + i by omega] at this; simpa using this)
      refine ⟨l1 ++ l2, ?_, a2.append b2, ?_, ?_⟩
      · simp only [Nat.add_zero] at a1
        rw [hc] at a1 b1 ⊢
        simp only [repK]
        rw [List.length_append, List.take_add, a1, List.drop_drop, show off * ks.length + ks.length = (off + 1) * ks.length by rw [Nat.add_mul]; omega, b1, List.map_append]
      · simp only [List.map_cons, flatDs, a3, b3]
      · simp only [List.flatMap_cons, a4, b4, List.append_nil]
theorem trod_flat : ∀ (n t : Nat) (ks : List (Option IntKind)), kindsOf P n t = some ks → ∀ {m : Nat} {cs : List Value} {x : DataW H × List MemPlace}, DataW.trod enc P w base sp held m t cs = some x → FlatOk ks cs x
  | 0, _, _, h, _, _, _, _ => by cases h
  | n + 1, t, ks, h, m, cs, x, hx => by
    simp only [kindsOf] at h
    split at h
    · rename_i k hu
      cases h
      obtain ⟨z, rfl, rfl, hw⟩ := DataW.trod_int hu hx
      exact ⟨[.int k z], rfl, .cons ⟨rfl, hw⟩ .nil, rfl, rfl⟩
    · rename_i hu
      cases h
      obtain ⟨b, rfl, rfl⟩ := DataW.trod_bool hu hx
      exact ⟨[.bool b], rfl, .cons trivial .nil, rfl, rfl⟩
    · rename_i fs hu
      split at h
      · cases h
      · rename_i k1 hk
        obtain ⟨hc, h⟩ := bif_inv h
        cases h
        obtain ⟨xs, m', rfl, rfl, hl, hlen, hfs⟩ := DataW.trod_struct hu hx
        obtain ⟨ls, a1, a2, a3, a4⟩ := fields_flat (cs := cs) (fun t ks h {cs x} hx => trod_flat n t ks h hx) fs.toList 0 ks xs hk (by simpa using hlen) (fun i f hf => hfs i f (by simpa using hf))
        refine ⟨ls, ?_, a2, a3, a4⟩
        rw [← a1, List.drop_zero, List.take_of_length_le]
        rw [hl, Nat.eq_of_beq_eq_true hc]
        exact Nat.le_refl _
    · rename_i c e hu
      split at h
      · cases h
      · rename_i k1 hk
        obtain ⟨hc, h⟩ := bif_inv h
        cases h
        simp only [Bool.and_eq_true] at hc
        obtain ⟨xs, m', rfl, rfl, hl, hlen, hfs⟩ := DataW.trod_array hu hx
        obtain ⟨ls, a1, a2, a3, a4⟩ := elems_flat (f := fun _ => none) (cs := cs) (fun {cs x} hx => trod_flat n e k1 hk hx) (Nat.eq_of_beq_eq_true hc.1) c 0 xs hlen (fun i hi => by rw [Nat.zero_add]; exact hfs i hi)
        refine ⟨ls, ?_, a2, a3, a4⟩
        rw [Nat.zero_mul, List.drop_zero] at a1
        rw [← a1, List.take_of_length_le]
        rw [hl, Nat.eq_of_beq_eq_true hc.2]
        exact Nat.le_refl _
    · cases h
/-- A struct among the arguments. -/
theorem open_flat {r : Reach} {b0 n t : Nat} {fs : Array Field} {ks : List (Option IntKind)} {v : Value} {d : DataW H} {p : List MemPlace} (hu : P.underlying t = some (.struct fs)) (hk : kindsOf P n t = some ks)
    (hv : Value.okWide P w r b0 t v) (h : DataW.Trod enc P w base sp held t v d p) : ∃ ls : List Lf, v = .agg (ls.map valL).toArray ∧ All2 okLf ks ls ∧ p = [] := by
  obtain ⟨cs, rfl, _⟩ := WideShapes.okWide_struct hu hv
  obtain ⟨fuel, hf⟩ := h
  obtain ⟨ls, h1, h2, _, h4⟩ := trod_flat n t ks hk hf
  simp only [Value.cells] at h1
  exact ⟨ls, by rw [← h1], h2, h4⟩
/-- A listed variable. -/
theorem glob_of {g : Nat} {name : String} {D : DataW Unit} {l : List Lf} {n t : Nat} {ks : List (Option IntKind)} {cs : Array Value} {fuel : Nat} {p : List MemPlace} (hg : P.globalNamed name = some g) (hk : kindsOf P n t = some ks)
    (hv : w.var? P name = some cs) (hd : DataW.trod (fun _ => ()) P w 0 (fun _ => true) false fuel t cs.toList = some (D, p)) (hl : flatD D = l) :
    g < w.heap.size ∧ ∀ (j : Nat) (x : Lf), l[j]? = some x → ∃ u, w.cell? ⟨g, j, none⟩ = some u ∧ leafOf u = some x := by
  obtain ⟨ls, h1, h2, h3, _⟩ := trod_flat n t ks hk hd
  have h3 : flatD D = ls := h3
  rw [hl] at h3
  subst h3
  refine ⟨?_, fun j x hx => ?_⟩
  · unfold World.var? at hv
    rw [hg] at hv
    simp only [Option.bind_some] at hv
    split at hv
    · rename_i h; exact (Array.getElem?_eq_some_iff.1 h).1
    · cases hv
  · rw [World.var?_cell hg hv j]
    have : cs.toList[j]? = some (valL x) := by rw [h1, List.getElem?_map, hx]; rfl
    refine ⟨valL x, by simpa using this, ?_⟩
    obtain ⟨k, _, ho⟩ := h2.get' hx
    cases k with
    | some k => cases x <;> first | exact ho.elim | rfl
    | none => cases x <;> first | exact ho.elim | rfl
end
/-- A contract that is a function's own, at a call. -/
theorem CtrOk.calls {P : Program} {D : Data} {c : Ctr} (h : CtrOk P D c) (hc : Callable P c.f) {w : World} {far : Nat → Prop} {args : List Arg} {vs : List Value} {r : c.R} (hg : GlobOk D w) (ha : All2 (ArgRel (pureE w far)) args vs) (hr : c.K args = some r) :
    Calls P c.f vs.toArray w (CtrPost w far (c.res r)) := by
  rcases h with ⟨_, h⟩ | h
  · exact h w far args vs r hg ha hr
  · obtain ⟨u, hu, _⟩ := h w far args vs r ha hr
    rw [hc] at hu
    cases hu
end Go.Ev
end

section
namespace Go.Ev
open Go.Proofs.YtkbfmpomeejadaaGreatDoor
open Go.Proofs
theorem and2 {a b : Bool} (h : a = true) (k : b = true) : (a && b) = true := by rw [h, k]; rfl
theorem remAll_q0 : (Rows.remAllRow.wf (OpenSpec.ofChange Rows.remAllSpec)) = true := by kernel_rfl
theorem remAll_q1 : (laidOutB Tryz.prog) = true := by kernel_rfl
theorem remAll_q2 : (mapsRowed Tryz.prog) = true := by kernel_rfl
theorem remAll_q3 : (Tryz.f3.params.all (Tryz.prog.readableRec ·)) = true := by kernel_rfl
theorem remAll_q4 : (namedTie Tryz.prog Rows.remAllRow.named Rows.remAllSpec.vars) = true := by kernel_rfl
theorem remAll_q5 : ((Rows.remAllRow.stops == [])) = true := by kernel_rfl
theorem remAll_q6 : ((Tryz.prog.stops == [])) = true := by kernel_rfl
theorem remAll_q7 : ((Rows.remAllRow.knobs == [])) = true := by kernel_rfl
theorem remAll_q8 : ((Tryz.prog.stopKnobs == [])) = true := by kernel_rfl
theorem remAll_q9 : ((Rows.remAllRow.inPlace == Tryz.prog.inPlace 3)) = true := by kernel_rfl
theorem remAll_q10 : ((Rows.remAllRow.unfollowed == Tryz.prog.unfollowed 3)) = true := by kernel_rfl
theorem remAll_q11 : ((Rows.remAllRow.recurses == Tryz.prog.recurses 3)) = true := by kernel_rfl
theorem remAll_q12 : ((Rows.remAllRow.named == Tryz.prog.varsNamed 3)) = true := by kernel_rfl
theorem remAll_q13 : ((Rows.remAllRow.maps == (Tryz.f3.params.toList ++ Rows.remAllSpec.plain.varTypes Tryz.prog).any (Tryz.prog.mapsRec ·))) = true := by kernel_rfl
theorem remAll_q14 : ((Rows.remAllRow.ifaces == (Tryz.f3.params.toList ++ Rows.remAllSpec.plain.varTypes Tryz.prog).any (Tryz.prog.ifacesRec ·))) = true := by kernel_rfl
theorem remAll_q15 : ((Rows.remAllRow.mapsOut == Tryz.prog.mapsAmong Tryz.f3.resultTypes.toList)) = true := by kernel_rfl
theorem remAll_q16 : ((Rows.remAllRow.loops == (Tryz.f3.params.toList ++ Rows.remAllSpec.plain.varTypes Tryz.prog).any (Tryz.prog.loopsFrom ·))) = true := by kernel_rfl
theorem remAll_q17 : ((Rows.remAllRow.wideKeys == (Tryz.f3.params.toList ++ Rows.remAllSpec.plain.varTypes Tryz.prog ++ Tryz.f3.resultTypes.toList).any (Tryz.prog.wideKeysFrom ·))) = true := by kernel_rfl
theorem remAll_q18 : (Rows.remAllSpec.vars.all (Tryz.prog.varReadable ·)) = true := by kernel_rfl
theorem remAll_q19 : (Tryz.f3.resultTypes.all (fun t => Tryz.prog.readableRec t && decide (t < Tryz.prog.types.size))) = true := by kernel_rfl
theorem remAll_q20 : ((Rows.remAllRow.ifacesOut == Tryz.f3.resultTypes.toList.any (Tryz.prog.ifacesRec ·))) = true := by kernel_rfl
theorem remAll_q21 : ((Rows.remAllRow.loopsOut == Tryz.f3.resultTypes.toList.any (Tryz.prog.loopsFrom ·))) = true := by kernel_rfl
theorem remAll_q22 : ((Rows.remAllRow.plainKeys == Tryz.prog.plainKeys)) = true := by kernel_rfl
theorem remAll_q23 : (Rows.remAllRow.shortTexts.isNone) = true := by kernel_rfl
theorem remAll_q24 : (Tryz.prog.stopsHeard) = true := by kernel_rfl
theorem remAll_q25 : (Tryz.prog.mayEnter) = true := by kernel_rfl
theorem remAll_q26 : ((Rows.remAllRow.lifted == Tryz.prog.liftsFinal)) = true := by kernel_rfl
theorem remAll_q27 : ((Tryz.prog.make == some Rows.remAllRow.make)) = true := by kernel_rfl
theorem remAll_q28 : ((Rows.remAllRow.kinds == (if Rows.remAllRow.domain.isEmpty then [] else Tryz.f3.params.toList.map fun t => match Tryz.prog.underlying t with | some (.int k) => some k | _ => none))) = true := by kernel_rfl
theorem remAll_q29 : ((Rows.remAllRow.pinned == Rows.remAllRow.pinnedBy)) = true := by kernel_rfl
theorem remAll_q30 : ((Rows.remAllRow.veiled == (Tryz.f3.params.toList ++ Rows.remAllSpec.plain.varTypes Tryz.prog ++ Tryz.f3.resultTypes.toList).any (Tryz.prog.veiledRec ·))) = true := by kernel_rfl
theorem remAll_q31 : (Rows.remAllRow.veiledFits Tryz.prog Tryz.f3.params.toList (Tryz.f3.params.toList ++ Rows.remAllSpec.plain.varTypes Tryz.prog ++ Tryz.f3.resultTypes.toList)) = true := by kernel_rfl
set_option maxRecDepth 100000 in
theorem remAll_facts : joinedFacts Tryz.prog 3 Tryz.f3 Rows.remAllSpec Rows.remAllRow = true := by
  unfold joinedFacts
  exact (and2 (and2 (and2 (and2 (and2 (and2 (and2 (and2 (and2 (and2 (and2 (and2 (and2 (and2 (and2 (and2 (and2 (and2 (and2 (and2 (and2 (and2 (and2 (and2 (and2 (and2 (and2 (and2 (and2 (and2 (and2 remAll_q0 remAll_q1) remAll_q2) remAll_q3) remAll_q4) remAll_q5) remAll_q6) remAll_q7) remAll_q8) remAll_q9) remAll_q10) remAll_q11) remAll_q12) remAll_q13) remAll_q14) remAll_q15) remAll_q16) remAll_q17) remAll_q18) remAll_q19) remAll_q20) remAll_q21) remAll_q22) remAll_q23) remAll_q24) remAll_q25) remAll_q26) remAll_q27) remAll_q28) remAll_q29) remAll_q30) remAll_q31)
end Go.Ev
end
