/- Part 9 of 46 of what the theorem stands on. -/
import Derived.Test.YtkbfmpomeejadaaGreatDoorRemah

section
namespace Go.Ev
open Go.RowKit
section
variable {P : Program} {D : Data} {call : CallK}
/-- The mark that a range over a function leaves among the deferred calls. -/
def MarkOk (E : Env) (d : Deferred) : Prop := ∃ b, d = { target := .collected b, args := #[] } ∧ E.w.heap[b]? = some (.deferred (some [])) ∧ ¬ E.own b ∧ E.B0 ≤ b
def DefOk (top : Bool) (E : Env) (ds : List Deferred) : Prop :=
  match top with
  | false => ds = []
  | true => (∀ d ∈ ds, MarkOk E d) ∧ ds.Pairwise (· ≠ ·)
theorem DefOk.nil (top : Bool) (E : Env) : DefOk top E [] := by
  cases top with
  | false => rfl
  | true => exact ⟨by simp, .nil⟩
theorem MarkOk.ext {E E' : Env} {d : Deferred} (h : MarkOk E d) (k : Ext E E') : MarkOk E' d := by
  obtain ⟨b, h1, h2, h3, h4⟩ := h
  have hlt := lt_of_heap h2
  refine ⟨b, h1, (k.same b hlt h3).trans h2, fun e => ?_, by rw [k.B0]; exact h4⟩
  rcases k.new b e with e | e
  · exact h3 e
  · omega
theorem DefOk.ext {top : Bool} {E E' : Env} {ds : List Deferred} (h : DefOk top E ds) (k : Ext E E') : DefOk top E' ds := by
  cases top with
  | false => exact h
  | true => exact ⟨fun d hd => (h.1 d hd).ext k, h.2⟩
structure TRel (top : Bool) (E : Env) (tm : Tm) (a : Act) (nt : Nat) : Prop where
  size : a.tmps.size = nt
  defers : DefOk top E a.defers
  val : ∀ t, AVRel E (tm t) (a.tmps.getD t undef)
theorem TRel.ext {top : Bool} {E E' : Env} {tm : Tm} {a : Act} {nt : Nat} (h : TRel top E tm a nt) (k : Ext E E') : TRel top E' tm a nt := ⟨h.size, h.defers.ext k, fun t => (h.val t).ext k⟩
theorem TRel.put {top : Bool} {E : Env} {tm : Tm} {a : Act} {nt : Nat} (h : TRel top E tm a nt) {v : AV} {u : Value} (hv : AVRel E v u) {d : Option Nat} (hd : dstOk nt d = true) : TRel top E (putT d v tm) (a.put d u) nt := by
  cases d with
  | none => exact h
  | some d =>
    have hd := blt_iff.1 hd
    refine ⟨by simp [Act.put, h.size], h.defers, fun t => ?_⟩
    by_cases e : t = d
    · subst e
      have : (a.put (some t) u).tmps.getD t undef = u := by
        simp [Act.put, Array.getElem?_setIfInBounds_self_of_lt (show t < a.tmps.size by rw [h.size]; exact hd)]
      rw [this]
      simpa [putT] using hv
    · have : (a.put (some d) u).tmps.getD t undef = a.tmps.getD t undef := by
        simp [Act.put, Array.getElem?_setIfInBounds_ne (Ne.symm e)]
      rw [this]
      have hb : Nat.beq t d = false := Bool.eq_false_iff.2 fun h => e (Nat.eq_of_beq_eq_true h)
      simpa [putT, hb] using h.val t
theorem putT_same {tm : Tm} {t : Nat} {v : AV} (h : tm t = v) : putT (some t) v tm = tm := by
  funext i
  simp only [putT]
  cases hb : Nat.beq i t with
  | true => simp [Nat.eq_of_beq_eq_true hb, h]
  | false => simp
/-- What is left of an environment by a step. -/
structure Keep (n s : Nat) (E E' : Env) : Prop where
  ext : Ext E E'
  none : ∀ id, id < n → id ≠ s → E.pi id = none → E'.pi id = none
  init : ∀ id, id < n → E'.init id = E.init id
theorem wanted_eq {ops : Array Oper} {o : Oper} {j : Nat} {want : Bool} (ho : o.guard = some (j, want)) {t : Nat} (ht : guardT ops.toList j = some t) (a : Act) :
    Region.wanted o (yielded ops a.tmps) = (match a.tmps[t]? with | some (.bool b) => b == want | _ => false) := by
  unfold Region.wanted yielded
  rw [ho]
  have : (ops[j]?).bind (·.dst) = some t := by
    unfold guardT at ht
    rw [nthO_eq, Array.getElem?_toList] at ht
    cases h : ops[j]? with
    | none => rw [h] at ht; cases ht
    | some q => rw [h] at ht; exact ht
  simp only [this, Option.bind_some]
  cases a.tmps[t]? with
  | none => rfl
  | some v => cases v <;> first | rfl | (simp only; cases want <;> rename_i b <;> cases b <;> rfl)
theorem getD_of {a : Act} {t : Nat} {v : Value} (h : a.tmps.getD t undef = v) (hv : v ≠ undef) : a.tmps[t]? = some v := by
  simp only [Array.getD_eq_getD_getElem?] at h
  cases hh : a.tmps[t]? with
  | none => rw [hh] at h; exact absurd h.symm hv
  | some u => rw [hh] at h; simp at h; rw [h]
/-- One operation of a region: what the machine makes of it. -/
theorem stepC_sound (hD : DataOk P D) (hC : CallOk P D call) {R : Type} {nt : Nat} {ops : Array Oper} {o : Oper} {slot : Nat} {tm : Tm} {m : Mem} {k : Tm → Mem → Lab → Option R} {r : R}
    (h : stepC D call nt ops.toList o slot tm m k = some r) :
    ∃ tm' m' lab, k tm' m' lab = some r ∧ m.len ≤ m'.len ∧ ∀ (E : Env) (a : Act), Good D E m → TRel D.top E tm a nt → SlotOk D E m o.op slot →
      ∀ (ro : Option Nat) (K : Act → World → Prop) (Q : Exit → Act → World → Prop), (∀ E' a', Keep m.len (if isAl o.op then slot else m.len) E E' → MemRel E' m' → TRel D.top E' tm' a' nt → K a' E'.w) →
        if Region.wanted o (yielded ops a.tmps) then o.wpIn (FR ro) 0 P a E.w K Q else K (a.put o.dst undef) E.w := by
  have hgo : ∀ (r : R), (opC D call o.op slot tm m fun v m' l => bif dstOk nt o.dst then k (putT o.dst v tm) m' l else none) = some r →
      ∃ tm' m' lab, k tm' m' lab = some r ∧ m.len ≤ m'.len ∧ ∀ (E : Env) (a : Act), Good D E m → TRel D.top E tm a nt → SlotOk D E m o.op slot →
        ∀ (ro : Option Nat) (K : Act → World → Prop) (Q : Exit → Act → World → Prop), (∀ E' a', Keep m.len (if isAl o.op then slot else m.len) E E' → MemRel E' m' → TRel D.top E' tm' a' nt → K a' E'.w) → o.wpIn (FR ro) 0 P a E.w K Q := by
    intro r h
    have hdf : ∀ c, o.op ≠ .defer c := fun c hc => by rw [hc] at h; simp only [opC] at h; cases h
    obtain ⟨v, m', lab, h, hlen, hs⟩ := op_sound hD hC o R slot tm m _ r h
    obtain ⟨hd, h⟩ := bif_inv h
    refine ⟨_, m', lab, h, hlen, fun E a hG ht hS ro K Q hK => ?_⟩
    refine (hs E a hG ht.val hS).wp hdf fun E' u hp => ?_
    refine hK E' _ ⟨hp.ext, fun id hid hne he => hp.none id hid ?_ he, hp.init⟩ hp.mem ((ht.ext hp.ext).put hp.val hd)
    cases hal : isAl o.op with
    | true => rw [hal] at hne; exact .inl (by simpa using hne)
    | false => exact .inr rfl
  have hskip : ∀ (r : R), (bif dstOk nt o.dst then k (putT o.dst undefA tm) m .p else none) = some r →
      ∃ tm' m' lab, k tm' m' lab = some r ∧ m.len ≤ m'.len ∧ ∀ (E : Env) (a : Act), Good D E m → TRel D.top E tm a nt → SlotOk D E m o.op slot →
        ∀ (ro : Option Nat) (K : Act → World → Prop) (Q : Exit → Act → World → Prop), (∀ E' a', Keep m.len (if isAl o.op then slot else m.len) E E' → MemRel E' m' → TRel D.top E' tm' a' nt → K a' E'.w) → K (a.put o.dst undef) E.w := by
    intro r h
    obtain ⟨hd, h⟩ := bif_inv h
    exact ⟨_, m, _, h, Nat.le_refl _, fun E a hG ht hS ro K Q hK => hK E _ ⟨Ext.refl E, fun _ _ _ h => h, fun _ _ => rfl⟩ hG.mem (ht.put (AVRel.undef E) hd)⟩
  unfold stepC at h
  cases hg : o.guard with
  | none =>
    simp only [hg] at h
    obtain ⟨tm', m', lab, h1, h2, h3⟩ := hgo r h
    refine ⟨tm', m', lab, h1, h2, fun E a hG ht hS ro K Q hK => ?_⟩
    have : Region.wanted o (yielded ops a.tmps) = true := by unfold Region.wanted; rw [hg]
    rw [if_pos this]
    exact h3 E a hG ht hS ro K Q hK
  | some gw =>
    obtain ⟨j, want⟩ := gw
    simp only [hg] at h
    cases hgt : guardT ops.toList j with
    | none => rw [hgt] at h; cases h
    | some t =>
      simp only [hgt] at h
      split at h
      · rename_i b hb
        have hval : ∀ E a, TRel D.top E tm a nt → Region.wanted o (yielded ops a.tmps) = (b == want) := by
          intro E a ht
          have h1 := ht.val t
          rw [hb] at h1
          rw [wanted_eq hg hgt a, getD_of (show a.tmps.getD t undef = .bool b from h1) (by simp [undef])]
        cases hwb : (b == want) with
        | true =>
          have hrun : (opC D call o.op slot tm m fun v m' l => bif dstOk nt o.dst then k (putT o.dst v tm) m' l else none) = some r := by
            cases want <;> cases b <;> simp at hwb <;> simpa [putT_same hb] using h
          obtain ⟨tm', m', lab, h1, h2, h3⟩ := hgo r hrun
          refine ⟨tm', m', lab, h1, h2, fun E a hG ht hS ro K Q hK => ?_⟩
          rw [if_pos (by rw [hval E a ht]; exact hwb)]
          exact h3 E a hG ht hS ro K Q hK
        | false =>
          have hrun : (bif dstOk nt o.dst then k (putT o.dst undefA tm) m .p else none) = some r := by
            cases want <;> cases b <;> simp at hwb <;> simpa [putT_same hb] using h
          obtain ⟨tm', m', lab, h1, h2, h3⟩ := hskip r hrun
          refine ⟨tm', m', lab, h1, h2, fun E a hG ht hS ro K Q hK => ?_⟩
          rw [if_neg (by rw [hval E a ht, hwb]; simp)]
          exact h3 E a hG ht hS ro K Q hK
      · rename_i vs hb
        obtain ⟨tm', m', lab, h1, h2, h3⟩ := hskip r h
        refine ⟨tm', m', lab, h1, h2, fun E a hG ht hS ro K Q hK => ?_⟩
        have hf : Region.wanted o (yielded ops a.tmps) = false := by
          have h1 := ht.val t
          rw [hb] at h1
          have h1 : a.tmps.getD t undef = .tuple vs := h1.1
          rw [wanted_eq hg hgt a]
          simp only [Array.getD_eq_getD_getElem?] at h1
          cases hh : a.tmps[t]? with
          | none => rfl
          | some u => rw [hh] at h1; simp at h1; subst h1; rfl
        rw [if_neg (by rw [hf]; simp)]
        exact h3 E a hG ht hS ro K Q hK
      · cases h
/-- The slots of the operations that are still to come. -/
def Slots (D : Data) (E : Env) (m : Mem) : List Oper → Nat → Prop
  | [], _ => True
  | o :: l, s => SlotOk D E m o.op s ∧ Slots D E m l (nextSlot o s)
theorem Slots.keep {E E' : Env} {m m' : Mem} {n : Nat} (hlen : m.len ≤ m'.len) (hn : n ≤ m.len) : ∀ {l : List Oper} {s x : Nat}, Slots D E m l s → Keep m.len x E E' → (x < s ∨ x = m.len) → Slots D E' m' l s
  | [], _, _, _, _, _ => trivial
  | o :: l, s, x, h, k, hx => by
    obtain ⟨h1, h2⟩ := h
    have hs : s ≤ nextSlot o s := by unfold nextSlot; cases isAl o.op <;> simp
    refine ⟨⟨fun al => Nat.lt_of_lt_of_le (h1.low al) hlen, fun al => k.none s (h1.low al) (by have := h1.low al; omega) (h1.pi al), fun t ht => ?_⟩, Slots.keep hlen hn h2 k (by omega)⟩
    obtain ⟨ty, e1, e2⟩ := h1.zero t ht
    exact ⟨ty, e1, by rw [k.init s (h1.low (by rw [ht]; rfl))]; exact e2⟩
end
end Go.Ev
end
