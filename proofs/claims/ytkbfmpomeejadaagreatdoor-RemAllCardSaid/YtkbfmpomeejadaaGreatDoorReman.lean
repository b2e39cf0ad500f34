/- Part 14 of 46 of what the theorem stands on. -/
import Derived.Test.YtkbfmpomeejadaaGreatDoorRemam
import Derived.Tactics

section
namespace Go.Ev
open Go.RowKit
section
variable {P : Program} {D : Data} {call : CallK} {R : Type}
def SlotsAt : List St → Nat → Prop
  | [], _ => True
  | x :: l, s => x.s = s ∧ SlotsAt l (nextSlot x.o s)
theorem nextSlot_ge (o : Oper) (s : Nat) : s ≤ nextSlot o s := by unfold nextSlot; cases isAl o.op <;> simp
theorem SlotsAt.ge : ∀ {l : List St} {s : Nat}, SlotsAt l s → ∀ x ∈ l, s ≤ x.s
  | [], _, _, x, hx => by simp at hx
  | y :: l, s, h, x, hx => by
    rcases List.mem_cons.1 hx with rfl | hx
    · exact Nat.le_of_eq h.1.symm
    · exact Nat.le_trans (nextSlot_ge _ _) (SlotsAt.ge h.2 x hx)
theorem SlotsAt.dis : ∀ {l : List St} {s : Nat}, SlotsAt l s → ∀ (i j : Nat) (x y : St), l[i]? = some x → l[j]? = some y → i < j → isAl x.o.op = true → x.s < y.s
  | [], _, _, i, j, x, y, hx, _, _, _ => by simp at hx
  | z :: l, s, h, i, j, x, y, hx, hy, hij, al => by
    obtain ⟨h1, h2⟩ := h
    cases j with
    | zero => omega
    | succ j =>
      cases i with
      | zero =>
        simp at hx; subst hx
        have := SlotsAt.ge h2 y (List.mem_of_getElem? (by simpa using hy))
        rw [nextSlot, al] at this
        simp at this
        omega
      | succ i => exact SlotsAt.dis h2 i j x y (by simpa using hx) (by simpa using hy) (by omega) al
theorem opsC_runs (hN : CallNat call) {nt : Nat} {all : List Oper} : ∀ {rest : List Oper} {slot : Nat} {tm : Tm} {m : Mem} {ls : List Lab} {k : Tm → Mem → List Lab → Option R} {r : R},
    opsC D call nt all rest slot tm m ls k = some r → ∃ (F : List St) (tm' : Tm) (m' : Mem), F.map (·.o) = rest ∧ SlotsAt F slot ∧ Runs D call all F tm m tm' m' ∧ (∀ x ∈ F, dstOk nt x.o.dst = true) ∧
      k tm' m' ((F.map (·.l)).reverse ++ ls) = some r
  | [], slot, tm, m, ls, k, r, h => ⟨[], tm, m, rfl, trivial, .nil, by simp, h⟩
  | o :: rest, slot, tm, m, ls, k, r, h => by
    simp only [opsC] at h
    rw [stepC_eq hN] at h
    cases hv : stepV D call all o slot tm m with
    | none => rw [hv] at h; cases h
    | some p =>
      obtain ⟨v, m1, l⟩ := p
      rw [hv] at h
      simp only [Option.bind_some] at h
      obtain ⟨hd, h⟩ := bif_inv h
      obtain ⟨F, tm', m', h1, h2, h3, h4, h5⟩ := opsC_runs hN h
      refine ⟨⟨o, slot, l⟩ :: F, tm', m', by simp [h1], ⟨rfl, h2⟩, .cons hv h3, ?_, by simpa using h5⟩
      intro x hx
      rcases List.mem_cons.1 hx with rfl | hx
      · exact hd
      · exact h4 x hx
theorem slotsL_some {o : Oper} {l : List Oper} {bs : List Blk} (h : slotsL D (o :: l) = some bs) :
    ∃ bs1, slotsL D l = some bs1 ∧ ((isAl o.op = true ∧ ∃ b, bs = b :: bs1 ∧ ∀ t, o.op = .alloc t → ∃ ty, look D.types t = some ty ∧ b = { own := true, sz := ty.zero.length, get := ofList ty.zero }) ∨ (isAl o.op = false ∧ bs = bs1)) := by
  simp only [slotsL] at h
  split at h
  · cases h
  · rename_i bs1 hb
    refine ⟨bs1, hb, ?_⟩
    split at h
    · rename_i t ht
      split at h
      · rename_i ty hty
        simp only [Option.some.injEq] at h
        exact .inl ⟨by rw [ht]; rfl, _, h.symm, fun u hu => by rw [ht] at hu; cases hu; exact ⟨ty, hty, rfl⟩⟩
      · cases h
    · rename_i hna
      cases hal : isAl o.op with
      | true =>
        rw [hal] at h
        simp only [cond_true, Option.some.injEq] at h
        exact .inl ⟨rfl, _, h.symm, fun u hu => absurd hu (hna u)⟩
      | false =>
        rw [hal] at h
        simp only [cond_false, Option.some.injEq] at h
        exact .inr ⟨rfl, h.symm⟩
/-- The slots ahead of a region's operations. -/
theorem slots_of {E : Env} {m : Mem} : ∀ {l : List Oper} {bs : List Blk} {s : Nat}, slotsL D l = some bs → s + bs.length ≤ m.len → (∀ d, d < bs.length → E.pi (s + d) = none) →
    (∀ d b, bs[d]? = some b → E.init (s + d) = b) → Slots D E m l s
  | [], _, _, _, _, _, _ => trivial
  | o :: l, bs, s, h, hlen, hp, hi => by
    obtain ⟨bs1, h1, h2⟩ := slotsL_some h
    rcases h2 with ⟨al, b, rfl, hz⟩ | ⟨al, rfl⟩
    · have hns : nextSlot o s = s + 1 := by unfold nextSlot; rw [al]; rfl
      refine ⟨⟨fun _ => by simp at hlen; omega, fun _ => hp 0 (by simp), fun t ht => ?_⟩, ?_⟩
      · obtain ⟨ty, e1, e2⟩ := hz t ht
        exact ⟨ty, e1, by rw [← e2]; exact hi 0 b rfl⟩
      · rw [hns]
        refine slots_of h1 (by simp at hlen; omega) (fun d hd => ?_) fun d c hc => ?_
        · have := hp (d + 1) (by simpa using hd)
          rwa [show s + (d + 1) = s + 1 + d by omega] at this
        · have := hi (d + 1) c (by simpa using hc)
          rwa [show s + (d + 1) = s + 1 + d by omega] at this
    · have hns : nextSlot o s = s := by unfold nextSlot; rw [al]; rfl
      refine ⟨⟨fun h => ?_, fun h => ?_, fun t ht => ?_⟩, by rw [hns]; exact slots_of h1 hlen hp hi⟩
      · rw [al] at h; cases h
      · rw [al] at h; cases h
      · rw [ht] at al; cases al
theorem slot_of_slots {E : Env} {m : Mem} : ∀ {F : List St} {s : Nat}, Slots D E m (F.map (·.o)) s → SlotsAt F s → ∀ x ∈ F, SlotOk D E m x.o.op x.s
  | [], _, _, _, x, hx => by simp at hx
  | y :: F, s, h, k, x, hx => by
    obtain ⟨h1, h2⟩ := h
    obtain ⟨k1, k2⟩ := k
    rcases List.mem_cons.1 hx with rfl | hx
    · rw [k1]; exact h1
    · exact slot_of_slots h2 k2 x hx
/-- As Honest, of the blocks below one. -/
structure HonestN (n : Nat) (m m' : Mem) (ws : List Loc) : Prop where
  len : m.len ≤ m'.len
  sz : ∀ id, id < n → (m'.blk id).sz = (m.blk id).sz
  own : ∀ id, id < n → (m'.blk id).own = (m.blk id).own
  non : ∀ id, id < n → ((m'.blk id).es = none ↔ (m.blk id).es = none)
  es : ∀ id, id < n → (∀ b ∈ ws, Loc.apart (id, 0, 1) b = true) → (m'.blk id).es = (m.blk id).es
  get : ∀ id j, id < n → (∀ b ∈ ws, Loc.apart (id, j, 1) b = true) → (m'.blk id).get j = (m.blk id).get j
theorem HonestN.refl (n : Nat) (m : Mem) (ws : List Loc) : HonestN n m m ws := ⟨Nat.le_refl _, fun _ _ => rfl, fun _ _ => rfl, fun _ _ => .rfl, fun _ _ _ => rfl, fun _ _ _ _ => rfl⟩
theorem HonestN.trans {n : Nat} {m m1 m2 : Mem} {ws us xs : List Loc} (h : HonestN n m m1 ws) (k : HonestN n m1 m2 us) (h1 : ∀ b ∈ ws, b ∈ xs) (h2 : ∀ b ∈ us, b ∈ xs) : HonestN n m m2 xs where
  len := Nat.le_trans h.len k.len
  sz := fun id hid => (k.sz id hid).trans (h.sz id hid)
  own := fun id hid => (k.own id hid).trans (h.own id hid)
  non := fun id hid => (k.non id hid).trans (h.non id hid)
  es := fun id hid ha => (k.es id hid fun b hb => ha b (h2 b hb)).trans (h.es id hid fun b hb => ha b (h1 b hb))
  get := fun id j hid ha => (k.get id j hid fun b hb => ha b (h2 b hb)).trans (h.get id j hid fun b hb => ha b (h1 b hb))
theorem Honest.toN {m m' : Mem} {ws : List Loc} (h : Honest m m' ws) {n : Nat} (hn : n ≤ m.len) : HonestN n m m' ws :=
  ⟨h.len, fun id hid => h.sz id (by omega), fun id hid => h.own id (by omega), fun id hid => h.non id (by omega), fun id hid ha => h.es id (by omega) (apartL_of ha), fun id j hid ha => h.get id j (by omega) (apartL_of ha)⟩
theorem HonestN.toH {m m' : Mem} {ws : List Loc} (h : HonestN m.len m m' ws) : Honest m m' ws :=
  ⟨h.len, h.sz, h.own, h.non, fun id hid ha => h.es id hid (apartL_mem ha), fun id j hid ha => h.get id j hid (apartL_mem ha)⟩
theorem Local.honest {f : Dir} {slot n : Nat} {m m' : Mem} {v : AV} {l : Lab} (h : Local f slot m m' v l) (hn : n ≤ m.len) (hs : n ≤ slot) : HonestN n m m' (wrs [l]) := by
  cases l with
  | p => rw [h.1]; exact .refl _ _ _
  | r _ => rw [h.1]; exact .refl _ _ _
  | w q =>
    obtain ⟨cells, hc, rfl, _, _⟩ := h
    obtain ⟨id, off, c⟩ := q
    simp only at hc; subst hc
    refine ⟨Nat.le_refl _, fun i hi => ?_, fun i hi => ?_, fun i hi => ?_, fun i hi ha => ?_, fun i j hi ha => ?_⟩
    all_goals by_cases e : i = id
    all_goals first
      | (rw [put_blk_ne e]; done)
      | (subst e; rw [put_blk_eq])
    have := ha (i, off, cells.length) (by simp [wrs])
    have := apart_ne this
    simp only [ne_eq, not_true_eq_false, false_or] at this
    have hb : (Nat.ble off j && Nat.blt j (off + cells.length)) = false := by
      rw [Bool.eq_false_iff]
      intro hh
      simp only [Bool.and_eq_true] at hh
      have := ble_iff.1 hh.1
      have := blt_iff.1 hh.2
      omega
    simp [hb]
  | a i =>
    obtain ⟨rfl, b, rfl, _⟩ := h
    refine ⟨Nat.le_refl _, fun j hj => ?_, fun j hj => ?_, fun j hj => ?_, fun j hj _ => ?_, fun j _ hj _ => ?_⟩ <;> rw [set_blk_ne (by omega)]
  | c k ws => exact (h.2.toN hn).trans (.refl _ _ []) (by simp [wrs]) (by simp)
theorem wrs_mem {b : Loc} : ∀ {l : List Lab}, b ∈ wrs l ↔ ∃ x ∈ l, b ∈ wrs [x]
  | [] => by simp [wrs]
  | x :: l => by
    have := wrs_mem (b := b) (l := l)
    cases x <;> simp [wrs, this]
theorem Runs.honest (hH : CallHonest call) {all : List Oper} {n : Nat} : ∀ {F : List St} {tm tm' : Tm} {m m' : Mem}, Runs D call all F tm m tm' m' → n ≤ m.len → (∀ x ∈ F, n ≤ x.s) → HonestN n m m' (wrs (F.map (·.l)))
  | [], _, _, _, _, h, _, _ => by cases h; exact .refl _ _ _
  | x :: F, tm, tm', m, m', h, hn, hs => by
    cases h with
    | @cons _ _ _ _ _ m1 _ v hv t =>
      have h1 := (stepV_local hH hv).honest hn (hs x (by simp))
      have h2 := Runs.honest hH t (Nat.le_trans hn h1.len) fun y hy => hs y (by simp [hy])
      refine h1.trans h2 (fun b hb => wrs_mem.2 ⟨x.l, by simp, hb⟩) fun b hb => ?_
      obtain ⟨y, hy, hb⟩ := wrs_mem.1 hb
      exact wrs_mem.2 ⟨y, by simp at hy ⊢; exact .inr hy, hb⟩
/-- A region's start: its blocks laid. -/
def Env.start (E : Env) (w' : World) (n : Nat) (blk : Nat → Blk) : Env := { E with w := w', init := fun id => if id < n then E.init id else blk id }
theorem Env.start_ext {E : Env} {w' : World} {n : Nat} {blk : Nat → Blk} (hh : w'.heap = E.w.heap) (h1 : w'.os = E.w.os) (h2 : w'.tape = E.w.tape) (h3 : w'.output = E.w.output) : Ext E (E.start w' n blk) where
  B0 := rfl
  far := rfl
  pi := fun _ _ h => h
  own := fun _ h => h
  new := fun _ h => .inl h
  os := h1
  tape := h2
  output := h3
  size := Nat.le_of_eq (by show _ = w'.heap.size; rw [hh])
  same := fun b _ _ => by show w'.heap[b]? = _; rw [hh]
  l := rfl
theorem Env.start_mem {E : Env} {w' : World} {m : Mem} {bs : List Blk} (hh : w'.heap = E.w.heap) (h1 : w'.os = E.w.os) (h2 : w'.tape = E.w.tape) (h3 : w'.output = E.w.output) (hM : MemRel E m) :
    MemRel (E.start w' m.len (m.add bs).blk) (m.add bs) := by
  have hx := Env.start_ext (E := E) (n := m.len) (blk := (m.add bs).blk) hh h1 h2 h3
  have hc : ∀ a, w'.cell? a = E.w.cell? a := fun a => by unfold World.cell?; rw [hh]
  have hf : ∀ a, w'.frozen? a = E.w.frozen? a := fun a => by unfold World.frozen?; rw [hh]
  refine ⟨fun id hid => ?_, fun id p hp => Nat.lt_of_lt_of_le (hM.low id p hp) (by simp [Mem.add]), hM.one, fun b hb => ?_, ?_⟩
  · by_cases hlt : id < m.len
    · have hb := hM.blk id hlt
      have e : (m.add bs).blk id = m.blk id := by
        have : Nat.ble m.len id = false := Bool.eq_false_iff.2 fun h => by have := ble_iff.1 h; omega
        simp [Mem.add, this]
      rw [e]
      unfold BlkRel at hb ⊢
      show match E.pi id with | none => _ | some (b, base) => _
      cases hp : E.pi id with
      | none =>
        rw [hp] at hb
        simp only at hb ⊢
        rw [hb]
        simp [Env.start, hlt]
      | some p =>
        obtain ⟨b, base⟩ := p
        rw [hp] at hb
        simp only at hb ⊢
        refine ⟨hb.1, hb.2.1, ?_⟩
        have hb := hb.2.2
        cases hes : (m.blk id).es with
        | none =>
          rw [hes] at hb
          simp only at hb ⊢
          intro j hj
          obtain ⟨v, e1, e2, e3⟩ := hb j hj
          exact ⟨v, by show w'.cell? _ = _; rw [hc]; exact e1, e2.ext hx, fun ho => by show w'.frozen? _ = _; rw [hf]; exact e3 ho⟩
        | some es =>
          rw [hes] at hb
          simp only at hb ⊢
          obtain ⟨e0, en, cl, e1, e2⟩ := hb
          exact ⟨e0, en, cl, by show w'.heap[b]? = _; rw [hh]; exact e1, e2.imp fun _ _ h => ⟨h.1.ext hx, h.2.ext hx⟩⟩
    · have hp : E.pi id = none := by
        cases hp : E.pi id with
        | none => rfl
        | some p => exact absurd (hM.low id p hp) hlt
      unfold BlkRel
      show match E.pi id with | none => _ | some (b, base) => _
      rw [hp]
      simp [Env.start, hlt]
  · have := hM.own b hb
    exact ⟨this.1, by show b < w'.heap.size; rw [hh]; exact this.2⟩
  · show E.B0 ≤ w'.heap.size
    rw [hh]; exact hM.B0
/-- A region's operations in the order of the text. -/
theorem runs_lex (hD : DataOk P D) (hC : CallOk P D call) (hN : CallNat call) {nt : Nat} {ops : Array Oper} {Q : Exit → Act → World → Prop} {ro : Option Nat} : ∀ {rest : List St} {i slot : Nat} {tm tm' : Tm} {m m' : Mem},
    (∀ j, (rest.map (·.o))[j]? = ops[i + j]?) → Runs D call ops.toList rest tm m tm' m' → (∀ x ∈ rest, dstOk nt x.o.dst = true) → SlotsAt rest slot → ∀ (E : Env) (a : Act), Good D E m → TRel D.top E tm a nt → Slots D E m (rest.map (·.o)) slot →
      (∀ E' a', Ext E E' → (∀ id, id < slot → id < m.len → E.pi id = none → E'.pi id = none) → (∀ id, id < m.len → E'.init id = E.init id) → MemRel E' m' → TRel D.top E' tm' a' nt → Q .normal a' E'.w) →
        wpOpsIn (FR ro) 0 P ops Q (List.range' i rest.length) a E.w
  | [], i, slot, tm, tm', m, m', hr, h, _, _, E, a, hG, ht, _, hQ => by
    cases h
    exact hQ E a (Ext.refl E) (fun _ _ _ h => h) (fun _ _ => rfl) hG.mem ht
  | x :: rest, i, slot, tm, tm', m, m', hr, h, hdst, hsl, E, a, hG, ht, hS, hQ => by
    cases h with
    | @cons _ _ _ _ _ m1 _ v hv h =>
      obtain ⟨hs1, hsl⟩ := hsl
      have hdx := hdst x (by simp)
      have hstep : stepC D call nt ops.toList x.o slot tm m (fun t m l => some (t, m, l)) = some (putT x.o.dst v tm, m1, x.l) := by
        rw [stepC_eq hN, ← hs1, hv]
        simp [hdx]
      obtain ⟨tm1, m1', lab, he, l1, s1⟩ := stepC_sound hD hC hstep
      simp only [Option.some.injEq, Prod.mk.injEq] at he
      obtain ⟨rfl, rfl, rfl⟩ := he
      have ho : ops[i]? = some x.o := by have := hr 0; simpa using this.symm
      rw [List.length_cons, List.range'_succ]
      simp only [wpOpsIn, ho]
      have key := s1 E a hG ht hS.1 ro (wpOpsIn (FR ro) 0 P ops Q (List.range' (i + 1) rest.length)) Q fun E1 a1 hk hM1 ht1 => by
        refine runs_lex hD hC hN (i := i + 1) (fun j => by have := hr (j + 1); simpa [Nat.add_assoc, Nat.add_comm 1 j] using this) h (fun y hy => hdst y (by simp [hy])) hsl E1 a1 (hG.ext hk.ext hM1) ht1 (Slots.keep l1 (Nat.le_refl _) hS.2 hk ?_) fun E2 a2 hx2 hn2 hi2 hM2 ht2 => ?_
        · unfold nextSlot
          cases hal : isAl x.o.op with
          | true => left; simp
          | false => right; simp
        · have hns := nextSlot_ge x.o slot
          refine hQ E2 a2 (hk.ext.trans hx2) (fun id h1 h2 he => hn2 id (by omega) (by omega) (hk.none id h2 ?_ he)) (fun id hid => (hi2 id (by omega)).trans (hk.init id hid)) hM2 ht2
          cases hal : isAl x.o.op with
          | true => simp; omega
          | false => simp; omega
      split
      · rename_i hw
        rw [if_pos hw] at key
        exact key
      · rename_i hw
        rw [if_neg hw] at key
        exact ⟨fun _ _ => trivial, key⟩
/-- What code comes to in the machine. -/
def Post (top : Bool) (E : Env) (m m' : Mem) (tm' : Tm) (nt : Nat) (e : Exit) (Q : Exit → Act → World → Prop) : Prop :=
  ∀ E' a', Ext E E' → (∀ id, id < m.len → E.pi id = none → E'.pi id = none) → (∀ id, id < m.len → E'.init id = E.init id) → MemRel E' m' → TRel top E' tm' a' nt → Q e a' E'.w
theorem regC_sound (hm : P.follows .mixedOrders = true) (hD : DataOk P D) (hC : CallOk P D call) (hN : CallNat call) (hH : CallHonest call) {nt : Nat} {ops : Array Oper} {draw : Bool} {tm : Tm} {m : Mem}
    {k : Tm → Mem → List Loc → Option R} {r : R} (h : regC D call nt ops.toList draw tm m k = some r) :
    ∃ tm' m' ws, k tm' m' ws = some r ∧ Honest m m' ws ∧ ∀ (E : Env) (a : Act), Good D E m → TRel D.top E tm a nt → ∀ (ro : Option Nat) (Q : Exit → Act → World → Prop), Post D.top E m m' tm' nt .normal Q →
      ∀ rid, (Code.region rid ops draw).wpIn (FR ro) 0 P Q a E.w := by
  unfold regC at h
  split at h
  · cases h
  · rename_i bs hbs
    have hO := h
    obtain ⟨F, tm', m', hF, hsl, hR, hdst, h⟩ := opsC_runs hN h
    simp only [List.append_nil] at h
    obtain ⟨hdr, h⟩ := bif_inv h
    have hlen : (m.add bs).len = m.len + bs.length := rfl
    have hhon : Honest m m' (wrs (F.map (·.l)).reverse) := by
      have h1 : HonestN m.len (m.add bs) m' (wrs (F.map (·.l))) := hR.honest hH (by simp [hlen]) (hsl.ge)
      have h2 : HonestN m.len m (m.add bs) [] := by
        have e : ∀ id, id < m.len → (m.add bs).blk id = m.blk id := fun id hid => by
          have : Nat.ble m.len id = false := Bool.eq_false_iff.2 fun h => by have := ble_iff.1 h; omega
          simp [Mem.add, this]
        exact ⟨by simp [hlen], fun id hid => by rw [e id hid], fun id hid => by rw [e id hid], fun id hid => by rw [e id hid], fun id hid _ => by rw [e id hid], fun id j hid _ => by rw [e id hid]⟩
      refine (h2.trans h1 (by simp) fun b hb => ?_).toH
      obtain ⟨x, hx, hb⟩ := wrs_mem.1 hb
      exact wrs_mem.2 ⟨x, by simpa using hx, hb⟩
    refine ⟨tm', m', _, h, hhon, fun E a hG ht ro Q hQ rid => ?_⟩
    have start : ∀ w', w'.heap = E.w.heap → w'.os = E.w.os → w'.tape = E.w.tape → w'.output = E.w.output →
        ∃ E1, E1.w = w' ∧ Good D E1 (m.add bs) ∧ TRel D.top E1 tm a nt ∧ Slots D E1 (m.add bs) ops.toList m.len ∧
          ∀ E' a', Ext E1 E' → (∀ id, id < m.len → E1.pi id = none → E'.pi id = none) → (∀ id, id < m.len → E'.init id = E1.init id) → MemRel E' m' → TRel D.top E' tm' a' nt → Q .normal a' E'.w := by
      intro w' hh h1 h2 h3
      have hx := Env.start_ext (E := E) (n := m.len) (blk := (m.add bs).blk) hh h1 h2 h3
      have hM := Env.start_mem (bs := bs) hh h1 h2 h3 hG.mem
      refine ⟨E.start w' m.len (m.add bs).blk, rfl, hG.ext hx hM, ht.ext hx, slots_of hbs (by simp [hlen]) (fun d _ => ?_) fun d b hb => ?_, fun E' a' hx' hn hi hM' ht' => ?_⟩
      · show E.pi (m.len + d) = none
        cases hp : E.pi (m.len + d) with
        | none => rfl
        | some p => have := hG.mem.low _ p hp; omega
      · have hbl : Nat.ble m.len (m.len + d) = true := ble_iff.2 (by omega)
        simp [Env.start, Mem.add, hbl, nthD_eq, hb]
        intro hlt
        omega
      · refine hQ E' a' (hx.trans hx') (fun id hid he => hn id hid he) (fun id hid => ?_) hM' ht'
        rw [hi id hid]
        simp [Env.start, hid]
    cases draw with
    | false =>
      refine wpIn_region ?_
      obtain ⟨E1, hw, hG1, ht1, hS1, hQ1⟩ := start E.w rfl rfl rfl rfl
      rw [← hw]
      have e : List.range ops.size = List.range' 0 F.length := by
        rw [List.range_eq_range', ← Array.length_toList, ← hF]
        simp
      rw [e]
      refine runs_lex hD hC hN (Q := Q) (i := 0) (fun j => by rw [hF]; simp) hR hdst hsl E1 a hG1 ht1 (by rw [hF]; exact hS1) ?_
      intro E' a' hx hn hi hM' ht'
      exact hQ1 E' a' hx (fun id hid he => hn id hid (by simp [hlen]; omega) he) (fun id hid => hi id (by simp [hlen]; omega)) hM' ht'
    | true =>
      refine wpIn_region_any hm ?_
      obtain ⟨E1, hw, hG1, ht1, hS1, hQ1⟩ := start { E.w with drawn := E.w.drawn + 1 } rfl rfl rfl rfl
      have hd : DrawOk ops F := okDraw_spec hF (by simpa using hdr)
      have hFl : F.length = ops.size := by simpa using congrArg List.length hF
      have hrange : (List.range ops.size).map (fun i => F.getD i ⟨default, 0, .p⟩) = F := by
        refine List.ext_getElem (by simp [hFl]) fun i h1 h2 => ?_
        simp [h2]
      rw [← hw]
      refine any_sound hD hC hN hH (nt := nt) (s0 := m.len) (tmF := tm') (mF := m') hF hd hdst ?_ (fun x hx _ => hsl.ge x hx) (f := fun i => F.getD i ⟨default, 0, .p⟩) (fun i x hx => by simp [hx]) ops.size (List.range ops.size) _ tm (m.add bs)
        (by simp) List.pairwise_lt_range ?_ (by simp) ?_ (by rw [hrange]; exact hR) (by simp [hlen]) E1 a hG1 ht1 ?_ ?_
      · intro i j x y hx hy hij ax ay
        rcases Nat.lt_or_gt_of_ne hij with h | h
        · exact Nat.ne_of_lt (hsl.dis i j x y hx hy h ax)
        · exact Ne.symm (Nat.ne_of_lt (hsl.dis j i y x hy hx h ay))
      · intro i
        rw [List.mem_range]
        constructor
        · intro h; exact ⟨h, by simp [h]⟩
        · exact fun h => h.1
      · intro i o ho hl
        exfalso
        have : i < ops.size := by
          rcases Nat.lt_or_ge i ops.size with h | h
          · exact h
          · rw [Array.getElem?_eq_none h] at ho; cases ho
        simp [this] at hl
      · intro i hi
        rw [List.mem_range] at hi
        have : F[i]? = some F[i] := List.getElem?_eq_getElem (by omega)
        rw [List.getD_eq_getElem?_getD, this]
        exact slot_of_slots (by rw [hF]; exact hS1) hsl _ (List.getElem_mem _)
      · intro E' a' hx hn hi hM' ht'
        exact hQ1 E' a' hx (fun id hid he => hn id hid he) (fun id hid => hi id (by simp [hlen]; omega)) hM' ht'
end
end Go.Ev
end
