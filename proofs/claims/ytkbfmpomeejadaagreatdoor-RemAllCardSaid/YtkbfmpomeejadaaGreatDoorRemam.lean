/- Part 13 of 46 of what the theorem stands on. -/
import Derived.Test.YtkbfmpomeejadaaGreatDoorRemal
import Derived.Orders

section
namespace Go.Ev
open Go.RowKit
section
variable {P : Program} {D : Data} {call : CallK} {R : Type}
structure St where
  o : Oper
  s : Nat
  l : Lab
inductive Runs (D : Data) (call : CallK) (all : List Oper) : List St → Tm → Mem → Tm → Mem → Prop where
  | nil {tm : Tm} {m : Mem} : Runs D call all [] tm m tm m
  | cons {x : St} {l : List St} {tm tm2 : Tm} {m m1 m2 : Mem} {v : AV} (h : stepV D call all x.o x.s tm m = some (v, m1, x.l)) (t : Runs D call all l (putT x.o.dst v tm) m1 tm2 m2) :
      Runs D call all (x :: l) tm m tm2 m2
def St.foot (all : List Oper) (x : St) : Foot := ⟨x.o.dst, readsOf all x.o, x.l⟩
theorem notIn_spec {d : Option Nat} {l : List Nat} (h : notIn d l = true) {v : AV} {tm : Tm} : ∀ t ∈ l, putT d v tm t = tm t := by
  intro t ht
  cases d with
  | none => rfl
  | some d =>
    have : Nat.beq t d = false := Bool.eq_false_iff.2 fun e => by
      have e := Nat.eq_of_beq_eq_true e
      subst e
      simp only [notIn, Bool.not_eq_true'] at h
      rw [(memN_iff t l).2 ht] at h
      cases h
    simp [putT, this]
theorem putT_comm {d e : Option Nat} (h : notEq d e = true) {u v : AV} {tm : Tm} : putT d u (putT e v tm) = putT e v (putT d u tm) := by
  cases d with
  | none => rfl
  | some d =>
    cases e with
    | none => rfl
    | some e =>
      simp only [notEq, Bool.not_eq_true'] at h
      funext t
      simp only [putT]
      cases h1 : Nat.beq t d <;> cases h2 : Nat.beq t e <;> try rfl
      rw [← Nat.eq_of_beq_eq_true h1, ← Nat.eq_of_beq_eq_true h2] at h
      simp at h
/-- A step that is apart from all ahead of it, done first. -/
theorem bubble (hH : CallHonest call) {all : List Oper} {x : St} {post : List St} : ∀ {pre : List St} {tm tm2 : Tm} {m m2 : Mem}, Runs D call all (pre ++ x :: post) tm m tm2 m2 →
    (∀ y ∈ pre, Foot.indep (y.foot all) (x.foot all) = true) → Runs D call all (x :: (pre ++ post)) tm m tm2 m2
  | [], _, _, _, _, h, _ => h
  | y :: pre, tm, tm2, m, m2, h, hi => by
    cases h with
    | @cons _ _ _ _ _ m1 _ vy h1 t =>
      have t := bubble hH t fun z hz => hi z (by simp [hz])
      cases t with
      | @cons _ _ _ _ _ m3 _ vx h2 t =>
        have hyx := hi y (by simp)
        simp only [Foot.indep, St.foot, Bool.and_eq_true] at hyx
        obtain ⟨⟨⟨e1, e2⟩, e3⟩, e4⟩ := hyx
        have h2' : stepV D call all x.o x.s tm m1 = some (vx, m3, x.l) := by
          rw [← h2]
          exact (stepV_tm (notIn_spec e1)).symm
        obtain ⟨m4, g1, g2⟩ := swap_mem (f := fun m => stepV D call all y.o y.s tm m) (g := fun m => stepV D call all x.o x.s tm m) h1 h2' (stepV_local hH h1) (stepV_local hH h2') e4
        refine .cons g1 (.cons (m1 := m3) (v := vy) ?_ ?_)
        · rw [← g2]
          exact stepV_tm (notIn_spec e2)
        · rw [putT_comm e3]
          exact t
theorem edges_ready {ops : Array Oper} {listed : Array Bool} {i : Nat} (h : i ∈ Region.ready .any ops listed) :
    i < ops.size ∧ listed.getD i true = false ∧ ∃ o, ops[i]? = some o ∧ ∀ e ∈ edges o, listed.getD e false = true := by
  unfold Region.ready at h
  rw [List.mem_filter, List.mem_range] at h
  obtain ⟨h1, h2⟩ := h
  simp only [Bool.and_eq_true, Bool.not_eq_true'] at h2
  obtain ⟨h2, h3⟩ := h2
  refine ⟨h1, h2, ops[i], by simp [h1], fun e he => ?_⟩
  simp only [Array.getElem?_eq_getElem h1, Option.map_some, Option.getD_some] at h3
  simp only [edges, List.mem_map, List.mem_filter] at he
  obtain ⟨g, ⟨hg, hb⟩, rfl⟩ := he
  rw [Array.all_eq_true_iff_forall_mem] at h3
  have := h3 g (by simpa using hg)
  simpa [hb] using this
theorem ready_of {ops : Array Oper} {listed : Array Bool} {i : Nat} {o : Oper} (h1 : i < ops.size) (h2 : listed.getD i true = false) (ho : ops[i]? = some o) (h3 : ∀ e ∈ edges o, listed.getD e false = true) :
    i ∈ Region.ready .any ops listed := by
  unfold Region.ready
  rw [List.mem_filter, List.mem_range]
  refine ⟨h1, ?_⟩
  simp only [h2, ho, Option.map_some, Option.getD_some, Bool.not_false, Bool.true_and]
  rw [Array.all_eq_true_iff_forall_mem]
  intro g hg
  cases hb : Region.binds .any g with
  | false => rfl
  | true =>
    have := h3 g.on (by simp only [edges, List.mem_map, List.mem_filter]; exact ⟨g, ⟨by simpa using hg, hb⟩, rfl⟩)
    simp [this]
theorem maskOf_bit {acc : List Nat} {j : Nat} : ∀ {l : List Nat}, Nat.testBit (maskOf acc l) j = true → ∃ e ∈ l, e = j ∨ Nat.testBit (nthD 0 acc e) j = true
  | [], h => by simp [maskOf] at h
  | e :: l, h => by
    simp only [maskOf] at h
    have h' : ((1 <<< e ||| nthD 0 acc e) ||| maskOf acc l).testBit j = true := h
    rw [Nat.testBit_or, Nat.testBit_or, Bool.or_eq_true, Bool.or_eq_true] at h'
    rcases h' with (h' | h') | h'
    · refine ⟨e, by simp, .inl ?_⟩
      rw [Nat.testBit_shiftLeft] at h'
      simp only [Bool.and_eq_true, decide_eq_true_eq] at h'
      have h2 := h'.2
      rw [Nat.testBit_one_eq_true_iff_self_eq_zero] at h2
      omega
    · exact ⟨e, by simp, .inr h'⟩
    · obtain ⟨f, hf, h⟩ := maskOf_bit h'
      exact ⟨f, by simp [hf], h⟩
theorem masks_spec : ∀ {l : List Oper} {acc : List Nat}, ∃ r : List Nat, masks l acc = acc ++ r ∧ r.length = l.length ∧
    ∀ i o, l[i]? = some o → ∀ j, Nat.testBit (nthD 0 (masks l acc) (acc.length + i)) j = true → ∃ e ∈ edges o, e = j ∨ (e < acc.length + i ∧ Nat.testBit (nthD 0 (masks l acc) e) j = true)
  | [], acc => ⟨[], by simp [masks], rfl, by simp⟩
  | o :: l, acc => by
    obtain ⟨r, h1, h2, h3⟩ := masks_spec (l := l) (acc := acc ++ [maskOf acc (edges o)])
    refine ⟨maskOf acc (edges o) :: r, by simp [masks, h1], by simp [h2], fun i q hq j hj => ?_⟩
    cases i with
    | zero =>
      simp at hq; subst hq
      simp only [masks, h1, nthD_eq] at hj ⊢
      rw [Nat.add_zero, List.append_assoc, List.getD_eq_getElem?_getD, List.getElem?_append_right (Nat.le_refl _)] at hj
      simp at hj
      obtain ⟨e, he, hj⟩ := maskOf_bit hj
      refine ⟨e, he, ?_⟩
      rcases hj with hj | hj
      · exact .inl hj
      · right
        rw [nthD_eq] at hj
        have hlt : e < acc.length := by
          rcases Nat.lt_or_ge e acc.length with h | h
          · exact h
          · rw [List.getD_eq_getElem?_getD, List.getElem?_eq_none h] at hj; simp at hj
        refine ⟨by omega, ?_⟩
        rw [List.append_assoc, List.getD_eq_getElem?_getD, List.getElem?_append_left hlt, ← List.getD_eq_getElem?_getD]
        exact hj
    | succ i =>
      simp at hq
      have := h3 i q hq j (by simpa [masks, Nat.add_assoc, Nat.add_comm 1 i] using hj)
      simpa [masks, Nat.add_assoc, Nat.add_comm 1 i] using this
theorem okOne_spec {b : Foot} {mask : Nat} : ∀ {l : List Foot} {k : Nat}, okOne b mask k l = true → ∀ j a, l[j]? = some a → Nat.testBit mask (k + j) = true ∨ Foot.indep a b = true
  | [], _, _, j, a, h => by simp at h
  | c :: l, k, h, j, a, ha => by
    simp only [okOne, Bool.and_eq_true, Bool.or_eq_true] at h
    cases j with
    | zero => simp at ha; subst ha; simpa using h.1
    | succ j =>
      have := okOne_spec h.2 j a (by simpa using ha)
      rwa [show k + 1 + j = k + (j + 1) by omega] at this
theorem okAll_spec : ∀ {l : List Foot} {ms : List Nat} {done : List Foot}, okAll done l ms = true → ms.length = l.length → ∀ i j a b, (done ++ l)[j]? = some a → l[i]? = some b → j < done.length + i →
    Nat.testBit (nthD 0 ms i) j = true ∨ Foot.indep a b = true
  | [], _, _, _, _, i, j, a, b, _, hb, _ => by simp at hb
  | c :: l, [], _, _, hl, _, _, _, _, _, _, _ => by simp at hl
  | c :: l, m :: ms, done, h, hl, i, j, a, b, ha, hb, hij => by
    simp only [okAll, Bool.and_eq_true] at h
    cases i with
    | zero =>
      simp at hb; subst hb
      rw [List.getElem?_append_left (by omega)] at ha
      simpa [nthD] using okOne_spec h.1 j a ha
    | succ i =>
      have := okAll_spec h.2 (by simpa using hl) i j a b (by simpa using ha) (by simpa using hb) (by simp; omega)
      simpa [nthD] using this
theorem oldEdges_spec : ∀ {l : List Oper} {k : Nat}, oldEdges k l = true → ∀ i o, l[i]? = some o → ∀ e ∈ edges o, e < k + i
  | [], _, _, i, o, h => by simp at h
  | q :: l, k, h, i, o, ho => by
    simp only [oldEdges, Bool.and_eq_true] at h
    cases i with
    | zero =>
      simp at ho; subst ho
      intro e he
      have := List.all_eq_true.1 h.1 e he
      simpa using blt_iff.1 this
    | succ i =>
      intro e he
      have := oldEdges_spec h.2 i o (by simpa using ho) e he
      omega
/-- What is needed of the order of a region's operations. -/
structure DrawOk (ops : Array Oper) (F : List St) : Prop where
  old : ∀ i o, ops[i]? = some o → ∀ e ∈ edges o, e < i
  mask : ∃ ms : Nat → Nat → Prop, (∀ i o, ops[i]? = some o → ∀ j, ms i j → ∃ e ∈ edges o, e = j ∨ ms e j) ∧
    ∀ i j a b, F[j]? = some a → F[i]? = some b → j < i → ms i j ∨ Foot.indep (a.foot ops.toList) (b.foot ops.toList) = true
theorem foots_get {all : List Oper} : ∀ {F : List St} {i : Nat} {a : St}, F[i]? = some a → (foots all (F.map (·.o)) (F.map (·.l)))[i]? = some (a.foot all)
  | [], i, a, h => by simp at h
  | x :: F, 0, a, h => by simp at h; subst h; rfl
  | x :: F, i + 1, a, h => by simpa [foots] using foots_get (F := F) (by simpa using h)
theorem foots_length {all : List Oper} : ∀ {F : List St}, (foots all (F.map (·.o)) (F.map (·.l))).length = F.length
  | [] => rfl
  | x :: F => by simp [foots, foots_length (F := F)]
theorem okDraw_spec {ops : Array Oper} {F : List St} (hF : F.map (·.o) = ops.toList) (h : okDraw ops.toList (F.map (·.l)) = true) : DrawOk ops F := by
  unfold okDraw at h
  rw [Bool.and_eq_true] at h
  obtain ⟨r, m1, m2, m3⟩ := masks_spec (l := ops.toList) (acc := [])
  refine ⟨fun i o ho e he => ?_, fun i j => Nat.testBit (nthD 0 (masks ops.toList []) i) j = true, fun i o ho j hj => ?_, fun i j a b ha hb hij => ?_⟩
  · have := oldEdges_spec h.1 i o (by simpa using ho) e he
    omega
  · obtain ⟨e, he, hj⟩ := m3 i o (by simpa using ho) j (by simpa using hj)
    exact ⟨e, he, hj.imp id (·.2)⟩
  · have h2 := h.2
    have e : foots ops.toList ops.toList (F.map (·.l)) = foots ops.toList (F.map (·.o)) (F.map (·.l)) := by rw [hF]
    rw [e] at h2
    refine okAll_spec h2 ?_ i j _ _ (by simpa using foots_get ha) (foots_get hb) (by simpa using hij)
    rw [foots_length, m1]
    have : F.length = ops.toList.length := by rw [← hF]; simp
    simp at this
    simp [m2, this]
/-- What is waited for is listed, where lists are closed. -/
theorem anc_listed {ops : Array Oper} {ms : Nat → Nat → Prop} {listed : Array Bool} (old : ∀ i o, ops[i]? = some o → ∀ e ∈ edges o, e < i)
    (hm : ∀ i o, ops[i]? = some o → ∀ j, ms i j → ∃ e ∈ edges o, e = j ∨ ms e j) (hcl : ∀ i o, ops[i]? = some o → listed.getD i false = true → ∀ e ∈ edges o, listed.getD e false = true) :
    ∀ (n i : Nat) (o : Oper), i < n → ops[i]? = some o → (∀ e ∈ edges o, listed.getD e false = true) → ∀ j, ms i j → listed.getD j false = true
  | 0, _, _, h, _, _, _, _ => by omega
  | n + 1, i, o, hi, ho, he, j, hj => by
    obtain ⟨e, h1, h2⟩ := hm i o ho j hj
    rcases h2 with rfl | h2
    · exact he _ h1
    · have hlt := old i o ho e h1
      have hes : e < ops.size := by
        have : i < ops.size := by
          rcases Nat.lt_or_ge i ops.size with h | h
          · exact h
          · rw [Array.getElem?_eq_none h] at ho; cases ho
        omega
      exact anc_listed old hm hcl n e ops[e] (by omega) (by simp [hes]) (hcl e _ (by simp [hes]) (he e h1)) j h2
theorem Keep.slot {E E' : Env} {m m' : Mem} {s : Nat} (hlen : m.len ≤ m'.len) {o : Op} {t : Nat} (h : SlotOk D E m o t) (k : Keep m.len s E E') (hs : isAl o = true → t ≠ s) : SlotOk D E' m' o t where
  low := fun al => Nat.lt_of_lt_of_le (h.low al) hlen
  pi := fun al => k.none t (h.low al) (hs al) (h.pi al)
  zero := fun u hu => by
    obtain ⟨ty, e1, e2⟩ := h.zero u hu
    exact ⟨ty, e1, by rw [k.init t (h.low (by rw [hu]; rfl))]; exact e2⟩
/-- In any order. -/
theorem any_sound (hD : DataOk P D) (hC : CallOk P D call) (hN : CallNat call) (hH : CallHonest call) {ops : Array Oper} {F : List St} (hF : F.map (·.o) = ops.toList) (hd : DrawOk ops F)
    {nt s0 : Nat} (hdst : ∀ x ∈ F, dstOk nt x.o.dst = true) (hdis : ∀ (i j : Nat) (x y : St), F[i]? = some x → F[j]? = some y → i ≠ j → isAl x.o.op = true → isAl y.o.op = true → x.s ≠ y.s)
    (hs0 : ∀ x ∈ F, isAl x.o.op = true → s0 ≤ x.s) {f : Nat → St} (hf : ∀ i x, F[i]? = some x → f i = x) {tmF : Tm} {mF : Mem} {Q : Exit → Act → World → Prop} {ro : Option Nat} :
    ∀ (fuel : Nat) (I : List Nat) (listed : Array Bool) (tm : Tm) (m : Mem), I.length = fuel → I.Pairwise (· < ·) → (∀ i, i ∈ I ↔ i < ops.size ∧ listed.getD i true = false) → listed.size = ops.size →
      (∀ i o, ops[i]? = some o → listed.getD i false = true → ∀ e ∈ edges o, listed.getD e false = true) → Runs D call ops.toList (I.map f) tm m tmF mF → s0 ≤ m.len →
      ∀ (E : Env) (a : Act), Good D E m → TRel D.top E tm a nt → (∀ i ∈ I, SlotOk D E m (f i).o.op (f i).s) →
        (∀ E' a', Ext E E' → (∀ id, id < s0 → E.pi id = none → E'.pi id = none) → (∀ id, id < m.len → E'.init id = E.init id) → MemRel E' mF → TRel D.top E' tmF a' nt → Q .normal a' E'.w) →
          wpAnyIn (FR ro) 0 P .any ops Q fuel listed a E.w
  | 0, I, listed, tm, m, hl, _, hI, _, _, hr, _, E, a, hG, ht, _, hQ => by
    have : I = [] := List.eq_nil_of_length_eq_zero hl
    subst this
    cases hr
    refine ⟨?_, hQ E a (Ext.refl E) (fun _ _ h => h) (fun _ _ => rfl) hG.mem ht⟩
    cases hrd : Region.ready .any ops listed with
    | nil => rfl
    | cons i l =>
      obtain ⟨h1, h2, _⟩ := edges_ready (ops := ops) (listed := listed) (i := i) (by rw [hrd]; simp)
      exact absurd ((hI i).2 ⟨h1, h2⟩) (by simp)
  | fuel + 1, I, listed, tm, m, hl, hp, hI, hsz, hcl, hr, hm0, E, a, hG, ht, hS, hQ => by
    have hlen : F.length = ops.size := by
      have := congrArg List.length hF
      simpa using this
    have hgetF : ∀ i, i < ops.size → ∃ x, F[i]? = some x ∧ f i = x ∧ ops[i]? = some x.o ∧ x ∈ F := by
      intro i hi
      refine ⟨F[i]'(by omega), by simp [hlen, hi], hf i _ (by simp [hlen, hi]), ?_, List.getElem_mem _⟩
      have h1 : (F.map (·.o))[i]? = ops.toList[i]? := by rw [hF]
      rw [List.getElem?_map, List.getElem?_eq_getElem (by omega)] at h1
      simpa using h1.symm
    have hlst : ∀ e, e < ops.size → listed.getD e false = true ∨ e ∈ I := by
      intro e he
      cases hb : listed.getD e true with
      | false => exact .inr ((hI e).2 ⟨he, hb⟩)
      | true =>
        left
        simpa [Array.getD, show e < listed.size by omega] using hb
    constructor
    · intro hrd
      match I, hl with
      | i0 :: I', _ =>
        obtain ⟨h1, h2⟩ := (hI i0).1 (by simp)
        obtain ⟨x, hx1, hx2, hx3, _⟩ := hgetF i0 h1
        have : i0 ∈ Region.ready .any ops listed := ready_of h1 h2 hx3 fun e he => by
          have hlt := hd.old i0 _ hx3 e he
          rcases hlst e (by omega) with h | h
          · exact h
          · rcases List.mem_cons.1 h with h | h
            · omega
            · have := (List.pairwise_cons.1 hp).1 e h
              omega
        rw [hrd] at this
        simp at this
    · intro i hi
      obtain ⟨h1, h2, _, ho', hed⟩ := edges_ready hi
      obtain ⟨x, hx1, hx2, hx3, hxF⟩ := hgetF i h1
      rw [hx3] at ho'
      cases ho'
      obtain ⟨pre, post, rfl⟩ := List.append_of_mem ((hI i).2 ⟨h1, h2⟩)
      have hpw := List.pairwise_append.1 hp
      have hpost := List.pairwise_cons.1 hpw.2.1
      rw [List.map_append, List.map_cons, hx2] at hr
      have hr := bubble hH hr fun y hy => by
        obtain ⟨j, hj, rfl⟩ := List.mem_map.1 hy
        have hji : j < i := hpw.2.2 j hj i (by simp)
        obtain ⟨y, hy1, hy2, hy3, _⟩ := hgetF j (by omega)
        obtain ⟨ms, hm1, hm2⟩ := hd.mask
        rw [hy2]
        rcases hm2 i j y x hy1 hx1 hji with h | h
        · have h3 := anc_listed hd.old hm1 hcl (i + 1) i _ (by omega) hx3 hed j h
          have h4 := ((hI j).1 (by simp [hj])).2
          simp only [Array.getD_eq_getD_getElem?] at h3 h4
          cases hh : listed[j]? with
          | none => rw [hh] at h3; simp at h3
          | some b => rw [hh] at h3 h4; simp at h3 h4; rw [h3] at h4; cases h4
        · exact h
      rw [← List.map_append] at hr
      cases hr with
      | @cons _ _ _ _ _ m1 _ v hv hr =>
        have hdx := hdst x hxF
        have hstep : stepC D call nt ops.toList x.o x.s tm m (fun t m l => some (t, m, l)) = some (putT x.o.dst v tm, m1, x.l) := by
          rw [stepC_eq hN, hv]
          simp [hdx]
        obtain ⟨tm', m', lab, he, hle, hs⟩ := stepC_sound hD hC hstep
        simp only [Option.some.injEq, Prod.mk.injEq] at he
        obtain ⟨rfl, rfl, rfl⟩ := he
        have hSx : SlotOk D E m x.o.op x.s := by
          have := hS i (by simp)
          rwa [hx2] at this
        have hmem : ∀ j, j ∈ pre ++ post → j ≠ i ∧ j ∈ pre ++ i :: post := by
          intro j hj
          refine ⟨?_, by simp at hj ⊢; rcases hj with h | h <;> simp [h]⟩
          rcases List.mem_append.1 hj with h | h
          · have := hpw.2.2 j h i (by simp); omega
          · have := hpost.1 j h; omega
        have key := hs E a hG ht hSx ro (wpAnyIn (FR ro) 0 P .any ops Q fuel (listed.setIfInBounds i true)) Q fun E1 a1 hk hM1 ht1 => by
          refine any_sound hD hC hN hH hF hd hdst hdis hs0 hf fuel (pre ++ post) _ _ _ (by simp at hl ⊢; omega) ?_ ?_ (by simp [hsz]) ?_ hr (Nat.le_trans hm0 hle) E1 a1 (hG.ext hk.ext hM1) ht1 ?_ ?_
          · exact List.pairwise_append.2 ⟨hpw.1, hpost.2, fun b hb c hc => hpw.2.2 b hb c (by simp [hc])⟩
          · intro j
            by_cases hji : j = i
            · subst hji
              constructor
              · intro h; exact absurd rfl (hmem j h).1
              · intro h
                have := h.2
                simp only [Array.getD_eq_getD_getElem?, Array.getElem?_setIfInBounds_self_of_lt (show j < listed.size by omega)] at this
                simp at this
            · have e : (listed.setIfInBounds i true).getD j true = listed.getD j true := by
                simp only [Array.getD_eq_getD_getElem?, Array.getElem?_setIfInBounds_ne (Ne.symm hji)]
              rw [e, ← hI j]
              simp [hji]
          · intro j o hj hlj e he
            have hup : ∀ e, listed.getD e false = true → (listed.setIfInBounds i true).getD e false = true := by
              intro e he
              by_cases hei : e = i
              · subst hei
                simp only [Array.getD_eq_getD_getElem?, Array.getElem?_setIfInBounds_self_of_lt (show e < listed.size by omega)]
                simp
              · simpa only [Array.getD_eq_getD_getElem?, Array.getElem?_setIfInBounds_ne (Ne.symm hei)] using he
            by_cases hji : j = i
            · subst hji
              rw [hx3] at hj
              cases hj
              exact hup e (hed e he)
            · refine hup e (hcl j o hj ?_ e he)
              simpa only [Array.getD_eq_getD_getElem?, Array.getElem?_setIfInBounds_ne (Ne.symm hji)] using hlj
          · intro j hj
            obtain ⟨hji, hj⟩ := hmem j hj
            obtain ⟨y, hy1, hy2, hy3, _⟩ := hgetF j ((hI j).1 hj).1
            refine Keep.slot hle (hS j hj) hk fun al => ?_
            rw [hy2] at al ⊢
            have hlow : y.s < m.len := by
              have := (hS j hj).low
              rw [hy2] at this
              exact this al
            cases hax : isAl x.o.op with
            | true => simpa using hdis j i y x hy1 hx1 hji al hax
            | false => simp; omega
          · intro E2 a2 hx2 hn2 hi2 hM2 ht2
            refine hQ E2 a2 (hk.ext.trans hx2) (fun id h0 he => hn2 id h0 (hk.none id (by omega) ?_ he)) (fun id hid => (hi2 id (by omega)).trans (hk.init id hid)) hM2 ht2
            cases hax : isAl x.o.op with
            | true => have := hs0 x hxF hax; simp; omega
            | false => simp; omega
        unfold wpOpIn
        rw [hx3]
        dsimp only
        split
        · rename_i hw
          rw [if_pos hw] at key
          exact key
        · rename_i hw
          rw [if_neg hw] at key
          exact ⟨fun _ _ => trivial, key⟩
end
end Go.Ev
end
